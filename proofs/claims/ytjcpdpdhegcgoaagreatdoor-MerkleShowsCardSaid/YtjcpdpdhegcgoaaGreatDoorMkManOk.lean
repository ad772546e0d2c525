/- Manifests that may be: Check; the same texts. -/
import Derived.Test.YtjcpdpdhegcgoaaGreatDoorMkVerify
namespace Go.Proofs.YtjcpdpdhegcgoaaGreatDoor
open Go.RowKit
set_option linter.unusedVariables false
set_option linter.unusedSimpArgs false

/-- A manifest that may be. -/
structure ManOk (z : Int) (l : List ByteArray) : Prop where
  z0 : 0 ≤ z
  z1 : z ≤ 8192
  n1 : l.length ≤ 256
  zn : z = 0 ↔ l.length = 0
  nz : (l.length : Int) ≤ z
  zm : z ≤ (l.length : Int) * 512
  each : ∀ x ∈ l, x.size = 32
theorem check1_any {x : ByteArray} {b : Bool} (hb : b = !decide (x.size = 32)) {w : World} : Calls Tryz.prog 54 #[.string x] w fun e W => e = .returned (.bool b) ∧ W = w := by
  cases b
  · have h1 : x.size = 32 := by simpa using hb
    have h2 : (x.size : Int) = 32 := by omega
    clear hb
    go_enter Tryz.func54, Tryz.ntmps54
    go_wp2
    go_ret
    exact ⟨rfl, rfl⟩
  · have h1 : ¬ x.size = 32 := by simpa using hb
    have h2 : ¬ (x.size : Int) = 32 := by omega
    have h3 : ((x.size : Int) != 32) = true := by rw [bne_iff_ne]; exact h2
    clear hb
    go_enter Tryz.func54, Tryz.ntmps54
    go_wp2
    go_ret
    exact ⟨rfl, rfl⟩
/-- IndexFunc at 'is no digest's size': the first place, or -1. -/
theorem idx_any {A : Option Addr} {n cap : Nat} {l : List ByteArray} {w : World} (hl : SlT w A n l) (hc : n ≤ cap) (hc2 : cap ≤ maxLen) (hn : n ≤ 1000) :
    Calls Tryz.prog 80 #[.slice A n cap, .func (.func 54) #[] #[]] w fun e W => W = w ∧ ((e = .returned (.int .i64 (-1)) ∧ ∀ x ∈ l, x.size = 32) ∨ (∃ i : Nat, e = .returned (.int .i64 i) ∧ ¬ ∀ x ∈ l, x.size = 32)) := by
  have hmx : (n : Int) ≤ 1000 := by omega
  have HL := Lib.hid hl
  go_enter Tryz.func80, Tryz.ntmps80
  go_wp2_with fail
  go_loopw [8, 5] (fun iv _ wr => ∃ k : Nat, iv = .int .i64 k ∧ k ≤ n ∧ wr = w ∧ Hid (∀ j, j < k → (l.getD j .empty).size = 32)) (fun iv _ _ => n - (intOf iv).toNat)
  case atStart => exact ⟨0, rfl, Nat.zero_le _, rfl, Lib.hid fun j hj => absurd hj (Nat.not_lt_zero j)⟩
  case round =>
    obtain ⟨k, rfl, hkn, rfl, HK⟩ := hrel
    clear hl
    by_cases hlt : k < n
    · have hlt2 : (k : Int) < (n : Int) := by omega
      obtain ⟨sb, so, hA, hcc⟩ := HL.out.2.2 k hlt
      have c0 := hcc 0 _ rfl
      simp only [Nat.mul_one, Nat.add_zero] at c0
      obtain ⟨y, hy⟩ : ∃ y, l.getD k .empty = y := ⟨_, rfl⟩
      rw [hy] at c0
      have HY := Lib.hid hy
      have HA := Lib.hid hA
      clear hcc hy
      subst hA
      obtain ⟨b, hb⟩ : ∃ b, b = !decide (y.size = 32) := ⟨_, rfl⟩
      go_wp2_with fail
      refine (check1_any hb).mono ?_
      rintro e w' ⟨rfl, rfl⟩
      cases b
      · have h1 : y.size = 32 := by simpa using hb
        clear hb c0
        go_wp2_with fail
        refine ⟨⟨k + 1, by go_num, by omega, by trivial, Lib.hid fun j hj => ?_⟩, by simp [intOf]; omega⟩
        by_cases e : j < k
        · exact HK.out j e
        · have : j = k := by omega
          subst this
          rw [HY.out]
          exact h1
      · have h1 : ¬ y.size = 32 := by simpa using hb
        clear hb c0
        go_wp2_with fail
        go_ret
        refine ⟨rfl, .inr ⟨k, rfl, fun h => h1 ?_⟩⟩
        rw [← HY.out]
        have hkl : k < l.length := by rw [← HL.out.1]; exact hlt
        have : l.getD k .empty = l[k] := by simp [List.getD, hkl]
        rw [this]
        exact h _ (List.getElem_mem hkl)
    · obtain rfl : k = n := by omega
      have hlt2 : ¬ (k : Int) < (k : Int) := by omega
      go_wp2_with fail
      go_ret
      refine ⟨rfl, .inl ⟨rfl, fun x hx => ?_⟩⟩
      obtain ⟨j, hj, rfl⟩ := List.mem_iff_getElem.1 hx
      have := HK.out j (by rw [HL.out.1]; exact hj)
      simpa [List.getD, hj] using this
theorem contains_any {A : Option Addr} {n cap : Nat} {l : List ByteArray} {w : World} (hl : SlT w A n l) (hc : n ≤ cap) (hc2 : cap ≤ maxLen) (hn : n ≤ 1000) :
    Calls Tryz.prog 53 #[.slice A n cap, .func (.func 54) #[] #[]] w fun e W => W = w ∧ ∃ b, e = .returned (.bool b) ∧ (b = false ↔ ∀ x ∈ l, x.size = 32) := by
  go_enter Tryz.func53, Tryz.ntmps53
  go_wp2_with fail
  refine (idx_any hl hc hc2 hn).mono ?_
  rintro e w' ⟨rfl, (⟨rfl, h⟩ | ⟨i, rfl, h⟩)⟩
  · go_wp2_with fail
    go_ret
    exact ⟨rfl, false, rfl, fun _ => h, fun _ => rfl⟩
  · have hi : (0 : Int) ≤ (i : Int) := by omega
    go_wp2_with fail
    go_ret
    exact ⟨rfl, true, rfl, fun e => absurd e (by decide), fun h' => absurd h' h⟩
set_option maxRecDepth 100000 in
set_option maxHeartbeats 8000000 in
theorem mk_check {z : Int} {A : Option Addr} {n cap : Nat} {l : List ByteArray} {w : World} (hz : (Lit.int .i64 z).wf = true) (hl : SlT w A n l) (hc : n ≤ cap) (hc2 : cap ≤ maxLen) (hn : n ≤ 1000) :
    Calls Tryz.prog 21 #[.agg #[.int .i64 z, .slice A n cap]] w fun e W => New w W ∧ ((e = .returned (.int .i64 0) ∧ ManOk z l) ∨ (e = .returned (.int .i64 6) ∧ ¬ ManOk z l)) := by
  have hn3 : (n : Int) ≤ 1000 := by omega
  have HL := Lib.hid hl
  have ho := Own.fresh w 38 #[.int .i64 z, .slice A n cap]
  have hN : New w (w.alloc (.cells #[.int .i64 z, .slice A n cap] 38)) := (Fr.refl _ _).alloc _
  have q0 := ho.cell 0
  have q1 := ho.cell 1
  simp only [List.getElem?_toArray, List.getElem?_cons_zero, List.getElem?_cons_succ] at q0 q1
  have HN := Lib.hid hN
  clear hl ho hN
  by_cases c1 : z < 0
  · have hno := Lib.hid (show ¬ ManOk z l from fun h => by have := h.z0; have e := HL.out.1; omega)
    go_enter Tryz.func21, Tryz.ntmps21
    go_wp2_with fail
    go_ret
    exact ⟨HN.out, .inr ⟨rfl, hno.out⟩⟩
  by_cases c2 : 8192 < z
  · have hno := Lib.hid (show ¬ ManOk z l from fun h => by have := h.z1; have e := HL.out.1; omega)
    go_enter Tryz.func21, Tryz.ntmps21
    go_wp2_with fail
    go_ret
    exact ⟨HN.out, .inr ⟨rfl, hno.out⟩⟩
  by_cases c3 : 256 < (n : Int)
  · have hno := Lib.hid (show ¬ ManOk z l from fun h => by have := h.n1; have e := HL.out.1; omega)
    go_enter Tryz.func21, Tryz.ntmps21
    go_wp2_with fail
    go_ret
    exact ⟨HN.out, .inr ⟨rfl, hno.out⟩⟩
  by_cases c4 : z = 0
  · by_cases c5 : n = 0
    · subst c4 c5
      go_enter Tryz.func21, Tryz.ntmps21
      go_wp2_with fail
      refine (contains_any (HL.out.new_ HN.out) hc hc2 hn).mono ?_
      rintro e w' ⟨rfl, b, rfl, hb⟩
      have hnil : l = [] := List.eq_nil_of_length_eq_zero HL.out.1.symm
      have hb2 : b = false := hb.2 (by rw [hnil]; intro x hx; cases hx)
      subst hb2
      have HNil := Lib.hid hnil
      clear hb hnil
      go_wp2_with fail
      go_ret
      obtain rfl := HNil.out
      exact ⟨HN.out, .inl ⟨rfl, by decide, by decide, by decide, by decide, by decide, by decide, fun x hx => by cases hx⟩⟩
    · have hno := Lib.hid (show ¬ ManOk z l from fun h => by have := h.zn.1 c4; have e := HL.out.1; omega)
      have c5' : ¬ (n : Int) = 0 := by omega
      subst c4
      go_enter Tryz.func21, Tryz.ntmps21
      go_wp2_with fail
      go_ret
      exact ⟨HN.out, .inr ⟨rfl, hno.out⟩⟩
  by_cases c5 : n = 0
  · have hno := Lib.hid (show ¬ ManOk z l from fun h => c4 (h.zn.2 (by have e := HL.out.1; omega)))
    subst c5
    go_enter Tryz.func21, Tryz.ntmps21
    go_wp2_with fail
    go_ret
    exact ⟨HN.out, .inr ⟨rfl, hno.out⟩⟩
  have c5' : ¬ (n : Int) = 0 := by omega
  have zb : (z == 0) = false := by rw [beq_eq_false_iff_ne]; exact c4
  have nb : ((n : Int) == 0) = false := by rw [beq_eq_false_iff_ne]; exact c5'
  by_cases c6 : z < (n : Int)
  · have hno := Lib.hid (show ¬ ManOk z l from fun h => by have := h.nz; have e := HL.out.1; omega)
    go_enter Tryz.func21, Tryz.ntmps21
    go_wp2_with fail
    go_ret
    exact ⟨HN.out, .inr ⟨rfl, hno.out⟩⟩
  by_cases c7 : (n : Int) * 512 < z
  · have hno := Lib.hid (show ¬ ManOk z l from fun h => by have := h.zm; have e := HL.out.1; omega)
    go_enter Tryz.func21, Tryz.ntmps21
    go_wp2_with fail
    go_ret
    exact ⟨HN.out, .inr ⟨rfl, hno.out⟩⟩
  go_enter Tryz.func21, Tryz.ntmps21
  go_wp2_with fail
  refine (contains_any (HL.out.new_ HN.out) hc hc2 hn).mono ?_
  rintro e w' ⟨rfl, b, rfl, hb⟩
  cases b
  · have hall := Lib.hid (hb.1 rfl)
    clear hb
    go_wp2_with fail
    go_ret
    have e := HL.out.1
    exact ⟨HN.out, .inl ⟨rfl, by omega, by omega, by omega, by omega, by omega, by omega, hall.out⟩⟩
  · have hno := Lib.hid (show ¬ ManOk z l from fun h => by have := hb.2 h.each; cases this)
    clear hb
    go_wp2_with fail
    go_ret
    exact ⟨HN.out, .inr ⟨rfl, hno.out⟩⟩
theorem same_eq {A B : Option Addr} {n m c d : Nat} {l : List ByteArray} {w : World} (h1 : SlT w A n l) (h2 : SlT w B m l) (hn : n ≤ 1000) (hc : n ≤ c) (hd : m ≤ d) :
    Calls Tryz.prog 16 #[.slice A n c, .slice B m d] w fun e W => e = .returned (.bool true) ∧ New w W := by
  obtain rfl : m = n := h2.1.trans h1.1.symm
  have hn2 : (m : Int) ≤ 1000 := by omega
  have H := Lib.hid (And.intro h1 h2)
  clear h1 h2
  go_enter Tryz.func16, Tryz.ntmps16
  go_wp2_with fail
  go_loopw [5] (fun iv wr => ∃ k : Nat, iv = .int .i64 k ∧ k ≤ m ∧ Hid (New w wr)) (fun iv _ => m - (intOf iv).toNat)
  case atStart => exact ⟨0, rfl, Nat.zero_le _, Lib.hid (Fr.refl _ _)⟩
  case round =>
    obtain ⟨k, rfl, hkn, HN⟩ := hrel
    by_cases hlt : k < m
    · have hlt2 : (k : Int) < (m : Int) := by omega
      obtain ⟨sa, sp, hA, hca⟩ := (H.out.1.new_ HN.out).2.2 k hlt
      obtain ⟨ta, tp, hB, hcb⟩ := (H.out.2.new_ HN.out).2.2 k hlt
      have qa : ∀ x, (nw wr x).cell? ⟨sa, sp + k, none⟩ = some (.string (l.getD k .empty)) := fun x => by
        obtain ⟨b', o', e, hc'⟩ := ((H.out.1.new_ HN.out).new_ (nw_new wr x)).2.2 k hlt
        rw [hA] at e
        cases e
        have := hc' 0 _ rfl
        simpa using this
      have qb : ∀ x, (nw wr x).cell? ⟨ta, tp + k, none⟩ = some (.string (l.getD k .empty)) := fun x => by
        obtain ⟨b', o', e, hc'⟩ := ((H.out.2.new_ HN.out).new_ (nw_new wr x)).2.2 k hlt
        rw [hB] at e
        cases e
        have := hc' 0 _ rfl
        simpa using this
      obtain ⟨y, hy⟩ : ∃ y, l.getD k .empty = y := ⟨_, rfl⟩
      rw [hy] at qa qb
      have HAB := Lib.hid (And.intro hA hB)
      clear hca hcb hy
      subst hA hB
      go_wp2_with fail
      refine wp_region_new_lit (by kernel_rfl) (by kernel_rfl) ?_; (repeat (any_goals (first | go_big_quiet_step ((fail)) | quiet_step ((fail)) | (refine wpQuiet_step (fun K hK => ?_); go_simp; split <;> (refine hK _ ?_; clear hK K))))); all_goals (refine wpQuiet_nil ?_; intro _ hw'; obtain ⟨xq, hw''⟩ := hw'; subst hw''; have hnq := nw_new _ xq)
      clear qa qb
      have H2 := Lib.hid (HN.out.new_ hnq)
      clear hnq HN
      go_wp2_with fail
      refine ⟨⟨k + 1, by go_num, by omega, H2⟩, by simp [intOf]; omega⟩
    · obtain rfl : k = m := by omega
      have hlt2 : ¬ (k : Int) < (k : Int) := by omega
      go_wp2_with fail
      go_ret
      exact ⟨rfl, HN.out⟩
end Go.Proofs.YtjcpdpdhegcgoaaGreatDoor
