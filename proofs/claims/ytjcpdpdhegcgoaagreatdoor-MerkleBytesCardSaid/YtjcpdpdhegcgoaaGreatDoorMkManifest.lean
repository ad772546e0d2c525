/- Manifests: Check of both programs, Encode, Decode; what is told is read again, and what was read is told again. -/
import Derived.Test.YtjcpdpdhegcgoaaGreatDoorMkBack
import Derived.Test.YtjcpdpdhegcgoaaGreatDoorWrF
import Derived.Test.YtjcpdpdhegcgoaaGreatDoorMkVerify
namespace Go.Proofs.YtjcpdpdhegcgoaaGreatDoor
open Go.RowKit
set_option linter.unusedVariables false
set_option linter.unusedSimpArgs false

/-- A manifest that may be. -/
structure ManOk (z : Int) (l : List ByteArray) : Prop where
  z0 : 0 ≤ z
  z1 : z ≤ 8192
  n1 : l.length ≤ 256
  zn : z = 0 ↔ l.length = 0
  nz : (l.length : Int) ≤ z
  zm : z ≤ (l.length : Int) * 512
  each : ∀ x ∈ l, x.size = 32
theorem check1_any {x : ByteArray} {b : Bool} (hb : b = !decide (x.size = 32)) {w : World} : Calls Tryz.prog 54 #[.string x] w fun e W => e = .returned (.bool b) ∧ W = w := by
  cases b
  · have h1 : x.size = 32 := by simpa using hb
    have h2 : (x.size : Int) = 32 := by omega
    clear hb
    go_enter Tryz.func54, Tryz.ntmps54
    go_wp2
    go_ret
    exact ⟨rfl, rfl⟩
  · have h1 : ¬ x.size = 32 := by simpa using hb
    have h2 : ¬ (x.size : Int) = 32 := by omega
    have h3 : ((x.size : Int) != 32) = true := by rw [bne_iff_ne]; exact h2
    clear hb
    go_enter Tryz.func54, Tryz.ntmps54
    go_wp2
    go_ret
    exact ⟨rfl, rfl⟩
/-- IndexFunc at 'is no digest's size': the first place, or -1. -/
theorem idx_any {A : Option Addr} {n cap : Nat} {l : List ByteArray} {w : World} (hl : SlT w A n l) (hc : n ≤ cap) (hc2 : cap ≤ maxLen) (hn : n ≤ 1000) :
    Calls Tryz.prog 80 #[.slice A n cap, .func (.func 54) #[] #[]] w fun e W => W = w ∧ ((e = .returned (.int .i64 (-1)) ∧ ∀ x ∈ l, x.size = 32) ∨ (∃ i : Nat, e = .returned (.int .i64 i) ∧ ¬ ∀ x ∈ l, x.size = 32)) := by
  have hmx : (n : Int) ≤ 1000 := by omega
  have HL := Lib.hid hl
  go_enter Tryz.func80, Tryz.ntmps80
  go_wp2_with fail
  go_loopw [8, 5] (fun iv _ wr => ∃ k : Nat, iv = .int .i64 k ∧ k ≤ n ∧ wr = w ∧ Hid (∀ j, j < k → (l.getD j .empty).size = 32)) (fun iv _ _ => n - (intOf iv).toNat)
  case atStart => exact ⟨0, rfl, Nat.zero_le _, rfl, Lib.hid fun j hj => absurd hj (Nat.not_lt_zero j)⟩
  case round =>
    obtain ⟨k, rfl, hkn, rfl, HK⟩ := hrel
    clear hl
    by_cases hlt : k < n
    · have hlt2 : (k : Int) < (n : Int) := by omega
      obtain ⟨sb, so, hA, hcc⟩ := HL.out.2.2 k hlt
      have c0 := hcc 0 _ rfl
      simp only [Nat.mul_one, Nat.add_zero] at c0
      obtain ⟨y, hy⟩ : ∃ y, l.getD k .empty = y := ⟨_, rfl⟩
      rw [hy] at c0
      have HY := Lib.hid hy
      have HA := Lib.hid hA
      clear hcc hy
      subst hA
      obtain ⟨b, hb⟩ : ∃ b, b = !decide (y.size = 32) := ⟨_, rfl⟩
      go_wp2_with fail
      refine (check1_any hb).mono ?_
      rintro e w' ⟨rfl, rfl⟩
      cases b
      · have h1 : y.size = 32 := by simpa using hb
        clear hb c0
        go_wp2_with fail
        refine ⟨⟨k + 1, by go_num, by omega, by trivial, Lib.hid fun j hj => ?_⟩, by simp [intOf]; omega⟩
        by_cases e : j < k
        · exact HK.out j e
        · have : j = k := by omega
          subst this
          rw [HY.out]
          exact h1
      · have h1 : ¬ y.size = 32 := by simpa using hb
        clear hb c0
        go_wp2_with fail
        go_ret
        refine ⟨rfl, .inr ⟨k, rfl, fun h => h1 ?_⟩⟩
        rw [← HY.out]
        have hkl : k < l.length := by rw [← HL.out.1]; exact hlt
        have : l.getD k .empty = l[k] := by simp [List.getD, hkl]
        rw [this]
        exact h _ (List.getElem_mem hkl)
    · obtain rfl : k = n := by omega
      have hlt2 : ¬ (k : Int) < (k : Int) := by omega
      go_wp2_with fail
      go_ret
      refine ⟨rfl, .inl ⟨rfl, fun x hx => ?_⟩⟩
      obtain ⟨j, hj, rfl⟩ := List.mem_iff_getElem.1 hx
      have := HK.out j (by rw [HL.out.1]; exact hj)
      simpa [List.getD, hj] using this
theorem contains_any {A : Option Addr} {n cap : Nat} {l : List ByteArray} {w : World} (hl : SlT w A n l) (hc : n ≤ cap) (hc2 : cap ≤ maxLen) (hn : n ≤ 1000) :
    Calls Tryz.prog 53 #[.slice A n cap, .func (.func 54) #[] #[]] w fun e W => W = w ∧ ∃ b, e = .returned (.bool b) ∧ (b = false ↔ ∀ x ∈ l, x.size = 32) := by
  go_enter Tryz.func53, Tryz.ntmps53
  go_wp2_with fail
  refine (idx_any hl hc hc2 hn).mono ?_
  rintro e w' ⟨rfl, (⟨rfl, h⟩ | ⟨i, rfl, h⟩)⟩
  · go_wp2_with fail
    go_ret
    exact ⟨rfl, false, rfl, fun _ => h, fun _ => rfl⟩
  · have hi : (0 : Int) ≤ (i : Int) := by omega
    go_wp2_with fail
    go_ret
    exact ⟨rfl, true, rfl, fun e => absurd e (by decide), fun h' => absurd h' h⟩
set_option maxRecDepth 100000 in
set_option maxHeartbeats 8000000 in
theorem mk_check {z : Int} {A : Option Addr} {n cap : Nat} {l : List ByteArray} {w : World} (hz : (Lit.int .i64 z).wf = true) (hl : SlT w A n l) (hc : n ≤ cap) (hc2 : cap ≤ maxLen) (hn : n ≤ 1000) :
    Calls Tryz.prog 21 #[.agg #[.int .i64 z, .slice A n cap]] w fun e W => New w W ∧ ((e = .returned (.int .i64 0) ∧ ManOk z l) ∨ (e = .returned (.int .i64 6) ∧ ¬ ManOk z l)) := by
  have hn3 : (n : Int) ≤ 1000 := by omega
  have HL := Lib.hid hl
  have ho := Own.fresh w 38 #[.int .i64 z, .slice A n cap]
  have hN : New w (w.alloc (.cells #[.int .i64 z, .slice A n cap] 38)) := (Fr.refl _ _).alloc _
  have q0 := ho.cell 0
  have q1 := ho.cell 1
  simp only [List.getElem?_toArray, List.getElem?_cons_zero, List.getElem?_cons_succ] at q0 q1
  have HN := Lib.hid hN
  clear hl ho hN
  by_cases c1 : z < 0
  · have hno := Lib.hid (show ¬ ManOk z l from fun h => by have := h.z0; have e := HL.out.1; omega)
    go_enter Tryz.func21, Tryz.ntmps21
    go_wp2_with fail
    go_ret
    exact ⟨HN.out, .inr ⟨rfl, hno.out⟩⟩
  by_cases c2 : 8192 < z
  · have hno := Lib.hid (show ¬ ManOk z l from fun h => by have := h.z1; have e := HL.out.1; omega)
    go_enter Tryz.func21, Tryz.ntmps21
    go_wp2_with fail
    go_ret
    exact ⟨HN.out, .inr ⟨rfl, hno.out⟩⟩
  by_cases c3 : 256 < (n : Int)
  · have hno := Lib.hid (show ¬ ManOk z l from fun h => by have := h.n1; have e := HL.out.1; omega)
    go_enter Tryz.func21, Tryz.ntmps21
    go_wp2_with fail
    go_ret
    exact ⟨HN.out, .inr ⟨rfl, hno.out⟩⟩
  by_cases c4 : z = 0
  · by_cases c5 : n = 0
    · subst c4 c5
      go_enter Tryz.func21, Tryz.ntmps21
      go_wp2_with fail
      refine (contains_any (HL.out.new_ HN.out) hc hc2 hn).mono ?_
      rintro e w' ⟨rfl, b, rfl, hb⟩
      have hnil : l = [] := List.eq_nil_of_length_eq_zero HL.out.1.symm
      have hb2 : b = false := hb.2 (by rw [hnil]; intro x hx; cases hx)
      subst hb2
      have HNil := Lib.hid hnil
      clear hb hnil
      go_wp2_with fail
      go_ret
      obtain rfl := HNil.out
      exact ⟨HN.out, .inl ⟨rfl, by decide, by decide, by decide, by decide, by decide, by decide, fun x hx => by cases hx⟩⟩
    · have hno := Lib.hid (show ¬ ManOk z l from fun h => by have := h.zn.1 c4; have e := HL.out.1; omega)
      have c5' : ¬ (n : Int) = 0 := by omega
      subst c4
      go_enter Tryz.func21, Tryz.ntmps21
      go_wp2_with fail
      go_ret
      exact ⟨HN.out, .inr ⟨rfl, hno.out⟩⟩
  by_cases c5 : n = 0
  · have hno := Lib.hid (show ¬ ManOk z l from fun h => c4 (h.zn.2 (by have e := HL.out.1; omega)))
    subst c5
    go_enter Tryz.func21, Tryz.ntmps21
    go_wp2_with fail
    go_ret
    exact ⟨HN.out, .inr ⟨rfl, hno.out⟩⟩
  have c5' : ¬ (n : Int) = 0 := by omega
  have zb : (z == 0) = false := by rw [beq_eq_false_iff_ne]; exact c4
  have nb : ((n : Int) == 0) = false := by rw [beq_eq_false_iff_ne]; exact c5'
  by_cases c6 : z < (n : Int)
  · have hno := Lib.hid (show ¬ ManOk z l from fun h => by have := h.nz; have e := HL.out.1; omega)
    go_enter Tryz.func21, Tryz.ntmps21
    go_wp2_with fail
    go_ret
    exact ⟨HN.out, .inr ⟨rfl, hno.out⟩⟩
  by_cases c7 : (n : Int) * 512 < z
  · have hno := Lib.hid (show ¬ ManOk z l from fun h => by have := h.zm; have e := HL.out.1; omega)
    go_enter Tryz.func21, Tryz.ntmps21
    go_wp2_with fail
    go_ret
    exact ⟨HN.out, .inr ⟨rfl, hno.out⟩⟩
  go_enter Tryz.func21, Tryz.ntmps21
  go_wp2_with fail
  refine (contains_any (HL.out.new_ HN.out) hc hc2 hn).mono ?_
  rintro e w' ⟨rfl, b, rfl, hb⟩
  cases b
  · have hall := Lib.hid (hb.1 rfl)
    clear hb
    go_wp2_with fail
    go_ret
    have e := HL.out.1
    exact ⟨HN.out, .inl ⟨rfl, by omega, by omega, by omega, by omega, by omega, by omega, hall.out⟩⟩
  · have hno := Lib.hid (show ¬ ManOk z l from fun h => by have := hb.2 h.each; cases this)
    clear hb
    go_wp2_with fail
    go_ret
    exact ⟨HN.out, .inr ⟨rfl, hno.out⟩⟩

/-- The bytes of a manifest. -/
def manB (z : Int) (l : List ByteArray) : ByteArray := numB 4 z.toNat ++ numB 4 l.length ++ hashsB l
set_option maxRecDepth 100000 in
set_option maxHeartbeats 8000000 in
theorem mk_encode {z : Int} {A : Option Addr} {n cap : Nat} {l : List ByteArray} {w : World} (hz : (Lit.int .i64 z).wf = true) (hl : SlT w A n l) (hc : n ≤ cap) (hc2 : cap ≤ maxLen) (hn : n ≤ 1000) :
    Calls Tryz.prog 34 #[.agg #[.int .i64 z, .slice A n cap]] w fun e W => New w W ∧ ((e = .returned (.tuple #[.string (manB z l), .int .i64 0]) ∧ ManOk z l) ∨ (e = .returned (.tuple #[.string ⟨#[]⟩, .int .i64 6]) ∧ ¬ ManOk z l)) := by
  have hn3 : (n : Int) ≤ 1000 := by omega
  have ho := Own.fresh w 38 #[.int .i64 z, .slice A n cap]
  have hN : New w (w.alloc (.cells #[.int .i64 z, .slice A n cap] 38)) := (Fr.refl _ _).alloc _
  have q0 := ho.cell 0
  have q1 := ho.cell 1
  simp only [List.getElem?_toArray, List.getElem?_cons_zero, List.getElem?_cons_succ] at q0 q1
  have HL := Lib.hid hl
  have HO := Lib.hid (And.intro ho hN)
  clear hl ho hN
  go_enter Tryz.func34, Tryz.ntmps34
  go_wp2_with fail
  refine (mk_check hz (HL.out.new_ HO.out.2) hc hc2 hn).mono ?_
  rintro e w1 ⟨n1, (⟨rfl, hok⟩ | ⟨rfl, hno⟩)⟩
  · have o1 := HO.out.1.new_ n1
    have m1 := HO.out.2.new_ n1
    have HK := Lib.hid hok
    obtain ⟨zn, hzn⟩ := Int.eq_ofNat_of_zero_le hok.z0
    have hz8 : zn ≤ 8192 := by have := hok.z1; omega
    have hn8 : n ≤ 256 := by have := hok.n1; have := HL.out.1; omega
    clear hok q0 q1 n1
    subst hzn
    have HM := Lib.hid (And.intro o1 m1)
    clear o1 m1
    go_wp2_with fail
    refine (newWriterF w1).mono ?_
    rintro e w2 ⟨rfl, h2, n2⟩
    have o2 := HM.out.1.new_ n2
    have m2 := HM.out.2.new_ n2
    have hlt1 := HM.out.1.lt
    have hsz1 := HM.out.2.size
    have q0 := o2.cell 0
    have q1 := o2.cell 1
    simp only [List.getElem?_toArray, List.getElem?_cons_zero, List.getElem?_cons_succ] at q0 q1
    have H2 := Lib.hid (And.intro h2 (And.intro o2 m2))
    clear h2 o2 m2 n2 HM
    go_wp2_with fail
    refine (countF H2.out.1 zn (by omega) (by simp)).mono ?_
    rintro e w3 ⟨rfl, h3, f3⟩
    have o3 := H2.out.2.1.fr f3 (by show ¬ (w1.heap.size ≤ _); omega)
    have m3 : New w w3 := H2.out.2.2.trans f3 fun k hk e => by have e : w1.heap.size ≤ k := e; omega
    clear q0 q1 H2 f3
    have q0 := o3.cell 0
    have q1 := o3.cell 1
    simp only [List.getElem?_toArray, List.getElem?_cons_zero, List.getElem?_cons_succ] at q0 q1
    have H3 := Lib.hid (And.intro h3 (And.intro o3 m3))
    clear h3 o3 m3
    have z4 : (ByteArray.empty ++ numB 4 zn).size = 8 := by rw [ByteArray.size_append, numB_size]; rfl
    go_wp2_with fail
    refine (countF H3.out.1 n (by omega) (by omega)).mono ?_
    rintro e w4 ⟨rfl, h4, f4⟩
    have o4 := H3.out.2.1.fr f4 (by show ¬ (w1.heap.size ≤ _); omega)
    have m4 : New w w4 := H3.out.2.2.trans f4 fun k hk e => by have e : w1.heap.size ≤ k := e; omega
    clear q0 q1 H3 f4
    have q0 := o4.cell 0
    have q1 := o4.cell 1
    simp only [List.getElem?_toArray, List.getElem?_cons_zero, List.getElem?_cons_succ] at q0 q1
    obtain ⟨d, hd⟩ : ∃ d, d = ByteArray.empty ++ numB 4 zn ++ numB 4 n := ⟨_, rfl⟩
    have hdz : d.size = 16 := by rw [hd, ByteArray.size_append, z4, numB_size]
    rw [← hd] at h4
    have HD := Lib.hid hd
    have H4 := Lib.hid (And.intro h4 m4)
    clear h4 o4 m4 hd z4
    go_wp2_with fail
    clear q0 q1
    go_loopw [26, 7] (fun iv _ wr => ∃ k : Nat, iv = .int .i64 k ∧ k ≤ n ∧ Hid (WrF wr (w1.heap.size ≤ ·) w1.heap.size (d ++ hashsB (l.take k)) ∧ New w wr)) (fun iv _ _ => n - (intOf iv).toNat)
    case atStart =>
      refine ⟨0, rfl, Nat.zero_le _, Lib.hid ⟨?_, H4.out.2⟩⟩
      have e : d ++ hashsB (l.take 0) = d := by
        apply ByteArray.ext
        apply Array.ext'
        simp [hashsB]
      rw [e]
      exact H4.out.1
    case round =>
      clear H4
      obtain ⟨k, rfl, hkn, HR⟩ := hrel
      by_cases hlt : k < n
      · have hlt2 : (k : Int) < (n : Int) := by omega
        obtain ⟨sb, so, hAe, hcc⟩ := (HL.out.new_ HR.out.2).2.2 k hlt
        have c0 := hcc 0 _ rfl
        simp only [Nat.mul_one, Nat.add_zero] at c0
        have hkl : k < l.length := by rw [← HL.out.1]; exact hlt
        have hgd : l.getD k .empty = l[k] := by simp [List.getD, hkl]
        rw [hgd] at c0
        have hsk : l[k].size = 32 := HK.out.each _ (List.getElem_mem hkl)
        have htk : l.take (k + 1) = l.take k ++ [l[k]] := by rw [List.take_add_one, List.getElem?_eq_getElem hkl]; rfl
        have hbs : d ++ hashsB (l.take (k + 1)) = d ++ hashsB (l.take k) ++ hashB l[k] := by rw [htk, hashsB_snoc, ByteArray.append_assoc]
        have hzz : (d ++ hashsB (l.take k)).size ≤ 300000 := by
          rw [ByteArray.size_append, hashsB_size, List.length_take]
          omega
        have PH := Lib.hid (hashF HR.out.1 l[k] (by omega) (by omega))
        rw [← hbs] at PH
        obtain ⟨y, hy⟩ : ∃ y, l[k] = y := ⟨_, rfl⟩
        rw [hy] at c0 PH
        have HAe := Lib.hid hAe
        clear hcc hgd hsk htk hbs hzz hy hkl
        subst hAe
        go_wp2_with fail
        refine PH.out.mono ?_
        rintro e w7 ⟨rfl, h7, f7⟩
        have H7 := Lib.hid (And.intro h7 (HR.out.2.trans f7 fun k hk e => by have e : w1.heap.size ≤ k := e; omega))
        clear h7 f7 c0 PH HR
        go_wp2_with fail
        refine ⟨⟨k + 1, by go_num, by omega, H7⟩, by simp [intOf]; omega⟩
      · obtain rfl : k = n := by omega
        have hlt2 : ¬ (k : Int) < (k : Int) := by omega
        have e : l.take k = l := List.take_of_length_le (by rw [← HL.out.1]; exact Nat.le_refl _)
        have hm : d ++ hashsB l = manB (zn : Int) l := by
          unfold manB
          rw [HD.out, bempty_app, ← HL.out.1, Int.toNat_natCast]
        have h8 := HR.out.1
        rw [e, hm] at h8
        have H8 := Lib.hid (And.intro h8.reads HR.out.2)
        clear e hm h8 HR
        go_wp2_with fail
        refine (allF H8.out.1).mono ?_
        rintro e w9 ⟨rfl, h9, f9⟩
        have H9 := Lib.hid (H8.out.2.trans f9 fun k hk e => by have e : w1.heap.size ≤ k := e; omega)
        clear h9 f9 H8
        go_wp2_with fail
        go_ret2
        exact ⟨H9.out, .inl ⟨rfl, HK.out⟩⟩
  · have m1 := Lib.hid (HO.out.2.new_ n1)
    have HNo := Lib.hid hno
    clear n1 hno q0 q1
    go_wp2_with fail
    go_ret2
    exact ⟨m1.out, .inr ⟨rfl, HNo.out⟩⟩

theorem rCount_top {r : Rd} (hr : r.ok) (m : Nat) (hm : m < 4294967296) : 0 ≤ (rCount r m).2 ∧ (rCount r m).2 ≤ m := by
  have h := rCount_le hr m
  refine ⟨h.1, ?_⟩
  unfold rCount at h ⊢
  repeat' split
  all_goals first | omega | (simp only at *; omega) | skip
/-- What Decode takes, ahead of the end: the size, the digests. -/
def rMan (s : ByteArray) : Rd × Int × List ByteArray :=
  let a1 := rCount ⟨s, 0, 0⟩ 8192
  let a2 := rCount a1.1 256
  let a3 := rLoop rHash a2.2.toNat a2.1
  (a3.1, a1.2, a3.2)
/-- Where Decode stands. -/
def DcS (w W : World) (X : Nat) (z : Int) (v : Value) (acc : List ByteArray) (rr : Rd) : Prop :=
  Own W w.heap.size 38 #[.int .i64 0, .slice none 0 0] ∧ Own W X 38 #[.int .i64 z, v] ∧ TxL W (X + 1) v acc ∧ OwnR W (w.heap.size + 1) rr ∧ New w W ∧ w.heap.size + 1 < X
theorem DcS.rd {w W W' : World} {X : Nat} {z : Int} {v : Value} {acc : List ByteArray} {rr rr' : Rd} (h : DcS w W X z v acc rr) (o : OwnR W' (w.heap.size + 1) rr') (f : Fr (· = w.heap.size + 1) W W') : DcS w W' X z v acc rr' := by
  obtain ⟨h1, h2, h3, h4, h5, h6⟩ := h
  exact ⟨h1.fr f (by show ¬ (_ = _); omega), h2.fr f (by show ¬ (_ = _); omega), h3.fr f (fun k hk e => by have := (h3.base hk).1; have e : k = w.heap.size + 1 := e; omega), o, h5.trans f fun k hk e => by have e : k = w.heap.size + 1 := e; omega, h6⟩
theorem DcS.new_ {w W W' : World} {X : Nat} {z : Int} {v : Value} {acc : List ByteArray} {rr : Rd} (h : DcS w W X z v acc rr) (f : New W W') : DcS w W' X z v acc rr := by
  obtain ⟨h1, h2, h3, h4, h5, h6⟩ := h
  exact ⟨h1.new_ f, h2.new_ f, h3.new_ f, Own.new_ h4 f, h5.new_ f, h6⟩
/-- One digest more. -/
theorem DcS.more {w W W' : World} {X : Nat} {z : Int} {v v' : Value} {acc acc' : List ByteArray} {rr : Rd} (h : DcS w W X z v acc rr) (f : Fr (fun k => v.ownBlock = some k) W W') (t : TxL W' (X + 1) v' acc') : DcS w (W'.setCell ⟨X, 1, none⟩ v') X z v' acc' rr := by
  obtain ⟨h1, h2, h3, h4, h5, h6⟩ := h
  have hb := fun k (hk : v.ownBlock = some k) => (h3.base hk).1
  have hb' := fun k (hk : v'.ownBlock = some k) => (t.base hk).1
  have g : Fr (fun k => k = X) W' (W'.setCell ⟨X, 1, none⟩ v') := Fr.set (F := fun k => k = X) (p := ⟨X, 1, none⟩) (Fr.refl _ W') (fun _ => rfl) _
  refine ⟨(h1.fr f fun e => by have := hb _ e; omega).fr g (by omega), (h2.fr f fun e => by have := hb _ e; omega).put rfl, t.fr g fun k hk e => by have := hb' k hk; omega, Own.fr (Own.fr h4 f fun e => by have := hb _ e; omega) g (by omega), (h5.trans f fun k hk e => by have := hb k e; omega).trans g fun k hk e => by omega, h6⟩
set_option maxRecDepth 100000 in
set_option maxHeartbeats 8000000 in
theorem mk_decode {s : ByteArray} (hs : s.size ≤ 9223372036854775807) {w : World} :
    Calls Tryz.prog 36 #[.string s] w fun e W => New w W ∧ ∃ z v er l, e = .returned (.tuple #[.agg #[.int .i64 z, v], .int .i64 er]) ∧ TxL W w.heap.size v l ∧
      ((er = 0 ∧ (rEnd (rMan s).1).err = 0 ∧ ManOk z l ∧ z = (rMan s).2.1 ∧ l = (rMan s).2.2) ∨ (¬ er = 0 ∧ z = 0 ∧ l = [] ∧ ¬ ((rEnd (rMan s).1).err = 0 ∧ ManOk (rMan s).2.1 (rMan s).2.2))) := by
  have hok : (⟨s, 0, 0⟩ : Rd).ok := ⟨hs, Int.le_refl _, by simp only; omega⟩
  obtain ⟨r1, z, e1⟩ : ∃ a b, rCount ⟨s, 0, 0⟩ 8192 = (a, b) := ⟨_, _, rfl⟩
  have k1 : r1.ok := by have := rCount_ok hok 8192; rw [e1] at this; exact this
  have hz := rCount_top hok 8192 (by omega)
  rw [show ((8192 : Nat) : Int) = 8192 from rfl, e1] at hz
  obtain ⟨r2, c, e2⟩ : ∃ a b, rCount r1 256 = (a, b) := ⟨_, _, rfl⟩
  have k2 : r2.ok := by have := rCount_ok k1 256; rw [e2] at this; exact this
  have hc := rCount_top k1 256 (by omega)
  rw [show ((256 : Nat) : Int) = 256 from rfl, e2] at hc
  simp only at hz hc
  have hzw : (Lit.int .i64 z).wf = true := by
    have h1 : IntKind.i64.min = -9223372036854775808 := rfl
    have h2 : IntKind.i64.max = 9223372036854775807 := rfl
    simp only [Lit.wf, Bool.and_eq_true, decide_eq_true_eq]
    rw [h1, h2]
    exact ⟨by omega, by omega⟩
  obtain ⟨m, rfl⟩ := Int.eq_ofNat_of_zero_le hc.1
  have hm256 : m ≤ 256 := by omega
  have hT : rMan s = ((rLoop rHash m r2).1, z, (rLoop rHash m r2).2) := by unfold rMan; simp only [e1, e2, Int.toNat_natCast]
  have C1 := Lib.hid (fun (W : World) b (hh : OwnR W b ⟨s, 0, 0⟩) => count_any hh hok 8192 (by omega))
  rw [e1] at C1
  have C2 := Lib.hid (fun (W : World) b (hh : OwnR W b r1) => count_any hh k1 256 (by omega))
  rw [e2] at C2
  have HT := Lib.hid hT
  have K2 := Lib.hid k2
  clear e1 e2 hT k1 k2 hok hc
  have o0 := Own.fresh w 38 #[.int .i64 0, .slice none 0 0]
  have n0 : New w (w.alloc (.cells #[.int .i64 0, .slice none 0 0] 38)) := (Fr.refl _ _).alloc _
  have s0 : (w.alloc (.cells #[.int .i64 0, .slice none 0 0] 38)).heap.size = w.heap.size + 1 := by simp
  go_enter Tryz.func36, Tryz.ntmps36
  go_wp2_with fail
  obtain ⟨W0, hW0⟩ : ∃ W0, W0 = w.alloc (.cells #[.int .i64 0, .slice none 0 0] 38) := ⟨_, rfl⟩
  rw [← hW0] at o0 n0 s0 ⊢
  clear hW0
  refine (newReader_any s W0).mono ?_
  rintro e W1 ⟨rfl, hW1⟩
  have q1 : OwnR W1 (w.heap.size + 1) ⟨s, 0, 0⟩ := by rw [hW1, ← s0]; exact Own.fresh _ _ _
  have o1 : Own W1 w.heap.size 38 #[.int .i64 0, .slice none 0 0] := hW1 ▸ o0.alloc _
  have n1 : New w W1 := hW1 ▸ n0.alloc _
  rw [s0]
  clear hW1 o0 n0 s0 W0
  go_wp2_with fail
  refine (C1.out _ _ q1).mono ?_
  rintro e W2 ⟨rfl, q2, f2⟩
  have o2 := o1.fr f2 (by show ¬ (_ = _); omega)
  have n2 : New w W2 := n1.trans f2 fun k hk e => by have e : k = w.heap.size + 1 := e; omega
  have hlt2 := Own.lt q2
  have D2 : DcS w (W2.alloc (.cells #[.int .i64 z, .slice none 0 0] 38)) W2.heap.size z (.slice none 0 0) [] r1 := ⟨o2.alloc _, Own.fresh _ _ _, TxL.nil _ _, Own.alloc q2 _, n2.alloc _, hlt2⟩
  have HD2 := Lib.hid D2
  clear D2 q1 o1 n1 f2 o2 n2 q2 C1
  go_wp2_with fail
  refine (C2.out _ _ HD2.out.2.2.2.1).mono ?_
  rintro e W3 ⟨rfl, q3, f3⟩
  have HD3 := Lib.hid (HD2.out.rd q3 f3)
  clear HD2 q3 f3 C2
  obtain ⟨X, hX⟩ : ∃ X, X = W2.heap.size := ⟨_, rfl⟩
  rw [← hX] at HD3 hlt2 ⊢
  clear hX
  go_wp2_with fail
  go_loopw [6] (fun nv wr => ∃ (m' : Nat) (rr : Rd) (acc : List ByteArray) (v : Value), nv = .int .i64 m' ∧ Hid (DcS w wr X z v acc rr) ∧ rr.ok ∧ acc.length + m' ≤ 256 ∧ Hid (rLoop rHash m r2 = ((rLoop rHash m' rr).1, acc ++ (rLoop rHash m' rr).2))) (fun nv _ => (intOf nv).toNat)
  case atStart => exact ⟨m, r2, [], _, rfl, HD3, K2.out, by simpa using hm256, Lib.hid rfl⟩
  case round =>
    clear HD3 K2
    obtain ⟨m', rr, acc, v, rfl, HD, hk, hle, HL⟩ := hrel
    by_cases hgo : 0 < m' ∧ rr.err = 0
    · obtain ⟨hm', he⟩ := hgo
      obtain ⟨m'', rfl⟩ : ∃ m'', m' = m'' + 1 := ⟨m' - 1, by omega⟩
      have hpos : (0 : Int) < ((m'' + 1 : Nat) : Int) := by omega
      have hstep : rLoop rHash (m'' + 1) rr = ((rLoop rHash m'' (rHash rr).1).1, (rHash rr).2 :: (rLoop rHash m'' (rHash rr).1).2) := if_pos he
      have hk2 := rBytes_ok hk 32
      have HB := Lib.hid (fun (W : World) b (hh : OwnR W b rr) => hash_any hh hk)
      rw [show rHash rr = rBytes rr 32 from rfl] at hstep
      obtain ⟨⟨r4, y⟩, hrs⟩ : ∃ p, rBytes rr 32 = p := ⟨_, rfl⟩
      rw [hrs] at hstep hk2 HB
      have HS := Lib.hid hstep
      have EZ := err_any HD.out.2.2.2.1
      rw [he] at EZ
      obtain ⟨A, cap, hv⟩ := HD.out.2.2.1.form
      subst hv
      obtain ⟨q, hq⟩ : ∃ q, q = acc.length := ⟨_, rfl⟩
      have HQ := Lib.hid hq
      rw [← hq] at HD hle
      clear hrs hstep he hq
      go_wp2_with fail
      refine EZ.mono ?_
      rintro e wq ⟨rfl, rfl⟩
      clear EZ
      go_wp2_with fail
      apply wp_region_partsK 6 (fun W' => Fr (fun k => k = w.heap.size + 1 ∨ (Value.slice A q cap).ownBlock = some k) wr W')
      case hp => simp only [List.take_succ_cons, List.take_zero]; exact rfl
      case hd => simp only [List.drop_succ_cons, List.drop_zero]; exact rfl
      case hm => kernel_rfl
      case hB => kernel_rfl
      case hT => kernel_rfl
      have hS0 : Fr (fun k => k = w.heap.size + 1 ∨ (Value.slice A q cap).ownBlock = some k) wr wr.drew := (Fr.refl _ _).drew
      have hne : ∀ k, (Value.slice A q cap).ownBlock = some k → X + 1 ≤ k ∧ k < wr.heap.size := fun k hk => HD.out.2.2.1.base hk
      have hmc : ∀ w', Fr (fun k => k = w.heap.size + 1 ∨ (Value.slice A q cap).ownBlock = some k) wr w' → w'.cell? ⟨X, 1, none⟩ = some (.slice A q cap) := fun w' f => (HD.out.2.1.fr f fun e => by
        rcases e with e | e
        · omega
        · have := hne _ e; omega).cell 1
      refine wpAnyH_take (i := 0) (v := .pointer (some ⟨X, 1, none⟩)) rfl (by kernel_rfl) (by kernel_rfl) (by kernel_rfl) (fun _ _ _ h => h) (.inl ⟨rfl, fun w' hS => ?t0⟩) hS0 ?_
      case t0 =>
        go_simp
      refine wpAnyH_take (i := 1) (v := .slice A q cap) rfl (by kernel_rfl) (by kernel_rfl) (by kernel_rfl) (fun _ _ _ h => h) (.inl ⟨rfl, fun w' hS => ?t1⟩) hS0 ?_
      case t1 =>
        have m1 := hmc w' hS
        go_simp
      refine wpAnyH_take (i := 2) (v := .pointer (some ⟨w.heap.size + 1, 0, none⟩)) rfl (by kernel_rfl) (by kernel_rfl) (by kernel_rfl) (fun _ _ _ h => h) (.inl ⟨rfl, fun w' hS => ?t2⟩) hS0 ?_
      case t2 =>
        go_simp
      try simp only [Act.put, List.setIfInBounds_toArray, List.set_cons_zero, List.set_cons_succ]
      refine wpAnyH_all (rs := [3]) (by kernel_rfl) (by simp) (fun j hj => ?_)
      rw [List.mem_singleton] at hj
      subst hj
      refine wpOp_step rfl (fun K hK => ?_)
      go_simp
      refine (HB.out _ _ (HD.out.new_ ((Fr.refl _ _).drew)).2.2.2.1).mono ?_
      rintro e W5 ⟨rfl, q5, f5⟩
      have HD5 := Lib.hid ((HD.out.new_ ((Fr.refl _ _).drew)).rd q5 f5)
      have hS5 : Fr (fun k => k = w.heap.size + 1 ∨ (Value.slice A q cap).ownBlock = some k) wr W5 := hS0.trans f5 fun k hk e => .inl e
      have hsz5 := hS5.size
      refine hK _ _ ⟨hS5, ?_⟩
      clear hK K
      try simp only [Act.put, List.setIfInBounds_toArray, List.set_cons_zero, List.set_cons_succ]
      refine wpAnyH_all (rs := [4]) (by kernel_rfl) (by simp) (fun j hj => ?_)
      rw [List.mem_singleton] at hj
      subst hj
      refine wpOp_step rfl (fun K hK => ?_)
      go_simp
      refine hK _ _ ⟨hS5.alloc _, ?_⟩
      clear hK K
      try simp only [Act.put, List.setIfInBounds_toArray, List.set_cons_zero, List.set_cons_succ]
      have h6 := HD5.out.new_ ((Fr.refl _ _).alloc (.cells #[.string y] 9))
      have hX5 := HD5.out.2.1.lt
      obtain ⟨v', W', hrun, t3, f3, v3⟩ := append_txt h6.2.2.1 (by simp; omega) (by have := HQ.out; omega) (Own.fresh W5 9 #[.string y])
      have H7 := Lib.hid (h6.more f3 t3)
      have hS7 : Fr (fun k => k = w.heap.size + 1 ∨ (Value.slice A q cap).ownBlock = some k) wr W' := (hS5.alloc (.cells #[.string y] 9)).trans f3 fun k hk e => .inr e
      have hX7 : Own W' X 38 #[.int .i64 z, .slice A q cap] := h6.2.1.fr f3 fun e => by have := hne _ e; omega
      have c7 : W'.cell? ⟨X, 1, none⟩ = some (.slice A q cap) := hX7.cell 1
      have d7 : W'.frozen? ⟨X, 1, none⟩ = false := hX7.free 1
      obtain ⟨g, cp, hv'⟩ := t3.form
      rw [List.length_append, List.length_singleton, ← HQ.out] at hv'
      subst hv'
      clear h6 t3 f3 v3 HD5 HD
      refine wpAnyH_all (rs := [5]) (by kernel_rfl) (by simp) (fun j hj => ?_)
      rw [List.mem_singleton] at hj
      subst hj
      refine wpOp_step rfl (fun K hK => ?_)
      refine step_append_run rfl (.tmp 25) (.tmp 28) 24 rfl ?ev1 ?ev2 hrun ?_
      case ev1 => simp [Act.eval, Act.put]
      case ev2 => simp [Act.eval, Act.put]
      refine hK _ _ ⟨hS7, ?_⟩
      clear hK K
      try simp only [Act.put, List.setIfInBounds_toArray, List.set_cons_zero, List.set_cons_succ]
      refine wpAnyH_done (by kernel_rfl) ?_ _
      clear hS7 hS5 hS0 hmc hne hX7 hrun q5 f5
      unfold restQ
      go_simp
      go_wp2_with fail
      refine ⟨⟨m'', r4, acc ++ [y], _, by go_num, H7, hk2, by have e := HQ.out; simp only [List.length_append, List.length_singleton]; omega, Lib.hid (by rw [HL.out, HS.out]; simp)⟩, by simp [intOf]⟩
    · have hfin : rLoop rHash m' rr = (rr, []) := by
        by_cases h0 : m' = 0
        · subst h0
          rfl
        · exact rLoop_err _ _ _ fun h => hgo ⟨by omega, h⟩
      have hM : rMan s = (rr, z, acc) := by rw [HT.out, HL.out, hfin]; simp
      have HM := Lib.hid hM
      obtain ⟨A, cap, hv⟩ := HD.out.2.2.1.form
      subst hv
      have hal : acc.length ≤ 256 := by omega
      by_cases h0 : m' = 0
      · subst h0
        clear hfin hM HL HT hgo
        go_wp2_with fail
        refine (end_any HD.out.2.2.2.1 hk).mono ?_
        rintro e W8 ⟨rfl, q8, f8⟩
        have HD8 := Lib.hid (HD.out.rd q8 f8)
        clear q8 f8 HD
        obtain ⟨er, her⟩ : ∃ er, er = (rEnd rr).err := ⟨_, rfl⟩
        rw [← her]
        have HE := Lib.hid her
        clear her
        by_cases hE : er = 0
        · subst hE
          have x0 := HD8.out.2.1.cell 0
          have x1 := HD8.out.2.1.cell 1
          simp only [List.getElem?_toArray, List.getElem?_cons_zero, List.getElem?_cons_succ] at x0 x1
          go_wp2_with fail
          refine (mk_check hzw (SlT.of_txl HD8.out.2.2.1 (by simp [maxLen]; omega)) HD8.out.2.2.1.cap.1 HD8.out.2.2.1.cap.2 (by omega)).mono ?_
          rintro e W9 ⟨n9, (⟨rfl, hok⟩ | ⟨rfl, hno⟩)⟩
          · have HOK := Lib.hid hok
            have o7 := HD8.out.2.1.new_ n9
            have t9 := HD8.out.2.2.1.new_ n9
            clear x0 x1 hok
            have x0 := o7.cell 0
            have x1 := o7.cell 1
            simp only [List.getElem?_toArray, List.getElem?_cons_zero, List.getElem?_cons_succ] at x0 x1
            have o9 := HD8.out.1.new_ n9
            have m9 : New w W9 := HD8.out.2.2.2.2.1.new_ n9
            have q0 := o9.cell 0
            have q1 := o9.cell 1
            have q2 := o9.free 0
            have q3 := o9.free 1
            simp only [List.getElem?_toArray, List.getElem?_cons_zero, List.getElem?_cons_succ] at q0 q1
            have b2 := (o9.put (i := 0) (u := .int .i64 z) (cs' := #[.int .i64 z, .slice none 0 0]) rfl).put (i := 1) (u := .slice A acc.length cap) (cs' := #[.int .i64 z, .slice A acc.length cap]) rfl
            have f2 : Fr (fun k => k = w.heap.size) W9 ((W9.setCell ⟨w.heap.size, 0, none⟩ (.int .i64 z)).setCell ⟨w.heap.size, 1, none⟩ (.slice A acc.length cap)) := Fr.set (p := ⟨w.heap.size, 1, none⟩) (Fr.set (F := fun k => k = w.heap.size) (Fr.refl _ _) (p := ⟨w.heap.size, 0, none⟩) (fun _ => rfl) _) (fun _ => rfl) _
            have n2 := m9.trans f2 fun k hk e => by omega
            have t2 := t9.fr f2 fun k hk e => by have := (t9.base hk).1; omega
            have HZ := Lib.hid (And.intro b2 (And.intro n2 t2))
            clear b2 f2 n2 t2 t9 m9 o9 o7 n9 HD8
            go_wp2_with fail
            clear q0 q1 q2 q3 x0 x1
            refine post_worldR (fun W => Own W w.heap.size 38 #[.int .i64 z, .slice A acc.length cap] ∧ New w W ∧ TxL W (X + 1) (.slice A acc.length cap) acc) HZ.out ?_
            rintro Wz ⟨b3, n3, t3⟩
            have g0 : Wz.cell? ⟨w.heap.size, 0, none⟩ = some (.int .i64 z) := b3.cell 0
            have g1 : Wz.cell? ⟨w.heap.size, 1, none⟩ = some (.slice A acc.length cap) := b3.cell 1
            clear b3
            exact bodyPost_ret (v := .tuple #[.agg #[.int .i64 z, .slice A acc.length cap], .int .i64 0]) (by simp [results, Tryz.results36, go_sem, *]) rfl ⟨n3, z, .slice A acc.length cap, 0, acc, rfl, t3.mono (by omega), .inl ⟨rfl, by rw [HM.out]; exact HE.out.symm, HOK.out, by rw [HM.out], by rw [HM.out]⟩⟩
          · have HNO := Lib.hid hno
            clear x0 x1 hno
            have o9 := HD8.out.1.new_ n9
            have m9 : New w W9 := HD8.out.2.2.2.2.1.new_ n9
            have q0 := o9.cell 0
            have q1 := o9.cell 1
            have q2 := o9.free 0
            have q3 := o9.free 1
            simp only [List.getElem?_toArray, List.getElem?_cons_zero, List.getElem?_cons_succ] at q0 q1
            have b2 := (o9.put (i := 0) (u := .int .i64 0) (cs' := #[.int .i64 0, .slice none 0 0]) rfl).put (i := 1) (u := .slice none 0 0) (cs' := #[.int .i64 0, .slice none 0 0]) rfl
            have f2 : Fr (fun k => k = w.heap.size) W9 ((W9.setCell ⟨w.heap.size, 0, none⟩ (.int .i64 0)).setCell ⟨w.heap.size, 1, none⟩ (.slice none 0 0)) := Fr.set (p := ⟨w.heap.size, 1, none⟩) (Fr.set (F := fun k => k = w.heap.size) (Fr.refl _ _) (p := ⟨w.heap.size, 0, none⟩) (fun _ => rfl) _) (fun _ => rfl) _
            have n2 := m9.trans f2 fun k hk e => by omega
            have HZ := Lib.hid (And.intro b2 n2)
            clear b2 f2 n2 m9 o9 n9 HD8
            go_wp2_with fail
            clear q0 q1 q2 q3
            refine post_worldR (fun W => Own W w.heap.size 38 #[.int .i64 0, .slice none 0 0] ∧ New w W) HZ.out ?_
            rintro Wz ⟨b3, n3⟩
            have g0 : Wz.cell? ⟨w.heap.size, 0, none⟩ = some (.int .i64 0) := b3.cell 0
            have g1 : Wz.cell? ⟨w.heap.size, 1, none⟩ = some (.slice none 0 0) := b3.cell 1
            clear b3
            exact bodyPost_ret (v := .tuple #[.agg #[.int .i64 0, .slice none 0 0], .int .i64 6]) (by simp [results, Tryz.results36, go_sem, *]) rfl ⟨n3, 0, .slice none 0 0, 6, [], rfl, TxL.nil _ _, .inr ⟨by decide, rfl, rfl, by rw [HM.out]; exact fun h => HNO.out h.2⟩⟩
        · have hE2 : (er != 0) = true := by rw [bne_iff_ne]; exact hE
          have hE3 : (er == 0) = false := by rw [beq_eq_false_iff_ne]; exact hE
          have o9 := HD8.out.1
          have m9 : New w W8 := HD8.out.2.2.2.2.1
          have q0 := o9.cell 0
          have q1 := o9.cell 1
          have q2 := o9.free 0
          have q3 := o9.free 1
          simp only [List.getElem?_toArray, List.getElem?_cons_zero, List.getElem?_cons_succ] at q0 q1
          have b2 := (o9.put (i := 0) (u := .int .i64 0) (cs' := #[.int .i64 0, .slice none 0 0]) rfl).put (i := 1) (u := .slice none 0 0) (cs' := #[.int .i64 0, .slice none 0 0]) rfl
          have f2 : Fr (fun k => k = w.heap.size) W8 ((W8.setCell ⟨w.heap.size, 0, none⟩ (.int .i64 0)).setCell ⟨w.heap.size, 1, none⟩ (.slice none 0 0)) := Fr.set (p := ⟨w.heap.size, 1, none⟩) (Fr.set (F := fun k => k = w.heap.size) (Fr.refl _ _) (p := ⟨w.heap.size, 0, none⟩) (fun _ => rfl) _) (fun _ => rfl) _
          have n2 := m9.trans f2 fun k hk e => by omega
          have HZ := Lib.hid (And.intro b2 n2)
          clear b2 f2 n2 m9 o9 HD8
          go_wp2_with fail
          clear q0 q1 q2 q3
          refine post_worldR (fun W => Own W w.heap.size 38 #[.int .i64 0, .slice none 0 0] ∧ New w W) HZ.out ?_
          rintro Wz ⟨b3, n3⟩
          have g0 : Wz.cell? ⟨w.heap.size, 0, none⟩ = some (.int .i64 0) := b3.cell 0
          have g1 : Wz.cell? ⟨w.heap.size, 1, none⟩ = some (.slice none 0 0) := b3.cell 1
          clear b3
          exact bodyPost_ret (v := .tuple #[.agg #[.int .i64 0, .slice none 0 0], .int .i64 er]) (by simp [results, Tryz.results36, go_sem, *]) rfl ⟨n3, 0, .slice none 0 0, er, [], rfl, TxL.nil _ _, .inr ⟨hE, rfl, rfl, by rw [HM.out]; exact fun h => hE (HE.out.trans h.1)⟩⟩
      · have hpos : (0 : Int) < (m' : Int) := by omega
        have hne : ¬ rr.err = 0 := fun h => hgo ⟨by omega, h⟩
        have EZ := err_any HD.out.2.2.2.1
        obtain ⟨ef, hef⟩ : ∃ ef, rr.err = ef := ⟨_, rfl⟩
        rw [hef] at EZ hne
        have hnb : (ef == 0) = false := by rw [beq_eq_false_iff_ne]; exact hne
        clear hfin hM HL HT hgo hef
        go_wp2_with fail
        refine EZ.mono ?_
        rintro e wq ⟨rfl, rfl⟩
        clear EZ
        go_wp2_with fail
        refine (end_any HD.out.2.2.2.1 hk).mono ?_
        rintro e W8 ⟨rfl, q8, f8⟩
        have HD8 := Lib.hid (HD.out.rd q8 f8)
        clear q8 f8 HD
        obtain ⟨er, her⟩ : ∃ er, er = (rEnd rr).err := ⟨_, rfl⟩
        rw [← her]
        have HE := Lib.hid her
        clear her
        by_cases hE : er = 0
        · subst hE
          have x0 := HD8.out.2.1.cell 0
          have x1 := HD8.out.2.1.cell 1
          simp only [List.getElem?_toArray, List.getElem?_cons_zero, List.getElem?_cons_succ] at x0 x1
          go_wp2_with fail
          refine (mk_check hzw (SlT.of_txl HD8.out.2.2.1 (by simp [maxLen]; omega)) HD8.out.2.2.1.cap.1 HD8.out.2.2.1.cap.2 (by omega)).mono ?_
          rintro e W9 ⟨n9, (⟨rfl, hok⟩ | ⟨rfl, hno⟩)⟩
          · have HOK := Lib.hid hok
            have o7 := HD8.out.2.1.new_ n9
            have t9 := HD8.out.2.2.1.new_ n9
            clear x0 x1 hok
            have x0 := o7.cell 0
            have x1 := o7.cell 1
            simp only [List.getElem?_toArray, List.getElem?_cons_zero, List.getElem?_cons_succ] at x0 x1
            have o9 := HD8.out.1.new_ n9
            have m9 : New w W9 := HD8.out.2.2.2.2.1.new_ n9
            have q0 := o9.cell 0
            have q1 := o9.cell 1
            have q2 := o9.free 0
            have q3 := o9.free 1
            simp only [List.getElem?_toArray, List.getElem?_cons_zero, List.getElem?_cons_succ] at q0 q1
            have b2 := (o9.put (i := 0) (u := .int .i64 z) (cs' := #[.int .i64 z, .slice none 0 0]) rfl).put (i := 1) (u := .slice A acc.length cap) (cs' := #[.int .i64 z, .slice A acc.length cap]) rfl
            have f2 : Fr (fun k => k = w.heap.size) W9 ((W9.setCell ⟨w.heap.size, 0, none⟩ (.int .i64 z)).setCell ⟨w.heap.size, 1, none⟩ (.slice A acc.length cap)) := Fr.set (p := ⟨w.heap.size, 1, none⟩) (Fr.set (F := fun k => k = w.heap.size) (Fr.refl _ _) (p := ⟨w.heap.size, 0, none⟩) (fun _ => rfl) _) (fun _ => rfl) _
            have n2 := m9.trans f2 fun k hk e => by omega
            have t2 := t9.fr f2 fun k hk e => by have := (t9.base hk).1; omega
            have HZ := Lib.hid (And.intro b2 (And.intro n2 t2))
            clear b2 f2 n2 t2 t9 m9 o9 o7 n9 HD8
            go_wp2_with fail
            clear q0 q1 q2 q3 x0 x1
            refine post_worldR (fun W => Own W w.heap.size 38 #[.int .i64 z, .slice A acc.length cap] ∧ New w W ∧ TxL W (X + 1) (.slice A acc.length cap) acc) HZ.out ?_
            rintro Wz ⟨b3, n3, t3⟩
            have g0 : Wz.cell? ⟨w.heap.size, 0, none⟩ = some (.int .i64 z) := b3.cell 0
            have g1 : Wz.cell? ⟨w.heap.size, 1, none⟩ = some (.slice A acc.length cap) := b3.cell 1
            clear b3
            exact bodyPost_ret (v := .tuple #[.agg #[.int .i64 z, .slice A acc.length cap], .int .i64 0]) (by simp [results, Tryz.results36, go_sem, *]) rfl ⟨n3, z, .slice A acc.length cap, 0, acc, rfl, t3.mono (by omega), .inl ⟨rfl, by rw [HM.out]; exact HE.out.symm, HOK.out, by rw [HM.out], by rw [HM.out]⟩⟩
          · have HNO := Lib.hid hno
            clear x0 x1 hno
            have o9 := HD8.out.1.new_ n9
            have m9 : New w W9 := HD8.out.2.2.2.2.1.new_ n9
            have q0 := o9.cell 0
            have q1 := o9.cell 1
            have q2 := o9.free 0
            have q3 := o9.free 1
            simp only [List.getElem?_toArray, List.getElem?_cons_zero, List.getElem?_cons_succ] at q0 q1
            have b2 := (o9.put (i := 0) (u := .int .i64 0) (cs' := #[.int .i64 0, .slice none 0 0]) rfl).put (i := 1) (u := .slice none 0 0) (cs' := #[.int .i64 0, .slice none 0 0]) rfl
            have f2 : Fr (fun k => k = w.heap.size) W9 ((W9.setCell ⟨w.heap.size, 0, none⟩ (.int .i64 0)).setCell ⟨w.heap.size, 1, none⟩ (.slice none 0 0)) := Fr.set (p := ⟨w.heap.size, 1, none⟩) (Fr.set (F := fun k => k = w.heap.size) (Fr.refl _ _) (p := ⟨w.heap.size, 0, none⟩) (fun _ => rfl) _) (fun _ => rfl) _
            have n2 := m9.trans f2 fun k hk e => by omega
            have HZ := Lib.hid (And.intro b2 n2)
            clear b2 f2 n2 m9 o9 n9 HD8
            go_wp2_with fail
            clear q0 q1 q2 q3
            refine post_worldR (fun W => Own W w.heap.size 38 #[.int .i64 0, .slice none 0 0] ∧ New w W) HZ.out ?_
            rintro Wz ⟨b3, n3⟩
            have g0 : Wz.cell? ⟨w.heap.size, 0, none⟩ = some (.int .i64 0) := b3.cell 0
            have g1 : Wz.cell? ⟨w.heap.size, 1, none⟩ = some (.slice none 0 0) := b3.cell 1
            clear b3
            exact bodyPost_ret (v := .tuple #[.agg #[.int .i64 0, .slice none 0 0], .int .i64 6]) (by simp [results, Tryz.results36, go_sem, *]) rfl ⟨n3, 0, .slice none 0 0, 6, [], rfl, TxL.nil _ _, .inr ⟨by decide, rfl, rfl, by rw [HM.out]; exact fun h => HNO.out h.2⟩⟩
        · have hE2 : (er != 0) = true := by rw [bne_iff_ne]; exact hE
          have hE3 : (er == 0) = false := by rw [beq_eq_false_iff_ne]; exact hE
          have o9 := HD8.out.1
          have m9 : New w W8 := HD8.out.2.2.2.2.1
          have q0 := o9.cell 0
          have q1 := o9.cell 1
          have q2 := o9.free 0
          have q3 := o9.free 1
          simp only [List.getElem?_toArray, List.getElem?_cons_zero, List.getElem?_cons_succ] at q0 q1
          have b2 := (o9.put (i := 0) (u := .int .i64 0) (cs' := #[.int .i64 0, .slice none 0 0]) rfl).put (i := 1) (u := .slice none 0 0) (cs' := #[.int .i64 0, .slice none 0 0]) rfl
          have f2 : Fr (fun k => k = w.heap.size) W8 ((W8.setCell ⟨w.heap.size, 0, none⟩ (.int .i64 0)).setCell ⟨w.heap.size, 1, none⟩ (.slice none 0 0)) := Fr.set (p := ⟨w.heap.size, 1, none⟩) (Fr.set (F := fun k => k = w.heap.size) (Fr.refl _ _) (p := ⟨w.heap.size, 0, none⟩) (fun _ => rfl) _) (fun _ => rfl) _
          have n2 := m9.trans f2 fun k hk e => by omega
          have HZ := Lib.hid (And.intro b2 n2)
          clear b2 f2 n2 m9 o9 HD8
          go_wp2_with fail
          clear q0 q1 q2 q3
          refine post_worldR (fun W => Own W w.heap.size 38 #[.int .i64 0, .slice none 0 0] ∧ New w W) HZ.out ?_
          rintro Wz ⟨b3, n3⟩
          have g0 : Wz.cell? ⟨w.heap.size, 0, none⟩ = some (.int .i64 0) := b3.cell 0
          have g1 : Wz.cell? ⟨w.heap.size, 1, none⟩ = some (.slice none 0 0) := b3.cell 1
          clear b3
          exact bodyPost_ret (v := .tuple #[.agg #[.int .i64 0, .slice none 0 0], .int .i64 er]) (by simp [results, Tryz.results36, go_sem, *]) rfl ⟨n3, 0, .slice none 0 0, er, [], rfl, TxL.nil _ _, .inr ⟨hE, rfl, rfl, by rw [HM.out]; exact fun h => hE (HE.out.trans h.1)⟩⟩

theorem rEnd_zero {r : Rd} (h : (rEnd r).err = 0) : r.err = 0 ∧ ¬ r.pos < r.s.size := by
  unfold rEnd at h
  split at h
  · exact absurd h (by show ¬ ((5 : Int) = 0); decide)
  · rename_i h2
    exact ⟨h, fun h3 => h2 ⟨h, h3⟩⟩
theorem dec_back {s : ByteArray} (hs : s.size ≤ 9223372036854775807) (h : (rEnd (rMan s).1).err = 0) : manB (rMan s).2.1 (rMan s).2.2 = s := by
  have hok : (⟨s, 0, 0⟩ : Rd).ok := ⟨hs, Int.le_refl _, by simp only; omega⟩
  obtain ⟨h1, h2⟩ := rEnd_zero h
  have k1 := rCount_ok hok 8192
  have k2 := rCount_ok k1 256
  have b3 := loop_back _ _ k2 h1
  have b2 := count_back k1 256 b3.1.e0
  have b1 := count_back hok 8192 b2.1.e0
  have hb := (b1.1.trans b2.1).trans b3.1
  have ht := hb.t
  have hp := hb.p1
  have hp2 := hb.p2
  simp only at ht hp hp2
  have hsz : (rLoop rHash (rCount (rCount ⟨s, 0, 0⟩ 8192).1 256).2.toNat (rCount (rCount ⟨s, 0, 0⟩ 8192).1 256).1).1.s = s := hb.s
  have hpe : (rLoop rHash (rCount (rCount ⟨s, 0, 0⟩ 8192).1 256).2.toNat (rCount (rCount ⟨s, 0, 0⟩ 8192).1 256).1).1.pos.toNat = s.size := by
    have h3 : ¬ (rLoop rHash (rCount (rCount ⟨s, 0, 0⟩ 8192).1 256).2.toNat (rCount (rCount ⟨s, 0, 0⟩ 8192).1 256).1).1.pos < ((rLoop rHash (rCount (rCount ⟨s, 0, 0⟩ 8192).1 256).2.toNat (rCount (rCount ⟨s, 0, 0⟩ 8192).1 256).1).1.s.size : Int) := h2
    rw [hsz] at h3
    omega
  rw [hpe] at ht
  have e0 : s.extract (0 : Int).toNat s.size = s := by
    apply ByteArray.ext
    simp
  rw [e0] at ht
  unfold manB
  simp only [rMan]
  rw [b3.2.1]
  exact ht.symm
theorem loop_at : ∀ (l : List ByteArray) (a : ByteArray), (∀ y ∈ l, y.size = 32) → rLoop rHash l.length ⟨a ++ hashsB l, a.size, 0⟩ = (⟨a ++ hashsB l, (a.size + 32 * l.length : Nat), 0⟩, l)
  | [], a, _ => rfl
  | y :: l, a, h => by
    have hy := h y List.mem_cons_self
    have e1 : a ++ hashsB (y :: l) = a ++ y ++ hashsB l := by rw [hashsB_cons, hashB_self hy, ByteArray.append_assoc]
    have e2 := rBytes_at a y (hashsB l) 32 (by rw [hy]; rfl)
    have e3 : (a ++ y).size = a.size + 32 := by rw [ByteArray.size_append, hy]
    have ih := loop_at l (a ++ y) (fun x hx => h x (List.mem_cons_of_mem _ hx))
    rw [e1]
    show (if (0 : Int) = 0 then ((rLoop rHash l.length (rHash ⟨a ++ y ++ hashsB l, a.size, 0⟩).1).1, (rHash ⟨a ++ y ++ hashsB l, a.size, 0⟩).2 :: (rLoop rHash l.length (rHash ⟨a ++ y ++ hashsB l, a.size, 0⟩).1).2) else _) = _
    rw [if_pos rfl, show rHash ⟨a ++ y ++ hashsB l, a.size, 0⟩ = rBytes ⟨a ++ y ++ hashsB l, a.size, 0⟩ 32 from rfl, e2]
    simp only
    rw [show ((a.size : Int) + (y.size : Int)) = ((a ++ y).size : Int) by rw [ByteArray.size_append]; omega, ih, e3]
    simp only [List.length_cons]
    rw [show a.size + 32 + 32 * l.length = a.size + 32 * (l.length + 1) by omega]
theorem dec_forth {z : Int} {l : List ByteArray} (h : ManOk z l) : (rMan (manB z l)).2.1 = z ∧ (rMan (manB z l)).2.2 = l ∧ (rEnd (rMan (manB z l)).1).err = 0 := by
  obtain ⟨n, hn⟩ := Int.eq_ofNat_of_zero_le h.z0
  have hz := h.z1
  have hl := h.n1
  subst hn
  have a1 := rCount_at .empty (numB 4 l.length ++ hashsB l) n (by omega) 8192
  have a2 := rCount_at (numB 4 n) (hashsB l) l.length (by omega) 256
  have a3 := loop_at l (numB 4 n ++ numB 4 l.length) h.each
  rw [if_neg (by omega)] at a1 a2
  have e1 : ByteArray.empty ++ numB 4 n ++ (numB 4 l.length ++ hashsB l) = numB 4 n ++ numB 4 l.length ++ hashsB l := by rw [bempty_app, ByteArray.append_assoc]
  rw [e1, show ((ByteArray.empty.size : Nat) : Int) = 0 from rfl, show (0 : Int) + 8 = 8 from rfl] at a1
  rw [show ((numB 4 n).size : Int) = 8 by rw [numB_size]; rfl, show (8 : Int) + 8 = 16 from rfl] at a2
  have e2 : (numB 4 n ++ numB 4 l.length).size = 16 := by rw [ByteArray.size_append, numB_size, numB_size]
  rw [e2] at a3
  have hm : manB (n : Int) l = numB 4 n ++ numB 4 l.length ++ hashsB l := by
    unfold manB
    rw [Int.toNat_natCast]
  have hr : rMan (manB (n : Int) l) = (⟨numB 4 n ++ numB 4 l.length ++ hashsB l, (16 + 32 * l.length : Nat), 0⟩, (n : Int), l) := by
    rw [hm]
    unfold rMan
    simp only [a1, a2, Int.toNat_natCast]
    have a3' : rLoop rHash l.length ⟨numB 4 n ++ numB 4 l.length ++ hashsB l, 16, 0⟩ = (⟨numB 4 n ++ numB 4 l.length ++ hashsB l, (16 + 32 * l.length : Nat), 0⟩, l) := a3
    rw [a3']
  rw [hr]
  refine ⟨rfl, rfl, ?_⟩
  unfold rEnd
  rw [if_neg]
  rintro ⟨_, h2⟩
  have e3 : (numB 4 n ++ numB 4 l.length ++ hashsB l).size = 16 + 32 * l.length := by rw [ByteArray.size_append, e2, hashsB_size]
  simp only [e3] at h2
  omega
set_option maxRecDepth 100000 in
set_option maxHeartbeats 8000000 in
theorem ref_check {z : Int} {A : Option Addr} {n cap : Nat} {l : List ByteArray} {w : World} (hl : SlT w A n l) (hc : n ≤ cap) (hc2 : cap ≤ maxLen) (hn : n ≤ 1000) :
    Calls Tryz.prog 35 #[.int .i64 z, .slice A n cap] w fun e W => W = w ∧ ((e = .returned (.int .i64 0) ∧ ManOk z l) ∨ (e = .returned (.int .i64 6) ∧ ¬ ManOk z l)) := by
  have hn3 : (n : Int) ≤ 1000 := by omega
  have HL := Lib.hid hl
  clear hl
  by_cases c1 : z < 0
  · have hno := Lib.hid (show ¬ ManOk z l from fun h => by have := h.z0; omega)
    go_enter Tryz.func35, Tryz.ntmps35
    go_wp2_with fail
    go_ret
    exact ⟨rfl, .inr ⟨rfl, hno.out⟩⟩
  by_cases c2 : 8192 < z
  · have hno := Lib.hid (show ¬ ManOk z l from fun h => by have := h.z1; omega)
    go_enter Tryz.func35, Tryz.ntmps35
    go_wp2_with fail
    go_ret
    exact ⟨rfl, .inr ⟨rfl, hno.out⟩⟩
  by_cases c3 : 256 < (n : Int)
  · have hno := Lib.hid (show ¬ ManOk z l from fun h => by have := h.n1; have e := HL.out.1; omega)
    go_enter Tryz.func35, Tryz.ntmps35
    go_wp2_with fail
    go_ret
    exact ⟨rfl, .inr ⟨rfl, hno.out⟩⟩
  have zb : (z == 0) = decide (z = 0) := rfl
  clear zb
  by_cases c4 : ¬ (z = 0 ↔ n = 0)
  · have hno := Lib.hid (show ¬ ManOk z l from fun h => c4 (by have := h.zn; rw [← HL.out.1] at this; exact this))
    by_cases c5 : z = 0
    · have c6 : ¬ n = 0 := fun e => c4 ⟨fun _ => e, fun _ => c5⟩
      have c6' : ¬ (n : Int) = 0 := by omega
      have nb : ((n : Int) == 0) = false := by rw [beq_eq_false_iff_ne]; exact c6'
      subst c5
      clear c4
      go_enter Tryz.func35, Tryz.ntmps35
      go_wp2_with fail
      go_ret
      exact ⟨rfl, .inr ⟨rfl, hno.out⟩⟩
    · have c6 : n = 0 := by
        rcases Nat.eq_zero_or_pos n with e | e
        · exact e
        · exact absurd ⟨fun h => absurd h c5, fun h => by omega⟩ c4
      have zb : (z == 0) = false := by rw [beq_eq_false_iff_ne]; exact c5
      subst c6
      clear c4
      go_enter Tryz.func35, Tryz.ntmps35
      go_wp2_with fail
      go_ret
      exact ⟨rfl, .inr ⟨rfl, hno.out⟩⟩
  have c4' : (z = 0 ↔ n = 0) := Classical.byContradiction c4
  have HC4 := Lib.hid c4'
  have heq : (z == 0) = ((n : Int) == 0) := by
    by_cases e : z = 0
    · rw [e, c4'.1 e]; rfl
    · have e2 : ¬ (n : Int) = 0 := fun h => e (c4'.2 (by omega))
      rw [beq_eq_false_iff_ne.2 e, beq_eq_false_iff_ne.2 e2]
  obtain ⟨nb, hnb⟩ : ∃ nb, nb = ((n : Int) == 0) := ⟨_, rfl⟩
  rw [← hnb] at heq
  have hnb2 := hnb.symm
  clear c4 c4' hnb
  by_cases c6 : z < (n : Int)
  · have hno := Lib.hid (show ¬ ManOk z l from fun h => by have := h.nz; have e := HL.out.1; omega)
    cases nb <;> (
      go_enter Tryz.func35, Tryz.ntmps35
      go_wp2_with fail
      go_ret
      exact ⟨rfl, .inr ⟨rfl, hno.out⟩⟩)
  by_cases c7 : 512 * (n : Int) < z
  · have hno := Lib.hid (show ¬ ManOk z l from fun h => by have := h.zm; have e := HL.out.1; omega)
    cases nb <;> (
      go_enter Tryz.func35, Tryz.ntmps35
      go_wp2_with fail
      go_ret
      exact ⟨rfl, .inr ⟨rfl, hno.out⟩⟩)
  cases nb <;> (
    go_enter Tryz.func35, Tryz.ntmps35
    go_wp2_with fail
    go_loopw [5] (fun iv wr => ∃ k : Nat, iv = .int .i64 k ∧ k ≤ n ∧ wr = w ∧ Hid (∀ j, j < k → (l.getD j .empty).size = 32)) (fun iv _ => n - (intOf iv).toNat)
    case atStart => exact ⟨0, rfl, Nat.zero_le _, rfl, Lib.hid fun j hj => absurd hj (Nat.not_lt_zero j)⟩
    case round =>
      obtain ⟨k, rfl, hkn, rfl, HK⟩ := hrel
      clear heq hnb2
      by_cases hlt : k < n
      · have hlt2 : (k : Int) < (n : Int) := by omega
        obtain ⟨sb, so, hA, hcc⟩ := HL.out.2.2 k hlt
        have c0 := hcc 0 _ rfl
        simp only [Nat.mul_one, Nat.add_zero] at c0
        obtain ⟨y, hy⟩ : ∃ y, l.getD k .empty = y := ⟨_, rfl⟩
        rw [hy] at c0
        have HY := Lib.hid hy
        have HA := Lib.hid hA
        clear hcc hy
        subst hA
        by_cases h1 : y.size = 32
        · have h1' : (y.size : Int) = 32 := by omega
          have H1 := Lib.hid h1
          clear h1
          go_wp2_with fail
          refine ⟨⟨k + 1, by go_num, by omega, by trivial, Lib.hid fun j hj => ?_⟩, by simp [intOf]; omega⟩
          by_cases e : j < k
          · exact HK.out j e
          · have : j = k := by omega
            subst this
            rw [HY.out]
            exact H1.out
        · have h1' : ¬ (y.size : Int) = 32 := by omega
          have h1b : ((y.size : Int) != 32) = true := by rw [bne_iff_ne]; exact h1'
          have hno := Lib.hid (show ¬ ManOk z l from fun h => h1 (by
            rw [← HY.out]
            have hkl : k < l.length := by rw [← HL.out.1]; exact hlt
            have : l.getD k .empty = l[k] := by simp [List.getD, hkl]
            rw [this]
            exact h.each _ (List.getElem_mem hkl)))
          clear h1
          go_wp2_with fail
          go_ret
          exact ⟨rfl, .inr ⟨rfl, hno.out⟩⟩
      · obtain rfl : k = n := by omega
        have hlt2 : ¬ (k : Int) < (k : Int) := by omega
        have hok := Lib.hid (show ManOk z l from ⟨by omega, by omega, by have e := HL.out.1; omega, by rw [← HL.out.1]; exact HC4.out, by have e := HL.out.1; omega, by have e := HL.out.1; omega, fun x hx => by
          obtain ⟨j, hj, rfl⟩ := List.mem_iff_getElem.1 hx
          have := HK.out j (by rw [HL.out.1]; exact hj)
          simpa [List.getD, hj] using this⟩)
        go_wp2_with fail
        go_ret
        exact ⟨rfl, .inl ⟨rfl, hok.out⟩⟩)
theorem same_eq {A B : Option Addr} {n m c d : Nat} {l : List ByteArray} {w : World} (h1 : SlT w A n l) (h2 : SlT w B m l) (hn : n ≤ 1000) (hc : n ≤ c) (hd : m ≤ d) :
    Calls Tryz.prog 16 #[.slice A n c, .slice B m d] w fun e W => e = .returned (.bool true) ∧ New w W := by
  obtain rfl : m = n := h2.1.trans h1.1.symm
  have hn2 : (m : Int) ≤ 1000 := by omega
  have H := Lib.hid (And.intro h1 h2)
  clear h1 h2
  go_enter Tryz.func16, Tryz.ntmps16
  go_wp2_with fail
  go_loopw [5] (fun iv wr => ∃ k : Nat, iv = .int .i64 k ∧ k ≤ m ∧ Hid (New w wr)) (fun iv _ => m - (intOf iv).toNat)
  case atStart => exact ⟨0, rfl, Nat.zero_le _, Lib.hid (Fr.refl _ _)⟩
  case round =>
    obtain ⟨k, rfl, hkn, HN⟩ := hrel
    by_cases hlt : k < m
    · have hlt2 : (k : Int) < (m : Int) := by omega
      obtain ⟨sa, sp, hA, hca⟩ := (H.out.1.new_ HN.out).2.2 k hlt
      obtain ⟨ta, tp, hB, hcb⟩ := (H.out.2.new_ HN.out).2.2 k hlt
      have qa : ∀ x, (nw wr x).cell? ⟨sa, sp + k, none⟩ = some (.string (l.getD k .empty)) := fun x => by
        obtain ⟨b', o', e, hc'⟩ := ((H.out.1.new_ HN.out).new_ (nw_new wr x)).2.2 k hlt
        rw [hA] at e
        cases e
        have := hc' 0 _ rfl
        simpa using this
      have qb : ∀ x, (nw wr x).cell? ⟨ta, tp + k, none⟩ = some (.string (l.getD k .empty)) := fun x => by
        obtain ⟨b', o', e, hc'⟩ := ((H.out.2.new_ HN.out).new_ (nw_new wr x)).2.2 k hlt
        rw [hB] at e
        cases e
        have := hc' 0 _ rfl
        simpa using this
      obtain ⟨y, hy⟩ : ∃ y, l.getD k .empty = y := ⟨_, rfl⟩
      rw [hy] at qa qb
      have HAB := Lib.hid (And.intro hA hB)
      clear hca hcb hy
      subst hA hB
      go_wp2_with fail
      refine wp_region_new_lit (by kernel_rfl) (by kernel_rfl) ?_; (repeat (any_goals (first | go_big_quiet_step ((fail)) | quiet_step ((fail)) | (refine wpQuiet_step (fun K hK => ?_); go_simp; split <;> (refine hK _ ?_; clear hK K))))); all_goals (refine wpQuiet_nil ?_; intro _ hw'; obtain ⟨xq, hw''⟩ := hw'; subst hw''; have hnq := nw_new _ xq)
      clear qa qb
      have H2 := Lib.hid (HN.out.new_ hnq)
      clear hnq HN
      go_wp2_with fail
      refine ⟨⟨k + 1, by go_num, by omega, H2⟩, by simp [intOf]; omega⟩
    · obtain rfl : k = m := by omega
      have hlt2 : ¬ (k : Int) < (k : Int) := by omega
      go_wp2_with fail
      go_ret
      exact ⟨rfl, HN.out⟩
end Go.Proofs.YtjcpdpdhegcgoaaGreatDoor
