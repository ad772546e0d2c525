/- A file's manifest and its digest are the document's. -/
import Derived.Test.YtjcpdpdhegcgoaaGreatDoorMkFew
import Derived.Test.YtjcpdpdhegcgoaaGreatDoorMkManOk
import Derived.Test.YtjcpdpdhegcgoaaGreatDoorOpen
namespace Go.Proofs.YtjcpdpdhegcgoaaGreatDoor
open Go.RowKit
set_option linter.unusedVariables false
set_option linter.unusedSimpArgs false

theorem cutB_least (s : ByteArray) : min 32 s.size ≤ cutB s ∧ cutB s ≤ 512 := by
  unfold cutB
  split
  · omega
  · have := cutG_le s (min s.size 512 - 32) 32
    omega
theorem chunksB_count {s : ByteArray} (hs : s.size ≤ 8192) : 32 * (chunksB cutB s).length ≤ s.size + 31 ∧ s.size ≤ 512 * (chunksB cutB s).length ∧ ((chunksB cutB s).length = 0 → s.size = 0) ∧ (s.size = 0 → (chunksB cutB s).length = 0) := by
  obtain ⟨n, hn⟩ : ∃ n, n = s.size := ⟨_, rfl⟩
  induction n using Nat.strongRecOn generalizing s with
  | _ n ih =>
    subst hn
    rcases Nat.eq_zero_or_pos s.size with h | h
    · rw [chunksB_nil _ h, h]
      simp
    · have h1 := cutC.ok.pos s h hs
      have h2 := cutC.ok.le s hs
      have h3 := cutB_least s
      rw [chunksB_cons cutC.ok h hs, List.length_cons]
      have hz : (s.extract (cutB s) s.size).size = s.size - cutB s := by simp
      have := ih (s.extract (cutB s) s.size).size (by omega) (by omega) rfl
      rw [hz] at this
      refine ⟨?_, by omega, by omega, by omega⟩
      by_cases he : s.size - cutB s = 0
      · have e0 := this.2.2.2 he
        rw [e0]
        omega
      · omega
theorem files_ok {s : ByteArray} (hs : s.size ≤ 8192) : ManOk (s.size : Nat) ((chunksB cutB s).map digB) := by
  have h := chunksB_count hs
  have h2 := chunksB_length cutC.ok s.size s (Nat.le_refl _) hs
  refine ⟨by omega, by omega, ?_, ?_, ?_, ?_, ?_⟩
  · rw [List.length_map]
    omega
  · rw [List.length_map]
    omega
  · rw [List.length_map]
    omega
  · rw [List.length_map]
    omega
  · intro x hx
    obtain ⟨y, _, rfl⟩ := List.mem_map.1 hx
    exact digB_size y
theorem mk_of_long {s : ByteArray} (h : 8192 < s.size) (h2 : s.size ≤ 100000) {w : World} : Calls Tryz.prog 15 #[.string s] w fun e W => e = .returned (.tuple #[.agg #[.int .i64 0, .slice none 0 0], .int .i64 3]) ∧ New w W := by
  have h' : (8192 : Int) < (s.size : Int) := by omega
  refine (callsIn_wide (n := 4)).1 ?_
  refine callsIn_of_wp_marks Tryz.func15 rfl trivial ?_
  simp only [Tryz.ntmps15, List.size_toArray, List.length_cons, List.length_nil, Nat.reduceAdd, Nat.reduceSub, Array.replicate_succ, Array.replicate_zero, List.push_toArray, List.append_toArray, List.nil_append, List.cons_append]
  refine wpIn_wide.2 ?_
  go_wp2_with fail
  have ho := Own.fresh w 38 #[.int .i64 0, .slice none 0 0]
  have hN : New w (w.alloc (.cells #[.int .i64 0, .slice none 0 0] 38)) := (Fr.refl _ _).alloc _
  obtain ⟨W, hW⟩ : ∃ W, W = w.alloc (.cells #[.int .i64 0, .slice none 0 0] 38) := ⟨_, rfl⟩
  rw [← hW] at ho hN ⊢
  have c0 : W.cell? ⟨w.heap.size, 0, none⟩ = some (.int .i64 0) := ho.cell 0
  have c1 : W.cell? ⟨w.heap.size, 1, none⟩ = some (.slice none 0 0) := ho.cell 1
  refine ⟨.tuple #[.agg #[.int .i64 0, .slice none 0 0], .int .i64 3], by simp [results, Tryz.results15, go_sem, *], rfl, hN⟩
set_option maxRecDepth 100000 in
set_option maxHeartbeats 16000000 in
theorem merkleFiles_core {w : World} {s : ByteArray} {x0 : W64} {n : Int} (hn : (Lit.int .i64 n).wf = true) (hs : s.size ≤ 140737488351232) :
    Calls Tryz.prog 4 #[.string s, U x0, .int .i64 n] w fun e W => e = .returned (.bool true) ∧ New w W := by
  have F := Lib.hid (mfew_any (x0 := x0) hn hs (w := w))
  go_enter Tryz.func4, Tryz.ntmps4
  unfold U at F ⊢
  go_wp2_with fail
  refine F.out.mono ?_
  rintro e W1 ⟨t, rfl, ht, n1⟩
  by_cases h8 : t.size ≤ 8192
  · have h8' : ¬ (8192 : Int) < (t.size : Int) := by omega
    have hok := files_ok h8
    have hdg := digB_size t
    have RO := Lib.hid fun (w : World) => ref_of h8 (w := w)
    have MO := Lib.hid fun (w : World) => mk_of cutC (by omega) h8 (w := w)
    have RD := Lib.hid fun (w : World) => refdigest_any (s := t) (by omega) (w := w)
    have MD := Lib.hid fun (w : World) => mk_digest (s := t) (by omega) (w := w)
    obtain ⟨l, hl⟩ : ∃ l, l = (chunksB cutB t).map digB := ⟨_, rfl⟩
    obtain ⟨d, hd⟩ : ∃ d, d = digB t := ⟨_, rfl⟩
    rw [← hl] at hok RO MO
    rw [← hd] at hdg RD MD
    clear hl hd F
    have hx : ∀ x ∈ l, x.size ≤ 100000 := fun x h => by have := hok.each x h; omega
    have hr := rootB_size l hx
    go_wp2_with fail
    refine (MO.out _).mono ?_
    rintro e W2 ⟨v, rfl, t2, n2⟩
    obtain ⟨A, cap, rfl⟩ := t2.form
    have hc := t2.cap
    have hn1 := hok.n1
    obtain ⟨m, hm⟩ : ∃ m, m = l.length := ⟨_, rfl⟩
    rw [← hm] at t2 hc hn1 ⊢
    have hc1 : (m : Int) ≤ (cap : Int) := by omega
    have hm1 : (m : Int) ≤ 256 := by omega
    have hsl := SlT.of_txl t2 (by rw [← hm]; simp [maxLen]; omega)
    have o0 := Own.fresh W2 38 #[.int .i64 t.size, .slice A m cap]
    have m0 : New w (W2.alloc (.cells #[.int .i64 t.size, .slice A m cap] 38)) := (n1.new_ n2).alloc _
    have s0 : SlT (W2.alloc (.cells #[.int .i64 t.size, .slice A m cap] 38)) A m l := hsl.new_ ((Fr.refl _ _).alloc _)
    have HM := Lib.hid (And.intro o0 (And.intro m0 s0))
    have HO := Lib.hid (And.intro hok (And.intro hx hm))
    clear hok hx hm t2 n1 n2 hsl o0 m0 s0
    go_wp2_with fail
    refine merkle_awake.mono ?_
    rintro e W3 ⟨rfl, n3⟩
    have HM3 := Lib.hid (And.intro (HM.out.1.new_ n3) (And.intro (HM.out.2.1.new_ n3) (HM.out.2.2.new_ n3)))
    clear n3 HM
    go_wp2_with fail
    refine (RO.out _).mono ?_
    rintro e W4 ⟨v, rfl, t4, n4⟩
    obtain ⟨B, cap2, rfl⟩ := t4.form
    have hd2 := t4.cap
    rw [← HO.out.2.2] at t4 hd2 ⊢
    have hd1 : (m : Int) ≤ (cap2 : Int) := by omega
    have hsl4 := SlT.of_txl t4 (by rw [← HO.out.2.2]; simp [maxLen]; omega)
    have HM4 := Lib.hid (And.intro (HM3.out.1.new_ n4) (And.intro (HM3.out.2.1.new_ n4) (And.intro (HM3.out.2.2.new_ n4) hsl4)))
    clear n4 HM3 t4 hsl4
    have x0 := HM4.out.1.cell 0
    have x1 := HM4.out.1.cell 1
    simp only [List.getElem?_toArray, List.getElem?_cons_zero, List.getElem?_cons_succ] at x0 x1
    go_wp2_with fail
    refine (same_eq HM4.out.2.2.1 HM4.out.2.2.2 (by omega) hc.1 hd2.1).mono ?_
    rintro e W5 ⟨rfl, n5⟩
    have HM5 := Lib.hid (And.intro (HM4.out.1.new_ n5) (And.intro (HM4.out.2.1.new_ n5) (And.intro (HM4.out.2.2.1.new_ n5) (HM4.out.2.2.2.new_ n5))))
    clear n5 HM4 x0 x1
    have x0 := HM5.out.1.cell 0
    have x1 := HM5.out.1.cell 1
    simp only [List.getElem?_toArray, List.getElem?_cons_zero, List.getElem?_cons_succ] at x0 x1
    go_wp2_with fail
    refine (root_any m B m cap2 l W5 (Nat.le_refl _) HM5.out.2.2.2 hd2.1 hd2.2 (by omega) HO.out.2.1).mono ?_
    rintro e W6 ⟨rfl, n6⟩
    have HM6 := Lib.hid (And.intro (HM5.out.1.new_ n6) (And.intro (HM5.out.2.1.new_ n6) (And.intro (HM5.out.2.2.1.new_ n6) (HM5.out.2.2.2.new_ n6))))
    clear n6 HM5 x0 x1
    have x0 := HM6.out.1.cell 0
    have x1 := HM6.out.1.cell 1
    simp only [List.getElem?_toArray, List.getElem?_cons_zero, List.getElem?_cons_succ] at x0 x1
    go_wp2_with fail
    refine (refRoot_any m B m cap2 l W6 (Nat.le_refl _) HM6.out.2.2.2 hd2.1 hd2.2 (by omega) HO.out.2.1).mono ?_
    rintro e W7 ⟨rfl, n7⟩
    have HM7 := Lib.hid (And.intro (HM6.out.1.new_ n7) (And.intro (HM6.out.2.1.new_ n7) (And.intro (HM6.out.2.2.1.new_ n7) (HM6.out.2.2.2.new_ n7))))
    clear n7 HM6 x0 x1
    have x0 := HM7.out.1.cell 0
    have x1 := HM7.out.1.cell 1
    simp only [List.getElem?_toArray, List.getElem?_cons_zero, List.getElem?_cons_succ] at x0 x1
    go_wp2_with fail
    refine (mk_file (z := t.size) (by omega) HM7.out.2.2.1 hc.1 hc.2 (by omega) HO.out.2.1).mono ?_
    rintro e W8 ⟨rfl, n8⟩
    have HM8 := Lib.hid (And.intro (HM7.out.1.new_ n8) (And.intro (HM7.out.2.1.new_ n8) (And.intro (HM7.out.2.2.1.new_ n8) (HM7.out.2.2.2.new_ n8))))
    clear n8 HM7 x0 x1
    have x0 := HM8.out.1.cell 0
    have x1 := HM8.out.1.cell 1
    simp only [List.getElem?_toArray, List.getElem?_cons_zero, List.getElem?_cons_succ] at x0 x1
    go_wp2_with fail
    refine (ref_file (z := t.size) (by omega) HM8.out.2.2.2 hd2.1 hd2.2 (by omega) HO.out.2.1).mono ?_
    rintro e W9 ⟨rfl, n9⟩
    have HM9 := Lib.hid (And.intro (HM8.out.1.new_ n9) (And.intro (HM8.out.2.1.new_ n9) (And.intro (HM8.out.2.2.1.new_ n9) (HM8.out.2.2.2.new_ n9))))
    clear n9 HM8 x0 x1
    have x0 := HM9.out.1.cell 0
    have x1 := HM9.out.1.cell 1
    simp only [List.getElem?_toArray, List.getElem?_cons_zero, List.getElem?_cons_succ] at x0 x1
    have hzw : (Lit.int .i64 (t.size : Int)).wf = true := by
      have h1 : IntKind.i64.min = -9223372036854775808 := rfl
      have h2 : IntKind.i64.max = 9223372036854775807 := rfl
      simp only [Lit.wf, Bool.and_eq_true, decide_eq_true_eq]
      rw [h1, h2]
      exact ⟨by omega, by omega⟩
    go_wp2_with fail
    refine (mk_check hzw HM9.out.2.2.1 hc.1 hc.2 (by omega)).mono ?_
    rintro e Wa ⟨na, (⟨rfl, -⟩ | ⟨rfl, hno⟩)⟩
    · have HMa := Lib.hid (HM9.out.2.1.new_ na)
      clear na HM9 x0 x1
      go_wp2_with fail
      refine (MD.out _).mono ?_
      rintro e Wb ⟨rfl, nb⟩
      go_wp2_with fail
      refine (RD.out _).mono ?_
      rintro e Wc ⟨rfl, nc⟩
      have HMc := Lib.hid ((HMa.out.new_ nb).new_ nc)
      clear nb nc HMa
      go_wp2_with fail
      go_ret
      exact ⟨rfl, HMc.out⟩
    · exact absurd HO.out.1 hno
  · have h8' : (8192 : Int) < (t.size : Int) := by omega
    go_wp2_with fail
    refine (mk_of_long (by omega) (by omega)).mono ?_
    rintro e W2 ⟨rfl, n2⟩
    have o0 := Own.fresh W2 38 #[.int .i64 0, .slice none 0 0]
    have m0 : New w (W2.alloc (.cells #[.int .i64 0, .slice none 0 0] 38)) := (n1.new_ n2).alloc _
    have HM := Lib.hid (And.intro o0 m0)
    clear o0 m0 n1 n2
    go_wp2_with fail
    refine merkle_awake.mono ?_
    rintro e W3 ⟨rfl, n3⟩
    have HM3 := Lib.hid (And.intro (HM.out.1.new_ n3) (HM.out.2.new_ n3))
    clear n3 HM
    have x0 := HM3.out.1.cell 0
    have x1 := HM3.out.1.cell 1
    simp only [List.getElem?_toArray, List.getElem?_cons_zero, List.getElem?_cons_succ] at x0 x1
    go_wp2_with fail
    go_ret
    exact ⟨rfl, HM3.out.2⟩
theorem merkleFiles_walk {w : World} (s : ByteArray) (hs : s.size ≤ 140737488351232) (seed : Int) (hseed : (Lit.int .u64 seed).wf = true) (n : Int) (hn : (Lit.int .i64 n).wf = true) :
    Calls Tryz.prog 4 #[.string s, .int .u64 seed, .int .i64 n] w fun e W => e = .returned (.bool true) ∧ New w W := by
  have h1 : IntKind.u64.min = 0 := rfl
  have h2 : IntKind.u64.max = 18446744073709551615 := rfl
  simp only [Lit.wf, Bool.and_eq_true, decide_eq_true_eq] at hseed
  rw [h1, h2] at hseed
  have e : (Value.int .u64 seed) = U (BitVec.ofNat 64 seed.toNat) := by
    unfold U
    congr 1
    rw [BitVec.toNat_ofNat]
    omega
  rw [e]
  exact merkleFiles_core hn hs
end Go.Proofs.YtjcpdpdhegcgoaaGreatDoor
