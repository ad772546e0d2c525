/- The model: whether a packet's way is cut. -/
import Derived.Test.YtleagdnlgjpcgaaNetMod
namespace Go.Proofs.Ytleagdnlgjpcgaa
open Go.RowKit Go.Maps
set_option linter.unusedVariables false
set_option linter.unusedSimpArgs false

set_option maxHeartbeats 8000000 in
theorem mcut_any {w : World} {X : Nat → Prop} {mv : Value} {s : NetV} {p : Pkt} (h : ModB w X mv s) (hX : ∀ k, X k → k < w.heap.size) :
    Calls Try.prog 35 #[mv, p.v] w fun e W => e = .returned (.bool (decide (p.w ∈ s.c))) ∧ New w W := by
  obtain ⟨lv, wv, cv, C, rfl, -, -, hc, hC⟩ := h
  obtain ⟨A, cap, rfl, hw, hA⟩ := hc
  replace hC := hC.2
  have hmem : (p.w ∈ s.c) ↔ ∃ c ∈ C, wayOf c = p.w := hC _
  have hmx : C.length ≤ maxLen := hw.1
  go_enter Try.func35, Try.ntmps35
  go_wp2_with fail
  refine wp_world (fun W => Own W w.heap.size 43 #[lv, wv, .slice A C.length cap, .int .i64 s.sent, .int .i64 s.lost] ∧ Own W (w.heap.size + 1) 26 #[.int .i64 p.f, .int .i64 p.t, .string p.s] ∧ New w W) ⟨Own.alloc (Own.fresh _ _ _) _, Own.new' (by simp), ((Fr.refl _ _).alloc _).alloc _⟩ ?_
  rintro W1 ⟨bm, bp, hN⟩
  have hw1 : WyS W1 A C := hw.new_ hN
  have h0 := Lib.hid (And.intro bm (And.intro bp (And.intro hw1 (And.intro hN (And.intro hmem hA)))))
  clear bm bp hw1 hN hmem hA hw hC hX
  go_loopw [5] (fun iv wr => ∃ i : Nat, iv = .int .i64 i ∧ i ≤ C.length ∧ New W1 wr ∧ Hid (∀ j, j < i → ∀ c, C[j]? = some c → wayOf c ≠ p.w)) (fun iv _ => C.length - (intOf iv).toNat)
  case atStart => exact ⟨0, rfl, Nat.zero_le _, Fr.refl _ _, Lib.hid fun j hj => absurd hj (Nat.not_lt_zero j)⟩
  case round =>
    obtain ⟨i, rfl, hil, hN1, HJ⟩ := hrel
    have bm := h0.out.1.new_ hN1
    have bp := h0.out.2.1.new_ hN1
    have hw1 := h0.out.2.2.1.new_ hN1
    have m2 : wr.cell? ⟨w.heap.size, 2, none⟩ = some (.slice A C.length cap) := bm.cell 2
    obtain ⟨⟨p0, p1, p2⟩, -⟩ := own3c bp
    have l1 := bm.lt
    have l2 := bp.lt
    have HN := Lib.hid hN1
    by_cases hlt : i < C.length
    · have hlt2 : (i : Int) < (C.length : Int) := by omega
      obtain ⟨c, hci⟩ : ∃ c, C[i]? = some c := ⟨C[i], List.getElem?_eq_getElem hlt⟩
      obtain ⟨sb, so, hAe, hcc⟩ := hw1.2 i hlt
      simp only [hci] at hcc
      have a0 := hcc 0 _ rfl
      have a1 := hcc 1 _ rfl
      simp only [Nat.add_zero] at a0
      have HAe := Lib.hid hAe
      have HC := Lib.hid hci
      clear hcc hw1 bm bp hN1 hci
      subst hAe
      have hne1 : ¬ wr.heap.size = w.heap.size := by omega
      have hne2 : ¬ wr.heap.size = w.heap.size + 1 := by omega
      have hwi : wrap64 ((i : Int) + 1) = (i : Int) + 1 := by
        unfold wrap64
        simp only [maxLen] at hmx
        omega
      by_cases e1 : c.1 = p.f
      · by_cases e2 : c.2 = p.t
        · go_wp2_with fail
          refine bodyPost_ret (v := .bool true) (by simp [results, Try.results35, go_sem, *]) rfl ⟨?_, (h0.out.2.2.2.1.new_ HN.out).alloc _⟩
          rw [decide_eq_true (h0.out.2.2.2.2.1.2 ⟨c, List.mem_of_getElem? HC.out, wayOf_eq.2 (by omega)⟩)]
        · by_cases e5 : p.f = p.t
          · go_wp2_with fail
            rw [hwi]
            refine ⟨⟨i + 1, by simp, by omega, HN.out.alloc _, Lib.hid fun j hj c' hc' => ?_⟩, by simp [intOf]; omega⟩
            rcases Nat.lt_or_ge j i with hji | hji
            · exact HJ.out j hji c' hc'
            · obtain rfl : j = i := by omega
              rw [HC.out] at hc'
              cases hc'
              rw [Ne, wayOf_eq]
              omega
          · go_wp2_with fail
            rw [hwi]
            refine ⟨⟨i + 1, by simp, by omega, HN.out.alloc _, Lib.hid fun j hj c' hc' => ?_⟩, by simp [intOf]; omega⟩
            rcases Nat.lt_or_ge j i with hji | hji
            · exact HJ.out j hji c' hc'
            · obtain rfl : j = i := by omega
              rw [HC.out] at hc'
              cases hc'
              rw [Ne, wayOf_eq]
              omega
      · by_cases e3 : c.1 = p.t
        · by_cases e4 : c.2 = p.f
          · go_wp2_with fail
            refine bodyPost_ret (v := .bool true) (by simp [results, Try.results35, go_sem, *]) rfl ⟨?_, (h0.out.2.2.2.1.new_ HN.out).alloc _⟩
            rw [decide_eq_true (h0.out.2.2.2.2.1.2 ⟨c, List.mem_of_getElem? HC.out, wayOf_eq.2 (by omega)⟩)]
          · go_wp2_with fail
            rw [hwi]
            refine ⟨⟨i + 1, by simp, by omega, HN.out.alloc _, Lib.hid fun j hj c' hc' => ?_⟩, by simp [intOf]; omega⟩
            rcases Nat.lt_or_ge j i with hji | hji
            · exact HJ.out j hji c' hc'
            · obtain rfl : j = i := by omega
              rw [HC.out] at hc'
              cases hc'
              rw [Ne, wayOf_eq]
              omega
        · go_wp2_with fail
          rw [hwi]
          refine ⟨⟨i + 1, by simp, by omega, HN.out.alloc _, Lib.hid fun j hj c' hc' => ?_⟩, by simp [intOf]; omega⟩
          rcases Nat.lt_or_ge j i with hji | hji
          · exact HJ.out j hji c' hc'
          · obtain rfl : j = i := by omega
            rw [HC.out] at hc'
            cases hc'
            rw [Ne, wayOf_eq]
            omega
    · have hge : ¬ (i : Int) < (C.length : Int) := by omega
      clear hw1 bm bp hN1
      go_wp2_with fail
      refine bodyPost_ret (v := .bool false) (by simp [results, Try.results35, go_sem, *]) rfl ⟨?_, h0.out.2.2.2.1.new_ HN.out⟩
      rw [decide_eq_false]
      rw [h0.out.2.2.2.2.1]
      rintro ⟨c, hc, e⟩
      obtain ⟨j, hj⟩ := List.getElem?_of_mem hc
      exact HJ.out j (by have := (List.getElem?_eq_some_iff.1 hj).1; omega) c hj e
end Go.Proofs.Ytleagdnlgjpcgaa
