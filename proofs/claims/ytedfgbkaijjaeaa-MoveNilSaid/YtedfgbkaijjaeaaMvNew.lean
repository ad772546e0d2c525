/- A tree without things. -/
import Derived.Test.YtedfgbkaijjaeaaMvPut
import Derived.Test.YtedfgbkaijjaeaaMvOrder
namespace Go.Proofs.Ytedfgbkaijjaeaa
open Go.RowKit Go.Maps
set_option linter.unusedVariables false
set_option linter.unusedSimpArgs false

set_option maxRecDepth 100000 in
set_option maxHeartbeats 1000000 in
theorem new_any {w : World} : Calls Try.prog 14 #[] w fun e W => e = .returned (.pointer (some ⟨w.heap.size + 2, 0, none⟩)) ∧ New w W ∧ ∃ X, TrB W (w.heap.size + 2) X [] noneS 0 ∧ ∀ k, X k → w.heap.size ≤ k := by
  have hmm := @run_makeMap Try.prog
  go_enter Try.func14, Try.ntmps14
  go_wp2
  go_ret
  refine ⟨rfl, ((Fr.refl _ _).alloc _).alloc _ |>.alloc _, fun k => k = w.heap.size + 2 ∨ k = w.heap.size ∨ k = w.heap.size + 1, ⟨.slice none 0 0, w.heap.size, w.heap.size + 1, 0, 0, fun _ => none, ?_, DL.nil _, ?_, ?_, ⟨?_, ?_, ?_⟩, by omega, ?_⟩, ?_⟩
  · exact Own.new' (by simp)
  · refine ((MapF.made w Try.prog 22).fr (((Fr.refl (fun _ => False) _).alloc _).alloc _) (fun g => g)).congr fun x => ?_
    unfold keyM
    split <;> rfl
  · have h := MapF.made (w.alloc (.map #[] 0)) Try.prog 22
    rw [show (w.alloc (.map #[] 0)).heap.size = w.heap.size + 1 by simp] at h
    refine (h.fr ((Fr.refl (fun _ => False) _).alloc _) (fun g => g)).congr fun x => ?_
    unfold keyM
    split <;> rfl
  · intro p v e
    cases e
  · intro p _
    rfl
  · intro p q v u k e
    cases e
  · intro k
    constructor
    · rintro (e | e | e)
      · exact .inl e
      · exact .inr (.inl e)
      · exact .inr (.inr (.inl e))
    · rintro (e | e | e | e | ⟨p, v, e, _⟩)
      · exact .inl e
      · exact .inr (.inl e)
      · exact .inr (.inr e)
      · cases e
      · cases e
  · rintro k (e | e | e) <;> omega
end Go.Proofs.Ytedfgbkaijjaeaa
