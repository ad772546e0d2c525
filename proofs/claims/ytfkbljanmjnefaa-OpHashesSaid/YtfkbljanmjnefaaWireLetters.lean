/- awake of chapter 3; WireChecks, WireLetters: walks. -/
import Derived.Test.YtfkbljanmjnefaaWireEnd
import Derived.Test.YtfkbljanmjnefaaOpen
namespace Go.Proofs.Ytfkbljanmjnefaa
open Go.RowKit
set_option linter.unusedVariables false

theorem numB_258 : numB (clip 2) 258 = ⟨#[48, 49, 48, 50]⟩ := by decide +kernel
theorem rNumber_258 : rNumber ⟨⟨#[48, 49, 48, 50]⟩, 0, 0⟩ 2 = (⟨⟨#[48, 49, 48, 50]⟩, 4, 0⟩, 258) := by rfl
theorem rEnd_4 : rEnd ⟨⟨#[48, 49, 48, 50]⟩, 4, 0⟩ = ⟨⟨#[48, 49, 48, 50]⟩, 4, 0⟩ := by rfl
theorem Fr.into {w w1 w2 : World} {b : Nat} (h : New w w1) (k : Fr (· = b) w1 w2) (hb : w.heap.size ≤ b) : New w w2 := Fr.trans h k fun i hi e => by omega


theorem rNumber_err {r : Rd} (h : r.ok) (k : Int) (he : r.err = 0) : (rNumber r k).1.err = 0 ∨ (rNumber r k).1.pos = r.pos := by
  unfold rNumber
  rw [if_pos he]
  split
  · exact .inr rfl
  · split
    · exact .inr rfl
    · split
      · exact .inl rfl
      · exact .inr rfl
end Go.Proofs.Ytfkbljanmjnefaa
