/- WireMosts: the walk. -/
import Derived.Test.YtfkbljanmjnefaaWirePlain
import Derived.Test.YtfkbljanmjnefaaWireLetters
namespace Go.Proofs.Ytfkbljanmjnefaa
open Go.RowKit
set_option linter.unusedVariables false


theorem wf_i64 {a : Int} (h : (Lit.int .i64 a).wf = true) : -9223372036854775808 ≤ a ∧ a ≤ 9223372036854775807 := by
  simp [Lit.wf] at h
  exact ⟨h.1, h.2⟩
theorem most_at (s : ByteArray) (hs : s.size < 4294967296) (most : Int) : ∃ z, z = numB 4 s.size ++ s ++ ⟨#[121]⟩ ∧ z.size = 9 + s.size ∧ rText ⟨z, 0, 0⟩ most = (if most < 0 ∨ most < s.size then (⟨z, 0, 3⟩, .empty) else (⟨z, 8 + s.size, 0⟩, s)) ∧ rBool ⟨z, 8 + s.size, 0⟩ = (⟨z, 9 + s.size, 0⟩, true) ∧ rEnd ⟨z, 9 + s.size, 0⟩ = ⟨z, 9 + s.size, 0⟩ := by
  have hz := numB_size 4 s.size
  have hy : (⟨#[121]⟩ : ByteArray).size = 1 := rfl
  have hzz : (numB 4 s.size ++ s ++ (⟨#[121]⟩ : ByteArray)).size = 9 + s.size := by simp [hz, hy]; omega
  refine ⟨_, rfl, hzz, ?_, ?_, ?_⟩
  · have h := rText_at .empty s ⟨#[121]⟩ hs most
    rw [ByteArray.empty_append] at h
    simpa [ByteArray.size_empty] using h
  · have hB := rBytes_at (numB 4 s.size ++ s) ⟨#[121]⟩ .empty 1 rfl
    rw [ByteArray.append_empty] at hB
    have e1 : (((numB 4 s.size ++ s).size : Nat) : Int) = 8 + (s.size : Int) := by rw [ByteArray.size_append, hz]; omega
    rw [e1, hy] at hB
    have e2 : (8 : Int) + s.size + ((1 : Nat) : Int) = 9 + s.size := by omega
    rw [e2] at hB
    unfold rBool
    rw [if_pos rfl, hB]
    have hl : ((⟨#[121]⟩ : ByteArray).toList == [121]) = true := by decide +kernel
    rw [if_pos rfl]
    exact if_pos hl
  · unfold rEnd
    rw [if_neg (by simp only [hzz]; omega)]

end Go.Proofs.Ytfkbljanmjnefaa
