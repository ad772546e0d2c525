/- The reference's text of parts, and its digest. -/
import Derived.Test.YtfkbljanmjnefaaShaTagged
namespace Go.Proofs.Ytfkbljanmjnefaa
open Go.RowKit
set_option linter.unusedVariables false

theorem conv_own {W : World} {b : Nat} {p : UInt8} (h : Own W b 5 #[.int .u8 p.toNat]) : (convert 22 9 (.slice (some ⟨b, 0, none⟩) 1 1)).run Try.prog W = .ok (.string ⟨#[p]⟩) W :=
  run_convert_bytes_back (P := Try.prog) W 22 9 5 ⟨b, 0, none⟩ 1 [p] Try.underlying22 Try.underlying5 Try.underlying9 (fun j hj => by
    obtain rfl : j = 0 := by simpa using hj
    exact h.cell 0)
theorem parts_start (p : UInt8) (n : Nat) (V : Nat → ByteArray) : (⟨#[p]⟩ ++ ⟨(bytesN 4 n).toArray⟩ : ByteArray) = ⟨(headL p n V 0).toArray⟩ := by
  apply ByteArray.ext
  apply Array.ext'
  rw [app_list]
  simp [headL]
end Go.Proofs.Ytfkbljanmjnefaa
