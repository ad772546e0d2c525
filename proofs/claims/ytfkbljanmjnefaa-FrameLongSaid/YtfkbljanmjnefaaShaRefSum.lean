/- The reference's digest of bytes. -/
import Derived.Test.YtfkbljanmjnefaaShaNum
namespace Go.Proofs.Ytfkbljanmjnefaa
open Go.RowKit
set_option linter.unusedVariables false

/-- A one-byte slice of the call's own, told as a string. -/
theorem byteS_string (w : World) (c : UInt8) (x : Int) (hx : (c.toNat : Int) = x) : (convert 22 9 (.slice (some ⟨w.heap.size, 0, none⟩) 1 1)).run Try.prog (w.alloc (.cells #[.int .u8 x] 5)) = .ok (.string ⟨#[c]⟩) (w.alloc (.cells #[.int .u8 x] 5)) := by
  subst hx
  exact run_convert_bytes_back (P := Try.prog) (w.alloc (.cells #[.int .u8 c.toNat] 5)) 22 9 5 ⟨w.heap.size, 0, none⟩ 1 [c] Try.underlying22 Try.underlying5 Try.underlying9 (fun j hj => by
    obtain rfl : j = 0 := by simpa using hj
    exact (Own.fresh w 5 #[.int .u8 c.toNat]).cell 0)
theorem app_list (a b : ByteArray) : (a ++ b).data.toList = a.data.toList ++ b.data.toList := by simp

/-- The i-th byte of a digest. -/
def ShaS.word (s : ShaS) : Nat → W64
  | 0 => s.a
  | 1 => s.b
  | 2 => s.c
  | _ => s.d
def outF (M : ShaS) (i : Nat) : UInt8 := UInt8.ofNat ((M.word (i / 8)).toNat / 256 ^ (7 - i % 8) % 256)
theorem bytesN_get (k n j : Nat) (h : j < (bytesN k n).length) : (bytesN k n)[j] = UInt8.ofNat (n / 256 ^ (k - 1 - j) % 256) := by
  induction k generalizing j with
  | zero => exact absurd h (by rw [bytesN_length]; omega)
  | succ k ih =>
    rw [bytesN_length] at h
    simp only [bytesN_top]
    cases j with
    | zero => simp
    | succ j =>
      rw [List.getElem_cons_succ, ih j (by rw [bytesN_length]; omega)]
      congr 4
      omega
theorem out_list (M : ShaS) : M.out = (List.range 32).map (outF M) := by
  apply List.ext_getElem
  · simp [ShaS.out, bytesN_length]
  · intro j h1 h2
    rw [List.getElem_map, List.getElem_range]
    have hj : j < 32 := by simpa using h2
    unfold outF
    have hq : j / 8 = 0 ∨ j / 8 = 1 ∨ j / 8 = 2 ∨ j / 8 = 3 := by omega
    simp only [ShaS.out]
    rcases hq with e | e | e | e
    · rw [e, List.getElem_append_left (by simp [bytesN_length]; omega), List.getElem_append_left (by simp [bytesN_length]; omega), List.getElem_append_left (by simp [bytesN_length]; omega), bytesN_get]
      congr 4; omega
    · rw [e, List.getElem_append_left (by simp [bytesN_length]; omega), List.getElem_append_left (by simp [bytesN_length]; omega), List.getElem_append_right (by simp [bytesN_length]; omega), bytesN_get]
      congr 4; simp only [bytesN_length]; omega
    · rw [e, List.getElem_append_left (by simp [bytesN_length]; omega), List.getElem_append_right (by simp [bytesN_length]; omega), bytesN_get]
      congr 4; simp only [List.length_append, bytesN_length]; omega
    · rw [e, List.getElem_append_right (by simp [bytesN_length]; omega), bytesN_get]
      congr 4; simp only [List.length_append, bytesN_length]; omega
end Go.Proofs.Ytfkbljanmjnefaa
