/- The check of bytes, told by both; a text cut to 500 bytes. -/
import Derived.Test.YtlefmnoaejpllaaWireRefNum
namespace Go.Proofs.Ytlefmnoaejpllaa
open Go.RowKit
set_option linter.unusedVariables false

/-- The clipped number of bytes. -/
def clip (k : Int) : Nat := (min (max k 0) 8).toNat
/-- A number's digits. -/
def numB (k : Nat) (n : Nat) : ByteArray := ⟨(hexs (2 * k) n).toArray⟩
theorem numB_size (k n : Nat) : (numB k n).size = 2 * k := by
  unfold numB
  show (hexs (2 * k) n).toArray.size = _
  rw [List.size_toArray, hexs_length]
theorem clip_cases (k : Int) : clip k ≤ 8 ∧ ((k < 0 ∧ clip k = 0) ∨ (¬ k < 0 ∧ ¬ 8 < k ∧ k = clip k) ∨ (¬ k < 0 ∧ 8 < k ∧ clip k = 8)) := by
  unfold clip
  omega
theorem number_any (n : Nat) (hn : n ≤ 18446744073709551615) (k : Int) (w : World) :
    Calls Try.prog 80 #[.int .u64 n, .int .i64 k] w fun e w' => e = .returned (.string (numB (clip k) n)) ∧ New w w' :=
  number_core n hn k (clip k) (clip_cases k).1 (clip_cases k).2 w
theorem refNumber_any (n : Nat) (hn : n ≤ 18446744073709551615) (k : Int) (w : World) :
    Calls Try.prog 63 #[.int .u64 n, .int .i64 k] w fun e w' => e = .returned (.string (numB (clip k) n)) ∧ New w w' :=
  refNumber_core n hn k (clip k) (clip_cases k).1 (clip_cases k).2 w

def fnvStep (h : Nat) (c : UInt8) : Nat := (h ^^^ c.toNat) * 16777619 % 4294967296
def fnvL (l : List UInt8) : Nat := l.foldl fnvStep 2166136261
theorem fnvL_lt (l : List UInt8) : fnvL l < 4294967296 := by
  unfold fnvL
  rcases List.eq_nil_or_concat l with rfl | ⟨l, c, rfl⟩
  · show 2166136261 < 4294967296
    omega
  · rw [List.concat_eq_append, List.foldl_append, List.foldl_cons, List.foldl_nil]
    unfold fnvStep
    omega
theorem fnvL_snoc (l : List UInt8) (c : UInt8) : fnvL (l ++ [c]) = fnvStep (fnvL l) c := by
  unfold fnvL
  rw [List.foldl_append, List.foldl_cons, List.foldl_nil]
theorem take_snoc (s : ByteArray) (k : Nat) (h : k < s.size) : s.data.toList.take (k + 1) = s.data.toList.take k ++ [s[k]] := by
  rw [List.take_succ_eq_append_getElem (by simpa using h)]
  rfl
def fnvB (s : ByteArray) : Nat := fnvL s.data.toList
theorem fnvB_lt (s : ByteArray) : fnvB s < 4294967296 := fnvL_lt _

theorem fnv_u32 (h : Nat) (hh : h < 4294967296) (c : UInt8) : bits .xor .u32 (h : Int) (c.toNat : Int) = ((h ^^^ c.toNat : Nat) : Int) :=
  u32_xor_nat h c.toNat hh (by have := c.toNat_lt; omega)
theorem fnv_u64 (h : Nat) (hh : h < 4294967296) (c : UInt8) : bits .xor .u64 (h : Int) (c.toNat : Int) = ((h ^^^ c.toNat : Nat) : Int) :=
  u64_xor_nat h c.toNat (by omega) (by have := c.toNat_lt; omega)
theorem xor_lt (h : Nat) (hh : h < 4294967296) (c : UInt8) : h ^^^ c.toNat < 4294967296 :=
  Nat.xor_lt_two_pow (n := 32) (by simpa using hh) (by have := c.toNat_lt; omega)

set_option maxRecDepth 100000 in
theorem fnv_any (s : ByteArray) (hs : s.size ≤ 9223372036854775807) (w : World) : Calls Try.prog 37 #[.string s] w fun e w' => e = .returned (.int .u32 (fnvB s)) ∧ w = w' := by
  go_enter Try.func37, Try.ntmps37
  go_wp2
  go_loop [3, 4] (fun hv iv => ∃ i h : Nat, i ≤ s.size ∧ iv = .int .i64 i ∧ hv = .int .u32 h ∧ h < 4294967296 ∧ Hid (h = fnvL (s.data.toList.take i))) (fun _ iv => s.size - (intOf iv).toNat)
  case atStart => exact ⟨0, 2166136261, by omega, rfl, rfl, by omega, rfl⟩
  case round =>
    obtain ⟨i, h, hi, rfl, rfl, hh, HH⟩ := hrel
    by_cases hlt : i < s.size
    · have hx := fnv_u32 h hh s[i]
      have hx2 := xor_lt h hh s[i]
      obtain ⟨x, hx3⟩ : ∃ x, h ^^^ s[i].toNat = x := ⟨_, rfl⟩
      have HX := Lib.hid hx3
      rw [hx3] at hx hx2
      clear hx3
      have hb : (s[i].toNat : Int) < 4294967296 := by have := s[i].toNat_lt; omega
      go_wp2
      go_round
      case rel =>
        refine ⟨i + 1, x * 16777619 % 4294967296, by omega, by go_num, ?_, by omega, ?_⟩
        · congr 1
        · show _ = _
          rw [take_snoc s i hlt, fnvL_snoc, ← HH.out]
          unfold fnvStep
          rw [HX.out]
      case measure => simp [intOf]; omega
    · go_wp2
      go_ret
      refine ⟨ret_int ?_, rfl⟩
      rw [HH.out, List.take_of_length_le (by simp; omega)]
      rfl
set_option maxRecDepth 100000 in
theorem refFnv_any (s : ByteArray) (hs : s.size ≤ 9223372036854775807) (w : World) : Calls Try.prog 38 #[.string s] w fun e w' => e = .returned (.int .u32 (fnvB s)) ∧ w = w' := by
  go_enter Try.func38, Try.ntmps38
  go_wp2
  go_loop [3, 4] (fun hv iv => ∃ i h : Nat, i ≤ s.size ∧ iv = .int .i64 i ∧ hv = .int .u64 h ∧ h < 4294967296 ∧ Hid (h = fnvL (s.data.toList.take i))) (fun _ iv => s.size - (intOf iv).toNat)
  case atStart => exact ⟨0, 2166136261, by omega, rfl, rfl, by omega, rfl⟩
  case round =>
    obtain ⟨i, h, hi, rfl, rfl, hh, HH⟩ := hrel
    by_cases hlt : i < s.size
    · have hx := fnv_u64 h hh s[i]
      have hx2 := xor_lt h hh s[i]
      obtain ⟨x, hx3⟩ : ∃ x, h ^^^ s[i].toNat = x := ⟨_, rfl⟩
      have HX := Lib.hid hx3
      rw [hx3] at hx hx2
      clear hx3
      have hb : (s[i].toNat : Int) < 4294967296 := by have := s[i].toNat_lt; omega
      have hx2' : (x : Int) < 4294967296 := by omega
      go_wp2
      go_round
      case rel =>
        refine ⟨i + 1, x * 16777619 % 4294967296, by omega, by go_num, ?_, by omega, ?_⟩
        · congr 1
        · show _ = _
          rw [take_snoc s i hlt, fnvL_snoc, ← HH.out]
          unfold fnvStep
          rw [HX.out]
      case measure => simp [intOf]; omega
    · go_wp2
      go_ret
      refine ⟨ret_int ?_, rfl⟩
      rw [HH.out, List.take_of_length_le (by simp; omega)]
      rfl

/-- A text that is not too long. -/
def few03 (s : ByteArray) : ByteArray := if 500 < s.size then s.extract 0 500 else s
theorem few03_size (s : ByteArray) : (few03 s).size ≤ 500 := by
  unfold few03
  split
  · simp; omega
  · omega
theorem few_any (s : ByteArray) (hs : s.size ≤ 9223372036854775807) (w : World) : Calls Try.prog 29 #[.string s] w fun e w' => e = .returned (.string (few03 s)) ∧ w = w' := by
  by_cases h : 500 < s.size
  · have hr : few03 s = s.extract 0 500 := if_pos h
    have HR := Lib.hid hr
    clear hr
    go_enter Try.func29, Try.ntmps29
    go_wp2
    go_ret
    exact ⟨ret_str HR.out.symm, rfl⟩
  · have hr : few03 s = s := if_neg h
    have HR := Lib.hid hr
    clear hr
    go_enter Try.func29, Try.ntmps29
    go_wp2
    go_ret
    exact ⟨ret_str HR.out.symm, rfl⟩
end Go.Proofs.Ytlefmnoaejpllaa
