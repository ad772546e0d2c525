/- The check of bytes, told by both; a text cut to 500 bytes. -/
import Derived.Test.YtjcpdpdhegcgoaaGreatDoorWireRefNum
namespace Go.Proofs.YtjcpdpdhegcgoaaGreatDoor
open Go.RowKit
set_option linter.unusedVariables false

/-- The clipped number of bytes. -/
def clip (k : Int) : Nat := (min (max k 0) 8).toNat
/-- A number's digits. -/
def numB (k : Nat) (n : Nat) : ByteArray := ⟨(hexs (2 * k) n).toArray⟩
theorem numB_size (k n : Nat) : (numB k n).size = 2 * k := by
  unfold numB
  show (hexs (2 * k) n).toArray.size = _
  rw [List.size_toArray, hexs_length]
theorem clip_cases (k : Int) : clip k ≤ 8 ∧ ((k < 0 ∧ clip k = 0) ∨ (¬ k < 0 ∧ ¬ 8 < k ∧ k = clip k) ∨ (¬ k < 0 ∧ 8 < k ∧ clip k = 8)) := by
  unfold clip
  omega
theorem number_any (n : Nat) (hn : n ≤ 18446744073709551615) (k : Int) (w : World) :
    Calls Tryz.prog 52 #[.int .u64 n, .int .i64 k] w fun e w' => e = .returned (.string (numB (clip k) n)) ∧ New w w' :=
  number_core n hn k (clip k) (clip_cases k).1 (clip_cases k).2 w
theorem refNumber_any (n : Nat) (hn : n ≤ 18446744073709551615) (k : Int) (w : World) :
    Calls Tryz.prog 37 #[.int .u64 n, .int .i64 k] w fun e w' => e = .returned (.string (numB (clip k) n)) ∧ New w w' :=
  refNumber_core n hn k (clip k) (clip_cases k).1 (clip_cases k).2 w

def fnvStep (h : Nat) (c : UInt8) : Nat := (h ^^^ c.toNat) * 16777619 % 4294967296
def fnvL (l : List UInt8) : Nat := l.foldl fnvStep 2166136261
theorem fnvL_lt (l : List UInt8) : fnvL l < 4294967296 := by
  unfold fnvL
  rcases List.eq_nil_or_concat l with rfl | ⟨l, c, rfl⟩
  · show 2166136261 < 4294967296
    omega
  · rw [List.concat_eq_append, List.foldl_append, List.foldl_cons, List.foldl_nil]
    unfold fnvStep
    omega
theorem fnvL_snoc (l : List UInt8) (c : UInt8) : fnvL (l ++ [c]) = fnvStep (fnvL l) c := by
  unfold fnvL
  rw [List.foldl_append, List.foldl_cons, List.foldl_nil]
theorem take_snoc (s : ByteArray) (k : Nat) (h : k < s.size) : s.data.toList.take (k + 1) = s.data.toList.take k ++ [s[k]] := by
  rw [List.take_succ_eq_append_getElem (by simpa using h)]
  rfl
def fnvB (s : ByteArray) : Nat := fnvL s.data.toList
theorem fnvB_lt (s : ByteArray) : fnvB s < 4294967296 := fnvL_lt _

theorem fnv_u32 (h : Nat) (hh : h < 4294967296) (c : UInt8) : bits .xor .u32 (h : Int) (c.toNat : Int) = ((h ^^^ c.toNat : Nat) : Int) :=
  u32_xor_nat h c.toNat hh (by have := c.toNat_lt; omega)
theorem fnv_u64 (h : Nat) (hh : h < 4294967296) (c : UInt8) : bits .xor .u64 (h : Int) (c.toNat : Int) = ((h ^^^ c.toNat : Nat) : Int) :=
  u64_xor_nat h c.toNat (by omega) (by have := c.toNat_lt; omega)
theorem xor_lt (h : Nat) (hh : h < 4294967296) (c : UInt8) : h ^^^ c.toNat < 4294967296 :=
  Nat.xor_lt_two_pow (n := 32) (by simpa using hh) (by have := c.toNat_lt; omega)


/-- A text that is not too long. -/
def few03 (s : ByteArray) : ByteArray := if 500 < s.size then s.extract 0 500 else s
theorem few03_size (s : ByteArray) : (few03 s).size ≤ 500 := by
  unfold few03
  split
  · simp; omega
  · omega
end Go.Proofs.YtjcpdpdhegcgoaaGreatDoor
