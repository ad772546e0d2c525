/- Numbers and texts in bytes: plain laws (no program in sight): what is told is taken again. -/
import Derived.Test.YtjcpdpdhegcgoaaGreatDoorWireEnd
import Derived.Laws.Bits128
namespace Go.Proofs.YtjcpdpdhegcgoaaGreatDoor
open Go.RowKit
set_option linter.unusedVariables false

theorem hexv_dig : ∀ d : Nat, d < 16 → hexv (dig d) = d := by decide
theorem numL_hexs (j : Nat) : ∀ n, numL (hexs j n) = some (n % 16 ^ j) := by
  induction j with
  | zero => intro n; simp [hexs, numL, Nat.mod_one]
  | succ j ih =>
    intro n
    rw [hexs, numL_snoc, ih]
    have hd : n % 16 < 16 := Nat.mod_lt _ (by omega)
    unfold valStep
    simp only [Option.bind_some, hexv_dig _ hd, if_pos hd, Option.some.injEq]
    have e : n % 16 ^ (j + 1) = (n / 16 % 16 ^ j) * 16 + n % 16 := by
      rw [Nat.pow_succ, Nat.mul_comm (16 ^ j) 16, Nat.mod_mul]
      omega
    exact e.symm
theorem extract_mid (a b c : ByteArray) (i j : Nat) (hi : i = a.size) (hj : j = a.size + b.size) : (a ++ b ++ c).extract i j = b := by
  subst hi hj
  apply ByteArray.ext
  apply Array.ext'
  have e1 : List.drop a.size a.data.toList = [] := List.drop_of_length_le (by simp)
  have e2 : List.take b.size b.data.toList = b.data.toList := List.take_of_length_le (by simp)
  simp [e1, e2]
theorem extract_end (a b : ByteArray) (i j : Nat) (hi : i = a.size) (hj : j = a.size + b.size) : (a ++ b).extract i j = b := by
  subst hi hj
  apply ByteArray.ext
  apply Array.ext'
  have e1 : List.drop a.size a.data.toList = [] := List.drop_of_length_le (by simp)
  have e2 : List.take b.size b.data.toList = b.data.toList := List.take_of_length_le (by simp)
  simp [e1, e2]
theorem rNumber_at (a c : ByteArray) (k n : Nat) (hk : k ≤ 8) : rNumber ⟨a ++ numB k n ++ c, a.size, 0⟩ k = (⟨a ++ numB k n ++ c, a.size + 2 * k, 0⟩, n % 16 ^ (2 * k)) := by
  have hsz := numB_size k n
  have hx : (a ++ numB k n ++ c).size = a.size + 2 * k + c.size := by simp [hsz]
  unfold rNumber
  rw [if_pos rfl, if_neg (by omega), if_neg (by simp only [hx]; omega)]
  simp only
  rw [extract_mid a (numB k n) c _ _ (by omega) (by rw [hsz]; omega)]
  show (match numL (hexs (2 * k) n) with | some n => _ | none => _) = _
  rw [numL_hexs]
theorem rBytes_at (a b c : ByteArray) (n : Int) (hn : n = b.size) : rBytes ⟨a ++ b ++ c, a.size, 0⟩ n = (⟨a ++ b ++ c, a.size + b.size, 0⟩, b) := by
  subst hn
  have hx : (a ++ b ++ c).size = a.size + b.size + c.size := by simp
  unfold rBytes
  rw [if_pos rfl, if_neg (by omega), if_neg (by simp only [hx]; omega)]
  simp only
  rw [extract_mid a b c _ _ (by omega) (by omega)]
theorem clip4 : clip 4 = 4 := by decide
theorem i64_and255 (n : Int) : bits .and .i64 n 255 = n % 256 := by
  have h127 : (BitVec.ofInt 64 255).toNat = 2 ^ 8 - 1 := by decide
  have key : (BitVec.ofInt 64 n &&& BitVec.ofInt 64 255).toNat = (n % ((2 ^ 64 : Nat) : Int)).toNat % 2 ^ 8 := by
    rw [BitVec.toNat_and, BitVec.toNat_ofInt, h127, Nat.and_two_pow_sub_one_eq_mod]
  show IntKind.i64.wrap ((BitVec.ofInt 64 n &&& BitVec.ofInt 64 255).toNat : Nat) = n % 256
  rw [key, IntKind.wrap_i64]
  omega
theorem rCount_at (a c : ByteArray) (n : Nat) (hn : n < 4294967296) (most : Int) : rCount ⟨a ++ numB 4 n ++ c, a.size, 0⟩ most = if most < 0 ∨ most < n then (⟨a ++ numB 4 n ++ c, a.size, 3⟩, 0) else (⟨a ++ numB 4 n ++ c, a.size + 8, 0⟩, (n : Int)) := by
  have h := rNumber_at a c 4 n (by omega)
  have h2 : n % 16 ^ (2 * 4) = n := Nat.mod_eq_of_lt (by simpa using hn)
  rw [h2] at h
  have h3 : rNumber ⟨a ++ numB 4 n ++ c, a.size, 0⟩ 4 = (⟨a ++ numB 4 n ++ c, a.size + 8, 0⟩, n) := by simpa using h
  unfold rCount
  rw [if_pos rfl, h3]
  rfl
theorem rText_at (a b c : ByteArray) (hb : b.size < 4294967296) (most : Int) : rText ⟨a ++ numB 4 b.size ++ b ++ c, a.size, 0⟩ most = if most < 0 ∨ most < b.size then (⟨a ++ numB 4 b.size ++ b ++ c, a.size, 3⟩, .empty) else (⟨a ++ numB 4 b.size ++ b ++ c, a.size + 8 + b.size, 0⟩, b) := by
  have hc := rCount_at a (b ++ c) b.size hb most
  rw [← ByteArray.append_assoc] at hc
  have hz : (a ++ numB 4 b.size).size = a.size + 8 := by simp [numB_size]
  have hB := rBytes_at (a ++ numB 4 b.size) b c b.size rfl
  rw [hz] at hB
  unfold rText
  rw [if_pos rfl, hc]
  by_cases hm : most < 0 ∨ most < b.size
  · rw [if_pos hm, if_pos hm]
    rw [if_neg]
    · rfl
    · simp [rBytes]
  · rw [if_neg hm, if_neg hm]
    have e : (((a.size + 8 : Nat) : Int)) = (a.size : Int) + 8 := by omega
    rw [e] at hB
    simp only
    rw [hB, if_pos rfl]
end Go.Proofs.YtjcpdpdhegcgoaaGreatDoor
