/- Numbers as bytes, rows of bytes, noughts. -/
import Derived.Test.YtjcpdpdhegcgoaaGreatDoorShaRefMix
import Derived.Test.YtjcpdpdhegcgoaaGreatDoorShelfRepeat
import Derived.Test.YtjcpdpdhegcgoaaGreatDoorBuilderW
import Derived.Laws.MakeOwn

namespace Go.Proofs.YtjcpdpdhegcgoaaGreatDoor
open Go.RowKit
set_option linter.unusedVariables false

theorem bytesN_top (j n : Nat) : bytesN (j + 1) n = UInt8.ofNat (n / 256 ^ j % 256) :: bytesN j n := by
  induction j generalizing n with
  | zero => simp [bytesN]
  | succ j ih =>
    rw [bytesN, ih (n / 256), bytesN, Nat.div_div_eq_div_mul, Nat.pow_succ, Nat.mul_comm]
    rfl
/-- The row of a number's bytes when j are still to be put. -/
def numRow (k n j : Nat) : Array Value := (List.replicate j (Value.int .u8 0) ++ (bytesN (k - j) n).map fun c => Value.int .u8 c.toNat).toArray
theorem numRow_size (k n j : Nat) (h : j ≤ k) : (numRow k n j).size = k := by
  simp [numRow, bytesN_length]
  omega
theorem numRow_set (k n j : Nat) (h : j < k) : (numRow k n (j + 1)).setIfInBounds j (.int .u8 ((n / 256 ^ (k - (j + 1)) % 256 : Nat) : Int)) = numRow k n j := by
  unfold numRow
  rw [show k - j = (k - (j + 1)) + 1 by omega, bytesN_top, List.replicate_succ']
  simp only [List.setIfInBounds_toArray]
  congr 1
  rw [List.append_assoc, List.set_append_right _ _ (by simp)]
  simp
theorem numRow_get (k n : Nat) (j : Nat) (h : j < k) : (numRow k n 0)[j]? = some (.int .u8 (((bytesN k n)[j]'(by rw [bytesN_length]; exact h)).toNat : Int)) := by
  unfold numRow
  simp [bytesN_length, h]

theorem make_bytes (w : World) (k : Nat) (hk : k ≤ 16777216) :
    (Instr.makeSlice 82 (.int .i64 (k : Int)) (.int .i64 (k : Int))).run Tryz.prog w = .ok (.slice (some ⟨w.heap.size, 0, none⟩) k k) (w.alloc (.cells (Array.replicate k (.int .u8 0)) 5)) := by
  obtain ⟨i, hi, hv⟩ := Option.map_eq_some_iff.1 info_u8
  have h1 : i.zero = some (.int .u8 0) := congrArg Prod.fst hv
  have h2 : i.size = 1 := congrArg (fun x => x.2.1) hv
  have h3 : i.bytes = 1 := congrArg (fun x => x.2.2) hv
  have hr := run_makeSlice (P := Tryz.prog) (w := w) 82 5 i _ Tryz.underlying82 hi h1 .i64 .i64 k k (by omega) (by omega) (by rw [h2]; omega) (by rw [h3]; omega) (by omega)
  rw [hr]
  have e : madeCells (Value.int .u8 0).cells ((k : Int).toNat * i.size) = Array.replicate k (.int .u8 0) := by
    rw [h2]
    apply Array.ext
    · simp [madeCells]
    · intro j h1 h2
      simp [madeCells, Value.cells, Nat.mod_one]
  rw [e]
  rfl
set_option maxRecDepth 100000 in
theorem shaNumber_any (n k : Nat) (hn : n ≤ 18446744073709551615) (hk : k ≤ 8) (hk1 : 0 < k) (w : World) :
    Calls Tryz.prog 76 #[.int .u64 n, .int .i64 k] w fun e w' => e = .returned (.string ⟨(bytesN k n).toArray⟩) ∧ New w w' := by
  have hk2 : (k : Int) ≤ 8 := by omega
  have hm := fun w => make_bytes w k (by omega)
  go_enter Tryz.func76, Tryz.ntmps76
  go_wp2
  go_loopw [0, 6] (fun nv iv wr => ∃ (j m : Nat) (x : Int), j ≤ k ∧ m ≤ 18446744073709551615 ∧ iv = .int .i64 x ∧ x = (j : Int) - 1 ∧ nv = .int .u64 m ∧ Hid (m = n / 256 ^ (k - j)) ∧ Own wr w.heap.size 5 (numRow k n j) ∧ New w wr) (fun _ iv _ => (intOf iv + 1).toNat)
  case atStart =>
    refine ⟨k, n, _, by omega, hn, rfl, by omega, rfl, ?_, ?_, by repeat (first | with_reducible exact Fr.refl _ _ | with_reducible assumption | with_reducible refine Fr.drew ?_ | with_reducible refine Fr.drewN ?_ _ | with_reducible refine Fr.alloc ?_ _ | with_reducible refine Fr.set ?_ (by first | exact fun _ => rfl | (intro hlt; exfalso; simp at hlt; try omega) | (simp; omega)) _ | with_reducible refine Fr.new_ ?_ (by with_reducible assumption) | (with_reducible refine Fr.trans ?_ (by with_reducible assumption) (fun i hi e => by (first | omega | (simp at e; omega)))))⟩
    · show n = _
      rw [Nat.sub_self, Nat.pow_zero, Nat.div_one]
    · have e : numRow k n k = Array.replicate k (.int .u8 0) := by
        unfold numRow
        rw [Nat.sub_self]
        simp [bytesN]
      rw [e]
      exact Own.fresh _ _ _
  case round =>
    obtain ⟨j, m, x, hj, hm2, rfl, hx, rfl, HM, ho, hn2⟩ := hrel
    rcases j with _ | j
    · obtain rfl : x = -1 := by omega
      clear hx
      have hcv := run_convert_bytes_back (P := Tryz.prog) wr 82 9 5 ⟨w.heap.size, 0, none⟩ k (bytesN k n) Tryz.underlying82 Tryz.underlying5 Tryz.underlying9 (fun j hj => by
        have hj' : j < k := by rw [bytesN_length] at hj; exact hj
        have e := ho.cell j
        rw [numRow_get k n j hj'] at e
        rw [← e]
        congr 1
        unfold Addr.add
        split <;> simp_all)
      rw [bytesN_length] at hcv
      go_wp2
      go_ret
      exact ⟨rfl, hn2⟩
    · obtain rfl : x = (j : Int) := by omega
      clear hx
      have hjk : (j : Int) < (k : Int) := by omega
      have hjk2 : j < k := by omega
      have rf := ho.free j
      obtain ⟨c0, hc0⟩ : ∃ c, wr.cell? ⟨w.heap.size, j, none⟩ = some c := by
        rw [ho.cell j]
        exact ⟨_, Array.getElem?_eq_getElem (by rw [numRow_size _ _ _ hj]; exact hjk2)⟩
      go_wp2
      go_roundw
      case rel =>
        refine ⟨j, m / 256, _, by omega, by omega, rfl, rfl, by simp, ?_, ho.put ?_, by repeat (first | with_reducible exact Fr.refl _ _ | with_reducible assumption | with_reducible refine Fr.drew ?_ | with_reducible refine Fr.drewN ?_ _ | with_reducible refine Fr.alloc ?_ _ | with_reducible refine Fr.set ?_ (by first | exact fun _ => rfl | (intro hlt; exfalso; simp at hlt; try omega) | (simp; omega)) _ | with_reducible refine Fr.new_ ?_ (by with_reducible assumption) | (with_reducible refine Fr.trans ?_ (by with_reducible assumption) (fun i hi e => by (first | omega | (simp at e; omega)))))⟩
        · show m / 256 = _
          rw [HM.out, Nat.div_div_eq_div_mul, ← Nat.pow_succ, show (k - (j + 1)).succ = k - j by omega]
        · have e := numRow_set k n j hjk2
          rw [← HM.out] at e
          rw [← e]
          rfl
      case measure => simp [intOf]
/-- A length's bytes of a string value. -/
def strLen : Value → Nat
  | .string r => r.size
  | _ => 0
theorem extract_list (r : ByteArray) (a b : Nat) : (r.extract a b).data.toList = (r.data.toList.drop a).take (b - a) := by
  rw [ByteArray.data_extract, Array.toList_extract, List.extract_eq_take_drop]
theorem data_len (r : ByteArray) : r.data.toList.length = r.size := by simp

theorem Own.put8 {w : World} {b : Nat} {t : TypeId} {v0 v1 v2 v3 v4 v5 v6 v7 u0 u1 u2 u3 u4 u5 u6 u7 : Value} (h : Own w b t #[v0, v1, v2, v3, v4, v5, v6, v7]) : Own ((((((((w.setCell ⟨b, 0, none⟩ u0).setCell ⟨b, 1, none⟩ u1).setCell ⟨b, 2, none⟩ u2).setCell ⟨b, 3, none⟩ u3).setCell ⟨b, 4, none⟩ u4).setCell ⟨b, 5, none⟩ u5).setCell ⟨b, 6, none⟩ u6).setCell ⟨b, 7, none⟩ u7) b t #[u0, u1, u2, u3, u4, u5, u6, u7] := by
  have h0 : Own (w.setCell ⟨b, 0, none⟩ u0) b t #[u0, v1, v2, v3, v4, v5, v6, v7] := h.set 0 u0
  have h1 : Own ((w.setCell ⟨b, 0, none⟩ u0).setCell ⟨b, 1, none⟩ u1) b t #[u0, u1, v2, v3, v4, v5, v6, v7] := h0.set 1 u1
  have h2 : Own (((w.setCell ⟨b, 0, none⟩ u0).setCell ⟨b, 1, none⟩ u1).setCell ⟨b, 2, none⟩ u2) b t #[u0, u1, u2, v3, v4, v5, v6, v7] := h1.set 2 u2
  have h3 : Own ((((w.setCell ⟨b, 0, none⟩ u0).setCell ⟨b, 1, none⟩ u1).setCell ⟨b, 2, none⟩ u2).setCell ⟨b, 3, none⟩ u3) b t #[u0, u1, u2, u3, v4, v5, v6, v7] := h2.set 3 u3
  have h4 : Own (((((w.setCell ⟨b, 0, none⟩ u0).setCell ⟨b, 1, none⟩ u1).setCell ⟨b, 2, none⟩ u2).setCell ⟨b, 3, none⟩ u3).setCell ⟨b, 4, none⟩ u4) b t #[u0, u1, u2, u3, u4, v5, v6, v7] := h3.set 4 u4
  have h5 : Own ((((((w.setCell ⟨b, 0, none⟩ u0).setCell ⟨b, 1, none⟩ u1).setCell ⟨b, 2, none⟩ u2).setCell ⟨b, 3, none⟩ u3).setCell ⟨b, 4, none⟩ u4).setCell ⟨b, 5, none⟩ u5) b t #[u0, u1, u2, u3, u4, u5, v6, v7] := h4.set 5 u5
  have h6 : Own (((((((w.setCell ⟨b, 0, none⟩ u0).setCell ⟨b, 1, none⟩ u1).setCell ⟨b, 2, none⟩ u2).setCell ⟨b, 3, none⟩ u3).setCell ⟨b, 4, none⟩ u4).setCell ⟨b, 5, none⟩ u5).setCell ⟨b, 6, none⟩ u6) b t #[u0, u1, u2, u3, u4, u5, u6, v7] := h5.set 6 u6
  have h7 : Own ((((((((w.setCell ⟨b, 0, none⟩ u0).setCell ⟨b, 1, none⟩ u1).setCell ⟨b, 2, none⟩ u2).setCell ⟨b, 3, none⟩ u3).setCell ⟨b, 4, none⟩ u4).setCell ⟨b, 5, none⟩ u5).setCell ⟨b, 6, none⟩ u6).setCell ⟨b, 7, none⟩ u7) b t #[u0, u1, u2, u3, u4, u5, u6, u7] := h6.set 7 u7
  exact h7
theorem repeat_zero (k : Nat) : Lib.repeatL [(0 : UInt8)] k = List.replicate k 0 := by
  induction k with
  | zero => rfl
  | succ k ih =>
    rw [List.replicate_succ, ← ih]
    rfl
theorem zerosS_any (k : Nat) (hk : k ≤ 1000) (w : World) : Calls Tryz.prog 84 #[.string ⟨#[0]⟩, .int .i64 (k : Int)] w fun e w' => e = .returned (.string ⟨(List.replicate k (0 : UInt8)).toArray⟩) ∧ New w w' :=
  (sh_strings_Repeat ⟨#[0]⟩ k w (by omega) (by show 1 * k ≤ _; omega)).mono fun e w' ⟨he, hb⟩ => ⟨by rw [he, ← repeat_zero], ⟨hb.os, hb.tape, hb.output, hb.size, fun i hi _ => hb.block i hi⟩⟩
end Go.Proofs.YtjcpdpdhegcgoaaGreatDoor
