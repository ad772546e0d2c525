/- The reference's digits. -/
import Derived.Test.YtjcpdpdhegcgoaaGreatDoorWireNum
namespace Go.Proofs.YtjcpdpdhegcgoaaGreatDoor
open Go.RowKit
set_option linter.unusedVariables false

theorem hexs_top (j n : Nat) : hexs (j + 1) n = dig (n / 16 ^ j % 16) :: hexs j n := by
  induction j generalizing n with
  | zero => simp [hexs]
  | succ j ih =>
    rw [hexs, ih (n / 16), hexs, Nat.div_div_eq_div_mul, Nat.pow_succ, Nat.mul_comm]
    rfl
theorem dig_num {d : Nat} (hd : d < 16) : ((dig d).toNat : Int) = if d < 10 then 48 + (d : Int) else 87 + (d : Int) := by
  revert d
  decide
/-- A one-byte slice of the call's own, told as a string. -/
theorem byte_string (w : World) (c : UInt8) (x : Int) (hx : (c.toNat : Int) = x) : (convert 82 9 (.slice (some ⟨w.heap.size, 0, none⟩) 1 1)).run Tryz.prog (w.alloc (.cells #[.int .u8 x] 5)) = .ok (.string ⟨#[c]⟩) (w.alloc (.cells #[.int .u8 x] 5)) := by
  subst hx
  exact run_convert_bytes_back (P := Tryz.prog) (w.alloc (.cells #[.int .u8 c.toNat] 5)) 82 9 5 ⟨w.heap.size, 0, none⟩ 1 [c] Tryz.underlying82 Tryz.underlying5 Tryz.underlying9 (fun j hj => by
    obtain rfl : j = 0 := by simpa using hj
    exact (Own.fresh w 5 #[.int .u8 c.toNat]).cell 0)
set_option maxRecDepth 100000 in
theorem digit_any (d : Nat) (hd : d < 16) (w : World) : Calls Tryz.prog 67 #[.int .u64 d] w fun e w' => e = .returned (.string ⟨#[dig d]⟩) ∧ New w w' := by
  have hn := dig_num hd
  rcases (by omega : d < 10 ∨ 10 ≤ d) with h | h
  · rw [if_pos h] at hn
    have hc := byte_string w (dig d) _ hn
    clear hn
    go_enter Tryz.func67, Tryz.ntmps67
    go_wp2
    go_ret
    exact ⟨rfl, by repeat (first | with_reducible exact Fr.refl _ _ | with_reducible assumption | with_reducible refine Fr.drew ?_ | with_reducible refine Fr.drewN ?_ _ | with_reducible refine Fr.alloc ?_ _ | with_reducible refine Fr.set ?_ (by first | exact fun _ => rfl | (intro hlt; exfalso; simp at hlt; try omega) | (simp; omega)) _ | with_reducible refine Fr.new_ ?_ (by assumption))⟩
  · rw [if_neg (by omega)] at hn
    have hc := byte_string w (dig d) _ hn
    clear hn
    go_enter Tryz.func67, Tryz.ntmps67
    go_wp2
    go_ret
    exact ⟨rfl, by repeat (first | with_reducible exact Fr.refl _ _ | with_reducible assumption | with_reducible refine Fr.drew ?_ | with_reducible refine Fr.drewN ?_ _ | with_reducible refine Fr.alloc ?_ _ | with_reducible refine Fr.set ?_ (by first | exact fun _ => rfl | (intro hlt; exfalso; simp at hlt; try omega) | (simp; omega)) _ | with_reducible refine Fr.new_ ?_ (by assumption))⟩

set_option maxRecDepth 100000 in
set_option maxHeartbeats 1000000 in
theorem refNumber_core (n : Nat) (hn : n ≤ 18446744073709551615) (k : Int) (m : Nat) (hm : m ≤ 8) (hk : (k < 0 ∧ m = 0) ∨ (¬ k < 0 ∧ ¬ 8 < k ∧ k = m) ∨ (¬ k < 0 ∧ 8 < k ∧ m = 8)) (w : World) :
    Calls Tryz.prog 37 #[.int .u64 n, .int .i64 k] w fun e w' => e = .returned (.string ⟨(hexs (2 * m) n).toArray⟩) ∧ New w w' := by
  rcases hk with ⟨h, e⟩ | ⟨h, h2, rfl⟩ | ⟨h, h2, e⟩
  all_goals
    first | (have E := Lib.hid e; clear e) | (have E : Hid (m = m) := rfl)
    go_enter Tryz.func37, Tryz.ntmps37
    go_wp2_with fail
  all_goals
    go_loopw [0, 5, 7] (fun nv sv iv wr => ∃ i y : Nat, iv = .int .i64 i ∧ i ≤ 2 * m ∧ nv = .int .u64 (y : Int) ∧ Hid (y = n / 16 ^ i) ∧ y ≤ 18446744073709551615 ∧ sv = .string ⟨(hexs i n).toArray⟩ ∧ New w wr) (fun _ _ iv _ => 2 * m - (intOf iv).toNat)
    case atStart => exact ⟨0, n, rfl, by omega, rfl, by unfold Hid; simp, hn, rfl, by repeat (first | with_reducible exact Fr.refl _ _ | with_reducible assumption | with_reducible refine Fr.drew ?_ | with_reducible refine Fr.drewN ?_ _ | with_reducible refine Fr.alloc ?_ _ | with_reducible refine Fr.set ?_ (by first | exact fun _ => rfl | (intro hlt; exfalso; simp at hlt; try omega) | (simp; omega)) _ | with_reducible refine Fr.new_ ?_ (by assumption))⟩
    case round =>
      obtain ⟨i, y, rfl, hi, rfl, HY, hle, rfl, hnr⟩ := hrel
      by_cases hlt : i < 2 * m
      · first
          | (exfalso; have := E.out; omega)
          | (have hlt' : (i : Int) < 2 * (m : Int) := by omega
             have h16 : (i : Int) < 16 := by omega
             have hL : (hexs i n).length ≤ 100 := by rw [hexs_length]; omega
             go_wp2_with fail
             rw [show ((y : Int) % 16) = ((y % 16 : Nat) : Int) by omega]
             refine (digit_any (y % 16) (Nat.mod_lt _ (by omega)) _).mono ?_
             rintro e w2 ⟨rfl, hn2⟩
             go_wp2_with fail
             go_roundw
             case rel =>
               refine ⟨i + 1, y / 16, by go_num, by omega, by simp, ?_, by omega, ?_, hnr.new_ hn2⟩
               · show y / 16 = n / 16 ^ (i + 1)
                 rw [HY.out, Nat.div_div_eq_div_mul, ← Nat.pow_succ]
               · rw [hexs_top, ← HY.out]
                 first | rfl | (simp; done)
             case measure => simp [intOf]; omega)
      · have h1 : ¬ (i : Int) < 2 * (m : Int) := by omega
        have h2 : ¬ (i : Int) < 0 := by omega
        first | (have h3 : ¬ (i : Int) < 16 := by (have := E.out; omega)) | skip
        have hi2 : i = 2 * m := by omega
        have HI := Lib.hid hi2
        clear hi2
        go_wp2_with fail
        go_ret
        exact ⟨by rw [HI.out]; rfl, hnr⟩
end Go.Proofs.YtjcpdpdhegcgoaaGreatDoor
