/- Numbers as digits: what wire.Number and the reference's Number tell. -/
import Derived.Test.YtjcpdpdhegcgoaaGreatDoorBuilderW
import Derived.LoopTactic
import Derived.Laws.BitsAllLaws
namespace Go.Proofs.YtjcpdpdhegcgoaaGreatDoor
open Go.RowKit
set_option linter.unusedVariables false

/-- The letter of a digit. -/
def dig (d : Nat) : UInt8 := if d < 10 then UInt8.ofNat (48 + d) else UInt8.ofNat (87 + d)
/-- The lowest j digits of n, the highest first. -/
def hexs : Nat → Nat → List UInt8
  | 0, _ => []
  | j + 1, n => hexs j (n / 16) ++ [dig (n % 16)]
theorem hexs_length (j n : Nat) : (hexs j n).length = j := by
  induction j generalizing n with
  | zero => rfl
  | succ j ih => simp [hexs, ih]

theorem nib (n : Nat) (hn : n ≤ 18446744073709551615) (i : Nat) : ∃ d : Nat, bits .and .u64 ((n : Int) / 2 ^ (4 * i)) 15 = (d : Int) ∧ d < 16 ∧ d = n / 16 ^ i % 16 := by
  refine ⟨n / 16 ^ i % 16, ?_, Nat.mod_lt _ (by omega), rfl⟩
  have e : ((n : Int) / 2 ^ (4 * i)) = ((n / 16 ^ i : Nat) : Int) := by
    rw [show (2 : Int) ^ (4 * i) = ((16 ^ i : Nat) : Int) by rw [show (16 : Nat) = 2 ^ 4 from rfl, ← Nat.pow_mul]; simp]
    simp
  have hle : n / 16 ^ i ≤ n := Nat.div_le_self _ _
  rw [e]
  have h2 := u64_and_nat (n / 16 ^ i) 15 (by omega) (by omega)
  rw [show ((15 : Nat) : Int) = 15 from rfl] at h2
  rw [h2, show (15 : Nat) = 2 ^ 4 - 1 from rfl, Nat.and_two_pow_sub_one_eq_mod]

theorem dig_at : ∀ (d : Nat) (h : d < 16), (ByteArray.mk #[48, 49, 50, 51, 52, 53, 54, 55, 56, 57, 97, 98, 99, 100, 101, 102])[d]'h = dig d := by decide

/-- What holds when j digits are still to be put. -/
def NumI (w : World) (n m j : Nat) (wr : World) : Prop :=
  ∃ v, Bld 84 w.heap.size v (hexs (2 * m - j) (n / 16 ^ j)) wr ∧ (∀ k, v.ownBlock = some k → w.heap.size ≤ k) ∧ New w wr

set_option maxRecDepth 100000 in
set_option maxHeartbeats 1000000 in
theorem number_core (n : Nat) (hn : n ≤ 18446744073709551615) (k : Int) (m : Nat) (hm : m ≤ 8) (hk : (k < 0 ∧ m = 0) ∨ (¬ k < 0 ∧ ¬ 8 < k ∧ k = m) ∨ (¬ k < 0 ∧ 8 < k ∧ m = 8)) (w : World) :
    Calls Tryz.prog 52 #[.int .u64 n, .int .i64 k] w fun e w' => e = .returned (.string ⟨(hexs (2 * m) n).toArray⟩) ∧ New w w' := by
  rcases hk with ⟨h, e⟩ | ⟨h, h2, rfl⟩ | ⟨h, h2, e⟩
  all_goals
    first | (have E := Lib.hid e; clear e) | (have E : Hid (m = m) := rfl)
    go_enter Tryz.func52, Tryz.ntmps52
    go_wp2_with fail
  all_goals
    go_loopw [6] (fun v wr => ∃ (x : Int) (j : Nat), v = .int .i64 x ∧ x = 4 * j - 4 ∧ NumI w n m j wr ∧ j ≤ 2 * m) (fun v _ => (intOf v + 4).toNat)
    case atStart => exact ⟨_, 2 * m, rfl, by have := E.out; omega, ⟨.slice none 0 0, by rw [Nat.sub_self]; exact Bld.fresh _ _, by simp [Value.ownBlock], by repeat (first | with_reducible exact Fr.refl _ _ | with_reducible assumption | with_reducible refine Fr.drew ?_ | with_reducible refine Fr.drewN ?_ _ | with_reducible refine Fr.alloc ?_ _ | with_reducible refine Fr.set ?_ (by first | exact fun _ => rfl | (intro hlt; exfalso; simp at hlt; try omega) | (simp; omega)) _ | with_reducible refine Fr.new_ ?_ (by assumption))⟩, by omega⟩
    case round =>
      obtain ⟨x, j, rfl, hx, ⟨v, hB, hv, hnr⟩, hj⟩ := hrel
      rcases j with _ | i
      · obtain rfl : x = -4 := by omega
        clear hx
        go_wp2_with fail
        refine (bldString_any btBuilder hB.reads).mono ?_
        rintro e w2 ⟨rfl, _, f2⟩
        go_wp2
        go_ret
        refine ⟨by simp, hnr.trans f2 fun k hk e => ?_⟩
        have := hv k e
        omega
      · obtain rfl : x = 4 * (i : Int) := by omega
        clear hx
        obtain ⟨d, hd, hd1, hd2⟩ : ∃ d : Nat, bits .and .u64 ((n : Int) / 2 ^ (4 * i)) 15 = (d : Int) ∧ d < 16 ∧ d = n / 16 ^ i % 16 := nib n hn i
        have HD := Lib.hid hd2
        clear hd2
        have hdx : (d : Int) < 16 := by omega
        go_wp2_with fail
        refine (writeByte_any btBuilder hB _ (by rw [hexs_length]; omega)).mono ?_
        rintro e w2 ⟨rfl, v', hB', f2, hat⟩
        have hz := hnr.size
        have H2 := Lib.hid hB'
        have HA := Lib.hid hat
        clear hB' hat hd
        go_wp2
        go_roundw
        case rel =>
          refine ⟨_, i, rfl, by omega, ⟨v', ?_, ?_, ?_⟩, by omega⟩
          · have h3 := H2.out
            rw [dig_at d hd1, HD.out] at h3
            rw [show 2 * m - i = (2 * m - (i + 1)) + 1 by omega, hexs, Nat.div_div_eq_div_mul, ← Nat.pow_succ]
            exact h3
          · intro k hk
            rcases HA.out with e | ⟨k', e, hk'⟩
            · exact hv k (e ▸ hk)
            · rw [e] at hk
              injection hk with hk
              omega
          · refine hnr.trans f2 fun k hk e => ?_
            rcases e with e | e
            · omega
            · have := hv k e
              omega
        case measure => simp [intOf]; omega
end Go.Proofs.YtjcpdpdhegcgoaaGreatDoor
