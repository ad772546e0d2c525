/- StampA: several texts as one. -/
import Derived.Test.YtedfgbkaijjaeaaOpen
import Derived.RegionTactic
import Derived.ChangeAlike
import Derived.Deep.QuietTactic
import Derived.BigQuiet
import Derived.Deep.RegionWith
import Derived.Deep.RegionHeld3
import Derived.Lib.Hide
/- Contracts of package stamp: what New, Check, See, Next, Seen do to a clock's block; what they answer. -/
namespace Go.Proofs.Ytedfgbkaijjaeaa
open Go.RowKit

/-- May a time be? -/
def Good (c n : Int) : Prop := 1 ≤ c ∧ c ≤ 281474976710655 ∧ 0 ≤ n ∧ n < 16
instance (c n : Int) : Decidable (Good c n) := by unfold Good; infer_instance
theorem not_good {c n : Int} (h : ¬ Good c n) : c < 1 ∨ (¬ c < 1 ∧ 281474976710655 < c) ∨ (¬ c < 1 ∧ ¬ 281474976710655 < c ∧ n < 0) ∨ (¬ c < 1 ∧ ¬ 281474976710655 < c ∧ ¬ n < 0 ∧ 16 ≤ n) := by
  unfold Good at h
  omega


theorem refCheck_yes {c n : Int} (h : Good c n) (w : World) :
    Calls Try.prog 90 #[.agg #[.int .u64 c, .int .i64 n]] w fun e w' => e = .returned (.int .i64 0) ∧ New w w' := by
  obtain ⟨h0, h1, h2, h3⟩ := h
  have h4 : (c == 0) = false := by rw [beq_eq_false_iff_ne]; omega
  go_enter Try.func90, Try.ntmps90
  go_wp2
  go_ret
  exact ⟨rfl, (Fr.refl _ _).alloc _⟩
theorem refCheck_no {c n : Int} (h5 : 0 ≤ c) (h : ¬ Good c n) (w : World) :
    Calls Try.prog 90 #[.agg #[.int .u64 c, .int .i64 n]] w fun e w' => e = .returned (.int .i64 40) ∧ New w w' := by
  rcases not_good h with h | ⟨h, g⟩ | ⟨h, g, k⟩ | ⟨h, g, k, l⟩
  · have h4 : (c == 0) = true := by rw [beq_iff_eq]; omega
    go_enter Try.func90, Try.ntmps90
    go_wp2
    go_ret
    exact ⟨rfl, (Fr.refl _ _).alloc _⟩
  all_goals
    have h4 : (c == 0) = false := by rw [beq_eq_false_iff_ne]; omega
    go_enter Try.func90, Try.ntmps90
    go_wp2
    go_ret
    exact ⟨rfl, (Fr.refl _ _).alloc _⟩

end Go.Proofs.Ytedfgbkaijjaeaa

/- Contracts of a clock that is there: See, Next. -/
namespace Go.Proofs.Ytedfgbkaijjaeaa
open Go.RowKit

end Go.Proofs.Ytedfgbkaijjaeaa

/- The clock is awake; which numbers may be those of things. -/
namespace Go.Proofs.Ytedfgbkaijjaeaa
open Go.RowKit


def madeB (n : Int) : Bool := decide (16 ≤ n ∧ n ≤ 4503599627370495)
theorem refMade_any (n : Int) (h0 : 0 ≤ n) (h1 : n ≤ 18446744073709551615) (w : World) : Calls Try.prog 91 #[.int .u64 n] w fun e w' => e = .returned (.bool (madeB n)) ∧ w = w' := by
  by_cases h : 16 ≤ n
  all_goals
    go_enter Try.func91, Try.ntmps91
    go_wp2
    go_ret
    refine ⟨ret_bool ?_, rfl⟩
    show _ = decide _
    (first | (rw [decide_eq_decide]; omega) | (symm; rw [decide_eq_false_iff_not]; omega) | (symm; rw [decide_eq_true_eq]; omega) | (rw [decide_eq_false_iff_not]; omega) | (rw [decide_eq_true_eq]; omega))
end Go.Proofs.Ytedfgbkaijjaeaa

/- Contracts of cmp.Compare, cmp.Or and stamp.Compare; of the reference's Before; of Thing. -/
namespace Go.Proofs.Ytedfgbkaijjaeaa
open Go.RowKit

def cmpI (a b : Int) : Int := if a < b then -1 else if b < a then 1 else 0
theorem cmpU_any (a b : Int) (w : World) : Calls Try.prog 72 #[.int .u64 a, .int .u64 b] w fun e w' => e = .returned (.int .i64 (cmpI a b)) ∧ w' = w := by
  rcases (by omega : a < b ∨ (¬ a < b ∧ b < a) ∨ (¬ a < b ∧ ¬ b < a)) with h | ⟨h, g⟩ | ⟨h, g⟩
  all_goals
    go_enter Try.func72, Try.ntmps72
    go_wp2
    go_ret
    exact ⟨ret_int (by unfold cmpI; split <;> (try split) <;> omega), rfl⟩
theorem cmpS_any (a b : Int) (w : World) : Calls Try.prog 73 #[.int .i64 a, .int .i64 b] w fun e w' => e = .returned (.int .i64 (cmpI a b)) ∧ w' = w := by
  rcases (by omega : a < b ∨ (¬ a < b ∧ b < a) ∨ (¬ a < b ∧ ¬ b < a)) with h | ⟨h, g⟩ | ⟨h, g⟩
  all_goals
    go_enter Try.func73, Try.ntmps73
    go_wp2
    go_ret
    exact ⟨ret_int (by unfold cmpI; split <;> (try split) <;> omega), rfl⟩
def orI (a b : Int) : Int := if a = 0 then b else a
theorem or2_any (a b : Int) (g : Nat) {w : World} (h : Own w g 3 #[.int .i64 a, .int .i64 b]) : Calls Try.prog 43 #[.slice (some ⟨g, 0, none⟩) 2 2] w fun e w' => e = .returned (.int .i64 (orI a b)) ∧ w' = w := by
  obtain ⟨h0, h1, h2, h3⟩ := h.two
  go_enter Try.func43, Try.ntmps43
  go_wp2
  go_loop [8] (fun i => ∃ k : Nat, k ≤ 2 ∧ i = .int .i64 k ∧ (1 ≤ k → a = 0) ∧ (2 ≤ k → b = 0)) (fun i => 2 - (intOf i).toNat)
  case atStart => exact ⟨0, by omega, rfl, by omega, by omega⟩
  case round =>
    obtain ⟨k, hk, rfl, ha, hb⟩ := hrel
    rcases (by omega : k = 0 ∨ k = 1 ∨ k = 2) with rfl | rfl | rfl
    · by_cases e : a = 0
      · subst e
        go_wp2
        go_round
        case rel => exact ⟨1, by omega, by go_num, by simp, fun h => by omega⟩
        case measure => simp [intOf]
      · have e2 : (a != 0) = true := by rw [bne_iff_ne]; exact e
        go_wp2
        go_ret
        exact ⟨ret_int (by unfold orI; rw [if_neg e]), rfl⟩
    · obtain rfl := ha (by omega)
      by_cases e : b = 0
      · subst e
        go_wp2
        go_round
        case rel => exact ⟨2, by omega, by go_num, by simp, by simp⟩
        case measure => simp [intOf]
      · have e2 : (b != 0) = true := by rw [bne_iff_ne]; exact e
        go_wp2
        go_ret
        exact ⟨ret_int (by unfold orI; rw [if_pos rfl]), rfl⟩
    · obtain rfl := ha (by omega)
      obtain rfl := hb (by omega)
      go_wp2
      go_ret
      exact ⟨ret_int (by unfold orI; rw [if_pos rfl]), rfl⟩

def cmpB (a b : Bool) : Bool := a == b
theorem compare_any (a b c d : Int) (w : World) : Calls Try.prog 44 #[.agg #[.int .u64 a, .int .i64 b], .agg #[.int .u64 c, .int .i64 d]] w fun e w' => e = .returned (.int .i64 (orI (cmpI a c) (cmpI b d))) ∧ New w w' := by
  go_enter Try.func44, Try.ntmps44
  go_wp2
  go_region_held3 (fun w' => w'.cell? ⟨w.heap.size, 0, none⟩ = some (.int .u64 a) ∧ w'.cell? ⟨w.heap.size, 1, none⟩ = some (.int .i64 b) ∧ w'.cell? ⟨w.heap.size + 1, 0, none⟩ = some (.int .u64 c) ∧ w'.cell? ⟨w.heap.size + 1, 1, none⟩ = some (.int .i64 d)) (go_keep)
    (first | (go_at_call 72; refine (cmpU_any _ _ _).mono ?_; rintro e w' ⟨rfl, rfl⟩) | (go_at_call 73; refine (cmpS_any _ _ _).mono ?_; rintro e w' ⟨rfl, rfl⟩) | (go_at_call 43; refine (or2_any (cmpI a c) (cmpI b d) _ ?ho).mono ?_; (case ho => (refine Own.drew (Own.new' ?_); simp)); rintro e w' ⟨rfl, rfl⟩))
  all_goals go_wp2
  all_goals go_ret
  all_goals exact ⟨rfl, by repeat (first | with_reducible exact Fr.refl _ _ | with_reducible assumption | with_reducible refine Fr.drew ?_ | with_reducible refine Fr.drewN ?_ _ | with_reducible refine Fr.alloc ?_ _ | with_reducible refine Fr.set ?_ (by first | exact fun _ => rfl | (intro hlt; exfalso; simp at hlt; try omega) | (simp; omega)) _ | with_reducible refine Fr.new_ ?_ (by assumption))⟩

theorem ref_any (c n : Int) (w : World) : Calls Try.prog 75 #[.agg #[.int .u64 c, .int .i64 n]] w fun e w' => e = .returned (.agg #[.int .u64 c, .int .i64 n]) ∧ New w w' := by
  go_enter Try.func75, Try.ntmps75
  go_wp2
  refine bodyPost_ret (v := .agg #[.int .u64 c, .int .i64 n]) (by simp [results, Try.results75, go_sem]) rfl ⟨rfl, ?_⟩
  repeat (first | with_reducible exact Fr.refl _ _ | with_reducible assumption | with_reducible refine Fr.drew ?_ | with_reducible refine Fr.drewN ?_ _ | with_reducible refine Fr.alloc ?_ _ | with_reducible refine Fr.set ?_ (by first | exact fun _ => rfl | (intro hlt; exfalso; simp at hlt; try omega) | (simp; omega)) _ | with_reducible refine Fr.new_ ?_ (by assumption))
def befB (a b c d : Int) : Bool := decide (a < c ∨ a = c ∧ b < d)
theorem before_any (a b c d : Int) (w : World) : Calls Try.prog 46 #[.agg #[.int .u64 a, .int .i64 b], .agg #[.int .u64 c, .int .i64 d]] w fun e w' => e = .returned (.bool (befB a b c d)) ∧ New w w' := by
  by_cases h : a = c
  · subst h
    go_enter Try.func46, Try.ntmps46
    go_wp2
    go_ret
    exact ⟨ret_bool (by show _ = decide _; (first | (rw [decide_eq_decide]; omega) | (symm; rw [decide_eq_false_iff_not]; omega) | (symm; rw [decide_eq_true_eq]; omega) | (rw [decide_eq_false_iff_not]; omega) | (rw [decide_eq_true_eq]; omega))), by repeat (first | with_reducible exact Fr.refl _ _ | with_reducible assumption | with_reducible refine Fr.drew ?_ | with_reducible refine Fr.drewN ?_ _ | with_reducible refine Fr.alloc ?_ _ | with_reducible refine Fr.set ?_ (by first | exact fun _ => rfl | (intro hlt; exfalso; simp at hlt; try omega) | (simp; omega)) _ | with_reducible refine Fr.new_ ?_ (by assumption))⟩
  · have e2 : (a != c) = true := by rw [bne_iff_ne]; exact h
    go_enter Try.func46, Try.ntmps46
    go_wp2
    go_ret
    exact ⟨ret_bool (by show _ = decide _; (first | (rw [decide_eq_decide]; omega) | (symm; rw [decide_eq_false_iff_not]; omega) | (symm; rw [decide_eq_true_eq]; omega) | (rw [decide_eq_false_iff_not]; omega) | (rw [decide_eq_true_eq]; omega))), by repeat (first | with_reducible exact Fr.refl _ _ | with_reducible assumption | with_reducible refine Fr.drew ?_ | with_reducible refine Fr.drewN ?_ _ | with_reducible refine Fr.alloc ?_ _ | with_reducible refine Fr.set ?_ (by first | exact fun _ => rfl | (intro hlt; exfalso; simp at hlt; try omega) | (simp; omega)) _ | with_reducible refine Fr.new_ ?_ (by assumption))⟩
def thingI (c n : Int) : Int := if Good c n then c * 16 + n else 0
theorem refThing_any (c n : Int) (hc : 0 ≤ c) (w : World) : Calls Try.prog 92 #[.agg #[.int .u64 c, .int .i64 n]] w fun e w' => e = .returned (.int .u64 (thingI c n)) ∧ New w w' := by
  by_cases hg : Good c n
  · obtain ⟨h0, h1, h2, h3⟩ := id hg
    have hr : thingI c n = c * 16 + n := if_pos hg
    have HR := Lib.hid hr
    clear hr
    go_enter Try.func92, Try.ntmps92
    go_wp2_with fail
    refine (refCheck_yes hg _).mono ?_
    rintro e w1 ⟨rfl, hn⟩
    obtain ⟨k0, k1, _, _⟩ := ((Own.fresh w 35 #[.int .u64 c, .int .i64 n]).new_ hn).two
    go_wp2
    go_ret
    exact ⟨ret_int HR.out.symm, by repeat (first | with_reducible exact Fr.refl _ _ | with_reducible assumption | with_reducible refine Fr.drew ?_ | with_reducible refine Fr.drewN ?_ _ | with_reducible refine Fr.alloc ?_ _ | with_reducible refine Fr.set ?_ (by first | exact fun _ => rfl | (intro hlt; exfalso; simp at hlt; try omega) | (simp; omega)) _ | with_reducible refine Fr.new_ ?_ (by assumption))⟩
  · have hr : thingI c n = 0 := if_neg hg
    have HR := Lib.hid hr
    clear hr
    go_enter Try.func92, Try.ntmps92
    go_wp2_with fail
    refine (refCheck_no hc hg _).mono ?_
    rintro e w1 ⟨rfl, hn⟩
    go_wp2
    go_ret
    exact ⟨ret_int HR.out.symm, by repeat (first | with_reducible exact Fr.refl _ _ | with_reducible assumption | with_reducible refine Fr.drew ?_ | with_reducible refine Fr.drewN ?_ _ | with_reducible refine Fr.alloc ?_ _ | with_reducible refine Fr.set ?_ (by first | exact fun _ => rfl | (intro hlt; exfalso; simp at hlt; try omega) | (simp; omega)) _ | with_reducible refine Fr.new_ ?_ (by assumption))⟩

def checkI (c n : Int) : Int := if Good c n then 0 else 40
theorem refCheck_any (c n : Int) (hc : 0 ≤ c) (w : World) :
    Calls Try.prog 90 #[.agg #[.int .u64 c, .int .i64 n]] w fun e w' => e = .returned (.int .i64 (checkI c n)) ∧ New w w' := by
  unfold checkI
  split
  · exact refCheck_yes ‹_› w
  · exact refCheck_no hc ‹_› w
theorem lt_bef (a b c d : Int) : decide (orI (cmpI a c) (cmpI b d) < 0) = befB a b c d := by
  unfold befB
  rw [decide_eq_decide]
  unfold orI cmpI
  split <;> (try split) <;> (try split) <;> (try split) <;> omega
theorem gt_bef (a b c d : Int) : decide (0 < orI (cmpI a c) (cmpI b d)) = befB c d a b := by
  unfold befB
  rw [decide_eq_decide]
  unfold orI cmpI
  split <;> (try split) <;> (try split) <;> (try split) <;> omega
end Go.Proofs.Ytedfgbkaijjaeaa
