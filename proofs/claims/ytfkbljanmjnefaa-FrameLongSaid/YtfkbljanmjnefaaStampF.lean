/- Contracts of cmp.Compare, cmp.Or and stamp.Compare; of the reference's Before; of Thing. -/
import Derived.Test.YtfkbljanmjnefaaStampE
import Derived.Deep.QuietTactic
import Derived.BigQuiet
import Derived.Deep.RegionWith
import Derived.Deep.RegionHeld3
import Derived.Lib.Hide
namespace Go.Proofs.Ytfkbljanmjnefaa
open Go.RowKit

def cmpI (a b : Int) : Int := if a < b then -1 else if b < a then 1 else 0
def orI (a b : Int) : Int := if a = 0 then b else a

def cmpB (a b : Bool) : Bool := a == b

def befB (a b c d : Int) : Bool := decide (a < c ∨ a = c ∧ b < d)
def thingI (c n : Int) : Int := if Good c n then c * 16 + n else 0
theorem thing_any (c n : Int) (w : World) : Calls Try.prog 59 #[.agg #[.int .u64 c, .int .i64 n]] w fun e w' => e = .returned (.int .u64 (thingI c n)) ∧ New w w' := by
  by_cases hg : Good c n
  · obtain ⟨h0, h1, h2, h3⟩ := id hg
    have hr : thingI c n = c * 16 + n := if_pos hg
    have HR := Lib.hid hr
    clear hr
    go_enter Try.func59, Try.ntmps59
    go_wp2_with fail
    refine (check_yes hg _).mono ?_
    rintro e w1 ⟨rfl, hn⟩
    obtain ⟨k0, k1, _, _⟩ := ((Own.fresh w 37 #[.int .u64 c, .int .i64 n]).new_ hn).two
    go_wp2
    go_ret
    exact ⟨ret_int HR.out.symm, by repeat (first | with_reducible exact Fr.refl _ _ | with_reducible assumption | with_reducible refine Fr.drew ?_ | with_reducible refine Fr.drewN ?_ _ | with_reducible refine Fr.alloc ?_ _ | with_reducible refine Fr.set ?_ (by first | exact fun _ => rfl | (intro hlt; exfalso; simp at hlt; try omega) | (simp; omega)) _ | with_reducible refine Fr.new_ ?_ (by assumption))⟩
  · have hr : thingI c n = 0 := if_neg hg
    have HR := Lib.hid hr
    clear hr
    go_enter Try.func59, Try.ntmps59
    go_wp2_with fail
    refine (check_no hg _).mono ?_
    rintro e w1 ⟨rfl, hn⟩
    go_wp2
    go_ret
    exact ⟨ret_int HR.out.symm, by repeat (first | with_reducible exact Fr.refl _ _ | with_reducible assumption | with_reducible refine Fr.drew ?_ | with_reducible refine Fr.drewN ?_ _ | with_reducible refine Fr.alloc ?_ _ | with_reducible refine Fr.set ?_ (by first | exact fun _ => rfl | (intro hlt; exfalso; simp at hlt; try omega) | (simp; omega)) _ | with_reducible refine Fr.new_ ?_ (by assumption))⟩

def checkI (c n : Int) : Int := if Good c n then 0 else 40
theorem check_any (c n : Int) (w : World) :
    Calls Try.prog 57 #[.agg #[.int .u64 c, .int .i64 n]] w fun e w' => e = .returned (.int .i64 (checkI c n)) ∧ New w w' := by
  unfold checkI
  split
  · exact check_yes ‹_› w
  · exact check_no ‹_› w
theorem lt_bef (a b c d : Int) : decide (orI (cmpI a c) (cmpI b d) < 0) = befB a b c d := by
  unfold befB
  rw [decide_eq_decide]
  unfold orI cmpI
  split <;> (try split) <;> (try split) <;> (try split) <;> omega
theorem gt_bef (a b c d : Int) : decide (0 < orI (cmpI a c) (cmpI b d)) = befB c d a b := by
  unfold befB
  rw [decide_eq_decide]
  unfold orI cmpI
  split <;> (try split) <;> (try split) <;> (try split) <;> omega
end Go.Proofs.Ytfkbljanmjnefaa
