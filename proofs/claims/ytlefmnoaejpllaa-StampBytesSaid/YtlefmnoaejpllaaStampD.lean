/- Contracts of a clock that is there: See, Next. -/
import Derived.Test.YtlefmnoaejpllaaStampC
namespace Go.Proofs.Ytlefmnoaejpllaa
open Go.RowKit

theorem see_no {b : Nat} {who seen c n : Int} {w : World} (h : Own w b 103 #[.int .i64 who, .int .u64 seen]) (hg : ¬ Good c n) :
    Calls Try.prog 19 #[.pointer (some ⟨b, 0, none⟩), .agg #[.int .u64 c, .int .i64 n]] w fun e w' => e = .returned (.int .i64 40) ∧ New w w' := by
  obtain ⟨h0, h1, h2, h3⟩ := h.two
  go_enter Try.func19, Try.ntmps19
  go_wp2_with (go_at_call 25; refine (check_no hg _).mono ?_; rintro e w1 ⟨rfl, hn⟩)
  go_ret
  exact ⟨rfl, ((Fr.refl _ _).alloc _).new_ hn⟩
theorem see_yes {b : Nat} {who seen c n : Int} {w : World} (h : Own w b 103 #[.int .i64 who, .int .u64 seen]) (hg : Good c n) :
    Calls Try.prog 19 #[.pointer (some ⟨b, 0, none⟩), .agg #[.int .u64 c, .int .i64 n]] w fun e w' => e = .returned (.int .i64 0) ∧
      Own w' b 103 #[.int .i64 who, .int .u64 (max seen c)] ∧ Fr (· = b) w w' := by
  obtain ⟨h0, h1, h2, h3⟩ := h.two
  go_enter Try.func19, Try.ntmps19
  go_wp2_with (go_at_call 25; refine (check_yes hg _).mono ?_; rintro e w1 ⟨rfl, hn⟩)
  have ho := (h.alloc (.cells #[.int .u64 c, .int .i64 n] 33)).new_ hn
  obtain ⟨k0, k1, k2, k3⟩ := ho.two
  obtain ⟨l0, l1, l2, l3⟩ := ((Own.fresh w 33 #[.int .u64 c, .int .i64 n]).new_ hn).two
  go_region
  all_goals go_wp2
  all_goals go_ret
  all_goals
    refine ⟨rfl, ?_, by repeat (first | with_reducible exact Fr.refl _ _ | with_reducible assumption | with_reducible refine Fr.drew ?_ | with_reducible refine Fr.drewN ?_ _ | with_reducible refine Fr.alloc ?_ _ | with_reducible refine Fr.set ?_ (by first | exact fun _ => rfl | (intro hlt; exfalso; simp at hlt; try omega) | (simp; omega)) _ | with_reducible refine Fr.new_ ?_ (by assumption))⟩
    first | rw [Int.max_eq_right (by omega)] | rw [Int.max_eq_left (by omega)] | skip
    repeat (first | with_reducible assumption | with_reducible exact Own.fresh _ _ _ | (with_reducible apply Own.new'; simp; done) | with_reducible apply Own.drew | with_reducible apply Own.drewN | with_reducible apply Own.alloc | with_reducible apply Own.put | rfl | (with_reducible refine Own.far ?_ (by simp; omega) _) | (with_reducible refine Own.new_ ?_ (by assumption)))
theorem next_no {b : Nat} {who seen : Int} {w : World} (h : Own w b 103 #[.int .i64 who, .int .u64 seen]) (hs : 281474976710655 ≤ seen) :
    Calls Try.prog 22 #[.pointer (some ⟨b, 0, none⟩)] w fun e w' => e = .returned (.tuple #[.agg #[.int .u64 0, .int .i64 0], .int .i64 40]) ∧ New w w' := by
  obtain ⟨h0, h1, h2, h3⟩ := h.two
  have hlt := h.lt
  go_enter Try.func22, Try.ntmps22
  go_wp2
  refine bodyPost_ret (v := .tuple #[.agg #[.int .u64 0, .int .i64 0], .int .i64 40]) (by simp [results, Try.results22, go_sem]) rfl ⟨rfl, ?_⟩
  exact ((Fr.refl _ _).alloc _)
theorem next_yes {b : Nat} {who seen : Int} {w : World} (h : Own w b 103 #[.int .i64 who, .int .u64 seen]) (h4 : 0 ≤ seen) (hs : seen < 281474976710655) :
    Calls Try.prog 22 #[.pointer (some ⟨b, 0, none⟩)] w fun e w' => e = .returned (.tuple #[.agg #[.int .u64 (seen + 1), .int .i64 who], .int .i64 0]) ∧
      Own w' b 103 #[.int .i64 who, .int .u64 (seen + 1)] ∧ Fr (· = b) w w' := by
  obtain ⟨h0, h1, h2, h3⟩ := h.two
  have hlt := h.lt
  go_enter Try.func22, Try.ntmps22
  go_wp2
  go_region
  all_goals
    go_wp2
    refine bodyPost_ret (v := .tuple #[.agg #[.int .u64 (seen + 1), .int .i64 who], .int .i64 0]) (by simp [results, Try.results22, go_sem]) rfl ⟨rfl, ?_, ?_⟩
    · repeat (first | with_reducible assumption | with_reducible exact Own.fresh _ _ _ | (with_reducible apply Own.new'; simp; done) | with_reducible apply Own.drew | with_reducible apply Own.drewN | with_reducible apply Own.alloc | with_reducible apply Own.put | rfl | (with_reducible refine Own.far ?_ (by simp; omega) _) | (with_reducible refine Own.new_ ?_ (by assumption)))
    · repeat (first | with_reducible exact Fr.refl _ _ | with_reducible assumption | with_reducible refine Fr.drew ?_ | with_reducible refine Fr.drewN ?_ _ | with_reducible refine Fr.alloc ?_ _ | with_reducible refine Fr.set ?_ (by first | exact fun _ => rfl | (intro hlt; exfalso; simp at hlt; try omega) | (simp; omega)) _ | with_reducible refine Fr.new_ ?_ (by assumption))
end Go.Proofs.Ytlefmnoaejpllaa
