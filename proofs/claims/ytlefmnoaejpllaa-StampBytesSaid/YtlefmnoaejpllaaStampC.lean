/- Contracts of package stamp: what New, Check, See, Next, Seen do to a clock's block; what they answer. -/
import Derived.Test.YtlefmnoaejpllaaOpen
import Derived.RegionTactic
import Derived.ChangeAlike
import Derived.Deep.QuietTactic
import Derived.BigQuiet
namespace Go.Proofs.Ytlefmnoaejpllaa
open Go.RowKit

/-- May a time be? -/
def Good (c n : Int) : Prop := 1 ≤ c ∧ c ≤ 281474976710655 ∧ 0 ≤ n ∧ n < 16
instance (c n : Int) : Decidable (Good c n) := by unfold Good; infer_instance
theorem not_good {c n : Int} (h : ¬ Good c n) : c < 1 ∨ (¬ c < 1 ∧ 281474976710655 < c) ∨ (¬ c < 1 ∧ ¬ 281474976710655 < c ∧ n < 0) ∨ (¬ c < 1 ∧ ¬ 281474976710655 < c ∧ ¬ n < 0 ∧ 16 ≤ n) := by
  unfold Good at h
  omega

theorem new_yes (who : Int) (h0 : 0 ≤ who) (h1 : who < 16) (w : World) :
    Calls Try.prog 18 #[.int .i64 who] w fun e w' => e = .returned (.tuple #[.pointer (some ⟨w.heap.size, 0, none⟩), .int .i64 0]) ∧
      w' = w.alloc (.cells #[.int .i64 who, .int .u64 0] 103) := by
  go_enter Try.func18, Try.ntmps18
  go_wp2
  go_ret2
  exact ⟨rfl, rfl⟩
theorem new_no (who : Int) (h : who < 0 ∨ 16 ≤ who) (w : World) :
    Calls Try.prog 18 #[.int .i64 who] w fun e w' => e = .returned (.tuple #[.pointer none, .int .i64 1]) ∧ w' = w := by
  rcases h with h | h
  all_goals
    go_enter Try.func18, Try.ntmps18
    go_wp2
    go_ret2
    exact ⟨rfl, rfl⟩

theorem check_yes {c n : Int} (h : Good c n) (w : World) :
    Calls Try.prog 25 #[.agg #[.int .u64 c, .int .i64 n]] w fun e w' => e = .returned (.int .i64 0) ∧ New w w' := by
  obtain ⟨h0, h1, h2, h3⟩ := h
  go_enter Try.func25, Try.ntmps25
  go_wp2
  go_ret
  exact ⟨rfl, (Fr.refl _ _).alloc _⟩
theorem check_no {c n : Int} (h : ¬ Good c n) (w : World) :
    Calls Try.prog 25 #[.agg #[.int .u64 c, .int .i64 n]] w fun e w' => e = .returned (.int .i64 40) ∧ New w w' := by
  rcases not_good h with h | ⟨h, g⟩ | ⟨h, g, k⟩ | ⟨h, g, k, l⟩
  all_goals
    go_enter Try.func25, Try.ntmps25
    go_wp2
    go_ret
    exact ⟨rfl, (Fr.refl _ _).alloc _⟩
theorem refCheck_yes {c n : Int} (h : Good c n) (w : World) :
    Calls Try.prog 20 #[.agg #[.int .u64 c, .int .i64 n]] w fun e w' => e = .returned (.int .i64 0) ∧ New w w' := by
  obtain ⟨h0, h1, h2, h3⟩ := h
  have h4 : (c == 0) = false := by rw [beq_eq_false_iff_ne]; omega
  go_enter Try.func20, Try.ntmps20
  go_wp2
  go_ret
  exact ⟨rfl, (Fr.refl _ _).alloc _⟩
theorem refCheck_no {c n : Int} (h5 : 0 ≤ c) (h : ¬ Good c n) (w : World) :
    Calls Try.prog 20 #[.agg #[.int .u64 c, .int .i64 n]] w fun e w' => e = .returned (.int .i64 40) ∧ New w w' := by
  rcases not_good h with h | ⟨h, g⟩ | ⟨h, g, k⟩ | ⟨h, g, k, l⟩
  · have h4 : (c == 0) = true := by rw [beq_iff_eq]; omega
    go_enter Try.func20, Try.ntmps20
    go_wp2
    go_ret
    exact ⟨rfl, (Fr.refl _ _).alloc _⟩
  all_goals
    have h4 : (c == 0) = false := by rw [beq_eq_false_iff_ne]; omega
    go_enter Try.func20, Try.ntmps20
    go_wp2
    go_ret
    exact ⟨rfl, (Fr.refl _ _).alloc _⟩

theorem seen_some {b : Nat} {who seen : Int} {w : World} (h : Own w b 103 #[.int .i64 who, .int .u64 seen]) :
    Calls Try.prog 23 #[.pointer (some ⟨b, 0, none⟩)] w fun e w' => e = .returned (.int .u64 seen) ∧ w = w' := by
  obtain ⟨h0, h1, h2, h3⟩ := h.two
  go_enter Try.func23, Try.ntmps23
  go_wp2
  go_ret
  exact ⟨rfl, rfl⟩
theorem seen_nil (w : World) : Calls Try.prog 23 #[.pointer none] w fun e w' => e = .returned (.int .u64 0) ∧ w = w' := by
  go_enter Try.func23, Try.ntmps23
  go_wp2
  go_ret
  exact ⟨rfl, rfl⟩
theorem see_nil (c n : Int) (w : World) : Calls Try.prog 19 #[.pointer none, .agg #[.int .u64 c, .int .i64 n]] w fun e w' => e = .returned (.int .i64 1) ∧ New w w' := by
  go_enter Try.func19, Try.ntmps19
  go_wp2
  go_ret
  exact ⟨rfl, (Fr.refl _ _).alloc _⟩
theorem next_nil (w : World) : Calls Try.prog 22 #[.pointer none] w fun e w' => e = .returned (.tuple #[.agg #[.int .u64 0, .int .i64 0], .int .i64 1]) ∧ New w w' := by
  go_enter Try.func22, Try.ntmps22
  go_wp2
  refine bodyPost_ret (v := .tuple #[.agg #[.int .u64 0, .int .i64 0], .int .i64 1]) (by simp [results, Try.results22, go_sem]) rfl ⟨rfl, ?_⟩
  exact ((Fr.refl _ _).alloc _)
end Go.Proofs.Ytlefmnoaejpllaa
