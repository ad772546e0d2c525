/- A tree that is not: what it answers. -/
import Derived.Test.YtedfgbkaijjaeaaMvTree
namespace Go.Proofs.Ytedfgbkaijjaeaa
open Go.RowKit Go.Maps
set_option linter.unusedVariables false
set_option linter.unusedSimpArgs false

set_option maxRecDepth 100000 in
theorem kids_nil {id : Int} {w : World} : Calls Try.prog 19 #[.pointer none, .int .u64 id] w fun e W => e = .returned (.slice none 0 0) ∧ W = w := by
  go_enter Try.func19, Try.ntmps19
  go_wp2
  go_ret
  exact ⟨rfl, rfl⟩
set_option maxRecDepth 100000 in
theorem len_nil {w : World} : Calls Try.prog 29 #[.pointer none] w fun e W => e = .returned (.int .i64 0) ∧ W = w := by
  go_enter Try.func29, Try.ntmps29
  go_wp2
  go_ret
  exact ⟨rfl, rfl⟩
set_option maxRecDepth 100000 in
theorem undone_nil {w : World} : Calls Try.prog 31 #[.pointer none] w fun e W => e = .returned (.int .i64 0) ∧ W = w := by
  go_enter Try.func31, Try.ntmps31
  go_wp2
  go_ret
  exact ⟨rfl, rfl⟩
set_option maxRecDepth 100000 in
theorem log_nil {w : World} : Calls Try.prog 30 #[.pointer none] w fun e W => e = .returned (.slice none 0 0) ∧ W = w := by
  go_enter Try.func30, Try.ntmps30
  go_wp2
  go_ret
  exact ⟨rfl, rfl⟩
set_option maxRecDepth 100000 in
theorem below_nil {id other : Int} {w : World} : Calls Try.prog 16 #[.pointer none, .int .u64 id, .int .u64 other] w fun e W => e = .returned (.bool false) ∧ W = w := by
  go_enter Try.func16, Try.ntmps16
  go_wp2
  go_ret
  exact ⟨rfl, rfl⟩
set_option maxRecDepth 100000 in
theorem add_nil {cs : Array Value} {w : World} : Calls Try.prog 15 #[.pointer none, .agg cs] w fun e W => e = .returned (.bool false) ∧ New w W := by
  go_enter Try.func15, Try.ntmps15
  go_wp2
  go_ret
  exact ⟨rfl, (Fr.refl _ _).alloc _⟩
set_option maxRecDepth 100000 in
theorem get_nil {id : Int} {w : World} : Calls Try.prog 18 #[.pointer none, .int .u64 id] w fun e W => e = .returned (.tuple #[zeroT.val, .bool false]) ∧ New w W := by
  go_enter Try.func18, Try.ntmps18
  go_wp2
  exact bodyPost_ret (v := .tuple #[zeroT.val, .bool false]) (by simp [results, Try.results18, go_sem, *]; exact ⟨rfl, rfl, rfl, rfl, rfl, rfl⟩) rfl ⟨rfl, (Fr.refl _ _).alloc _⟩
end Go.Proofs.Ytedfgbkaijjaeaa
