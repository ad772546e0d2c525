/- An error's number is its own. -/
import Derived.Test.YtjcpdpdhegcgoaaDoorMkVerify
namespace Go.Proofs.YtjcpdpdhegcgoaaDoor
open Go.RowKit
set_option linter.unusedVariables false
set_option linter.unusedSimpArgs false

set_option maxRecDepth 100000 in
theorem number_own {n : Int} {w : World} : Calls Tryd.prog 13 #[.iface 26 (.int .i64 n)] w fun e W => e = .returned (.int .i64 n) ∧ W = w := by
  have hta : (Instr.typeAssert (.iface 26 (.int .i64 n)) 41 26 true).run Tryd.prog w = .ok (.tuple #[.int .i64 n, .bool true]) w := by kernel_rfl
  go_enter Tryd.func13, Tryd.ntmps13
  go_wp2
  go_ret
  exact ⟨rfl, rfl⟩
theorem errno_text {n : Int} {w : World} : Calls Tryd.prog 14 #[.int .i64 n] w fun e W => e = .returned (.string ⟨#[97, 114, 98, 111, 117, 114, 58, 32, 97, 110, 32, 101, 114, 114, 111, 114]⟩) ∧ W = w := by
  go_enter Tryd.func14, Tryd.ntmps14
  go_wp2
  go_ret
  exact ⟨rfl, rfl⟩
theorem i64_and1023 (n : Int) : bits .and .i64 n 1023 = n % 1024 := by
  have h127 : (BitVec.ofInt 64 1023).toNat = 2 ^ 10 - 1 := by decide
  have key : (BitVec.ofInt 64 n &&& BitVec.ofInt 64 1023).toNat = (n % ((2 ^ 64 : Nat) : Int)).toNat % 2 ^ 10 := by
    rw [BitVec.toNat_and, BitVec.toNat_ofInt, h127, Nat.and_two_pow_sub_one_eq_mod]
  show IntKind.i64.wrap ((BitVec.ofInt 64 n &&& BitVec.ofInt 64 1023).toNat : Nat) = n % 1024
  rw [key, IntKind.wrap_i64]
  omega
theorem and1023 (a : Int) : ∃ m : Nat, bits .and .i64 a 1023 = (m : Int) ∧ m ≤ 1023 := ⟨(a % 1024).toNat, by rw [i64_and1023]; omega, by omega⟩
set_option maxRecDepth 100000 in
set_option maxHeartbeats 4000000 in
theorem merkleNumbers_walk {w : World} (a : Int) (ha : (Lit.int .i64 a).wf = true) : Calls Tryd.prog 5 #[.int .i64 a] w fun e W => e = .returned (.bool true) ∧ New w W := by
  obtain ⟨m, hm, hm2⟩ := and1023 a
  have hm3 : (m : Int) ≤ 1023 := by omega
  go_enter Tryd.func5, Tryd.ntmps5
  go_wp2_with fail
  refine merkle_awake.mono ?_
  rintro e W1 ⟨rfl, n1⟩
  go_wp2_with fail
  refine number_nil.mono ?_
  rintro e w' ⟨rfl, rfl⟩
  go_wp2_with fail
  refine number_own.mono ?_
  rintro e w' ⟨rfl, rfl⟩
  go_wp2_with fail
  refine errno_text.mono ?_
  rintro e w' ⟨rfl, rfl⟩
  go_wp2_with fail
  go_ret
  exact ⟨rfl, n1⟩
end Go.Proofs.YtjcpdpdhegcgoaaDoor
