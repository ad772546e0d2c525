/- Words of 64 bits as the machine has them; turns; fold and slide. -/
import Derived.Test.YtjcpdpdhegcgoaaGreatDoorShaPlain
import Derived.Laws.BitsAllLaws
import Derived.Lib.Hide
import Derived.OwnWalk
import Derived.RegionTactic
import Derived.LoopTactic
namespace Go.Proofs.YtjcpdpdhegcgoaaGreatDoor
open Go.RowKit
set_option linter.unusedVariables false

/-- A word as a value. -/
abbrev U (x : W64) : Value := .int .u64 (x.toNat : Int)
theorem bx_ (a b : W64) : bits .xor .u64 (a.toNat : Int) (b.toNat : Int) = ((a ^^^ b).toNat : Int) := by rw [u64_xor_nat _ _ a.isLt b.isLt, BitVec.toNat_xor]
theorem ba_ (a b : W64) : bits .and .u64 (a.toNat : Int) (b.toNat : Int) = ((a &&& b).toNat : Int) := by rw [u64_and_nat _ _ a.isLt b.isLt, BitVec.toNat_and]
theorem bo_ (a b : W64) : bits .or .u64 (a.toNat : Int) (b.toNat : Int) = ((a ||| b).toNat : Int) := by rw [u64_or_nat _ _ a.isLt b.isLt, BitVec.toNat_or]
theorem badd_ (a b : W64) : ((a.toNat : Int) + (b.toNat : Int)) % 18446744073709551616 = ((a + b).toNat : Int) := by rw [BitVec.toNat_add]; simp
theorem bnot_ (a : W64) : (18446744073709551615 : Int) - (a.toNat : Int) = ((~~~a).toNat : Int) := by
  have := a.isLt
  rw [BitVec.toNat_not]
  omega
theorem bshr_ (a : W64) (n : Nat) : (a.toNat : Int) / 2 ^ n = ((a >>> n).toNat : Int) := by
  rw [BitVec.toNat_ushiftRight, Nat.shiftRight_eq_div_pow]
  simp
theorem bshl_ (a : W64) (n : Nat) : ((a.toNat : Int) * 2 ^ n) % 18446744073709551616 = ((a <<< n).toNat : Int) := by
  rw [BitVec.toNat_shiftLeft, Nat.shiftLeft_eq]
  simp
theorem blt (a : W64) : (a.toNat : Int) < 18446744073709551616 := by have := a.isLt; omega

theorem run_shl {P : Program} (x : W64) (m : Nat) (h : m ≤ 64) (k : IntKind) (w : World) : (Op.shift .shl .u64 (x.toNat : Int) k (m : Int)).run P w = .ok (U (x <<< m)) w := by
  unfold Op.shift
  rw [if_neg (by omega)]
  have e : min (m : Int).toNat IntKind.u64.bits = m := by show min (m : Int).toNat 64 = m; omega
  simp only [e]
  show Result.ok (Value.int .u64 (IntKind.u64.wrap ((x.toNat : Int) * 2 ^ m))) w = _
  rw [IntKind.wrap_u64, bshl_]
theorem run_shr {P : Program} (x : W64) (m : Nat) (h : m ≤ 64) (k : IntKind) (w : World) : (Op.shift .shr .u64 (x.toNat : Int) k (m : Int)).run P w = .ok (U (x >>> m)) w := by
  unfold Op.shift
  rw [if_neg (by omega)]
  have e : min (m : Int).toNat IntKind.u64.bits = m := by show min (m : Int).toNat 64 = m; omega
  simp only [e]
  show Result.ok (Value.int .u64 ((x.toNat : Int).fdiv (2 ^ m))) w = _
  rw [Int.fdiv_eq_ediv_of_nonneg _ (by exact Int.le_of_lt (by exact Int.pow_pos (by omega))), bshr_]

set_option maxRecDepth 100000 in
theorem rotl_any (x : W64) (n : Nat) (h1 : 0 < n) (h2 : n < 64) (w : World) :
    Calls Tryz.prog 122 #[U x, .int .i64 (-(n : Int))] w fun e w' => e = .returned (U (rotr x n)) ∧ w = w' := by
  have hb := blt x
  have hA : bits .and .u64 (IntKind.u64.wrap (-(n : Int))) 63 = ((64 - n : Nat) : Int) := by
    rw [IntKind.wrap_u64, show (-(n : Int)) % 18446744073709551616 = ((18446744073709551616 - n : Nat) : Int) by omega, show (63 : Int) = ((63 : Nat) : Int) from rfl, u64_and_nat _ _ (by omega) (by omega), show (63 : Nat) = 2 ^ 6 - 1 from rfl, Nat.and_two_pow_sub_one_eq_mod]
    omega
  obtain ⟨m, hm⟩ : ∃ m, 64 - n = m := ⟨_, rfl⟩
  rw [hm] at hA
  have hm1 : (m : Int) < 64 := by omega
  have hsub : (64 : Int) - (m : Int) = (n : Int) := by omega
  have hL := fun w => run_shl (P := Tryz.prog) x m (by omega) .u64 w
  have hR := fun w => run_shr (P := Tryz.prog) x n (by omega) .u64 w
  have hor : bits .or .u64 ((x <<< m).toNat : Int) ((x >>> n).toNat : Int) = ((rotr x n).toNat : Int) := by rw [bo_, ← hm, BitVec.or_comm]; rfl
  clear hm
  go_enter Tryz.func122, Tryz.ntmps122
  go_wp2
  go_ret
  refine ⟨congrArg (fun z => Ending.returned (.int .u64 z)) ?_, rfl⟩
  show bits .or .u64 (IntKind.u64.wrap ((x.toNat : Int) * 2 ^ m)) ((x.toNat : Int) / 2 ^ n) = _
  rw [IntKind.wrap_u64, bshl_, bshr_, hor]
set_option maxRecDepth 100000 in
theorem turn_any (x : W64) (n : Nat) (h1 : 0 < n) (h2 : n < 64) (w : World) :
    Calls Tryz.prog 116 #[U x, .int .i64 (n : Int)] w fun e w' => e = .returned (U (rotr x n)) ∧ w = w' := by
  have hb := blt x
  obtain ⟨m, hm⟩ : ∃ m, 64 - n = m := ⟨_, rfl⟩
  have hm1 : (m : Int) < 64 := by omega
  have hn1 : (n : Int) < 64 := by omega
  have hsub : (64 : Int) - (n : Int) = (m : Int) := by omega
  have hL := fun w => run_shl (P := Tryz.prog) x m (by omega) .u64 w
  have hR := fun w => run_shr (P := Tryz.prog) x n (by omega) .u64 w
  have hor : bits .or .u64 ((x >>> n).toNat : Int) ((x <<< m).toNat : Int) = ((rotr x n).toNat : Int) := by rw [bo_, ← hm]; rfl
  clear hm
  go_enter Tryz.func116, Tryz.ntmps116
  go_wp2
  go_ret
  refine ⟨congrArg (fun z => Ending.returned (.int .u64 z)) ?_, rfl⟩
  show bits .or .u64 ((x.toNat : Int) / 2 ^ n) (IntKind.u64.wrap ((x.toNat : Int) * 2 ^ m)) = _
  rw [IntKind.wrap_u64, bshl_, bshr_, hor]
set_option maxRecDepth 100000 in
theorem fold_any (x : W64) (a b c : Nat) (ha : 0 < a ∧ a < 64) (hb : 0 < b ∧ b < 64) (hc : 0 < c ∧ c < 64) (w : World) :
    Calls Tryz.prog 114 #[U x, .int .i64 (a : Int), .int .i64 (b : Int), .int .i64 (c : Int)] w fun e w' => e = .returned (U (fold3 x a b c)) ∧ w = w' := by
  have hx := blt x
  go_enter Tryz.func114, Tryz.ntmps114
  go_wp2_with fail
  refine (rotl_any x a ha.1 ha.2 _).mono ?_
  rintro e w1 ⟨rfl, rfl⟩
  go_wp2_with fail
  refine (rotl_any x b hb.1 hb.2 _).mono ?_
  rintro e w1 ⟨rfl, rfl⟩
  go_wp2_with fail
  refine (rotl_any x c hc.1 hc.2 _).mono ?_
  rintro e w1 ⟨rfl, rfl⟩
  go_wp2
  go_ret
  refine ⟨congrArg (fun z => Ending.returned (.int .u64 z)) ?_, rfl⟩
  show bits .xor .u64 (bits .xor .u64 ((rotr x a).toNat : Int) ((rotr x b).toNat : Int)) ((rotr x c).toNat : Int) = _
  rw [bx_, bx_]
  rfl
/-- A call that leaves all as it was but for answers drawn. -/
theorem Calls.drew_of {P : Program} {f : FuncId} {args : Array Value} {w : World} {v : Value}
    (h : Calls P f args w fun e w' => e = .returned v ∧ w = w') : Calls P f args w fun e w' => e = .returned v ∧ ∃ m, w' = w.drewN m :=
  h.mono fun _ w' ⟨he, hn⟩ => ⟨he, 0, by subst hn; rfl⟩
set_option maxRecDepth 100000 in
theorem slide_any (x : W64) (a b c : Nat) (ha : 0 < a ∧ a < 64) (hb : 0 < b ∧ b < 64) (hc : c < 64) (w : World) :
    Calls Tryz.prog 113 #[U x, .int .i64 (a : Int), .int .i64 (b : Int), .int .i64 (c : Int)] w fun e w' => e = .returned (U (slide3 x a b c)) ∧ ∃ m, w' = w.drewN m := by
  have hx := blt x
  have hc2 : (c : Int) < 64 := by omega
  have HA : ∀ w, Calls Tryz.prog 122 #[U x, .int .i64 (-(a : Int))] w fun e w' => e = .returned (U (rotr x a)) ∧ ∃ z, w' = w.drewN z := fun y => Calls.drew_of (rotl_any x a ha.1 ha.2 y)
  have HB : ∀ w, Calls Tryz.prog 122 #[U x, .int .i64 (-(b : Int))] w fun e w' => e = .returned (U (rotr x b)) ∧ ∃ z, w' = w.drewN z := fun y => Calls.drew_of (rotl_any x b hb.1 hb.2 y)
  go_enter Tryz.func113, Tryz.ntmps113
  go_wp2_with fail
  go_quiet ((go_at_call 122; first | with_reducible exact Calls.quiet_of (HA _) | with_reducible exact Calls.quiet_of (HB _)))
  go_wp2
  go_ret
  refine ⟨congrArg (fun z => Ending.returned (.int .u64 z)) ?_, nq, rfl⟩
  show bits .xor .u64 (bits .xor .u64 ((rotr x a).toNat : Int) ((rotr x b).toNat : Int)) ((x.toNat : Int) / 2 ^ c) = _
  rw [bx_, bshr_, bx_]
  rfl
end Go.Proofs.YtjcpdpdhegcgoaaGreatDoor
