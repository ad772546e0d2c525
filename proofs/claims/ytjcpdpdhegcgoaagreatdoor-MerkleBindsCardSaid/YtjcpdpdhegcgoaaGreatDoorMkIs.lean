/- errors.Is at nil and at a fault, against a number. -/
import Derived.Test.YtjcpdpdhegcgoaaGreatDoorBase
import Derived.LaidEql
import Derived.Stop.Asserts
import Derived.RowKitTokens
namespace Go.Proofs.YtjcpdpdhegcgoaaGreatDoor
open Go.RowKit Go.Extern.Stop Go.Stop Go.Extern
set_option linter.unusedVariables false
set_option linter.unusedSimpArgs false

theorem run_equalIn_num {P : Program} (w : World) (d : Nat) {ti tn : TypeId} {ms : Array (String × TypeId)} {i : TypeInfo} {k : IntKind} (a b : Int)
    (hi : P.underlying ti = some (.interface ms)) (hn : P.underlying tn = some (.int k)) (hinfo : P.info? tn = some i) (hcomp : i.comparable = true) :
    (Op.equalIn (d + 2) ti (.iface tn (.int k a)) (.iface tn (.int k b))).run P w = .ok (a == b) w := by
  simp [Op.equalIn, run_underlying hi, run_underlying hn, typeInfo, hinfo, hcomp]
theorem run_eql_num {P : Program} (w : World) {ti tn : TypeId} {ms : Array (String × TypeId)} {i : TypeInfo} {k : IntKind} (a b : Int)
    (hi : P.underlying ti = some (.interface ms)) (hn : P.underlying tn = some (.int k)) (hinfo : P.info? tn = some i) (hcomp : i.comparable = true) :
    (binOp .eql ti (.iface tn (.int k a)) (.iface tn (.int k b))).run P w = .ok (.bool (a == b)) w := by
  simp only [binOp]
  simp [Op.equal, Op.maxDepth, run_equalIn_num w 9998 a b hi hn hinfo hcomp]
theorem mk_typeOf (v : Value) (w : World) : (Extern.ReflectliteType.typeOf #[.iface 28 v]).run Tryz.prog w = .ok (.iface 120 (.agg #[typeHandle Tryz.prog 28])) w := by kernel_rfl
theorem mk_comparable (w : World) : (callFunc 147 #[.agg #[typeHandle Tryz.prog 28]]).run Tryz.prog w = .ok (.value (.bool true)) w := by kernel_rfl
theorem mk_methodComparable (v : Value) (w : World) : (Go.method 297 120 v "Comparable").run Tryz.prog w = .ok (147, v) w := by kernel_rfl
theorem mk_noIsF (v : Value) (xT : TypeId) (w : World) : (Instr.typeAssert (.iface 96 v) xT 122 true).run Tryz.prog w = .ok (.tuple #[.nilIface, .bool false]) w := run_typeAssert_lacksB Tryz.underlying122 (by kernel_rfl) (by kernel_rfl) v xT w
theorem mk_hasUnwrapF (v : Value) (xT : TypeId) (w : World) : (Instr.typeAssert (.iface 96 v) xT 125 true).run Tryz.prog w = .ok (.tuple #[.iface 96 v, .bool true]) w := run_typeAssert_hasB Tryz.underlying125 (by kernel_rfl) v xT w
theorem mk_methodUnwrap (v : Value) (w : World) : (Go.method 297 96 v "Unwrap").run Tryz.prog w = .ok (144, v) w := by kernel_rfl
theorem mk_compErrno : (Tryz.prog.info? 28).map (·.comparable) = some true := by kernel_rfl
/-- errors.Is(nil, a number). -/
theorem is_none (n : Int) (w : World) : Calls Tryz.prog 42 #[.nilIface, .iface 28 (.int .i64 n)] w fun e w' => e = .returned (.bool false) ∧ w' = w := by
  have hn := run_eql_iface_nil_left (P := Tryz.prog) w 28 (.int .i64 n) Tryz.underlying65
  go_enter Tryz.func42, Tryz.ntmps42
  go_wp2
  go_ret
  exact ⟨rfl, rfl⟩
theorem fault_unwrap (pb : Nat) (n : Int) (w : World) (h1 : w.cell? ⟨pb, 1, none⟩ = some (.int .i64 n)) :
    Calls Tryz.prog 144 #[.pointer (some ⟨pb, 0, none⟩)] w fun e w' => e = .returned (.iface 28 (.int .i64 n)) ∧ w' = w := by
  go_enter Tryz.func144, Tryz.ntmps144
  go_wp2
  go_ret
  exact ⟨rfl, rfl⟩
set_option maxRecDepth 100000 in
set_option maxHeartbeats 4000000 in
/-- errors.Is(a fault of that very number, the number). -/
theorem is_fault (pb : Nat) (n : Int) (w : World) (h1 : w.cell? ⟨pb, 1, none⟩ = some (.int .i64 n)) :
    Calls Tryz.prog 42 #[.iface 96 (.pointer (some ⟨pb, 0, none⟩)), .iface 28 (.int .i64 n)] w fun e w' => e = .returned (.bool true) ∧ w' = w := by
  obtain ⟨i, hi, hcmp⟩ := Option.map_eq_some_iff.1 mk_compErrno
  have h33 := @run_callFunc_extern Tryz.prog 69 _ Extern.ReflectliteType.typeOf Tryz.func69 (by kernel_rfl) (by kernel_rfl) (by kernel_rfl) (by kernel_rfl)
  have tT := mk_typeOf
  have cT := mk_comparable
  have mR := mk_methodComparable
  have nF := mk_noIsF
  have uF := mk_hasUnwrapF
  have mU := mk_methodUnwrap
  have heq := run_eql_num (P := Tryz.prog) w n n Tryz.underlying65 Tryz.underlying28 hi hcmp
  have hty := run_eql_iface_types (P := Tryz.prog) 96 28 (.pointer (some ⟨pb, 0, none⟩)) (.int .i64 n) Tryz.underlying65 (by decide) w
  go_enter Tryz.func42, Tryz.ntmps42
  go_wp2
  refine wp_loop_rounds 2 ?_
  rw [rounds_succ]
  go_wp2_with (go_at_call 144; refine (fault_unwrap pb n _ h1).mono ?_; rintro e wq ⟨rfl, rfl⟩)
  rw [rounds_succ]
  go_wp2
  go_ret
  exact ⟨rfl, rfl⟩
end Go.Proofs.YtjcpdpdhegcgoaaGreatDoor
