/- errors.As of a fault, at a number's variable; Number. -/
import Derived.Test.YtjcpdpdhegcgoaaGreatDoorMkIs
import Derived.Lib.Hide
import Derived.Test.YtjcpdpdhegcgoaaGreatDoorBuilder
namespace Go.Proofs.YtjcpdpdhegcgoaaGreatDoor
open Go.RowKit Go.Extern.Stop Go.Stop Go.Extern
set_option linter.unusedVariables false
set_option linter.unusedSimpArgs false

/-- What the variable errors.errorType holds. -/
abbrev errT : Value := .iface 120 (.agg #[.pointer (some ⟨2, 65, none⟩)])
theorem as_valueOfP (t : Addr) (w : World) : (ReflectliteValue.unpack (.iface 106 (.pointer (some t)))).run Tryz.prog w
    = .ok (.agg #[.pointer (some ⟨2, 106, none⟩), .pointer (some ⟨w.heap.size, 0, none⟩), .int .u64 150]) (w.alloc (.cells #[.pointer (some t)] 106)) := by kernel_rfl
theorem as_typeP (a : Addr) (w : World) : (ReflectliteValue.methodAny (ReflectliteValue.valueError "reflectlite.Value.Type" 0) (fun t _ _ _ => ReflectliteType.toType t) #[.agg #[.pointer (some ⟨2, 106, none⟩), .pointer (some a), .int .u64 150]]).run Tryz.prog w
    = .ok (.iface 120 (.agg #[.pointer (some ⟨2, 106, none⟩)])) w := by kernel_rfl
theorem as_methodKind (h : Value) (w : World) : (Go.method 297 120 (.agg #[h]) "Kind").run Tryz.prog w = .ok (138, h) w := by kernel_rfl
theorem as_kindP (w : World) : ((ReflectliteType.abiMethod fun t => (fun a : Nat => Value.int IntKind.u8 (a : Int)) <$> Rtype.kind t) #[.pointer (some ⟨2, 106, none⟩)]).run Tryz.prog w = .ok (.int .u8 22) w := by kernel_rfl
theorem as_kindE (w : World) : ((ReflectliteType.abiMethod fun t => (fun a : Nat => Value.int IntKind.u8 (a : Int)) <$> Rtype.kind t) #[.pointer (some ⟨2, 28, none⟩)]).run Tryz.prog w = .ok (.int .u8 2) w := by kernel_rfl
theorem as_rlm (z : Sem Value) (f : TypeId → Addr → Nat → Nat → Sem Value) (v : Value) :
    ReflectliteValue.method z f #[v] = (do match ← ReflectliteValue.parts v with | none => z | some (t, a, fl) => f t a fl (fl % 32)) := rfl
theorem as_partsP (a : Addr) (w : World) : (ReflectliteValue.parts (.agg #[.pointer (some ⟨2, 106, none⟩), .pointer (some a), .int .u64 150])).run Tryz.prog w = .ok (some (106, a, 150)) w := by kernel_rfl
theorem as_isNilP (a p : Addr) (W : World) (ha : W.cell? a = some (.pointer (some p))) :
    (ReflectliteValue.method (ReflectliteValue.valueError "reflectlite.Value.IsNil" 0) ReflectliteValue.isNil #[.agg #[.pointer (some ⟨2, 106, none⟩), .pointer (some a), .int .u64 150]]).run Tryz.prog W = .ok (.bool false) W := by
  rw [as_rlm]
  simp only [Sem.run_bind, as_partsP, Result.andThen]
  simp [ReflectliteValue.isNil, loadVar, isAgg, underlying, Tryz.underlying106, ha, Result.andThen]
theorem as_methodElem (h : Value) (w : World) : (Go.method 297 120 (.agg #[h]) "Elem").run Tryz.prog w = .ok (148, .agg #[h]) w := by kernel_rfl
theorem as_methodImplements (h : Value) (w : World) : (Go.method 297 120 (.agg #[h]) "Implements").run Tryz.prog w = .ok (149, .agg #[h]) w := by kernel_rfl
theorem as_methodAssignableTo (h : Value) (w : World) : (Go.method 297 120 (.agg #[h]) "AssignableTo").run Tryz.prog w = .ok (146, .agg #[h]) w := by kernel_rfl
theorem as_elemP (w : World) : (ReflectliteType.method ReflectliteType.elem #[.agg #[.pointer (some ⟨2, 106, none⟩)]]).run Tryz.prog w = .ok (.iface 120 (.agg #[.pointer (some ⟨2, 28, none⟩)])) w := by kernel_rfl
theorem as_implementsE (w : World) : (ReflectliteType.relation "Implements" ReflectliteType.implements_ #[.agg #[.pointer (some ⟨2, 28, none⟩)], errT]).run Tryz.prog w = .ok (.bool true) w := by kernel_rfl
theorem as_typeOfF (v : Value) (w : World) : (ReflectliteType.typeOf #[.iface 96 v]).run Tryz.prog w = .ok (.iface 120 (.agg #[.pointer (some ⟨2, 96, none⟩)])) w := by kernel_rfl
theorem as_typeOfE (v : Value) (w : World) : (ReflectliteType.typeOf #[.iface 28 v]).run Tryz.prog w = .ok (.iface 120 (.agg #[.pointer (some ⟨2, 28, none⟩)])) w := by kernel_rfl
theorem as_assignFE (w : World) : (ReflectliteType.relation "AssignableTo" ReflectliteType.assignableTo #[.agg #[.pointer (some ⟨2, 96, none⟩)], .iface 120 (.agg #[.pointer (some ⟨2, 28, none⟩)])]).run Tryz.prog w = .ok (.bool false) w := by kernel_rfl
theorem as_assignEE (w : World) : (ReflectliteType.relation "AssignableTo" ReflectliteType.assignableTo #[.agg #[.pointer (some ⟨2, 28, none⟩)], .iface 120 (.agg #[.pointer (some ⟨2, 28, none⟩)])]).run Tryz.prog w = .ok (.bool true) w := by kernel_rfl
theorem as_valueOfE (n : Int) (w : World) : (ReflectliteValue.unpack (.iface 28 (.int .i64 n))).run Tryz.prog w
    = .ok (.agg #[.pointer (some ⟨2, 28, none⟩), .pointer (some ⟨w.heap.size, 0, none⟩), .int .u64 130]) (w.alloc (.cells #[.int .i64 n] 28)) := by kernel_rfl
theorem as_elemOfP (w : World) : (Rtype.elem? 106).run Tryz.prog w = .ok (some 28) w := by kernel_rfl
theorem as_mkE (p : Addr) (w : World) : (ReflectliteValue.mk 28 p ReflectliteValue.flagAddr).run Tryz.prog w = .ok (.agg #[.pointer (some ⟨2, 28, none⟩), .pointer (some p), .int .u64 386]) w := by kernel_rfl
theorem as_elemVP (a p : Addr) (W : World) (ha : W.cell? a = some (.pointer (some p))) :
    (ReflectliteValue.method (ReflectliteValue.valueError "reflectlite.Value.Elem" 0) ReflectliteValue.elem #[.agg #[.pointer (some ⟨2, 106, none⟩), .pointer (some a), .int .u64 150]]).run Tryz.prog W
      = .ok (.agg #[.pointer (some ⟨2, 28, none⟩), .pointer (some p), .int .u64 386]) W := by
  rw [as_rlm]
  simp only [Sem.run_bind, as_partsP, Result.andThen]
  simp [ReflectliteValue.elem, loadVar, isAgg, underlying, Tryz.underlying106, ha, Result.andThen, as_elemOfP, as_mkE]
theorem as_rls (v x : Value) : ReflectliteValue.set #[v, x] = (do
    let (some (dst, a, fl), some (src, b, _)) := (← ReflectliteValue.parts v, ← ReflectliteValue.parts x)
      | unsupported (.noEntry "extern/(internal/reflectlite.Value).Set.zeroValue")
    if fl / ReflectliteValue.flagAddr % 2 == 0 then unsupported (.noEntry "extern/(internal/reflectlite.Value).Set.unaddressable")
    let val ← loadVar src b
    if ← Rtype.directlyAssignable dst src then storeVar dst a val
    else if ← Rtype.implements dst src then
      if (← Rtype.kind src) == 20 then
        match val with
        | .nilIface => unsupported (.noEntry "extern/reflectlite: a nil value of one interface type handed on as a value of another")
        | _ => storeVar dst a val
      else storeVar dst a (.iface src val)
    else panicString ("reflectlite.Set: value of type " ++ (← Rtype.spelt src) ++ " is not assignable to type " ++ (← Rtype.spelt dst))
    pure (.tuple #[])) := rfl
theorem as_partsEa (a : Addr) (w : World) : (ReflectliteValue.parts (.agg #[.pointer (some ⟨2, 28, none⟩), .pointer (some a), .int .u64 386])).run Tryz.prog w = .ok (some (28, a, 386)) w := by kernel_rfl
theorem as_partsE (a : Addr) (w : World) : (ReflectliteValue.parts (.agg #[.pointer (some ⟨2, 28, none⟩), .pointer (some a), .int .u64 130])).run Tryz.prog w = .ok (some (28, a, 130)) w := by kernel_rfl
theorem as_directE (w : World) : (Rtype.directlyAssignable 28 28).run Tryz.prog w = .ok true w := by kernel_rfl
theorem as_setE (ta b : Addr) (n : Int) (old : Value) (W : World) (hb : W.cell? b = some (.int .i64 n)) (ht : W.cell? ta = some old) (hf : W.frozen? ta = false) :
    (ReflectliteValue.set #[.agg #[.pointer (some ⟨2, 28, none⟩), .pointer (some ta), .int .u64 386], .agg #[.pointer (some ⟨2, 28, none⟩), .pointer (some b), .int .u64 130]]).run Tryz.prog W
      = .ok (.tuple #[]) (W.setCell ta (.int .i64 n)) := by
  rw [as_rls]
  simp only [Sem.run_bind, as_partsEa, as_partsE, Result.andThen]
  simp [ReflectliteValue.flagAddr, loadVar, isAgg, underlying, Tryz.underlying28, hb, Result.andThen, as_directE, storeVar, Value.cells, storeCells, Addr.add]
  rw [run_store Tryz.prog W ta _ _ (by rfl)]
  simp [ht, hf]
theorem as_noAsF (v : Value) (xT : TypeId) (w : World) : (Instr.typeAssert (.iface 96 v) xT 155 true).run Tryz.prog w = .ok (.tuple #[.nilIface, .bool false]) w := run_typeAssert_lacksB Tryz.underlying155 (by kernel_rfl) (by kernel_rfl) v xT w
set_option maxRecDepth 100000 in
set_option maxHeartbeats 4000000 in
theorem as_fault (pb : Nat) (n : Int) (tb : Nat) (old : Value) (w : World) (hg : w.cell? ⟨0, 0, none⟩ = some errT) (h1 : w.cell? ⟨pb, 1, none⟩ = some (.int .i64 n)) (ho : Own w tb 28 #[old]) :
    Calls Tryz.prog 71 #[.iface 96 (.pointer (some ⟨pb, 0, none⟩)), .iface 106 (.pointer (some ⟨tb, 0, none⟩))] w fun e W => e = .returned (.bool true) ∧ W.cell? ⟨tb, 0, none⟩ = some (.int .i64 n) ∧ Fr (fun k => k = tb) w W := by
  have ht : w.cell? ⟨tb, 0, none⟩ = some old := ho.cell 0
  have hf : w.frozen? ⟨tb, 0, none⟩ = false := ho.free 0
  have h6 := @run_callFunc_extern Tryz.prog 91 _ (fun args => ReflectliteValue.unpack (args.getD 0 (.tuple #[]))) Tryz.func91 (by kernel_rfl) (by kernel_rfl) (by kernel_rfl) (by kernel_rfl)
  have h7 := @run_callFunc_extern Tryz.prog 92 _ (ReflectliteValue.methodAny (ReflectliteValue.valueError "reflectlite.Value.Type" 0) (fun t _ _ _ => ReflectliteType.toType t)) Tryz.func92 (by kernel_rfl) (by kernel_rfl) (by kernel_rfl) (by kernel_rfl)
  have h8 := @run_callFunc_extern Tryz.prog 93 _ (ReflectliteValue.method (ReflectliteValue.valueError "reflectlite.Value.IsNil" 0) ReflectliteValue.isNil) Tryz.func93 (by kernel_rfl) (by kernel_rfl) (by kernel_rfl) (by kernel_rfl)
  have h27 := @run_callFunc_extern Tryz.prog 138 _ (ReflectliteType.abiMethod fun t => do pure (.int .u8 (← Rtype.kind t))) Tryz.func138 (by kernel_rfl) (by kernel_rfl) (by kernel_rfl) (by kernel_rfl)
  have h37 := @run_callFunc_extern Tryz.prog 148 _ (ReflectliteType.method ReflectliteType.elem) Tryz.func148 (by kernel_rfl) (by kernel_rfl) (by kernel_rfl) (by kernel_rfl)
  have h38 := @run_callFunc_extern Tryz.prog 149 _ (ReflectliteType.relation "Implements" ReflectliteType.implements_) Tryz.func149 (by kernel_rfl) (by kernel_rfl) (by kernel_rfl) (by kernel_rfl)
  have h10 := @run_callFunc_extern Tryz.prog 69 _ ReflectliteType.typeOf Tryz.func69 (by kernel_rfl) (by kernel_rfl) (by kernel_rfl) (by kernel_rfl)
  have h35 := @run_callFunc_extern Tryz.prog 146 _ (ReflectliteType.relation "AssignableTo" ReflectliteType.assignableTo) Tryz.func146 (by kernel_rfl) (by kernel_rfl) (by kernel_rfl) (by kernel_rfl)
  have h11 := @run_callFunc_extern Tryz.prog 108 _ (ReflectliteValue.method (ReflectliteValue.valueError "reflectlite.Value.Elem" 0) ReflectliteValue.elem) Tryz.func108 (by kernel_rfl) (by kernel_rfl) (by kernel_rfl) (by kernel_rfl)
  have h12 := @run_callFunc_extern Tryz.prog 109 _ ReflectliteValue.set Tryz.func109 (by kernel_rfl) (by kernel_rfl) (by kernel_rfl) (by kernel_rfl)
  have nF := as_noAsF
  have uF := mk_hasUnwrapF
  have mU := mk_methodUnwrap
  have tO := as_typeOfF
  have tE := as_typeOfE
  have mA := as_methodAssignableTo
  have aF := as_assignFE
  have aE := as_assignEE
  have vE := as_valueOfE
  have f6 := as_valueOfP
  have f7 := as_typeP
  have mK := as_methodKind
  have mE := as_methodElem
  have mI := as_methodImplements
  have kP := as_kindP
  have kE := as_kindE
  have eP := as_elemP
  have iE := as_implementsE
  have hlt : 0 < w.heap.size := by
    rcases Nat.eq_zero_or_pos w.heap.size with h0 | h
    · simp [World.cell?, h0] at hg
    · exact h
  have htl : tb < w.heap.size := by
    rcases Nat.lt_or_ge tb w.heap.size with h | h
    · exact h
    · simp [World.cell?, Array.getElem?_eq_none h] at ht
  have hpl : pb < w.heap.size := by
    rcases Nat.lt_or_ge pb w.heap.size with h | h
    · exact h
    · simp [World.cell?, Array.getElem?_eq_none h] at h1
  have n8 := as_isNilP ⟨w.heap.size, 0, none⟩ ⟨tb, 0, none⟩ ((w.alloc (.cells #[.pointer (some ⟨tb, 0, none⟩)] 106)).alloc (.cells #[.pointer (some ⟨2, 106, none⟩), .pointer (some ⟨w.heap.size, 0, none⟩), .int .u64 150] 133)) (by simp)
  have N3 : New w (((w.alloc (.cells #[.pointer (some ⟨tb, 0, none⟩)] 106)).alloc (.cells #[.pointer (some ⟨2, 106, none⟩), .pointer (some ⟨w.heap.size, 0, none⟩), .int .u64 150] 133)).alloc (.cells #[.pointer (some ⟨2, 106, none⟩), .pointer (some ⟨w.heap.size, 0, none⟩), .int .u64 150] 133)) := (((Fr.refl _ _).alloc _).alloc _).alloc _
  have o3 : Own (((w.alloc (.cells #[.pointer (some ⟨tb, 0, none⟩)] 106)).alloc (.cells #[.pointer (some ⟨2, 106, none⟩), .pointer (some ⟨w.heap.size, 0, none⟩), .int .u64 150] 133)).alloc (.cells #[.pointer (some ⟨2, 106, none⟩), .pointer (some ⟨w.heap.size, 0, none⟩), .int .u64 150] 133)) w.heap.size 106 #[.pointer (some ⟨tb, 0, none⟩)] := ((Own.fresh w _ _).alloc _).alloc _
  have ov : Own (((w.alloc (.cells #[.pointer (some ⟨tb, 0, none⟩)] 106)).alloc (.cells #[.pointer (some ⟨2, 106, none⟩), .pointer (some ⟨w.heap.size, 0, none⟩), .int .u64 150] 133)).alloc (.cells #[.pointer (some ⟨2, 106, none⟩), .pointer (some ⟨w.heap.size, 0, none⟩), .int .u64 150] 133)) (w.heap.size + 1 + 1) 133 #[.pointer (some ⟨2, 106, none⟩), .pointer (some ⟨w.heap.size, 0, none⟩), .int .u64 150] := Own.new' (by simp)
  go_enter Tryz.func71, Tryz.ntmps71
  go_wp2
  obtain ⟨V3, hV3⟩ : ∃ V3, V3 = ((w.alloc (.cells #[.pointer (some ⟨tb, 0, none⟩)] 106)).alloc (.cells #[.pointer (some ⟨2, 106, none⟩), .pointer (some ⟨w.heap.size, 0, none⟩), .int .u64 150] 133)).alloc (.cells #[.pointer (some ⟨2, 106, none⟩), .pointer (some ⟨w.heap.size, 0, none⟩), .int .u64 150] 133) := ⟨_, rfl⟩
  rw [← hV3] at N3 o3 ov ⊢
  have v0 := ov.cell 0
  have v1 := ov.cell 1
  have v2 := ov.cell 2
  simp only [List.getElem?_toArray, List.getElem?_cons_zero, List.getElem?_cons_succ] at v0 v1 v2
  have c1 : V3.cell? ⟨pb, 1, none⟩ = some (.int .i64 n) := by
    rw [← h1]
    unfold World.cell?
    rw [N3.block pb hpl (fun x => x)]
  have ct : V3.cell? ⟨tb, 0, none⟩ = some old := by
    rw [← ht]
    unfold World.cell?
    rw [N3.block tb htl (fun x => x)]
  have cf : V3.frozen? ⟨tb, 0, none⟩ = false := by
    rw [← hf]
    unfold World.frozen?
    rw [N3.block tb htl (fun x => x)]
  have htl3 : tb < V3.heap.size := Nat.lt_of_lt_of_le htl N3.size
  have el := as_elemVP ⟨w.heap.size, 0, none⟩ ⟨tb, 0, none⟩ V3 (o3.cell 0)
  have st := as_setE ⟨tb, 0, none⟩ ⟨V3.heap.size, 0, none⟩ n old (V3.alloc (.cells #[.int .i64 n] 28)) (by simp) (by rw [World.cell?_alloc_lt _ _ _ htl3]; exact ct) (by rw [World.frozen?_alloc_old _ _ _ (Nat.ne_of_lt htl3)]; exact cf)
  have NF : Fr (fun k => k = tb) w ((V3.setCell ⟨tb, 0, none⟩ (.int .i64 n)).alloc (.cells #[.int .i64 n] 28)) := (Fr.set (F := fun k => k = tb) (p := ⟨tb, 0, none⟩) (N3.mono fun _ f => f.elim) (fun _ => rfl) _).alloc _
  have ctA : ((V3.setCell ⟨tb, 0, none⟩ (.int .i64 n)).alloc (.cells #[.int .i64 n] 28)).cell? ⟨tb, 0, none⟩ = some (.int .i64 n) := by
    exact (((ho.new_ N3).put (i := 0) (u := .int .i64 n) (cs' := #[.int .i64 n]) rfl).alloc _).cell 0
  have HNF := Lib.hid NF
  have HCT := Lib.hid ctA
  clear hV3 N3 o3 ov n8 NF ctA ht hf h1 hg ho
  refine wp_loop_rounds 2 ?_
  rw [rounds_succ]
  go_wp2_with (go_at_call 144; refine (fault_unwrap pb n _ c1).mono ?_; rintro e wq ⟨rfl, rfl⟩)
  rw [rounds_succ]
  go_wp2
  go_ret
  exact ⟨rfl, HCT.out, HNF.out⟩
set_option maxRecDepth 100000 in
set_option maxHeartbeats 2000000 in
theorem number_fault (pb : Nat) (n : Int) (w : World) (hg : w.cell? ⟨0, 0, none⟩ = some errT) (h1 : w.cell? ⟨pb, 1, none⟩ = some (.int .i64 n)) :
    Calls Tryz.prog 43 #[.iface 96 (.pointer (some ⟨pb, 0, none⟩))] w fun e W => e = .returned (.int .i64 n) ∧ New w W := by
  have hpl : pb < w.heap.size := by
    rcases Nat.lt_or_ge pb w.heap.size with h | h
    · exact h
    · simp [World.cell?, Array.getElem?_eq_none h] at h1
  have hlt : 0 < w.heap.size := by
    rcases Nat.eq_zero_or_pos w.heap.size with h0 | h
    · simp [World.cell?, h0] at hg
    · exact h
  have ho := Own.fresh w 28 #[.int .i64 0]
  have hN : New w (w.alloc (.cells #[.int .i64 0] 28)) := (Fr.refl _ _).alloc _
  have AF := as_fault pb n w.heap.size (.int .i64 0) (w.alloc (.cells #[.int .i64 0] 28)) (by rw [World.cell?_alloc_lt _ _ _ hlt]; exact hg) (by rw [World.cell?_alloc_lt _ _ _ hpl]; exact h1) ho
  have HA := Lib.hid (And.intro AF hN)
  clear AF ho hN hg h1 hpl hlt
  have tA : ∀ (v : Value) (w : World), (Instr.typeAssert (.iface 96 v) 65 28 true).run Tryz.prog w = .ok (.tuple #[.int .i64 0, .bool false]) w := fun v w => by kernel_rfl
  go_enter Tryz.func43, Tryz.ntmps43
  go_wp2_with fail
  refine HA.out.1.mono ?_
  rintro e W ⟨rfl, hc, f⟩
  have HN := Lib.hid (HA.out.2.trans f fun k hk e => by have e : k = w.heap.size := e; omega)
  clear f HA
  go_wp2_with fail
  go_ret
  exact ⟨rfl, HN.out⟩
end Go.Proofs.YtjcpdpdhegcgoaaGreatDoor
