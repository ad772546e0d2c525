/- errors.As of a fault, at a number's variable; Number. -/
import Derived.Test.YtjcpdpdhegcgoaaDoorMkIs
import Derived.Lib.Hide
import Derived.Test.YtjcpdpdhegcgoaaDoorBuilder
namespace Go.Proofs.YtjcpdpdhegcgoaaDoor
open Go.RowKit Go.Extern.Stop Go.Stop Go.Extern
set_option linter.unusedVariables false
set_option linter.unusedSimpArgs false

/-- What the variable errors.errorType holds. -/
abbrev errT : Value := .iface 94 (.agg #[.pointer (some ⟨2, 41, none⟩)])
theorem as_valueOfP (t : Addr) (w : World) : (ReflectliteValue.unpack (.iface 52 (.pointer (some t)))).run Tryd.prog w
    = .ok (.agg #[.pointer (some ⟨2, 52, none⟩), .pointer (some ⟨w.heap.size, 0, none⟩), .int .u64 150]) (w.alloc (.cells #[.pointer (some t)] 52)) := by kernel_rfl
theorem as_typeP (a : Addr) (w : World) : (ReflectliteValue.methodAny (ReflectliteValue.valueError "reflectlite.Value.Type" 0) (fun t _ _ _ => ReflectliteType.toType t) #[.agg #[.pointer (some ⟨2, 52, none⟩), .pointer (some a), .int .u64 150]]).run Tryd.prog w
    = .ok (.iface 94 (.agg #[.pointer (some ⟨2, 52, none⟩)])) w := by kernel_rfl
theorem as_methodKind (h : Value) (w : World) : (Go.method 271 94 (.agg #[h]) "Kind").run Tryd.prog w = .ok (95, h) w := by kernel_rfl
theorem as_kindP (w : World) : ((ReflectliteType.abiMethod fun t => (fun a : Nat => Value.int IntKind.u8 (a : Int)) <$> Rtype.kind t) #[.pointer (some ⟨2, 52, none⟩)]).run Tryd.prog w = .ok (.int .u8 22) w := by kernel_rfl
theorem as_kindE (w : World) : ((ReflectliteType.abiMethod fun t => (fun a : Nat => Value.int IntKind.u8 (a : Int)) <$> Rtype.kind t) #[.pointer (some ⟨2, 26, none⟩)]).run Tryd.prog w = .ok (.int .u8 2) w := by kernel_rfl
theorem as_rlm (z : Sem Value) (f : TypeId → Addr → Nat → Nat → Sem Value) (v : Value) :
    ReflectliteValue.method z f #[v] = (do match ← ReflectliteValue.parts v with | none => z | some (t, a, fl) => f t a fl (fl % 32)) := rfl
theorem as_partsP (a : Addr) (w : World) : (ReflectliteValue.parts (.agg #[.pointer (some ⟨2, 52, none⟩), .pointer (some a), .int .u64 150])).run Tryd.prog w = .ok (some (52, a, 150)) w := by kernel_rfl
theorem as_isNilP (a p : Addr) (W : World) (ha : W.cell? a = some (.pointer (some p))) :
    (ReflectliteValue.method (ReflectliteValue.valueError "reflectlite.Value.IsNil" 0) ReflectliteValue.isNil #[.agg #[.pointer (some ⟨2, 52, none⟩), .pointer (some a), .int .u64 150]]).run Tryd.prog W = .ok (.bool false) W := by
  rw [as_rlm]
  simp only [Sem.run_bind, as_partsP, Result.andThen]
  simp [ReflectliteValue.isNil, loadVar, isAgg, underlying, Tryd.underlying52, ha, Result.andThen]
theorem as_methodElem (h : Value) (w : World) : (Go.method 271 94 (.agg #[h]) "Elem").run Tryd.prog w = .ok (107, .agg #[h]) w := by kernel_rfl
theorem as_methodImplements (h : Value) (w : World) : (Go.method 271 94 (.agg #[h]) "Implements").run Tryd.prog w = .ok (108, .agg #[h]) w := by kernel_rfl
theorem as_methodAssignableTo (h : Value) (w : World) : (Go.method 271 94 (.agg #[h]) "AssignableTo").run Tryd.prog w = .ok (105, .agg #[h]) w := by kernel_rfl
theorem as_elemP (w : World) : (ReflectliteType.method ReflectliteType.elem #[.agg #[.pointer (some ⟨2, 52, none⟩)]]).run Tryd.prog w = .ok (.iface 94 (.agg #[.pointer (some ⟨2, 26, none⟩)])) w := by kernel_rfl
theorem as_implementsE (w : World) : (ReflectliteType.relation "Implements" ReflectliteType.implements_ #[.agg #[.pointer (some ⟨2, 26, none⟩)], errT]).run Tryd.prog w = .ok (.bool true) w := by kernel_rfl
theorem as_typeOfF (v : Value) (w : World) : (ReflectliteType.typeOf #[.iface 60 v]).run Tryd.prog w = .ok (.iface 94 (.agg #[.pointer (some ⟨2, 60, none⟩)])) w := by kernel_rfl
theorem as_typeOfE (v : Value) (w : World) : (ReflectliteType.typeOf #[.iface 26 v]).run Tryd.prog w = .ok (.iface 94 (.agg #[.pointer (some ⟨2, 26, none⟩)])) w := by kernel_rfl
theorem as_assignFE (w : World) : (ReflectliteType.relation "AssignableTo" ReflectliteType.assignableTo #[.agg #[.pointer (some ⟨2, 60, none⟩)], .iface 94 (.agg #[.pointer (some ⟨2, 26, none⟩)])]).run Tryd.prog w = .ok (.bool false) w := by kernel_rfl
theorem as_assignEE (w : World) : (ReflectliteType.relation "AssignableTo" ReflectliteType.assignableTo #[.agg #[.pointer (some ⟨2, 26, none⟩)], .iface 94 (.agg #[.pointer (some ⟨2, 26, none⟩)])]).run Tryd.prog w = .ok (.bool true) w := by kernel_rfl
theorem as_valueOfE (n : Int) (w : World) : (ReflectliteValue.unpack (.iface 26 (.int .i64 n))).run Tryd.prog w
    = .ok (.agg #[.pointer (some ⟨2, 26, none⟩), .pointer (some ⟨w.heap.size, 0, none⟩), .int .u64 130]) (w.alloc (.cells #[.int .i64 n] 26)) := by kernel_rfl
theorem as_elemOfP (w : World) : (Rtype.elem? 52).run Tryd.prog w = .ok (some 26) w := by kernel_rfl
theorem as_mkE (p : Addr) (w : World) : (ReflectliteValue.mk 26 p ReflectliteValue.flagAddr).run Tryd.prog w = .ok (.agg #[.pointer (some ⟨2, 26, none⟩), .pointer (some p), .int .u64 386]) w := by kernel_rfl
theorem as_elemVP (a p : Addr) (W : World) (ha : W.cell? a = some (.pointer (some p))) :
    (ReflectliteValue.method (ReflectliteValue.valueError "reflectlite.Value.Elem" 0) ReflectliteValue.elem #[.agg #[.pointer (some ⟨2, 52, none⟩), .pointer (some a), .int .u64 150]]).run Tryd.prog W
      = .ok (.agg #[.pointer (some ⟨2, 26, none⟩), .pointer (some p), .int .u64 386]) W := by
  rw [as_rlm]
  simp only [Sem.run_bind, as_partsP, Result.andThen]
  simp [ReflectliteValue.elem, loadVar, isAgg, underlying, Tryd.underlying52, ha, Result.andThen, as_elemOfP, as_mkE]
theorem as_rls (v x : Value) : ReflectliteValue.set #[v, x] = (do
    let (some (dst, a, fl), some (src, b, _)) := (← ReflectliteValue.parts v, ← ReflectliteValue.parts x)
      | unsupported (.noEntry "extern/(internal/reflectlite.Value).Set.zeroValue")
    if fl / ReflectliteValue.flagAddr % 2 == 0 then unsupported (.noEntry "extern/(internal/reflectlite.Value).Set.unaddressable")
    let val ← loadVar src b
    if ← Rtype.directlyAssignable dst src then storeVar dst a val
    else if ← Rtype.implements dst src then
      if (← Rtype.kind src) == 20 then
        match val with
        | .nilIface => unsupported (.noEntry "extern/reflectlite: a nil value of one interface type handed on as a value of another")
        | _ => storeVar dst a val
      else storeVar dst a (.iface src val)
    else panicString ("reflectlite.Set: value of type " ++ (← Rtype.spelt src) ++ " is not assignable to type " ++ (← Rtype.spelt dst))
    pure (.tuple #[])) := rfl
theorem as_partsEa (a : Addr) (w : World) : (ReflectliteValue.parts (.agg #[.pointer (some ⟨2, 26, none⟩), .pointer (some a), .int .u64 386])).run Tryd.prog w = .ok (some (26, a, 386)) w := by kernel_rfl
theorem as_partsE (a : Addr) (w : World) : (ReflectliteValue.parts (.agg #[.pointer (some ⟨2, 26, none⟩), .pointer (some a), .int .u64 130])).run Tryd.prog w = .ok (some (26, a, 130)) w := by kernel_rfl
theorem as_directE (w : World) : (Rtype.directlyAssignable 26 26).run Tryd.prog w = .ok true w := by kernel_rfl
theorem as_setE (ta b : Addr) (n : Int) (old : Value) (W : World) (hb : W.cell? b = some (.int .i64 n)) (ht : W.cell? ta = some old) (hf : W.frozen? ta = false) :
    (ReflectliteValue.set #[.agg #[.pointer (some ⟨2, 26, none⟩), .pointer (some ta), .int .u64 386], .agg #[.pointer (some ⟨2, 26, none⟩), .pointer (some b), .int .u64 130]]).run Tryd.prog W
      = .ok (.tuple #[]) (W.setCell ta (.int .i64 n)) := by
  rw [as_rls]
  simp only [Sem.run_bind, as_partsEa, as_partsE, Result.andThen]
  simp [ReflectliteValue.flagAddr, loadVar, isAgg, underlying, Tryd.underlying26, hb, Result.andThen, as_directE, storeVar, Value.cells, storeCells, Addr.add]
  rw [run_store Tryd.prog W ta _ _ (by rfl)]
  simp [ht, hf]
theorem as_noAsF (v : Value) (xT : TypeId) (w : World) : (Instr.typeAssert (.iface 60 v) xT 115 true).run Tryd.prog w = .ok (.tuple #[.nilIface, .bool false]) w := run_typeAssert_lacksB Tryd.underlying115 (by kernel_rfl) (by kernel_rfl) v xT w
set_option maxRecDepth 100000 in
set_option maxHeartbeats 4000000 in
theorem as_fault (pb : Nat) (n : Int) (tb : Nat) (old : Value) (w : World) (hg : w.cell? ⟨0, 0, none⟩ = some errT) (h1 : w.cell? ⟨pb, 1, none⟩ = some (.int .i64 n)) (ho : Own w tb 26 #[old]) :
    Calls Tryd.prog 26 #[.iface 60 (.pointer (some ⟨pb, 0, none⟩)), .iface 52 (.pointer (some ⟨tb, 0, none⟩))] w fun e W => e = .returned (.bool true) ∧ W.cell? ⟨tb, 0, none⟩ = some (.int .i64 n) ∧ Fr (fun k => k = tb) w W := by
  have ht : w.cell? ⟨tb, 0, none⟩ = some old := ho.cell 0
  have hf : w.frozen? ⟨tb, 0, none⟩ = false := ho.free 0
  have h6 := @run_callFunc_extern Tryd.prog 43 _ (fun args => ReflectliteValue.unpack (args.getD 0 (.tuple #[]))) Tryd.func43 (by kernel_rfl) (by kernel_rfl) (by kernel_rfl) (by kernel_rfl)
  have h7 := @run_callFunc_extern Tryd.prog 44 _ (ReflectliteValue.methodAny (ReflectliteValue.valueError "reflectlite.Value.Type" 0) (fun t _ _ _ => ReflectliteType.toType t)) Tryd.func44 (by kernel_rfl) (by kernel_rfl) (by kernel_rfl) (by kernel_rfl)
  have h8 := @run_callFunc_extern Tryd.prog 45 _ (ReflectliteValue.method (ReflectliteValue.valueError "reflectlite.Value.IsNil" 0) ReflectliteValue.isNil) Tryd.func45 (by kernel_rfl) (by kernel_rfl) (by kernel_rfl) (by kernel_rfl)
  have h27 := @run_callFunc_extern Tryd.prog 95 _ (ReflectliteType.abiMethod fun t => do pure (.int .u8 (← Rtype.kind t))) Tryd.func95 (by kernel_rfl) (by kernel_rfl) (by kernel_rfl) (by kernel_rfl)
  have h37 := @run_callFunc_extern Tryd.prog 107 _ (ReflectliteType.method ReflectliteType.elem) Tryd.func107 (by kernel_rfl) (by kernel_rfl) (by kernel_rfl) (by kernel_rfl)
  have h38 := @run_callFunc_extern Tryd.prog 108 _ (ReflectliteType.relation "Implements" ReflectliteType.implements_) Tryd.func108 (by kernel_rfl) (by kernel_rfl) (by kernel_rfl) (by kernel_rfl)
  have h10 := @run_callFunc_extern Tryd.prog 33 _ ReflectliteType.typeOf Tryd.func33 (by kernel_rfl) (by kernel_rfl) (by kernel_rfl) (by kernel_rfl)
  have h35 := @run_callFunc_extern Tryd.prog 105 _ (ReflectliteType.relation "AssignableTo" ReflectliteType.assignableTo) Tryd.func105 (by kernel_rfl) (by kernel_rfl) (by kernel_rfl) (by kernel_rfl)
  have h11 := @run_callFunc_extern Tryd.prog 59 _ (ReflectliteValue.method (ReflectliteValue.valueError "reflectlite.Value.Elem" 0) ReflectliteValue.elem) Tryd.func59 (by kernel_rfl) (by kernel_rfl) (by kernel_rfl) (by kernel_rfl)
  have h12 := @run_callFunc_extern Tryd.prog 60 _ ReflectliteValue.set Tryd.func60 (by kernel_rfl) (by kernel_rfl) (by kernel_rfl) (by kernel_rfl)
  have nF := as_noAsF
  have uF := mk_hasUnwrapF
  have mU := mk_methodUnwrap
  have tO := as_typeOfF
  have tE := as_typeOfE
  have mA := as_methodAssignableTo
  have aF := as_assignFE
  have aE := as_assignEE
  have vE := as_valueOfE
  have f6 := as_valueOfP
  have f7 := as_typeP
  have mK := as_methodKind
  have mE := as_methodElem
  have mI := as_methodImplements
  have kP := as_kindP
  have kE := as_kindE
  have eP := as_elemP
  have iE := as_implementsE
  have hlt : 0 < w.heap.size := by
    rcases Nat.eq_zero_or_pos w.heap.size with h0 | h
    · simp [World.cell?, h0] at hg
    · exact h
  have htl : tb < w.heap.size := by
    rcases Nat.lt_or_ge tb w.heap.size with h | h
    · exact h
    · simp [World.cell?, Array.getElem?_eq_none h] at ht
  have hpl : pb < w.heap.size := by
    rcases Nat.lt_or_ge pb w.heap.size with h | h
    · exact h
    · simp [World.cell?, Array.getElem?_eq_none h] at h1
  have n8 := as_isNilP ⟨w.heap.size, 0, none⟩ ⟨tb, 0, none⟩ ((w.alloc (.cells #[.pointer (some ⟨tb, 0, none⟩)] 52)).alloc (.cells #[.pointer (some ⟨2, 52, none⟩), .pointer (some ⟨w.heap.size, 0, none⟩), .int .u64 150] 81)) (by simp)
  have N3 : New w (((w.alloc (.cells #[.pointer (some ⟨tb, 0, none⟩)] 52)).alloc (.cells #[.pointer (some ⟨2, 52, none⟩), .pointer (some ⟨w.heap.size, 0, none⟩), .int .u64 150] 81)).alloc (.cells #[.pointer (some ⟨2, 52, none⟩), .pointer (some ⟨w.heap.size, 0, none⟩), .int .u64 150] 81)) := (((Fr.refl _ _).alloc _).alloc _).alloc _
  have o3 : Own (((w.alloc (.cells #[.pointer (some ⟨tb, 0, none⟩)] 52)).alloc (.cells #[.pointer (some ⟨2, 52, none⟩), .pointer (some ⟨w.heap.size, 0, none⟩), .int .u64 150] 81)).alloc (.cells #[.pointer (some ⟨2, 52, none⟩), .pointer (some ⟨w.heap.size, 0, none⟩), .int .u64 150] 81)) w.heap.size 52 #[.pointer (some ⟨tb, 0, none⟩)] := ((Own.fresh w _ _).alloc _).alloc _
  have ov : Own (((w.alloc (.cells #[.pointer (some ⟨tb, 0, none⟩)] 52)).alloc (.cells #[.pointer (some ⟨2, 52, none⟩), .pointer (some ⟨w.heap.size, 0, none⟩), .int .u64 150] 81)).alloc (.cells #[.pointer (some ⟨2, 52, none⟩), .pointer (some ⟨w.heap.size, 0, none⟩), .int .u64 150] 81)) (w.heap.size + 1 + 1) 81 #[.pointer (some ⟨2, 52, none⟩), .pointer (some ⟨w.heap.size, 0, none⟩), .int .u64 150] := Own.new' (by simp)
  go_enter Tryd.func26, Tryd.ntmps26
  go_wp2
  obtain ⟨V3, hV3⟩ : ∃ V3, V3 = ((w.alloc (.cells #[.pointer (some ⟨tb, 0, none⟩)] 52)).alloc (.cells #[.pointer (some ⟨2, 52, none⟩), .pointer (some ⟨w.heap.size, 0, none⟩), .int .u64 150] 81)).alloc (.cells #[.pointer (some ⟨2, 52, none⟩), .pointer (some ⟨w.heap.size, 0, none⟩), .int .u64 150] 81) := ⟨_, rfl⟩
  rw [← hV3] at N3 o3 ov ⊢
  have v0 := ov.cell 0
  have v1 := ov.cell 1
  have v2 := ov.cell 2
  simp only [List.getElem?_toArray, List.getElem?_cons_zero, List.getElem?_cons_succ] at v0 v1 v2
  have c1 : V3.cell? ⟨pb, 1, none⟩ = some (.int .i64 n) := by
    rw [← h1]
    unfold World.cell?
    rw [N3.block pb hpl (fun x => x)]
  have ct : V3.cell? ⟨tb, 0, none⟩ = some old := by
    rw [← ht]
    unfold World.cell?
    rw [N3.block tb htl (fun x => x)]
  have cf : V3.frozen? ⟨tb, 0, none⟩ = false := by
    rw [← hf]
    unfold World.frozen?
    rw [N3.block tb htl (fun x => x)]
  have htl3 : tb < V3.heap.size := Nat.lt_of_lt_of_le htl N3.size
  have el := as_elemVP ⟨w.heap.size, 0, none⟩ ⟨tb, 0, none⟩ V3 (o3.cell 0)
  have st := as_setE ⟨tb, 0, none⟩ ⟨V3.heap.size, 0, none⟩ n old (V3.alloc (.cells #[.int .i64 n] 26)) (by simp) (by rw [World.cell?_alloc_lt _ _ _ htl3]; exact ct) (by rw [World.frozen?_alloc_old _ _ _ (Nat.ne_of_lt htl3)]; exact cf)
  have NF : Fr (fun k => k = tb) w ((V3.setCell ⟨tb, 0, none⟩ (.int .i64 n)).alloc (.cells #[.int .i64 n] 26)) := (Fr.set (F := fun k => k = tb) (p := ⟨tb, 0, none⟩) (N3.mono fun _ f => f.elim) (fun _ => rfl) _).alloc _
  have ctA : ((V3.setCell ⟨tb, 0, none⟩ (.int .i64 n)).alloc (.cells #[.int .i64 n] 26)).cell? ⟨tb, 0, none⟩ = some (.int .i64 n) := by
    exact (((ho.new_ N3).put (i := 0) (u := .int .i64 n) (cs' := #[.int .i64 n]) rfl).alloc _).cell 0
  have HNF := Lib.hid NF
  have HCT := Lib.hid ctA
  clear hV3 N3 o3 ov n8 NF ctA ht hf h1 hg ho
  refine wp_loop_rounds 2 ?_
  rw [rounds_succ]
  go_wp2_with (go_at_call 99; refine (fault_unwrap pb n _ c1).mono ?_; rintro e wq ⟨rfl, rfl⟩)
  rw [rounds_succ]
  go_wp2
  go_ret
  exact ⟨rfl, HCT.out, HNF.out⟩
set_option maxRecDepth 100000 in
set_option maxHeartbeats 2000000 in
theorem number_fault (pb : Nat) (n : Int) (w : World) (hg : w.cell? ⟨0, 0, none⟩ = some errT) (h1 : w.cell? ⟨pb, 1, none⟩ = some (.int .i64 n)) :
    Calls Tryd.prog 13 #[.iface 60 (.pointer (some ⟨pb, 0, none⟩))] w fun e W => e = .returned (.int .i64 n) ∧ New w W := by
  have hpl : pb < w.heap.size := by
    rcases Nat.lt_or_ge pb w.heap.size with h | h
    · exact h
    · simp [World.cell?, Array.getElem?_eq_none h] at h1
  have hlt : 0 < w.heap.size := by
    rcases Nat.eq_zero_or_pos w.heap.size with h0 | h
    · simp [World.cell?, h0] at hg
    · exact h
  have ho := Own.fresh w 26 #[.int .i64 0]
  have hN : New w (w.alloc (.cells #[.int .i64 0] 26)) := (Fr.refl _ _).alloc _
  have AF := as_fault pb n w.heap.size (.int .i64 0) (w.alloc (.cells #[.int .i64 0] 26)) (by rw [World.cell?_alloc_lt _ _ _ hlt]; exact hg) (by rw [World.cell?_alloc_lt _ _ _ hpl]; exact h1) ho
  have HA := Lib.hid (And.intro AF hN)
  clear AF ho hN hg h1 hpl hlt
  have tA : ∀ (v : Value) (w : World), (Instr.typeAssert (.iface 60 v) 41 26 true).run Tryd.prog w = .ok (.tuple #[.int .i64 0, .bool false]) w := fun v w => by kernel_rfl
  go_enter Tryd.func13, Tryd.ntmps13
  go_wp2_with fail
  refine HA.out.1.mono ?_
  rintro e W ⟨rfl, hc, f⟩
  have HN := Lib.hid (HA.out.2.trans f fun k hk e => by have e : k = w.heap.size := e; omega)
  clear f HA
  go_wp2_with fail
  go_ret
  exact ⟨rfl, HN.out⟩
end Go.Proofs.YtjcpdpdhegcgoaaDoor
