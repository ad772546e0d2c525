/- A struct stored into its block, or into a row's place; loaded from there. -/
import Derived.Test.YtedfgbkaijjaeaaBase
import Derived.Deep.MidRow
import Derived.Laws.CopyRow
namespace Go.Proofs.Ytedfgbkaijjaeaa
open Go.RowKit
set_option linter.unusedVariables false
set_option linter.unusedSimpArgs false

variable {P : Program}
theorem Own.setRow {w : World} {b : Nat} {t : TypeId} {cs : Array Value} (h : Own w b t cs) (cs' : Array Value) : Own (w.setRow b cs') b t cs' := setRow_heap _ _ _ _ _ _ h
theorem fr_setRow' (W : World) (g : Nat) (cs : Array Value) : Fr (fun k => k = g) W (W.setRow g cs) := ⟨rfl, rfl, rfl, by simp [World.setRow], fun k _ hk => setRow_other W g k cs hk⟩
theorem run_store_own {w : World} {b o : Nat} {bt ty : TypeId} {cs cells : Array Value} (hO : Own w b bt cs) (hf : o + cells.size ≤ cs.size) (hi : (P.info? ty).map (·.size) = some cells.size) (h1 : cells.all (·.oneCell') = true) :
    (Instr.storeAt ty (.pointer (some ⟨b, o, none⟩)) (.agg cells)).run P w = .ok () (w.setRow b (cs.toList.take o ++ cells.toList ++ cs.toList.drop (o + cells.size)).toArray) := by
  have h := run_storeCells_at P b o bt cells.toList 0 cs w hO (by simpa using hf) (fun v hv => (Array.all_eq_true_iff_forall_mem.1 h1) v (by simpa using hv))
  cases hq : P.info? ty with
  | none => simp [hq] at hi
  | some i =>
    have hs : cells.size = i.size := by simp [hq] at hi; omega
    simp only [Nat.add_zero, Array.length_toList] at h
    simp [Instr.storeAt, Instr.sureAddr, storeVar, sizeOf, typeInfo, hq, Value.cells, hs, h]
theorem oper_store_own {op : Oper} {a : Act} {w : World} {K : Act → World → Prop} {Q : Exit → Act → World → Prop} (ty : TypeId) (x y : Operand) (ho : op.op = .store ty x y)
    {b o : Nat} {bt : TypeId} {cs cells : Array Value} (hx : a.eval x = .pointer (some ⟨b, o, none⟩)) (hy : a.eval y = .agg cells) (hO : Own w b bt cs) (hf : o + cells.size ≤ cs.size)
    (hi : (P.info? ty).map (·.size) = some cells.size) (h1 : cells.all (·.oneCell') = true)
    (h : K (a.put op.dst undef) (w.setRow b (cs.toList.take o ++ cells.toList ++ cs.toList.drop (o + cells.size)).toArray)) : op.wp P a w K Q := by
  unfold Oper.wp execOp
  simp only [ho, hx, hy, Sem.run_bind, Sem.run_pure, Result.andThen_ok, run_store_own hO hf hi h1]
  exact h
theorem wpList_store_own {ops : Array Oper} {rest : List Oper} {op : Oper} {a : Act} {w : World} {Q : Exit → Act → World → Prop} (hgd : op.guard = none) (ty : TypeId) (x y : Operand) (ho : op.op = .store ty x y)
    {b o : Nat} {bt : TypeId} {cs cells : Array Value} (hx : a.eval x = .pointer (some ⟨b, o, none⟩)) (hy : a.eval y = .agg cells) (hO : Own w b bt cs) (hf : o + cells.size ≤ cs.size)
    (hi : (P.info? ty).map (·.size) = some cells.size) (h1 : cells.all (·.oneCell') = true)
    (h : wpList P ops Q rest (a.put op.dst undef) (w.setRow b (cs.toList.take o ++ cells.toList ++ cs.toList.drop (o + cells.size)).toArray)) : wpList P ops Q (op :: rest) a w :=
  wpList_plain hgd fun _ hK => oper_store_own ty x y ho hx hy hO hf hi h1 (hK _ _ h)
theorem wpList_store_whole {ops : Array Oper} {rest : List Oper} {op : Oper} {a : Act} {w : World} {Q : Exit → Act → World → Prop} (hgd : op.guard = none) (ty : TypeId) (x y : Operand) (ho : op.op = .store ty x y)
    {b : Nat} {bt : TypeId} {cs cells : Array Value} (hx : a.eval x = .pointer (some ⟨b, 0, none⟩)) (hy : a.eval y = .agg cells) (hO : Own w b bt cs) (hf : cells.size = cs.size)
    (hi : (P.info? ty).map (·.size) = some cells.size) (h1 : cells.all (·.oneCell') = true)
    (h : ∀ W', Own W' b bt cells → Fr (fun k => k = b) w W' → wpList P ops Q rest (a.put op.dst undef) W') : wpList P ops Q (op :: rest) a w := by
  refine wpList_store_own hgd ty x y ho hx hy hO (by omega) hi h1 (h _ ?_ (fr_setRow' _ _ _))
  have e : (cs.toList.take 0 ++ cells.toList ++ cs.toList.drop (0 + cells.size)).toArray = cells := by
    rw [List.drop_of_length_le (by simp; omega)]
    simp
  rw [e]
  exact hO.setRow _
theorem Own.range {w : World} {b : Nat} {t : TypeId} {cs : Array Value} (h : Own w b t cs) : w.rangeAt b 0 cs.toList := fun j v hv => by
  rw [Nat.zero_add, h.cell j]
  simpa using hv
end Go.Proofs.Ytedfgbkaijjaeaa
