/- Operations and what was done, as values. -/
import Derived.Test.YtedfgbkaijjaeaaMvLay
import Derived.Test.YtedfgbkaijjaeaaMvNext
import Derived.Test.YtedfgbkaijjaeaaMvStore
namespace Go.Proofs.Ytedfgbkaijjaeaa
open Go.RowKit Go.Maps
set_option linter.unusedVariables false
set_option linter.unusedSimpArgs false

abbrev EnV.cs (e : EnV) : Array Value := #[.int .i64 e.op.kind, .int .u64 (e.op.count : Int), .int .i64 e.op.who, .int .u64 (e.op.thing : Int), .int .u64 (e.op.parent : Int), .string e.op.name, .bool e.op.dir, .string e.op.digest, .int .i64 e.op.size, .string e.hash]
abbrev EnV.val (e : EnV) : Value := .agg e.cs
abbrev DoV.cs (d : DoV) : Array Value := #[.int .i64 d.e.op.kind, .int .u64 (d.e.op.count : Int), .int .i64 d.e.op.who, .int .u64 (d.e.op.thing : Int), .int .u64 (d.e.op.parent : Int), .string d.e.op.name, .bool d.e.op.dir, .string d.e.op.digest, .int .i64 d.e.op.size, .string d.e.hash, .int .u64 (d.was.id : Int), .int .u64 (d.was.parent : Int), .string d.was.name, .bool d.was.dir, .string d.was.dg, .int .i64 d.was.size, .bool d.there, .bool d.did]
abbrev DoV.val (d : DoV) : Value := .agg d.cs
theorem bodyPost_gen {P : Program} {f : Func} {post : Ending → World → Prop} {e : Exit} {a : Act} {W : World} (F : World → Prop) (h : F W) (k : ∀ W', F W' → bodyPost P f post e a W') : bodyPost P f post e a W := k W h
theorem next_bnd {s : TkV} {N : Nat} (h : Inv s N) {o : OpV} (ht : o.thing < 18446744073709551616) (hp : o.parent < 18446744073709551616) (hd : (nextF s.th o).2 = true) : (nextF s.th o).1.id < 18446744073709551616 ∧ (nextF s.th o).1.parent < 18446744073709551616 := by
  refine ⟨by rw [next_id h.ids hd]; exact ht, ?_⟩
  rcases next_cases hd with ⟨-, -, e⟩ | ⟨old, ho, ⟨-, -, e⟩ | e | e⟩
  · rw [e]; exact hp
  · rw [e]; exact hp
  · rw [e]; omega
  · rw [e]; exact (h.bnd _ _ ho).2
end Go.Proofs.Ytedfgbkaijjaeaa
