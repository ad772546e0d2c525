/- How the arguments of these laws read: a Lean structure a Go type, its cells, and that a reading opens into it. Written by our own program wip/tools/rows.py. -/
import Derived.Test.YtedfgbkaijjaeaaBase
import Derived.ProofKit
import Derived.OpenShut
import Derived.Deep.Slices
namespace Go.Proofs.Ytedfgbkaijjaeaa
open Go.RowKit
set_option maxRecDepth 10000
set_option linter.unusedVariables false
set_option linter.unusedSimpArgs false
theorem list_of_length1 {l : List Value} (h : l.length = 1) : ∃ c0, l = [c0] := by
  match l, h with
  | [c0], _ => exact ⟨_, rfl⟩
theorem list_of_length2 {l : List Value} (h : l.length = 2) : ∃ c0 c1, l = [c0, c1] := by
  match l, h with
  | [c0, c1], _ => exact ⟨_, _, rfl⟩
theorem list_of_length3 {l : List Value} (h : l.length = 3) : ∃ c0 c1 c2, l = [c0, c1, c2] := by
  match l, h with
  | [c0, c1, c2], _ => exact ⟨_, _, _, rfl⟩
theorem list_of_length4 {l : List Value} (h : l.length = 4) : ∃ c0 c1 c2 c3, l = [c0, c1, c2, c3] := by
  match l, h with
  | [c0, c1, c2, c3], _ => exact ⟨_, _, _, _, rfl⟩
theorem list_of_length5 {l : List Value} (h : l.length = 5) : ∃ c0 c1 c2 c3 c4, l = [c0, c1, c2, c3, c4] := by
  match l, h with
  | [c0, c1, c2, c3, c4], _ => exact ⟨_, _, _, _, _, rfl⟩
theorem list_of_length6 {l : List Value} (h : l.length = 6) : ∃ c0 c1 c2 c3 c4 c5, l = [c0, c1, c2, c3, c4, c5] := by
  match l, h with
  | [c0, c1, c2, c3, c4, c5], _ => exact ⟨_, _, _, _, _, _, rfl⟩
theorem list_of_length7 {l : List Value} (h : l.length = 7) : ∃ c0 c1 c2 c3 c4 c5 c6, l = [c0, c1, c2, c3, c4, c5, c6] := by
  match l, h with
  | [c0, c1, c2, c3, c4, c5, c6], _ => exact ⟨_, _, _, _, _, _, _, rfl⟩
theorem list_of_length8 {l : List Value} (h : l.length = 8) : ∃ c0 c1 c2 c3 c4 c5 c6 c7, l = [c0, c1, c2, c3, c4, c5, c6, c7] := by
  match l, h with
  | [c0, c1, c2, c3, c4, c5, c6, c7], _ => exact ⟨_, _, _, _, _, _, _, _, rfl⟩
theorem list_of_length9 {l : List Value} (h : l.length = 9) : ∃ c0 c1 c2 c3 c4 c5 c6 c7 c8, l = [c0, c1, c2, c3, c4, c5, c6, c7, c8] := by
  match l, h with
  | [c0, c1, c2, c3, c4, c5, c6, c7, c8], _ => exact ⟨_, _, _, _, _, _, _, _, _, rfl⟩
theorem list_of_length10 {l : List Value} (h : l.length = 10) : ∃ c0 c1 c2 c3 c4 c5 c6 c7 c8 c9, l = [c0, c1, c2, c3, c4, c5, c6, c7, c8, c9] := by
  match l, h with
  | [c0, c1, c2, c3, c4, c5, c6, c7, c8, c9], _ => exact ⟨_, _, _, _, _, _, _, _, _, _, rfl⟩
theorem list_of_length11 {l : List Value} (h : l.length = 11) : ∃ c0 c1 c2 c3 c4 c5 c6 c7 c8 c9 c10, l = [c0, c1, c2, c3, c4, c5, c6, c7, c8, c9, c10] := by
  match l, h with
  | [c0, c1, c2, c3, c4, c5, c6, c7, c8, c9, c10], _ => exact ⟨_, _, _, _, _, _, _, _, _, _, _, rfl⟩
theorem list_of_length12 {l : List Value} (h : l.length = 12) : ∃ c0 c1 c2 c3 c4 c5 c6 c7 c8 c9 c10 c11, l = [c0, c1, c2, c3, c4, c5, c6, c7, c8, c9, c10, c11] := by
  match l, h with
  | [c0, c1, c2, c3, c4, c5, c6, c7, c8, c9, c10, c11], _ => exact ⟨_, _, _, _, _, _, _, _, _, _, _, _, rfl⟩
theorem list_of_length13 {l : List Value} (h : l.length = 13) : ∃ c0 c1 c2 c3 c4 c5 c6 c7 c8 c9 c10 c11 c12, l = [c0, c1, c2, c3, c4, c5, c6, c7, c8, c9, c10, c11, c12] := by
  match l, h with
  | [c0, c1, c2, c3, c4, c5, c6, c7, c8, c9, c10, c11, c12], _ => exact ⟨_, _, _, _, _, _, _, _, _, _, _, _, _, rfl⟩
theorem list_of_length14 {l : List Value} (h : l.length = 14) : ∃ c0 c1 c2 c3 c4 c5 c6 c7 c8 c9 c10 c11 c12 c13, l = [c0, c1, c2, c3, c4, c5, c6, c7, c8, c9, c10, c11, c12, c13] := by
  match l, h with
  | [c0, c1, c2, c3, c4, c5, c6, c7, c8, c9, c10, c11, c12, c13], _ => exact ⟨_, _, _, _, _, _, _, _, _, _, _, _, _, _, rfl⟩
theorem list_of_length15 {l : List Value} (h : l.length = 15) : ∃ c0 c1 c2 c3 c4 c5 c6 c7 c8 c9 c10 c11 c12 c13 c14, l = [c0, c1, c2, c3, c4, c5, c6, c7, c8, c9, c10, c11, c12, c13, c14] := by
  match l, h with
  | [c0, c1, c2, c3, c4, c5, c6, c7, c8, c9, c10, c11, c12, c13, c14], _ => exact ⟨_, _, _, _, _, _, _, _, _, _, _, _, _, _, _, rfl⟩
theorem list_of_length16 {l : List Value} (h : l.length = 16) : ∃ c0 c1 c2 c3 c4 c5 c6 c7 c8 c9 c10 c11 c12 c13 c14 c15, l = [c0, c1, c2, c3, c4, c5, c6, c7, c8, c9, c10, c11, c12, c13, c14, c15] := by
  match l, h with
  | [c0, c1, c2, c3, c4, c5, c6, c7, c8, c9, c10, c11, c12, c13, c14, c15], _ => exact ⟨_, _, _, _, _, _, _, _, _, _, _, _, _, _, _, _, rfl⟩
/-- A value of Go's api.Stamp. -/
structure EStamp where
  count : Int
  who : Int

instance : Inhabited EStamp := ⟨⟨default, default⟩⟩
def EStamp.cells (y : EStamp) : List Value := [.int .u64 y.count, .int .i64 y.who]
def EStamp.facts (w : World) (y : EStamp) : Prop := (Lit.int .u64 y.count).wf = true ∧ (Lit.int .i64 y.who).wf = true
theorem cells24 : Try.prog.cellsOf 24 = 2 := by kernel_rfl
theorem EStamp.opened {H : Type} {enc : TypeId × Value → H} {w : World} {base : Nat} {spare : Nat → Bool} {held : Bool} {fuel : Nat} {cs : List Value} {x : DataW H × List MemPlace}
    (h : DataW.trod enc Try.prog w base spare held fuel 24 cs = some x) : ∃ y : EStamp, cs = y.cells ∧ y.facts w := by
  obtain ⟨xs, n, rfl, rfl, hl, hxl, hf⟩ := DataW.trod_struct Try.underlying24 h
  obtain ⟨c0, c1, rfl⟩ := list_of_length2 (hl.trans cells24)
  have f0 := hf 0 _ rfl
  rw [List.getElem?_eq_getElem (show 0 < xs.length from by rw [hxl]; exact (by decide : 0 < 2))] at f0
  rw [show Try.prog.cellsOf _ = 1 from by kernel_rfl] at f0
  obtain ⟨y0, q0, _, w0⟩ := DataW.trod_int Try.underlying22 f0; obtain rfl : c0 = _ := (List.cons.inj q0).1
  have f1 := hf 1 _ rfl
  rw [List.getElem?_eq_getElem (show 1 < xs.length from by rw [hxl]; exact (by decide : 1 < 2))] at f1
  rw [show Try.prog.cellsOf _ = 1 from by kernel_rfl] at f1
  obtain ⟨y1, q1, _, w1⟩ := DataW.trod_int Try.underlying3 f1; obtain rfl : c1 = _ := (List.cons.inj q1).1
  exact ⟨⟨y0, y1⟩, rfl, w0, w1⟩
/-- A value of Go's api.Op. -/
structure EOp where
  kind : Int
  at_ : EStamp
  thing : Int
  parent : Int
  name : ByteArray
  dir : Bool
  digest : ByteArray
  size : Int

instance : Inhabited EOp := ⟨⟨default, default, default, default, default, default, default, default⟩⟩
def EOp.cells (y : EOp) : List Value := [.int .i64 y.kind, .int .u64 y.at_.count, .int .i64 y.at_.who, .int .u64 y.thing, .int .u64 y.parent, .string y.name, .bool y.dir, .string y.digest, .int .i64 y.size]
def EOp.facts (w : World) (y : EOp) : Prop := (Lit.int .i64 y.kind).wf = true ∧ EStamp.facts w y.at_ ∧ (Lit.int .u64 y.thing).wf = true ∧ (Lit.int .u64 y.parent).wf = true ∧ y.name.size ≤ maxLen ∧ y.digest.size ≤ maxLen ∧ (Lit.int .i64 y.size).wf = true
theorem cells26 : Try.prog.cellsOf 26 = 9 := by kernel_rfl
theorem EOp.opened {H : Type} {enc : TypeId × Value → H} {w : World} {base : Nat} {spare : Nat → Bool} {held : Bool} {fuel : Nat} {cs : List Value} {x : DataW H × List MemPlace}
    (h : DataW.trod enc Try.prog w base spare held fuel 26 cs = some x) : ∃ y : EOp, cs = y.cells ∧ y.facts w := by
  obtain ⟨xs, n, rfl, rfl, hl, hxl, hf⟩ := DataW.trod_struct Try.underlying26 h
  obtain ⟨c0, c1, c2, c3, c4, c5, c6, c7, c8, rfl⟩ := list_of_length9 (hl.trans cells26)
  have f0 := hf 0 _ rfl
  rw [List.getElem?_eq_getElem (show 0 < xs.length from by rw [hxl]; exact (by decide : 0 < 8))] at f0
  rw [show Try.prog.cellsOf _ = 1 from by kernel_rfl] at f0
  obtain ⟨y0, q0, _, w0⟩ := DataW.trod_int Try.underlying3 f0; obtain rfl : c0 = _ := (List.cons.inj q0).1
  have f1 := hf 1 _ rfl
  rw [List.getElem?_eq_getElem (show 1 < xs.length from by rw [hxl]; exact (by decide : 1 < 8))] at f1
  rw [show Try.prog.cellsOf _ = 2 from by kernel_rfl] at f1
  obtain ⟨y1, q1, w1⟩ := EStamp.opened f1; have q1' : [c1, c2] = _ := q1; simp only [EStamp.cells, List.cons.injEq, and_true] at q1'; obtain ⟨rfl, rfl⟩ := q1'
  have f2 := hf 2 _ rfl
  rw [List.getElem?_eq_getElem (show 2 < xs.length from by rw [hxl]; exact (by decide : 2 < 8))] at f2
  rw [show Try.prog.cellsOf _ = 1 from by kernel_rfl] at f2
  obtain ⟨y2, q2, _, w2⟩ := DataW.trod_int Try.underlying22 f2; obtain rfl : c3 = _ := (List.cons.inj q2).1
  have f3 := hf 3 _ rfl
  rw [List.getElem?_eq_getElem (show 3 < xs.length from by rw [hxl]; exact (by decide : 3 < 8))] at f3
  rw [show Try.prog.cellsOf _ = 1 from by kernel_rfl] at f3
  obtain ⟨y3, q3, _, w3⟩ := DataW.trod_int Try.underlying22 f3; obtain rfl : c4 = _ := (List.cons.inj q3).1
  have f4 := hf 4 _ rfl
  rw [List.getElem?_eq_getElem (show 4 < xs.length from by rw [hxl]; exact (by decide : 4 < 8))] at f4
  rw [show Try.prog.cellsOf _ = 1 from by kernel_rfl] at f4
  obtain ⟨y4, q4, _, w4⟩ := DataW.trod_string Try.underlying9 f4; obtain rfl : c5 = _ := (List.cons.inj q4).1
  have f5 := hf 5 _ rfl
  rw [List.getElem?_eq_getElem (show 5 < xs.length from by rw [hxl]; exact (by decide : 5 < 8))] at f5
  rw [show Try.prog.cellsOf _ = 1 from by kernel_rfl] at f5
  obtain ⟨y5, q5, _⟩ := DataW.trod_bool Try.underlying4 f5; obtain rfl : c6 = _ := (List.cons.inj q5).1
  have f6 := hf 6 _ rfl
  rw [List.getElem?_eq_getElem (show 6 < xs.length from by rw [hxl]; exact (by decide : 6 < 8))] at f6
  rw [show Try.prog.cellsOf _ = 1 from by kernel_rfl] at f6
  obtain ⟨y6, q6, _, w6⟩ := DataW.trod_string Try.underlying9 f6; obtain rfl : c7 = _ := (List.cons.inj q6).1
  have f7 := hf 7 _ rfl
  rw [List.getElem?_eq_getElem (show 7 < xs.length from by rw [hxl]; exact (by decide : 7 < 8))] at f7
  rw [show Try.prog.cellsOf _ = 1 from by kernel_rfl] at f7
  obtain ⟨y7, q7, _, w7⟩ := DataW.trod_int Try.underlying3 f7; obtain rfl : c8 = _ := (List.cons.inj q7).1
  exact ⟨⟨y0, y1, y2, y3, y4, y5, y6, y7⟩, rfl, w0, w1, w2, w3, w4, w6, w7⟩
/-- A value of Go's arbourlaw13.Entry. -/
structure EEntry where
  op : EOp
  h : Int

instance : Inhabited EEntry := ⟨⟨default, default⟩⟩
def EEntry.cells (y : EEntry) : List Value := [.int .i64 y.op.kind, .int .u64 y.op.at_.count, .int .i64 y.op.at_.who, .int .u64 y.op.thing, .int .u64 y.op.parent, .string y.op.name, .bool y.op.dir, .string y.op.digest, .int .i64 y.op.size, .int .u8 y.h]
def EEntry.facts (w : World) (y : EEntry) : Prop := EOp.facts w y.op ∧ (Lit.int .u8 y.h).wf = true
theorem cells28 : Try.prog.cellsOf 28 = 10 := by kernel_rfl
theorem EEntry.opened {H : Type} {enc : TypeId × Value → H} {w : World} {base : Nat} {spare : Nat → Bool} {held : Bool} {fuel : Nat} {cs : List Value} {x : DataW H × List MemPlace}
    (h : DataW.trod enc Try.prog w base spare held fuel 28 cs = some x) : ∃ y : EEntry, cs = y.cells ∧ y.facts w := by
  obtain ⟨xs, n, rfl, rfl, hl, hxl, hf⟩ := DataW.trod_struct Try.underlying28 h
  obtain ⟨c0, c1, c2, c3, c4, c5, c6, c7, c8, c9, rfl⟩ := list_of_length10 (hl.trans cells28)
  have f0 := hf 0 _ rfl
  rw [List.getElem?_eq_getElem (show 0 < xs.length from by rw [hxl]; exact (by decide : 0 < 2))] at f0
  rw [show Try.prog.cellsOf _ = 9 from by kernel_rfl] at f0
  obtain ⟨y0, q0, w0⟩ := EOp.opened f0; have q0' : [c0, c1, c2, c3, c4, c5, c6, c7, c8] = _ := q0; simp only [EOp.cells, List.cons.injEq, and_true] at q0'; obtain ⟨rfl, rfl, rfl, rfl, rfl, rfl, rfl, rfl, rfl⟩ := q0'
  have f1 := hf 1 _ rfl
  rw [List.getElem?_eq_getElem (show 1 < xs.length from by rw [hxl]; exact (by decide : 1 < 2))] at f1
  rw [show Try.prog.cellsOf _ = 1 from by kernel_rfl] at f1
  obtain ⟨y1, q1, _, w1⟩ := DataW.trod_int Try.underlying5 f1; obtain rfl : c9 = _ := (List.cons.inj q1).1
  exact ⟨⟨y0, y1⟩, rfl, w0, w1⟩
theorem cells9 : Try.prog.cellsOf 9 = 1 := by kernel_rfl
def ESl9.cell (y : ByteArray) : List Value := [.string y]
/-- A slice of Go's string, as it reads in w. -/
def ESl9.facts (w : World) (y : ESl ByteArray) : Prop := Sl w 1 y.adr y.len (fun i => ESl9.cell (y.at_ i)) ∧ y.len ≤ y.cap ∧ y.cap ≤ maxLen ∧ ∀ i, i < y.len → (y.at_ i).size ≤ maxLen
theorem ESl9.opened {H : Type} {enc : TypeId × Value → H} {w : World} {base : Nat} {spare : Nat → Bool} {held : Bool} {t fuel : Nat} {cs : List Value} {x : DataW H × List MemPlace} (hu : Try.prog.underlying t = some (.slice 9))
    (h : DataW.trod enc Try.prog w base spare held fuel t cs = some x) : ∃ y : ESl ByteArray, cs = [.slice y.adr y.len y.cap] ∧ ESl9.facts w y := by
  rcases Deep.open_slice hu h with ⟨rfl, _⟩ | ⟨a, len, cap, m, n, D, Pl, rfl, _, hl, hm, hmm, rfl, hx⟩
  · exact ⟨⟨none, 0, 0, fun _ => default⟩, rfl, Sl.none_ _ _ _, Nat.le_refl _, Nat.zero_le _, fun i hi => absurd hi (Nat.not_lt_zero i)⟩
  have hlm : len ≤ m := by rw [hmm]; split <;> omega
  rw [cells9] at hx
  obtain ⟨V, hV⟩ := Deep.choose_lt (α := ByteArray) (n := len) (p := fun i y => w.cells? base (a.add (i * 1)) 1 = some (ESl9.cell y) ∧ y.size ≤ maxLen) (fun i hi => by
    obtain ⟨cs', h1, h2⟩ := hx i (by omega)
    obtain ⟨y, q, _, fw⟩ := DataW.trod_string Try.underlying9 h2; subst q
    exact ⟨y, h1, fw⟩)
  refine ⟨⟨some a, len, cap, V⟩, rfl, Sl.of_cells (by decide) (show len ≤ maxLen from by omega) (fun i hi => (hV i hi).1), hl, hm, fun i hi => (hV i hi).2⟩
/-- A value of Go's api.Manifest. -/
structure EManifest where
  size : Int
  chunks : ESl ByteArray

instance : Inhabited EManifest := ⟨⟨default, default⟩⟩
def EManifest.cells (y : EManifest) : List Value := [.int .i64 y.size, .slice y.chunks.adr y.chunks.len y.chunks.cap]
def EManifest.facts (w : World) (y : EManifest) : Prop := (Lit.int .i64 y.size).wf = true ∧ ESl9.facts w y.chunks
theorem cells56 : Try.prog.cellsOf 56 = 2 := by kernel_rfl
theorem EManifest.opened {H : Type} {enc : TypeId × Value → H} {w : World} {base : Nat} {spare : Nat → Bool} {held : Bool} {fuel : Nat} {cs : List Value} {x : DataW H × List MemPlace}
    (h : DataW.trod enc Try.prog w base spare held fuel 56 cs = some x) : ∃ y : EManifest, cs = y.cells ∧ y.facts w := by
  obtain ⟨xs, n, rfl, rfl, hl, hxl, hf⟩ := DataW.trod_struct Try.underlying56 h
  obtain ⟨c0, c1, rfl⟩ := list_of_length2 (hl.trans cells56)
  have f0 := hf 0 _ rfl
  rw [List.getElem?_eq_getElem (show 0 < xs.length from by rw [hxl]; exact (by decide : 0 < 2))] at f0
  rw [show Try.prog.cellsOf _ = 1 from by kernel_rfl] at f0
  obtain ⟨y0, q0, _, w0⟩ := DataW.trod_int Try.underlying3 f0; obtain rfl : c0 = _ := (List.cons.inj q0).1
  have f1 := hf 1 _ rfl
  rw [List.getElem?_eq_getElem (show 1 < xs.length from by rw [hxl]; exact (by decide : 1 < 2))] at f1
  rw [show Try.prog.cellsOf _ = 1 from by kernel_rfl] at f1
  obtain ⟨y1, q1, w1⟩ := ESl9.opened Try.underlying54 f1; obtain rfl : c1 = _ := (List.cons.inj q1).1
  exact ⟨⟨y0, y1⟩, rfl, w0, w1⟩
def ESl28.cell (y : EEntry) : List Value := [.int .i64 y.op.kind, .int .u64 y.op.at_.count, .int .i64 y.op.at_.who, .int .u64 y.op.thing, .int .u64 y.op.parent, .string y.op.name, .bool y.op.dir, .string y.op.digest, .int .i64 y.op.size, .int .u8 y.h]
/-- A slice of Go's arbourlaw13.Entry, as it reads in w. -/
def ESl28.facts (w : World) (y : ESl EEntry) : Prop := Sl w 10 y.adr y.len (fun i => ESl28.cell (y.at_ i)) ∧ y.len ≤ y.cap ∧ y.cap ≤ maxLen ∧ ∀ i, i < y.len → EEntry.facts w (y.at_ i)
theorem ESl28.opened {H : Type} {enc : TypeId × Value → H} {w : World} {base : Nat} {spare : Nat → Bool} {held : Bool} {t fuel : Nat} {cs : List Value} {x : DataW H × List MemPlace} (hu : Try.prog.underlying t = some (.slice 28))
    (h : DataW.trod enc Try.prog w base spare held fuel t cs = some x) : ∃ y : ESl EEntry, cs = [.slice y.adr y.len y.cap] ∧ ESl28.facts w y := by
  rcases Deep.open_slice hu h with ⟨rfl, _⟩ | ⟨a, len, cap, m, n, D, Pl, rfl, _, hl, hm, hmm, rfl, hx⟩
  · exact ⟨⟨none, 0, 0, fun _ => default⟩, rfl, Sl.none_ _ _ _, Nat.le_refl _, Nat.zero_le _, fun i hi => absurd hi (Nat.not_lt_zero i)⟩
  have hlm : len ≤ m := by rw [hmm]; split <;> omega
  rw [cells28] at hx
  obtain ⟨V, hV⟩ := Deep.choose_lt (α := EEntry) (n := len) (p := fun i y => w.cells? base (a.add (i * 10)) 10 = some (ESl28.cell y) ∧ EEntry.facts w y) (fun i hi => by
    obtain ⟨cs', h1, h2⟩ := hx i (by omega)
    obtain ⟨y, q, fw⟩ := EEntry.opened h2; subst q
    exact ⟨y, h1, fw⟩)
  refine ⟨⟨some a, len, cap, V⟩, rfl, Sl.of_cells (by decide) (show len ≤ maxLen from by omega) (fun i hi => (hV i hi).1), hl, hm, fun i hi => (hV i hi).2⟩
theorem cells3 : Try.prog.cellsOf 3 = 1 := by kernel_rfl
def ESl3.cell (y : Int) : List Value := [.int .i64 y]
/-- A slice of Go's int, as it reads in w. -/
def ESl3.facts (w : World) (y : ESl Int) : Prop := Sl w 1 y.adr y.len (fun i => ESl3.cell (y.at_ i)) ∧ y.len ≤ y.cap ∧ y.cap ≤ maxLen ∧ ∀ i, i < y.len → (Lit.int .i64 (y.at_ i)).wf = true
theorem ESl3.opened {H : Type} {enc : TypeId × Value → H} {w : World} {base : Nat} {spare : Nat → Bool} {held : Bool} {t fuel : Nat} {cs : List Value} {x : DataW H × List MemPlace} (hu : Try.prog.underlying t = some (.slice 3))
    (h : DataW.trod enc Try.prog w base spare held fuel t cs = some x) : ∃ y : ESl Int, cs = [.slice y.adr y.len y.cap] ∧ ESl3.facts w y := by
  rcases Deep.open_slice hu h with ⟨rfl, _⟩ | ⟨a, len, cap, m, n, D, Pl, rfl, _, hl, hm, hmm, rfl, hx⟩
  · exact ⟨⟨none, 0, 0, fun _ => default⟩, rfl, Sl.none_ _ _ _, Nat.le_refl _, Nat.zero_le _, fun i hi => absurd hi (Nat.not_lt_zero i)⟩
  have hlm : len ≤ m := by rw [hmm]; split <;> omega
  rw [cells3] at hx
  obtain ⟨V, hV⟩ := Deep.choose_lt (α := Int) (n := len) (p := fun i y => w.cells? base (a.add (i * 1)) 1 = some (ESl3.cell y) ∧ (Lit.int .i64 y).wf = true) (fun i hi => by
    obtain ⟨cs', h1, h2⟩ := hx i (by omega)
    obtain ⟨y, q, _, fw⟩ := DataW.trod_int Try.underlying3 h2; subst q
    exact ⟨y, h1, fw⟩)
  refine ⟨⟨some a, len, cap, V⟩, rfl, Sl.of_cells (by decide) (show len ≤ maxLen from by omega) (fun i hi => (hV i hi).1), hl, hm, fun i hi => (hV i hi).2⟩
end Go.Proofs.Ytedfgbkaijjaeaa
