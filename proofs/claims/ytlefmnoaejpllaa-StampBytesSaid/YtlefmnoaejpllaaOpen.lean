/- How the arguments of these laws read: a Lean structure a Go type, its cells, and that a reading opens into it. Written by our own program wip/tools/rows.py. -/
import Derived.Test.YtlefmnoaejpllaaBase
import Derived.ProofKit
import Derived.OpenShut
import Derived.Deep.Slices
namespace Go.Proofs.Ytlefmnoaejpllaa
open Go.RowKit
set_option maxRecDepth 10000
set_option linter.unusedVariables false
set_option linter.unusedSimpArgs false
theorem list_of_length1 {l : List Value} (h : l.length = 1) : ∃ c0, l = [c0] := by
  match l, h with
  | [c0], _ => exact ⟨_, rfl⟩
theorem list_of_length2 {l : List Value} (h : l.length = 2) : ∃ c0 c1, l = [c0, c1] := by
  match l, h with
  | [c0, c1], _ => exact ⟨_, _, rfl⟩
theorem list_of_length3 {l : List Value} (h : l.length = 3) : ∃ c0 c1 c2, l = [c0, c1, c2] := by
  match l, h with
  | [c0, c1, c2], _ => exact ⟨_, _, _, rfl⟩
theorem list_of_length4 {l : List Value} (h : l.length = 4) : ∃ c0 c1 c2 c3, l = [c0, c1, c2, c3] := by
  match l, h with
  | [c0, c1, c2, c3], _ => exact ⟨_, _, _, _, rfl⟩
theorem list_of_length5 {l : List Value} (h : l.length = 5) : ∃ c0 c1 c2 c3 c4, l = [c0, c1, c2, c3, c4] := by
  match l, h with
  | [c0, c1, c2, c3, c4], _ => exact ⟨_, _, _, _, _, rfl⟩
theorem list_of_length6 {l : List Value} (h : l.length = 6) : ∃ c0 c1 c2 c3 c4 c5, l = [c0, c1, c2, c3, c4, c5] := by
  match l, h with
  | [c0, c1, c2, c3, c4, c5], _ => exact ⟨_, _, _, _, _, _, rfl⟩
theorem list_of_length7 {l : List Value} (h : l.length = 7) : ∃ c0 c1 c2 c3 c4 c5 c6, l = [c0, c1, c2, c3, c4, c5, c6] := by
  match l, h with
  | [c0, c1, c2, c3, c4, c5, c6], _ => exact ⟨_, _, _, _, _, _, _, rfl⟩
theorem list_of_length8 {l : List Value} (h : l.length = 8) : ∃ c0 c1 c2 c3 c4 c5 c6 c7, l = [c0, c1, c2, c3, c4, c5, c6, c7] := by
  match l, h with
  | [c0, c1, c2, c3, c4, c5, c6, c7], _ => exact ⟨_, _, _, _, _, _, _, _, rfl⟩
theorem list_of_length9 {l : List Value} (h : l.length = 9) : ∃ c0 c1 c2 c3 c4 c5 c6 c7 c8, l = [c0, c1, c2, c3, c4, c5, c6, c7, c8] := by
  match l, h with
  | [c0, c1, c2, c3, c4, c5, c6, c7, c8], _ => exact ⟨_, _, _, _, _, _, _, _, _, rfl⟩
theorem list_of_length10 {l : List Value} (h : l.length = 10) : ∃ c0 c1 c2 c3 c4 c5 c6 c7 c8 c9, l = [c0, c1, c2, c3, c4, c5, c6, c7, c8, c9] := by
  match l, h with
  | [c0, c1, c2, c3, c4, c5, c6, c7, c8, c9], _ => exact ⟨_, _, _, _, _, _, _, _, _, _, rfl⟩
theorem list_of_length11 {l : List Value} (h : l.length = 11) : ∃ c0 c1 c2 c3 c4 c5 c6 c7 c8 c9 c10, l = [c0, c1, c2, c3, c4, c5, c6, c7, c8, c9, c10] := by
  match l, h with
  | [c0, c1, c2, c3, c4, c5, c6, c7, c8, c9, c10], _ => exact ⟨_, _, _, _, _, _, _, _, _, _, _, rfl⟩
theorem list_of_length12 {l : List Value} (h : l.length = 12) : ∃ c0 c1 c2 c3 c4 c5 c6 c7 c8 c9 c10 c11, l = [c0, c1, c2, c3, c4, c5, c6, c7, c8, c9, c10, c11] := by
  match l, h with
  | [c0, c1, c2, c3, c4, c5, c6, c7, c8, c9, c10, c11], _ => exact ⟨_, _, _, _, _, _, _, _, _, _, _, _, rfl⟩
theorem list_of_length13 {l : List Value} (h : l.length = 13) : ∃ c0 c1 c2 c3 c4 c5 c6 c7 c8 c9 c10 c11 c12, l = [c0, c1, c2, c3, c4, c5, c6, c7, c8, c9, c10, c11, c12] := by
  match l, h with
  | [c0, c1, c2, c3, c4, c5, c6, c7, c8, c9, c10, c11, c12], _ => exact ⟨_, _, _, _, _, _, _, _, _, _, _, _, _, rfl⟩
theorem list_of_length14 {l : List Value} (h : l.length = 14) : ∃ c0 c1 c2 c3 c4 c5 c6 c7 c8 c9 c10 c11 c12 c13, l = [c0, c1, c2, c3, c4, c5, c6, c7, c8, c9, c10, c11, c12, c13] := by
  match l, h with
  | [c0, c1, c2, c3, c4, c5, c6, c7, c8, c9, c10, c11, c12, c13], _ => exact ⟨_, _, _, _, _, _, _, _, _, _, _, _, _, _, rfl⟩
theorem list_of_length15 {l : List Value} (h : l.length = 15) : ∃ c0 c1 c2 c3 c4 c5 c6 c7 c8 c9 c10 c11 c12 c13 c14, l = [c0, c1, c2, c3, c4, c5, c6, c7, c8, c9, c10, c11, c12, c13, c14] := by
  match l, h with
  | [c0, c1, c2, c3, c4, c5, c6, c7, c8, c9, c10, c11, c12, c13, c14], _ => exact ⟨_, _, _, _, _, _, _, _, _, _, _, _, _, _, _, rfl⟩
theorem list_of_length16 {l : List Value} (h : l.length = 16) : ∃ c0 c1 c2 c3 c4 c5 c6 c7 c8 c9 c10 c11 c12 c13 c14 c15, l = [c0, c1, c2, c3, c4, c5, c6, c7, c8, c9, c10, c11, c12, c13, c14, c15] := by
  match l, h with
  | [c0, c1, c2, c3, c4, c5, c6, c7, c8, c9, c10, c11, c12, c13, c14, c15], _ => exact ⟨_, _, _, _, _, _, _, _, _, _, _, _, _, _, _, _, rfl⟩
/-- A value of Go's api.Stamp. -/
structure EStamp where
  count : Int
  who : Int

instance : Inhabited EStamp := ⟨⟨default, default⟩⟩
def EStamp.cells (y : EStamp) : List Value := [.int .u64 y.count, .int .i64 y.who]
def EStamp.facts (w : World) (y : EStamp) : Prop := (Lit.int .u64 y.count).wf = true ∧ (Lit.int .i64 y.who).wf = true
theorem cells33 : Try.prog.cellsOf 33 = 2 := by kernel_rfl
theorem EStamp.opened {H : Type} {enc : TypeId × Value → H} {w : World} {base : Nat} {spare : Nat → Bool} {held : Bool} {fuel : Nat} {cs : List Value} {x : DataW H × List MemPlace}
    (h : DataW.trod enc Try.prog w base spare held fuel 33 cs = some x) : ∃ y : EStamp, cs = y.cells ∧ y.facts w := by
  obtain ⟨xs, n, rfl, rfl, hl, hxl, hf⟩ := DataW.trod_struct Try.underlying33 h
  obtain ⟨c0, c1, rfl⟩ := list_of_length2 (hl.trans cells33)
  have f0 := hf 0 _ rfl
  rw [List.getElem?_eq_getElem (show 0 < xs.length from by rw [hxl]; exact (by decide : 0 < 2))] at f0
  rw [show Try.prog.cellsOf _ = 1 from by kernel_rfl] at f0
  obtain ⟨y0, q0, _, w0⟩ := DataW.trod_int Try.underlying22 f0; obtain rfl : c0 = _ := (List.cons.inj q0).1
  have f1 := hf 1 _ rfl
  rw [List.getElem?_eq_getElem (show 1 < xs.length from by rw [hxl]; exact (by decide : 1 < 2))] at f1
  rw [show Try.prog.cellsOf _ = 1 from by kernel_rfl] at f1
  obtain ⟨y1, q1, _, w1⟩ := DataW.trod_int Try.underlying3 f1; obtain rfl : c1 = _ := (List.cons.inj q1).1
  exact ⟨⟨y0, y1⟩, rfl, w0, w1⟩
def ESl33.cell (y : EStamp) : List Value := [.int .u64 y.count, .int .i64 y.who]
/-- A slice of Go's api.Stamp, as it reads in w. -/
def ESl33.facts (w : World) (y : ESl EStamp) : Prop := Sl w 2 y.adr y.len (fun i => ESl33.cell (y.at_ i)) ∧ y.len ≤ y.cap ∧ y.cap ≤ maxLen ∧ ∀ i, i < y.len → EStamp.facts w (y.at_ i)
theorem ESl33.opened {H : Type} {enc : TypeId × Value → H} {w : World} {base : Nat} {spare : Nat → Bool} {held : Bool} {t fuel : Nat} {cs : List Value} {x : DataW H × List MemPlace} (hu : Try.prog.underlying t = some (.slice 33))
    (h : DataW.trod enc Try.prog w base spare held fuel t cs = some x) : ∃ y : ESl EStamp, cs = [.slice y.adr y.len y.cap] ∧ ESl33.facts w y := by
  rcases Deep.open_slice hu h with ⟨rfl, _⟩ | ⟨a, len, cap, m, n, D, Pl, rfl, _, hl, hm, hmm, rfl, hx⟩
  · exact ⟨⟨none, 0, 0, fun _ => default⟩, rfl, Sl.none_ _ _ _, Nat.le_refl _, Nat.zero_le _, fun i hi => absurd hi (Nat.not_lt_zero i)⟩
  have hlm : len ≤ m := by rw [hmm]; split <;> omega
  rw [cells33] at hx
  obtain ⟨V, hV⟩ := Deep.choose_lt (α := EStamp) (n := len) (p := fun i y => w.cells? base (a.add (i * 2)) 2 = some (ESl33.cell y) ∧ EStamp.facts w y) (fun i hi => by
    obtain ⟨cs', h1, h2⟩ := hx i (by omega)
    obtain ⟨y, q, fw⟩ := EStamp.opened h2; subst q
    exact ⟨y, h1, fw⟩)
  refine ⟨⟨some a, len, cap, V⟩, rfl, Sl.of_cells (by decide) (show len ≤ maxLen from by omega) (fun i hi => (hV i hi).1), hl, hm, fun i hi => (hV i hi).2⟩
theorem cells3 : Try.prog.cellsOf 3 = 1 := by kernel_rfl
def ESl3.cell (y : Int) : List Value := [.int .i64 y]
/-- A slice of Go's int, as it reads in w. -/
def ESl3.facts (w : World) (y : ESl Int) : Prop := Sl w 1 y.adr y.len (fun i => ESl3.cell (y.at_ i)) ∧ y.len ≤ y.cap ∧ y.cap ≤ maxLen ∧ ∀ i, i < y.len → (Lit.int .i64 (y.at_ i)).wf = true
theorem ESl3.opened {H : Type} {enc : TypeId × Value → H} {w : World} {base : Nat} {spare : Nat → Bool} {held : Bool} {t fuel : Nat} {cs : List Value} {x : DataW H × List MemPlace} (hu : Try.prog.underlying t = some (.slice 3))
    (h : DataW.trod enc Try.prog w base spare held fuel t cs = some x) : ∃ y : ESl Int, cs = [.slice y.adr y.len y.cap] ∧ ESl3.facts w y := by
  rcases Deep.open_slice hu h with ⟨rfl, _⟩ | ⟨a, len, cap, m, n, D, Pl, rfl, _, hl, hm, hmm, rfl, hx⟩
  · exact ⟨⟨none, 0, 0, fun _ => default⟩, rfl, Sl.none_ _ _ _, Nat.le_refl _, Nat.zero_le _, fun i hi => absurd hi (Nat.not_lt_zero i)⟩
  have hlm : len ≤ m := by rw [hmm]; split <;> omega
  rw [cells3] at hx
  obtain ⟨V, hV⟩ := Deep.choose_lt (α := Int) (n := len) (p := fun i y => w.cells? base (a.add (i * 1)) 1 = some (ESl3.cell y) ∧ (Lit.int .i64 y).wf = true) (fun i hi => by
    obtain ⟨cs', h1, h2⟩ := hx i (by omega)
    obtain ⟨y, q, _, fw⟩ := DataW.trod_int Try.underlying3 h2; subst q
    exact ⟨y, h1, fw⟩)
  refine ⟨⟨some a, len, cap, V⟩, rfl, Sl.of_cells (by decide) (show len ≤ maxLen from by omega) (fun i hi => (hV i hi).1), hl, hm, fun i hi => (hV i hi).2⟩
/-- A value of Go's arbourlaw03.Get. -/
structure EGet where
  kind : Int
  n : Int

instance : Inhabited EGet := ⟨⟨default, default⟩⟩
def EGet.cells (y : EGet) : List Value := [.int .i64 y.kind, .int .i64 y.n]
def EGet.facts (w : World) (y : EGet) : Prop := (Lit.int .i64 y.kind).wf = true ∧ (Lit.int .i64 y.n).wf = true
theorem cells65 : Try.prog.cellsOf 65 = 2 := by kernel_rfl
theorem EGet.opened {H : Type} {enc : TypeId × Value → H} {w : World} {base : Nat} {spare : Nat → Bool} {held : Bool} {fuel : Nat} {cs : List Value} {x : DataW H × List MemPlace}
    (h : DataW.trod enc Try.prog w base spare held fuel 65 cs = some x) : ∃ y : EGet, cs = y.cells ∧ y.facts w := by
  obtain ⟨xs, n, rfl, rfl, hl, hxl, hf⟩ := DataW.trod_struct Try.underlying65 h
  obtain ⟨c0, c1, rfl⟩ := list_of_length2 (hl.trans cells65)
  have f0 := hf 0 _ rfl
  rw [List.getElem?_eq_getElem (show 0 < xs.length from by rw [hxl]; exact (by decide : 0 < 2))] at f0
  rw [show Try.prog.cellsOf _ = 1 from by kernel_rfl] at f0
  obtain ⟨y0, q0, _, w0⟩ := DataW.trod_int Try.underlying3 f0; obtain rfl : c0 = _ := (List.cons.inj q0).1
  have f1 := hf 1 _ rfl
  rw [List.getElem?_eq_getElem (show 1 < xs.length from by rw [hxl]; exact (by decide : 1 < 2))] at f1
  rw [show Try.prog.cellsOf _ = 1 from by kernel_rfl] at f1
  obtain ⟨y1, q1, _, w1⟩ := DataW.trod_int Try.underlying3 f1; obtain rfl : c1 = _ := (List.cons.inj q1).1
  exact ⟨⟨y0, y1⟩, rfl, w0, w1⟩
def ESl65.cell (y : EGet) : List Value := [.int .i64 y.kind, .int .i64 y.n]
/-- A slice of Go's arbourlaw03.Get, as it reads in w. -/
def ESl65.facts (w : World) (y : ESl EGet) : Prop := Sl w 2 y.adr y.len (fun i => ESl65.cell (y.at_ i)) ∧ y.len ≤ y.cap ∧ y.cap ≤ maxLen ∧ ∀ i, i < y.len → EGet.facts w (y.at_ i)
theorem ESl65.opened {H : Type} {enc : TypeId × Value → H} {w : World} {base : Nat} {spare : Nat → Bool} {held : Bool} {t fuel : Nat} {cs : List Value} {x : DataW H × List MemPlace} (hu : Try.prog.underlying t = some (.slice 65))
    (h : DataW.trod enc Try.prog w base spare held fuel t cs = some x) : ∃ y : ESl EGet, cs = [.slice y.adr y.len y.cap] ∧ ESl65.facts w y := by
  rcases Deep.open_slice hu h with ⟨rfl, _⟩ | ⟨a, len, cap, m, n, D, Pl, rfl, _, hl, hm, hmm, rfl, hx⟩
  · exact ⟨⟨none, 0, 0, fun _ => default⟩, rfl, Sl.none_ _ _ _, Nat.le_refl _, Nat.zero_le _, fun i hi => absurd hi (Nat.not_lt_zero i)⟩
  have hlm : len ≤ m := by rw [hmm]; split <;> omega
  rw [cells65] at hx
  obtain ⟨V, hV⟩ := Deep.choose_lt (α := EGet) (n := len) (p := fun i y => w.cells? base (a.add (i * 2)) 2 = some (ESl65.cell y) ∧ EGet.facts w y) (fun i hi => by
    obtain ⟨cs', h1, h2⟩ := hx i (by omega)
    obtain ⟨y, q, fw⟩ := EGet.opened h2; subst q
    exact ⟨y, h1, fw⟩)
  refine ⟨⟨some a, len, cap, V⟩, rfl, Sl.of_cells (by decide) (show len ≤ maxLen from by omega) (fun i hi => (hV i hi).1), hl, hm, fun i hi => (hV i hi).2⟩
theorem cells9 : Try.prog.cellsOf 9 = 1 := by kernel_rfl
def ESl9.cell (y : ByteArray) : List Value := [.string y]
/-- A slice of Go's string, as it reads in w. -/
def ESl9.facts (w : World) (y : ESl ByteArray) : Prop := Sl w 1 y.adr y.len (fun i => ESl9.cell (y.at_ i)) ∧ y.len ≤ y.cap ∧ y.cap ≤ maxLen ∧ ∀ i, i < y.len → (y.at_ i).size ≤ maxLen
theorem ESl9.opened {H : Type} {enc : TypeId × Value → H} {w : World} {base : Nat} {spare : Nat → Bool} {held : Bool} {t fuel : Nat} {cs : List Value} {x : DataW H × List MemPlace} (hu : Try.prog.underlying t = some (.slice 9))
    (h : DataW.trod enc Try.prog w base spare held fuel t cs = some x) : ∃ y : ESl ByteArray, cs = [.slice y.adr y.len y.cap] ∧ ESl9.facts w y := by
  rcases Deep.open_slice hu h with ⟨rfl, _⟩ | ⟨a, len, cap, m, n, D, Pl, rfl, _, hl, hm, hmm, rfl, hx⟩
  · exact ⟨⟨none, 0, 0, fun _ => default⟩, rfl, Sl.none_ _ _ _, Nat.le_refl _, Nat.zero_le _, fun i hi => absurd hi (Nat.not_lt_zero i)⟩
  have hlm : len ≤ m := by rw [hmm]; split <;> omega
  rw [cells9] at hx
  obtain ⟨V, hV⟩ := Deep.choose_lt (α := ByteArray) (n := len) (p := fun i y => w.cells? base (a.add (i * 1)) 1 = some (ESl9.cell y) ∧ y.size ≤ maxLen) (fun i hi => by
    obtain ⟨cs', h1, h2⟩ := hx i (by omega)
    obtain ⟨y, q, _, fw⟩ := DataW.trod_string Try.underlying9 h2; subst q
    exact ⟨y, h1, fw⟩)
  refine ⟨⟨some a, len, cap, V⟩, rfl, Sl.of_cells (by decide) (show len ≤ maxLen from by omega) (fun i hi => (hV i hi).1), hl, hm, fun i hi => (hV i hi).2⟩
/-- A value of Go's arbourlaw03.Give. -/
structure EGive where
  kind : Int
  n : Int
  s : ByteArray

instance : Inhabited EGive := ⟨⟨default, default, default⟩⟩
def EGive.cells (y : EGive) : List Value := [.int .i64 y.kind, .int .i64 y.n, .string y.s]
def EGive.facts (w : World) (y : EGive) : Prop := (Lit.int .i64 y.kind).wf = true ∧ (Lit.int .i64 y.n).wf = true ∧ y.s.size ≤ maxLen
theorem cells93 : Try.prog.cellsOf 93 = 3 := by kernel_rfl
theorem EGive.opened {H : Type} {enc : TypeId × Value → H} {w : World} {base : Nat} {spare : Nat → Bool} {held : Bool} {fuel : Nat} {cs : List Value} {x : DataW H × List MemPlace}
    (h : DataW.trod enc Try.prog w base spare held fuel 93 cs = some x) : ∃ y : EGive, cs = y.cells ∧ y.facts w := by
  obtain ⟨xs, n, rfl, rfl, hl, hxl, hf⟩ := DataW.trod_struct Try.underlying93 h
  obtain ⟨c0, c1, c2, rfl⟩ := list_of_length3 (hl.trans cells93)
  have f0 := hf 0 _ rfl
  rw [List.getElem?_eq_getElem (show 0 < xs.length from by rw [hxl]; exact (by decide : 0 < 3))] at f0
  rw [show Try.prog.cellsOf _ = 1 from by kernel_rfl] at f0
  obtain ⟨y0, q0, _, w0⟩ := DataW.trod_int Try.underlying3 f0; obtain rfl : c0 = _ := (List.cons.inj q0).1
  have f1 := hf 1 _ rfl
  rw [List.getElem?_eq_getElem (show 1 < xs.length from by rw [hxl]; exact (by decide : 1 < 3))] at f1
  rw [show Try.prog.cellsOf _ = 1 from by kernel_rfl] at f1
  obtain ⟨y1, q1, _, w1⟩ := DataW.trod_int Try.underlying3 f1; obtain rfl : c1 = _ := (List.cons.inj q1).1
  have f2 := hf 2 _ rfl
  rw [List.getElem?_eq_getElem (show 2 < xs.length from by rw [hxl]; exact (by decide : 2 < 3))] at f2
  rw [show Try.prog.cellsOf _ = 1 from by kernel_rfl] at f2
  obtain ⟨y2, q2, _, w2⟩ := DataW.trod_string Try.underlying9 f2; obtain rfl : c2 = _ := (List.cons.inj q2).1
  exact ⟨⟨y0, y1, y2⟩, rfl, w0, w1, w2⟩
def ESl93.cell (y : EGive) : List Value := [.int .i64 y.kind, .int .i64 y.n, .string y.s]
/-- A slice of Go's arbourlaw03.Give, as it reads in w. -/
def ESl93.facts (w : World) (y : ESl EGive) : Prop := Sl w 3 y.adr y.len (fun i => ESl93.cell (y.at_ i)) ∧ y.len ≤ y.cap ∧ y.cap ≤ maxLen ∧ ∀ i, i < y.len → EGive.facts w (y.at_ i)
theorem ESl93.opened {H : Type} {enc : TypeId × Value → H} {w : World} {base : Nat} {spare : Nat → Bool} {held : Bool} {t fuel : Nat} {cs : List Value} {x : DataW H × List MemPlace} (hu : Try.prog.underlying t = some (.slice 93))
    (h : DataW.trod enc Try.prog w base spare held fuel t cs = some x) : ∃ y : ESl EGive, cs = [.slice y.adr y.len y.cap] ∧ ESl93.facts w y := by
  rcases Deep.open_slice hu h with ⟨rfl, _⟩ | ⟨a, len, cap, m, n, D, Pl, rfl, _, hl, hm, hmm, rfl, hx⟩
  · exact ⟨⟨none, 0, 0, fun _ => default⟩, rfl, Sl.none_ _ _ _, Nat.le_refl _, Nat.zero_le _, fun i hi => absurd hi (Nat.not_lt_zero i)⟩
  have hlm : len ≤ m := by rw [hmm]; split <;> omega
  rw [cells93] at hx
  obtain ⟨V, hV⟩ := Deep.choose_lt (α := EGive) (n := len) (p := fun i y => w.cells? base (a.add (i * 3)) 3 = some (ESl93.cell y) ∧ EGive.facts w y) (fun i hi => by
    obtain ⟨cs', h1, h2⟩ := hx i (by omega)
    obtain ⟨y, q, fw⟩ := EGive.opened h2; subst q
    exact ⟨y, h1, fw⟩)
  refine ⟨⟨some a, len, cap, V⟩, rfl, Sl.of_cells (by decide) (show len ≤ maxLen from by omega) (fun i hi => (hV i hi).1), hl, hm, fun i hi => (hV i hi).2⟩
end Go.Proofs.Ytlefmnoaejpllaa
