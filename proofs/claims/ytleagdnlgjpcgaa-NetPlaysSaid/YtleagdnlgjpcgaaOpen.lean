/- How the arguments of these laws read: a Lean structure a Go type, its cells, and that a reading opens into it. Written by our own program wip/tools/rows.py. -/
import Derived.Test.YtleagdnlgjpcgaaBase
import Derived.ProofKit
import Derived.OpenShut
import Derived.Deep.Slices
namespace Go.Proofs.Ytleagdnlgjpcgaa
open Go.RowKit
set_option maxRecDepth 10000
set_option linter.unusedVariables false
set_option linter.unusedSimpArgs false
theorem list_of_length1 {l : List Value} (h : l.length = 1) : ∃ c0, l = [c0] := by
  match l, h with
  | [c0], _ => exact ⟨_, rfl⟩
theorem list_of_length2 {l : List Value} (h : l.length = 2) : ∃ c0 c1, l = [c0, c1] := by
  match l, h with
  | [c0, c1], _ => exact ⟨_, _, rfl⟩
theorem list_of_length3 {l : List Value} (h : l.length = 3) : ∃ c0 c1 c2, l = [c0, c1, c2] := by
  match l, h with
  | [c0, c1, c2], _ => exact ⟨_, _, _, rfl⟩
theorem list_of_length4 {l : List Value} (h : l.length = 4) : ∃ c0 c1 c2 c3, l = [c0, c1, c2, c3] := by
  match l, h with
  | [c0, c1, c2, c3], _ => exact ⟨_, _, _, _, rfl⟩
theorem list_of_length5 {l : List Value} (h : l.length = 5) : ∃ c0 c1 c2 c3 c4, l = [c0, c1, c2, c3, c4] := by
  match l, h with
  | [c0, c1, c2, c3, c4], _ => exact ⟨_, _, _, _, _, rfl⟩
theorem list_of_length6 {l : List Value} (h : l.length = 6) : ∃ c0 c1 c2 c3 c4 c5, l = [c0, c1, c2, c3, c4, c5] := by
  match l, h with
  | [c0, c1, c2, c3, c4, c5], _ => exact ⟨_, _, _, _, _, _, rfl⟩
theorem list_of_length7 {l : List Value} (h : l.length = 7) : ∃ c0 c1 c2 c3 c4 c5 c6, l = [c0, c1, c2, c3, c4, c5, c6] := by
  match l, h with
  | [c0, c1, c2, c3, c4, c5, c6], _ => exact ⟨_, _, _, _, _, _, _, rfl⟩
theorem list_of_length8 {l : List Value} (h : l.length = 8) : ∃ c0 c1 c2 c3 c4 c5 c6 c7, l = [c0, c1, c2, c3, c4, c5, c6, c7] := by
  match l, h with
  | [c0, c1, c2, c3, c4, c5, c6, c7], _ => exact ⟨_, _, _, _, _, _, _, _, rfl⟩
theorem list_of_length9 {l : List Value} (h : l.length = 9) : ∃ c0 c1 c2 c3 c4 c5 c6 c7 c8, l = [c0, c1, c2, c3, c4, c5, c6, c7, c8] := by
  match l, h with
  | [c0, c1, c2, c3, c4, c5, c6, c7, c8], _ => exact ⟨_, _, _, _, _, _, _, _, _, rfl⟩
theorem list_of_length10 {l : List Value} (h : l.length = 10) : ∃ c0 c1 c2 c3 c4 c5 c6 c7 c8 c9, l = [c0, c1, c2, c3, c4, c5, c6, c7, c8, c9] := by
  match l, h with
  | [c0, c1, c2, c3, c4, c5, c6, c7, c8, c9], _ => exact ⟨_, _, _, _, _, _, _, _, _, _, rfl⟩
theorem list_of_length11 {l : List Value} (h : l.length = 11) : ∃ c0 c1 c2 c3 c4 c5 c6 c7 c8 c9 c10, l = [c0, c1, c2, c3, c4, c5, c6, c7, c8, c9, c10] := by
  match l, h with
  | [c0, c1, c2, c3, c4, c5, c6, c7, c8, c9, c10], _ => exact ⟨_, _, _, _, _, _, _, _, _, _, _, rfl⟩
theorem list_of_length12 {l : List Value} (h : l.length = 12) : ∃ c0 c1 c2 c3 c4 c5 c6 c7 c8 c9 c10 c11, l = [c0, c1, c2, c3, c4, c5, c6, c7, c8, c9, c10, c11] := by
  match l, h with
  | [c0, c1, c2, c3, c4, c5, c6, c7, c8, c9, c10, c11], _ => exact ⟨_, _, _, _, _, _, _, _, _, _, _, _, rfl⟩
theorem list_of_length13 {l : List Value} (h : l.length = 13) : ∃ c0 c1 c2 c3 c4 c5 c6 c7 c8 c9 c10 c11 c12, l = [c0, c1, c2, c3, c4, c5, c6, c7, c8, c9, c10, c11, c12] := by
  match l, h with
  | [c0, c1, c2, c3, c4, c5, c6, c7, c8, c9, c10, c11, c12], _ => exact ⟨_, _, _, _, _, _, _, _, _, _, _, _, _, rfl⟩
theorem list_of_length14 {l : List Value} (h : l.length = 14) : ∃ c0 c1 c2 c3 c4 c5 c6 c7 c8 c9 c10 c11 c12 c13, l = [c0, c1, c2, c3, c4, c5, c6, c7, c8, c9, c10, c11, c12, c13] := by
  match l, h with
  | [c0, c1, c2, c3, c4, c5, c6, c7, c8, c9, c10, c11, c12, c13], _ => exact ⟨_, _, _, _, _, _, _, _, _, _, _, _, _, _, rfl⟩
theorem list_of_length15 {l : List Value} (h : l.length = 15) : ∃ c0 c1 c2 c3 c4 c5 c6 c7 c8 c9 c10 c11 c12 c13 c14, l = [c0, c1, c2, c3, c4, c5, c6, c7, c8, c9, c10, c11, c12, c13, c14] := by
  match l, h with
  | [c0, c1, c2, c3, c4, c5, c6, c7, c8, c9, c10, c11, c12, c13, c14], _ => exact ⟨_, _, _, _, _, _, _, _, _, _, _, _, _, _, _, rfl⟩
theorem list_of_length16 {l : List Value} (h : l.length = 16) : ∃ c0 c1 c2 c3 c4 c5 c6 c7 c8 c9 c10 c11 c12 c13 c14 c15, l = [c0, c1, c2, c3, c4, c5, c6, c7, c8, c9, c10, c11, c12, c13, c14, c15] := by
  match l, h with
  | [c0, c1, c2, c3, c4, c5, c6, c7, c8, c9, c10, c11, c12, c13, c14, c15], _ => exact ⟨_, _, _, _, _, _, _, _, _, _, _, _, _, _, _, _, rfl⟩
/-- A value of Go's api.Packet. -/
structure EPacket where
  from_ : Int
  to : Int
  s : ByteArray

instance : Inhabited EPacket := ⟨⟨default, default, default⟩⟩
def EPacket.cells (y : EPacket) : List Value := [.int .i64 y.from_, .int .i64 y.to, .string y.s]
def EPacket.facts (w : World) (y : EPacket) : Prop := (Lit.int .i64 y.from_).wf = true ∧ (Lit.int .i64 y.to).wf = true ∧ y.s.size ≤ maxLen
theorem cells26 : Try.prog.cellsOf 26 = 3 := by kernel_rfl
theorem EPacket.opened {H : Type} {enc : TypeId × Value → H} {w : World} {base : Nat} {spare : Nat → Bool} {held : Bool} {fuel : Nat} {cs : List Value} {x : DataW H × List MemPlace}
    (h : DataW.trod enc Try.prog w base spare held fuel 26 cs = some x) : ∃ y : EPacket, cs = y.cells ∧ y.facts w := by
  obtain ⟨xs, n, rfl, rfl, hl, hxl, hf⟩ := DataW.trod_struct Try.underlying26 h
  obtain ⟨c0, c1, c2, rfl⟩ := list_of_length3 (hl.trans cells26)
  have f0 := hf 0 _ rfl
  rw [List.getElem?_eq_getElem (show 0 < xs.length from by rw [hxl]; exact (by decide : 0 < 3))] at f0
  rw [show Try.prog.cellsOf _ = 1 from by kernel_rfl] at f0
  obtain ⟨y0, q0, _, w0⟩ := DataW.trod_int Try.underlying3 f0; obtain rfl : c0 = _ := (List.cons.inj q0).1
  have f1 := hf 1 _ rfl
  rw [List.getElem?_eq_getElem (show 1 < xs.length from by rw [hxl]; exact (by decide : 1 < 3))] at f1
  rw [show Try.prog.cellsOf _ = 1 from by kernel_rfl] at f1
  obtain ⟨y1, q1, _, w1⟩ := DataW.trod_int Try.underlying3 f1; obtain rfl : c1 = _ := (List.cons.inj q1).1
  have f2 := hf 2 _ rfl
  rw [List.getElem?_eq_getElem (show 2 < xs.length from by rw [hxl]; exact (by decide : 2 < 3))] at f2
  rw [show Try.prog.cellsOf _ = 1 from by kernel_rfl] at f2
  obtain ⟨y2, q2, _, w2⟩ := DataW.trod_string Try.underlying9 f2; obtain rfl : c2 = _ := (List.cons.inj q2).1
  exact ⟨⟨y0, y1, y2⟩, rfl, w0, w1, w2⟩
def ESl26.cell (y : EPacket) : List Value := [.int .i64 y.from_, .int .i64 y.to, .string y.s]
/-- A slice of Go's api.Packet, as it reads in w. -/
def ESl26.facts (w : World) (y : ESl EPacket) : Prop := Sl w 3 y.adr y.len (fun i => ESl26.cell (y.at_ i)) ∧ y.len ≤ y.cap ∧ y.cap ≤ maxLen ∧ ∀ i, i < y.len → EPacket.facts w (y.at_ i)
theorem ESl26.opened {H : Type} {enc : TypeId × Value → H} {w : World} {base : Nat} {spare : Nat → Bool} {held : Bool} {t fuel : Nat} {cs : List Value} {x : DataW H × List MemPlace} (hu : Try.prog.underlying t = some (.slice 26))
    (h : DataW.trod enc Try.prog w base spare held fuel t cs = some x) : ∃ y : ESl EPacket, cs = [.slice y.adr y.len y.cap] ∧ ESl26.facts w y := by
  rcases Deep.open_slice hu h with ⟨rfl, _⟩ | ⟨a, len, cap, m, n, D, Pl, rfl, _, hl, hm, hmm, rfl, hx⟩
  · exact ⟨⟨none, 0, 0, fun _ => default⟩, rfl, Sl.none_ _ _ _, Nat.le_refl _, Nat.zero_le _, fun i hi => absurd hi (Nat.not_lt_zero i)⟩
  have hlm : len ≤ m := by rw [hmm]; split <;> omega
  rw [cells26] at hx
  obtain ⟨V, hV⟩ := Deep.choose_lt (α := EPacket) (n := len) (p := fun i y => w.cells? base (a.add (i * 3)) 3 = some (ESl26.cell y) ∧ EPacket.facts w y) (fun i hi => by
    obtain ⟨cs', h1, h2⟩ := hx i (by omega)
    obtain ⟨y, q, fw⟩ := EPacket.opened h2; subst q
    exact ⟨y, h1, fw⟩)
  refine ⟨⟨some a, len, cap, V⟩, rfl, Sl.of_cells (by decide) (show len ≤ maxLen from by omega) (fun i hi => (hV i hi).1), hl, hm, fun i hi => (hV i hi).2⟩
/-- A value of Go's arbourlaw22.Act. -/
structure EAct where
  kind : Int
  n : Int
  a : Int
  b : Int
  l : ESl EPacket

instance : Inhabited EAct := ⟨⟨default, default, default, default, default⟩⟩
def EAct.cells (y : EAct) : List Value := [.int .i64 y.kind, .int .i64 y.n, .int .i64 y.a, .int .i64 y.b, .slice y.l.adr y.l.len y.l.cap]
def EAct.facts (w : World) (y : EAct) : Prop := (Lit.int .i64 y.kind).wf = true ∧ (Lit.int .i64 y.n).wf = true ∧ (Lit.int .i64 y.a).wf = true ∧ (Lit.int .i64 y.b).wf = true ∧ ESl26.facts w y.l
theorem cells47 : Try.prog.cellsOf 47 = 5 := by kernel_rfl
theorem EAct.opened {H : Type} {enc : TypeId × Value → H} {w : World} {base : Nat} {spare : Nat → Bool} {held : Bool} {fuel : Nat} {cs : List Value} {x : DataW H × List MemPlace}
    (h : DataW.trod enc Try.prog w base spare held fuel 47 cs = some x) : ∃ y : EAct, cs = y.cells ∧ y.facts w := by
  obtain ⟨xs, n, rfl, rfl, hl, hxl, hf⟩ := DataW.trod_struct Try.underlying47 h
  obtain ⟨c0, c1, c2, c3, c4, rfl⟩ := list_of_length5 (hl.trans cells47)
  have f0 := hf 0 _ rfl
  rw [List.getElem?_eq_getElem (show 0 < xs.length from by rw [hxl]; exact (by decide : 0 < 5))] at f0
  rw [show Try.prog.cellsOf _ = 1 from by kernel_rfl] at f0
  obtain ⟨y0, q0, _, w0⟩ := DataW.trod_int Try.underlying3 f0; obtain rfl : c0 = _ := (List.cons.inj q0).1
  have f1 := hf 1 _ rfl
  rw [List.getElem?_eq_getElem (show 1 < xs.length from by rw [hxl]; exact (by decide : 1 < 5))] at f1
  rw [show Try.prog.cellsOf _ = 1 from by kernel_rfl] at f1
  obtain ⟨y1, q1, _, w1⟩ := DataW.trod_int Try.underlying3 f1; obtain rfl : c1 = _ := (List.cons.inj q1).1
  have f2 := hf 2 _ rfl
  rw [List.getElem?_eq_getElem (show 2 < xs.length from by rw [hxl]; exact (by decide : 2 < 5))] at f2
  rw [show Try.prog.cellsOf _ = 1 from by kernel_rfl] at f2
  obtain ⟨y2, q2, _, w2⟩ := DataW.trod_int Try.underlying3 f2; obtain rfl : c2 = _ := (List.cons.inj q2).1
  have f3 := hf 3 _ rfl
  rw [List.getElem?_eq_getElem (show 3 < xs.length from by rw [hxl]; exact (by decide : 3 < 5))] at f3
  rw [show Try.prog.cellsOf _ = 1 from by kernel_rfl] at f3
  obtain ⟨y3, q3, _, w3⟩ := DataW.trod_int Try.underlying3 f3; obtain rfl : c3 = _ := (List.cons.inj q3).1
  have f4 := hf 4 _ rfl
  rw [List.getElem?_eq_getElem (show 4 < xs.length from by rw [hxl]; exact (by decide : 4 < 5))] at f4
  rw [show Try.prog.cellsOf _ = 1 from by kernel_rfl] at f4
  obtain ⟨y4, q4, w4⟩ := ESl26.opened Try.underlying22 f4; obtain rfl : c4 = _ := (List.cons.inj q4).1
  exact ⟨⟨y0, y1, y2, y3, y4⟩, rfl, w0, w1, w2, w3, w4⟩
def ESl47.cell (y : EAct) : List Value := [.int .i64 y.kind, .int .i64 y.n, .int .i64 y.a, .int .i64 y.b, .slice y.l.adr y.l.len y.l.cap]
/-- A slice of Go's arbourlaw22.Act, as it reads in w. -/
def ESl47.facts (w : World) (y : ESl EAct) : Prop := Sl w 5 y.adr y.len (fun i => ESl47.cell (y.at_ i)) ∧ y.len ≤ y.cap ∧ y.cap ≤ maxLen ∧ ∀ i, i < y.len → EAct.facts w (y.at_ i)
theorem ESl47.opened {H : Type} {enc : TypeId × Value → H} {w : World} {base : Nat} {spare : Nat → Bool} {held : Bool} {t fuel : Nat} {cs : List Value} {x : DataW H × List MemPlace} (hu : Try.prog.underlying t = some (.slice 47))
    (h : DataW.trod enc Try.prog w base spare held fuel t cs = some x) : ∃ y : ESl EAct, cs = [.slice y.adr y.len y.cap] ∧ ESl47.facts w y := by
  rcases Deep.open_slice hu h with ⟨rfl, _⟩ | ⟨a, len, cap, m, n, D, Pl, rfl, _, hl, hm, hmm, rfl, hx⟩
  · exact ⟨⟨none, 0, 0, fun _ => default⟩, rfl, Sl.none_ _ _ _, Nat.le_refl _, Nat.zero_le _, fun i hi => absurd hi (Nat.not_lt_zero i)⟩
  have hlm : len ≤ m := by rw [hmm]; split <;> omega
  rw [cells47] at hx
  obtain ⟨V, hV⟩ := Deep.choose_lt (α := EAct) (n := len) (p := fun i y => w.cells? base (a.add (i * 5)) 5 = some (ESl47.cell y) ∧ EAct.facts w y) (fun i hi => by
    obtain ⟨cs', h1, h2⟩ := hx i (by omega)
    obtain ⟨y, q, fw⟩ := EAct.opened h2; subst q
    exact ⟨y, h1, fw⟩)
  refine ⟨⟨some a, len, cap, V⟩, rfl, Sl.of_cells (by decide) (show len ≤ maxLen from by omega) (fun i hi => (hV i hi).1), hl, hm, fun i hi => (hV i hi).2⟩
end Go.Proofs.Ytleagdnlgjpcgaa
