/- How the arguments of these laws read: a Lean structure a Go type, its cells, and that a reading opens into it. Written by our own program wip/tools/rows.py. -/
import Derived.Test.YtjcpdpdhegcgoaaGreatDoorBase
import Derived.ProofKit
import Derived.OpenShut
import Derived.Deep.Slices
namespace Go.Proofs.YtjcpdpdhegcgoaaGreatDoor
open Go.RowKit
set_option maxRecDepth 10000
set_option linter.unusedVariables false
set_option linter.unusedSimpArgs false
theorem list_of_length1 {l : List Value} (h : l.length = 1) : ∃ c0, l = [c0] := by
  match l, h with
  | [c0], _ => exact ⟨_, rfl⟩
theorem list_of_length2 {l : List Value} (h : l.length = 2) : ∃ c0 c1, l = [c0, c1] := by
  match l, h with
  | [c0, c1], _ => exact ⟨_, _, rfl⟩
theorem list_of_length3 {l : List Value} (h : l.length = 3) : ∃ c0 c1 c2, l = [c0, c1, c2] := by
  match l, h with
  | [c0, c1, c2], _ => exact ⟨_, _, _, rfl⟩
theorem list_of_length4 {l : List Value} (h : l.length = 4) : ∃ c0 c1 c2 c3, l = [c0, c1, c2, c3] := by
  match l, h with
  | [c0, c1, c2, c3], _ => exact ⟨_, _, _, _, rfl⟩
theorem list_of_length5 {l : List Value} (h : l.length = 5) : ∃ c0 c1 c2 c3 c4, l = [c0, c1, c2, c3, c4] := by
  match l, h with
  | [c0, c1, c2, c3, c4], _ => exact ⟨_, _, _, _, _, rfl⟩
theorem list_of_length6 {l : List Value} (h : l.length = 6) : ∃ c0 c1 c2 c3 c4 c5, l = [c0, c1, c2, c3, c4, c5] := by
  match l, h with
  | [c0, c1, c2, c3, c4, c5], _ => exact ⟨_, _, _, _, _, _, rfl⟩
theorem list_of_length7 {l : List Value} (h : l.length = 7) : ∃ c0 c1 c2 c3 c4 c5 c6, l = [c0, c1, c2, c3, c4, c5, c6] := by
  match l, h with
  | [c0, c1, c2, c3, c4, c5, c6], _ => exact ⟨_, _, _, _, _, _, _, rfl⟩
theorem list_of_length8 {l : List Value} (h : l.length = 8) : ∃ c0 c1 c2 c3 c4 c5 c6 c7, l = [c0, c1, c2, c3, c4, c5, c6, c7] := by
  match l, h with
  | [c0, c1, c2, c3, c4, c5, c6, c7], _ => exact ⟨_, _, _, _, _, _, _, _, rfl⟩
theorem list_of_length9 {l : List Value} (h : l.length = 9) : ∃ c0 c1 c2 c3 c4 c5 c6 c7 c8, l = [c0, c1, c2, c3, c4, c5, c6, c7, c8] := by
  match l, h with
  | [c0, c1, c2, c3, c4, c5, c6, c7, c8], _ => exact ⟨_, _, _, _, _, _, _, _, _, rfl⟩
theorem list_of_length10 {l : List Value} (h : l.length = 10) : ∃ c0 c1 c2 c3 c4 c5 c6 c7 c8 c9, l = [c0, c1, c2, c3, c4, c5, c6, c7, c8, c9] := by
  match l, h with
  | [c0, c1, c2, c3, c4, c5, c6, c7, c8, c9], _ => exact ⟨_, _, _, _, _, _, _, _, _, _, rfl⟩
theorem list_of_length11 {l : List Value} (h : l.length = 11) : ∃ c0 c1 c2 c3 c4 c5 c6 c7 c8 c9 c10, l = [c0, c1, c2, c3, c4, c5, c6, c7, c8, c9, c10] := by
  match l, h with
  | [c0, c1, c2, c3, c4, c5, c6, c7, c8, c9, c10], _ => exact ⟨_, _, _, _, _, _, _, _, _, _, _, rfl⟩
theorem list_of_length12 {l : List Value} (h : l.length = 12) : ∃ c0 c1 c2 c3 c4 c5 c6 c7 c8 c9 c10 c11, l = [c0, c1, c2, c3, c4, c5, c6, c7, c8, c9, c10, c11] := by
  match l, h with
  | [c0, c1, c2, c3, c4, c5, c6, c7, c8, c9, c10, c11], _ => exact ⟨_, _, _, _, _, _, _, _, _, _, _, _, rfl⟩
theorem list_of_length13 {l : List Value} (h : l.length = 13) : ∃ c0 c1 c2 c3 c4 c5 c6 c7 c8 c9 c10 c11 c12, l = [c0, c1, c2, c3, c4, c5, c6, c7, c8, c9, c10, c11, c12] := by
  match l, h with
  | [c0, c1, c2, c3, c4, c5, c6, c7, c8, c9, c10, c11, c12], _ => exact ⟨_, _, _, _, _, _, _, _, _, _, _, _, _, rfl⟩
theorem list_of_length14 {l : List Value} (h : l.length = 14) : ∃ c0 c1 c2 c3 c4 c5 c6 c7 c8 c9 c10 c11 c12 c13, l = [c0, c1, c2, c3, c4, c5, c6, c7, c8, c9, c10, c11, c12, c13] := by
  match l, h with
  | [c0, c1, c2, c3, c4, c5, c6, c7, c8, c9, c10, c11, c12, c13], _ => exact ⟨_, _, _, _, _, _, _, _, _, _, _, _, _, _, rfl⟩
theorem list_of_length15 {l : List Value} (h : l.length = 15) : ∃ c0 c1 c2 c3 c4 c5 c6 c7 c8 c9 c10 c11 c12 c13 c14, l = [c0, c1, c2, c3, c4, c5, c6, c7, c8, c9, c10, c11, c12, c13, c14] := by
  match l, h with
  | [c0, c1, c2, c3, c4, c5, c6, c7, c8, c9, c10, c11, c12, c13, c14], _ => exact ⟨_, _, _, _, _, _, _, _, _, _, _, _, _, _, _, rfl⟩
theorem list_of_length16 {l : List Value} (h : l.length = 16) : ∃ c0 c1 c2 c3 c4 c5 c6 c7 c8 c9 c10 c11 c12 c13 c14 c15, l = [c0, c1, c2, c3, c4, c5, c6, c7, c8, c9, c10, c11, c12, c13, c14, c15] := by
  match l, h with
  | [c0, c1, c2, c3, c4, c5, c6, c7, c8, c9, c10, c11, c12, c13, c14, c15], _ => exact ⟨_, _, _, _, _, _, _, _, _, _, _, _, _, _, _, _, rfl⟩
theorem cells9 : Tryz.prog.cellsOf 9 = 1 := by kernel_rfl
def ESl9.cell (y : ByteArray) : List Value := [.string y]
/-- A slice of Go's string, as it reads in w. -/
def ESl9.facts (w : World) (y : ESl ByteArray) : Prop := Sl w 1 y.adr y.len (fun i => ESl9.cell (y.at_ i)) ∧ y.len ≤ y.cap ∧ y.cap ≤ maxLen ∧ ∀ i, i < y.len → (y.at_ i).size ≤ maxLen
theorem ESl9.opened {H : Type} {enc : TypeId × Value → H} {w : World} {base : Nat} {spare : Nat → Bool} {held : Bool} {t fuel : Nat} {cs : List Value} {x : DataW H × List MemPlace} (hu : Tryz.prog.underlying t = some (.slice 9))
    (h : DataW.trod enc Tryz.prog w base spare held fuel t cs = some x) : ∃ y : ESl ByteArray, cs = [.slice y.adr y.len y.cap] ∧ ESl9.facts w y := by
  rcases Deep.open_slice hu h with ⟨rfl, _⟩ | ⟨a, len, cap, m, n, D, Pl, rfl, _, hl, hm, hmm, rfl, hx⟩
  · exact ⟨⟨none, 0, 0, fun _ => default⟩, rfl, Sl.none_ _ _ _, Nat.le_refl _, Nat.zero_le _, fun i hi => absurd hi (Nat.not_lt_zero i)⟩
  have hlm : len ≤ m := by rw [hmm]; split <;> omega
  rw [cells9] at hx
  obtain ⟨V, hV⟩ := Deep.choose_lt (α := ByteArray) (n := len) (p := fun i y => w.cells? base (a.add (i * 1)) 1 = some (ESl9.cell y) ∧ y.size ≤ maxLen) (fun i hi => by
    obtain ⟨cs', h1, h2⟩ := hx i (by omega)
    obtain ⟨y, q, _, fw⟩ := DataW.trod_string Tryz.underlying9 h2; subst q
    exact ⟨y, h1, fw⟩)
  refine ⟨⟨some a, len, cap, V⟩, rfl, Sl.of_cells (by decide) (show len ≤ maxLen from by omega) (fun i hi => (hV i hi).1), hl, hm, fun i hi => (hV i hi).2⟩
/-- A value of Go's api.Manifest. -/
structure EManifest where
  size : Int
  chunks : ESl ByteArray

instance : Inhabited EManifest := ⟨⟨default, default⟩⟩
def EManifest.cells (y : EManifest) : List Value := [.int .i64 y.size, .slice y.chunks.adr y.chunks.len y.chunks.cap]
def EManifest.facts (w : World) (y : EManifest) : Prop := (Lit.int .i64 y.size).wf = true ∧ ESl9.facts w y.chunks
theorem cells38 : Tryz.prog.cellsOf 38 = 2 := by kernel_rfl
theorem EManifest.opened {H : Type} {enc : TypeId × Value → H} {w : World} {base : Nat} {spare : Nat → Bool} {held : Bool} {fuel : Nat} {cs : List Value} {x : DataW H × List MemPlace}
    (h : DataW.trod enc Tryz.prog w base spare held fuel 38 cs = some x) : ∃ y : EManifest, cs = y.cells ∧ y.facts w := by
  obtain ⟨xs, n, rfl, rfl, hl, hxl, hf⟩ := DataW.trod_struct Tryz.underlying38 h
  obtain ⟨c0, c1, rfl⟩ := list_of_length2 (hl.trans cells38)
  have f0 := hf 0 _ rfl
  rw [List.getElem?_eq_getElem (show 0 < xs.length from by rw [hxl]; exact (by decide : 0 < 2))] at f0
  rw [show Tryz.prog.cellsOf _ = 1 from by kernel_rfl] at f0
  obtain ⟨y0, q0, _, w0⟩ := DataW.trod_int Tryz.underlying3 f0; obtain rfl : c0 = _ := (List.cons.inj q0).1
  have f1 := hf 1 _ rfl
  rw [List.getElem?_eq_getElem (show 1 < xs.length from by rw [hxl]; exact (by decide : 1 < 2))] at f1
  rw [show Tryz.prog.cellsOf _ = 1 from by kernel_rfl] at f1
  obtain ⟨y1, q1, w1⟩ := ESl9.opened Tryz.underlying24 f1; obtain rfl : c1 = _ := (List.cons.inj q1).1
  exact ⟨⟨y0, y1⟩, rfl, w0, w1⟩
end Go.Proofs.YtjcpdpdhegcgoaaGreatDoor
