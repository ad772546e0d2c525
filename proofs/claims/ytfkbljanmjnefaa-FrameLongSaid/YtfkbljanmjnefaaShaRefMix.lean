/- The reference's numbers behind a block. -/
import Derived.Test.YtfkbljanmjnefaaShaMix
namespace Go.Proofs.Ytfkbljanmjnefaa
open Go.RowKit
set_option linter.unusedVariables false

/-- Eighty words. -/
def rowV (f : Nat → W64) : Array Value := ((List.range 80).map fun j => U (f j)).toArray
theorem rowV_size (f : Nat → W64) : (rowV f).size = 80 := by simp [rowV]
theorem rowV_get (f : Nat → W64) (j : Nat) (hj : j < 80) : (rowV f)[j]? = some (U (f j)) := by simp [rowV, hj]
theorem rowV_set (f : Nat → W64) (a : Nat) (ha : a < 80) (v : W64) : (rowV f).setIfInBounds a (U v) = rowV (fun j => if j = a then v else f j) := by
  apply Array.ext_getElem?
  intro j
  rw [Array.getElem?_setIfInBounds]
  by_cases hj : j < 80
  · rw [rowV_get _ j hj, rowV_get _ j hj]
    by_cases h : a = j
    · subst h
      simp [rowV_size, ha]
    · rw [if_neg h, if_neg (fun e => h e.symm)]
  · rw [Array.getElem?_eq_none (by rw [rowV_size]; omega), Array.getElem?_eq_none (by rw [rowV_size]; omega)]
    split <;> first | rfl | (split <;> first | rfl | (rename_i h _; rw [rowV_size] at *; omega))
theorem Own.row {w : World} {b : Nat} {t : TypeId} {f : Nat → W64} (h : Own w b t (rowV f)) : (∀ i, i < 80 → w.cell? ⟨b, i, none⟩ = some (U (f i))) ∧ ∀ i, w.frozen? ⟨b, i, none⟩ = false :=
  ⟨fun i hi => by rw [h.cell i, rowV_get f i hi], fun i => h.free i⟩
theorem saltV_row : saltV = rowV (fun j => salts.getD j 0) := by rw [saltV_eq]; rfl
theorem zero_row : zero80 = rowV (fun _ => 0#64) := by unfold zero80; kernel_rfl
theorem Own.as {w : World} {b : Nat} {t : TypeId} {c c' : Array Value} (h : Own w b t c) (e : c = c') : Own w b t c' := e ▸ h
/-- Word j when i bytes are taken. -/
def partW (l : List UInt8) (i j : Nat) : W64 := wordL ((l.drop (8 * j)).take (min 8 (i - 8 * j)))
theorem partW_zero (l : List UInt8) (j : Nat) : partW l 0 j = 0#64 := by
  unfold partW
  rw [show min 8 (0 - 8 * j) = 0 by omega]
  rfl
theorem partW_full (l : List UInt8) (j : Nat) (h : j < 16) : partW l 128 j = blockW l j := by
  unfold partW blockW
  rw [show min 8 (128 - 8 * j) = 8 by omega]
theorem partW_same (l : List UInt8) (i j : Nat) (h : j ≠ i / 8) : partW l (i + 1) j = partW l i j := by
  unfold partW
  congr 2
  omega
theorem partW_next (l : List UInt8) (i : Nat) (h : i < l.length) : partW l (i + 1) (i / 8) = partW l i (i / 8) * 256#64 + BitVec.ofNat 64 (l[i]).toNat := by
  unfold partW
  rw [show min 8 (i + 1 - 8 * (i / 8)) = i % 8 + 1 by omega, show min 8 (i - 8 * (i / 8)) = i % 8 by omega, List.take_succ_eq_append_getElem (by simp; omega), wordL_snoc]
  have e : (List.drop (8 * (i / 8)) l)[i % 8]'(by simp; omega) = l[i] := by
    rw [List.getElem_drop]
    congr 1
    omega
  rw [e]

theorem Own.rowPut {w : World} {b : Nat} {t : TypeId} {c : Array Value} (h : Own w b t c) (c' : Array Value) : Own (w.setRow b c') b t c' := setRow_heap w b c c' t (0, 0) h
theorem Own.rowFar {w : World} {b k : Nat} {t : TypeId} {c c' : Array Value} (hp : b ≠ k) (h : Own w b t c) : Own (w.setRow k c') b t c := h.of_eq (setRow_other w k b c' hp)
theorem Fr.rowSet {F : Nat → Prop} {a w : World} (h : Fr F a w) {b : Nat} (hp : b < a.heap.size → F b) (c : Array Value) : Fr F a (w.setRow b c) :=
  ⟨h.os, h.tape, h.output, by have := h.size; simp [World.setRow]; omega, fun i hi hn => (setRow_other w b i c (fun e => hn (by subst e; exact hp hi))).trans (h.block i hi hn)⟩
theorem store80 {W : World} {b : Nat} {c : Array Value} (h : Own W b 122 c) (hc : c.size = 80) (c' : Array Value) (hc' : c'.size = 80) (h1 : c'.all (·.oneCell') = true) :
    (storeCells ⟨b, 0, none⟩ c'.toList).run Try.prog W = .ok () (W.setRow b c') := by
  have := run_storeVar_row (P := Try.prog) W b 122 122 c c' h (by rw [hc']; exact (zero_of_info info80).2) (by rw [hc, hc']) h1
  cases hq : Try.prog.info? 122 with
  | none => have hi := (zero_of_info info80).2; simp [hq] at hi
  | some i =>
    have hs : c'.size = i.size := by have hi := (zero_of_info info80).2; simp [hq] at hi; omega
    simpa [storeVar, sizeOf, typeInfo, hq, Value.cells, hs] using this
theorem shr7_ (x : W64) : (x.toNat : Int) / (128 : Int) = ((x >>> 7).toNat : Int) := bshr_ x 7
theorem shr6_ (x : W64) : (x.toNat : Int) / (64 : Int) = ((x >>> 6).toNat : Int) := bshr_ x 6
/-- What holds at each head: the two rows begin at w1's end. -/
def RMix (w w1 : World) (s : ShaS) (f : Nat → W64) (W : World) : Prop :=
  Own W w.heap.size 103 s.cells ∧ Own W (w.heap.size + 1) 103 #[.int .u64 0, .int .u64 0, .int .u64 0, .int .u64 0, .int .u64 0, .int .u64 0, .int .u64 0, .int .u64 0] ∧
  Own W w1.heap.size 122 (rowV f) ∧ Own W (w1.heap.size + 1) 122 (rowV fun j => salts.getD j 0) ∧ New w W
end Go.Proofs.Ytfkbljanmjnefaa
