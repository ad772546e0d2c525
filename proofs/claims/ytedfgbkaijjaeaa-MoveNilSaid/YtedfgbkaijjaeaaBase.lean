/- Words of our own for memory: 'Own' (a block that is known whole), 'Fr' (what may have changed), and how both are handed on. -/
import Derived.Test.YtedfgbkaijjaeaaRows
import Derived.WalkKit
import Derived.WalkSpells
import Derived.WalkLawsBesides
import Derived.Deep.QuietTactic
import Derived.BigQuiet
namespace Go.Proofs.Ytedfgbkaijjaeaa
open Go.RowKit

/-- Block b is just the cells cs of type t; none is frozen. -/
def Own (w : World) (b : Nat) (t : TypeId) (cs : Array Value) : Prop := w.heap[b]? = some (.cells cs t (0, 0))

theorem Own.lt {w : World} {b : Nat} {t : TypeId} {cs : Array Value} (h : Own w b t cs) : b < w.heap.size := lt_of_block h
theorem Own.cell {w : World} {b : Nat} {t : TypeId} {cs : Array Value} (h : Own w b t cs) (i : Nat) : w.cell? ⟨b, i, none⟩ = cs[i]? := by
  unfold Own at h
  simp [World.cell?, h]
theorem Own.free {w : World} {b : Nat} {t : TypeId} {cs : Array Value} (h : Own w b t cs) (i : Nat) : w.frozen? ⟨b, i, none⟩ = false := by
  unfold Own at h
  simp [World.frozen?, h]
theorem Own.of_eq {w w' : World} {b : Nat} {t : TypeId} {cs : Array Value} (h : Own w b t cs) (e : w'.heap[b]? = w.heap[b]?) : Own w' b t cs := e.trans h
theorem Own.fresh (w : World) (t : TypeId) (cs : Array Value) : Own (w.alloc (.cells cs t)) w.heap.size t cs := by
  unfold Own World.alloc
  simp
theorem Own.new' {w : World} {b : Nat} {t : TypeId} {cs : Array Value} (e : w.heap.size = b) : Own (w.alloc (.cells cs t)) b t cs := e ▸ Own.fresh w t cs
theorem Own.alloc {w : World} {b : Nat} {t : TypeId} {cs : Array Value} (h : Own w b t cs) (o : Obj) : Own (w.alloc o) b t cs := h.of_eq (Below.heap_alloc w o b h.lt)
theorem Own.drew {w : World} {b : Nat} {t : TypeId} {cs : Array Value} (h : Own w b t cs) : Own w.drew b t cs := h
theorem Own.drewN {w : World} {b : Nat} {t : TypeId} {cs : Array Value} (h : Own w b t cs) (n : Nat) : Own (w.drewN n) b t cs := h
theorem Own.set {w : World} {b : Nat} {t : TypeId} {cs : Array Value} (h : Own w b t cs) (i : Nat) (u : Value) : Own (w.setCell ⟨b, i, none⟩ u) b t (cs.setIfInBounds i u) := by
  unfold Own at h ⊢
  simp [World.setCell, Array.getElem?_modify, h]
theorem Own.put {w : World} {b : Nat} {t : TypeId} {cs cs' : Array Value} {i : Nat} {u : Value} (h : Own w b t cs) (e : cs.setIfInBounds i u = cs') : Own (w.setCell ⟨b, i, none⟩ u) b t cs' := e ▸ h.set i u
theorem Own.off {w : World} {b : Nat} {t : TypeId} {cs : Array Value} {p : Addr} {u : Value} (hp : b ≠ p.block) (h : Own w b t cs) : Own (w.setCell p u) b t cs := h.of_eq (Below.heap_setCell w p u b hp)
theorem wp_world {P : Program} {c : Code} {Q : Exit → Act → World → Prop} {a : Act} {W : World} (F : World → Prop) (h : F W) (k : ∀ W', F W' → Code.wp P c Q a W') : Code.wp P c Q a W := k W h
theorem Own.far {w : World} {b : Nat} {t : TypeId} {cs : Array Value} (h : Own w b t cs) {p : Addr} (hp : b ≠ p.block) (u : Value) : Own (w.setCell p u) b t cs := h.of_eq (Below.heap_setCell w p u b hp)

/-- From w to w' no block has changed but those that F names; new ones may have come. -/
structure Fr (F : Nat → Prop) (w w' : World) : Prop where
  os : w'.os = w.os
  tape : w'.tape = w.tape
  output : w'.output = w.output
  size : w.heap.size ≤ w'.heap.size
  block : ∀ k, k < w.heap.size → ¬ F k → w'.heap[k]? = w.heap[k]?

/-- No old block has changed. -/
abbrev New (w w' : World) : Prop := Fr (fun _ => False) w w'

theorem Fr.refl (F : Nat → Prop) (w : World) : Fr F w w := ⟨rfl, rfl, rfl, Nat.le_refl _, fun _ _ _ => rfl⟩
theorem Fr.trans {F G : Nat → Prop} {a b c : World} (h : Fr F a b) (k : Fr G b c) (hg : ∀ i, i < a.heap.size → G i → F i) : Fr F a c :=
  ⟨k.os.trans h.os, k.tape.trans h.tape, k.output.trans h.output, Nat.le_trans h.size k.size,
   fun i hi hn => (k.block i (Nat.lt_of_lt_of_le hi h.size) fun g => hn (hg i hi g)).trans (h.block i hi hn)⟩
theorem Fr.new_ {F : Nat → Prop} {a b c : World} (h : Fr F a b) (k : New b c) : Fr F a c := h.trans k fun _ _ f => f.elim
theorem Fr.alloc {F : Nat → Prop} {a w : World} (h : Fr F a w) (o : Obj) : Fr F a (w.alloc o) :=
  ⟨h.os, h.tape, h.output, by have := h.size; simp; omega, fun i hi hn => (Below.heap_alloc w o i (by have := h.size; omega)).trans (h.block i hi hn)⟩
theorem Fr.drew {F : Nat → Prop} {a w : World} (h : Fr F a w) : Fr F a w.drew := ⟨h.os, h.tape, h.output, h.size, h.block⟩
theorem Fr.drewN {F : Nat → Prop} {a w : World} (h : Fr F a w) (n : Nat) : Fr F a (w.drewN n) := ⟨h.os, h.tape, h.output, h.size, h.block⟩
theorem Fr.set {F : Nat → Prop} {a w : World} (h : Fr F a w) {p : Addr} (hp : p.block < a.heap.size → F p.block) (u : Value) : Fr F a (w.setCell p u) :=
  ⟨h.os, h.tape, h.output, by have := h.size; simp [World.setCell]; omega, fun i hi hn =>
    (Below.heap_setCell w p u i (fun e => hn (by subst e; exact hp hi))).trans (h.block i hi hn)⟩
theorem Fr.mono {F G : Nat → Prop} {a b : World} (h : Fr F a b) (hg : ∀ i, F i → G i) : Fr G a b := ⟨h.os, h.tape, h.output, h.size, fun i hi hn => h.block i hi fun f => hn (hg i f)⟩
theorem Fr.below {F : Nat → Prop} {a b : World} {B : Nat} (h : Fr F a b) (hB : B ≤ a.heap.size) (hF : ∀ i, F i → B ≤ i) : Below B a b :=
  ⟨h.os, h.tape, h.output, h.size, fun i hi => h.block i (by omega) fun f => by have := hF i f; omega⟩
theorem New.below {a b : World} (h : New a b) : Below a.heap.size a b := Fr.below h (Nat.le_refl _) fun _ f => f.elim
theorem Below.new_ {a b : World} (h : Below a.heap.size a b) : New a b := ⟨h.os, h.tape, h.output, h.size, fun i hi _ => h.block i hi⟩
theorem Own.fr {F : Nat → Prop} {w w' : World} {b : Nat} {t : TypeId} {cs : Array Value} (h : Own w b t cs) (f : Fr F w w') (hb : ¬ F b) : Own w' b t cs := h.of_eq (f.block b h.lt hb)
theorem Own.new_ {w w' : World} {b : Nat} {t : TypeId} {cs : Array Value} (h : Own w b t cs) (f : New w w') : Own w' b t cs := h.fr f fun g => g.elim

/-- The rules by which a walk reads old cells in a world behind a call that has changed nothing old. -/
theorem New.rules {w w' : World} (h : New w w') : (∀ b o, b < w.heap.size → w'.cell? ⟨b, o, none⟩ = w.cell? ⟨b, o, none⟩) ∧ (∀ b o, b < w.heap.size → w'.frozen? ⟨b, o, none⟩ = w.frozen? ⟨b, o, none⟩) :=
  ⟨fun b o hb => World.cell?_of_block (a := ⟨b, o, none⟩) (h.block b hb fun f => f.elim), fun b o hb => World.frozen?_of_block (a := ⟨b, o, none⟩) (h.block b hb fun f => f.elim)⟩

/-- The slice at A reads as n elements of K cells each: V i are the cells of the i-th. -/
def Sl (w : World) (K : Nat) (A : Option Addr) (n : Nat) (V : Nat → List Value) : Prop :=
  n ≤ maxLen ∧ ∀ i, i < n → ∃ b o, A = some ⟨b, o, none⟩ ∧ ∀ j v, (V i)[j]? = some v → w.cell? ⟨b, o + i * K + j, none⟩ = some v
theorem Sl.none_ (w : World) (K : Nat) (V : Nat → List Value) : Sl w K none 0 V := ⟨Nat.zero_le _, fun i hi => absurd hi (Nat.not_lt_zero i)⟩
theorem add_add (a : Addr) (i j : Nat) : (a.add i).add j = a.add (i + j) := by
  unfold Addr.add
  by_cases hi : i = 0 <;> by_cases hj : j = 0 <;> simp [hi, hj, Nat.add_assoc]
theorem spot_of_cell {w : World} {a : Addr} {v : Value} (h : w.cell? a = some v) : a.spot = none := by
  unfold World.cell? at h
  split at h
  · split at h
    · cases h
    · rename_i hs; simpa using hs
  · cases h
theorem Sl.of_cells {w : World} {base K n : Nat} {a : Addr} {V : Nat → List Value} (hK : 0 < K) (hn : n ≤ maxLen) (h : ∀ i, i < n → w.cells? base (a.add (i * K)) K = some (V i)) : Sl w K (some a) n V := by
  refine ⟨hn, fun i hi => ?_⟩
  have ha : a.spot = none := by
    obtain ⟨_, hl, hc⟩ := World.cells?_some (h 0 (by omega))
    have h0 := hc 0 hK
    rw [List.getElem?_eq_getElem (by omega)] at h0
    have h1 := spot_of_cell h0
    simpa [Addr.add] using h1
  obtain ⟨b, o, s⟩ := a
  simp only at ha
  subst ha
  refine ⟨b, o, rfl, fun j v hv => ?_⟩
  obtain ⟨_, hl, hc⟩ := World.cells?_some (h i hi)
  have hj : j < K := by
    rcases Nat.lt_or_ge j (V i).length with hlt | hge
    · omega
    · rw [List.getElem?_eq_none hge] at hv; cases hv
  have e := hc j hj
  rw [add_add, hv] at e
  rw [← e]
  congr 1
  unfold Addr.add
  split
  · rename_i h0; simp only [Nat.add_assoc, h0, Nat.add_zero]
  · simp only [Nat.add_assoc]
theorem Sl.fr {F : Nat → Prop} {w w' : World} {K n : Nat} {A : Option Addr} {V : Nat → List Value} (h : Sl w K A n V) (f : Fr F w w') (hF : ∀ ad, A = some ad → ¬ F ad.block) : Sl w' K A n V :=
  ⟨h.1, fun i hi => by
    obtain ⟨b, o, e, hc⟩ := h.2 i hi
    refine ⟨b, o, e, fun j v hv => ?_⟩
    have hh := hc j v hv
    have hb := World.block_lt_of_cell? w _ hh
    rw [← hh]
    exact World.cell?_of_block (f.block b hb (hF ⟨b, o, none⟩ e))⟩
theorem Sl.new_ {w w' : World} {K n : Nat} {A : Option Addr} {V : Nat → List Value} (h : Sl w K A n V) (f : New w w') : Sl w' K A n V := h.fr f fun _ _ g => g

/-- A world behind w in which nothing old has changed, as a term that a walk can name. -/
structure Nx (w : World) where
  to : World
  new : New w to
instance (w : World) : Inhabited (Nx w) := ⟨⟨w, Fr.refl _ _⟩⟩
def nw (w : World) (x : Nx w) : World := x.to
theorem nw_new (w : World) (x : Nx w) : New w (nw w x) := x.new
theorem wp_region_new_lit {P : Program} {id : Nat} {Q : Exit → Act → World → Prop} {a : Act} {w : World} {l : List Oper} (hm : P.follows .mixedOrders = true) (hB : Region.lexB .any l.toArray = true)
    (h : wpQuiet P l.toArray (fun w' => ∃ x, w' = nw w x) (fun a' => ∀ w', (∃ x, w' = nw w x) → Q .normal a' w') l a) : (Code.region id l.toArray true).wp P Q a w :=
  wp_region_quiet (C := fun w' => ∃ x, w' = nw w x) hm hB ⟨⟨w.drew, (Fr.refl _ _).drew⟩, rfl⟩ (by simpa using h)
theorem Calls.nw_of {P : Program} {f : FuncId} {args : Array Value} {w : World} {x : Nx w} {v : Value}
    (h : Calls P f args (nw w x) fun e w' => e = .returned v ∧ New (nw w x) w') : Calls P f args (nw w x) fun e w'' => e = .returned v ∧ ∃ y, w'' = nw w y :=
  h.mono fun _ w' ⟨he, hn⟩ => ⟨he, ⟨w', (nw_new w x).new_ hn⟩, rfl⟩
theorem Calls.nw_same {P : Program} {f : FuncId} {args : Array Value} {w : World} {x : Nx w} {v : Value}
    (h : Calls P f args (nw w x) fun e w' => e = .returned v ∧ w' = nw w x) : Calls P f args (nw w x) fun e w'' => e = .returned v ∧ ∃ y, w'' = nw w y :=
  h.mono fun _ _ ⟨he, hn⟩ => ⟨he, x, hn⟩
theorem Calls.nw_same' {P : Program} {f : FuncId} {args : Array Value} {w : World} {x : Nx w} {v : Value}
    (h : Calls P f args (nw w x) fun e w' => e = .returned v ∧ nw w x = w') : Calls P f args (nw w x) fun e w'' => e = .returned v ∧ ∃ y, w'' = nw w y :=
  h.mono fun _ _ ⟨he, hn⟩ => ⟨he, x, hn.symm⟩
theorem Own.nw {w : World} {b : Nat} {t : TypeId} {cs : Array Value} (h : Own w b t cs) (i : Nat) : ∀ x, (nw w x).cell? ⟨b, i, none⟩ = cs[i]? := fun x => (h.new_ (nw_new w x)).cell i
theorem Sl.nw {w : World} {K n : Nat} {A : Option Addr} {V : Nat → List Value} (h : Sl w K A n V) (i : Nat) (hi : i < n) : ∃ b o, A = some ⟨b, o, none⟩ ∧ ∀ j v, (V i)[j]? = some v → w.cell? ⟨b, o + i * K + j, none⟩ = some v ∧ ∀ x, (Proofs.Ytedfgbkaijjaeaa.nw w x).cell? ⟨b, o + i * K + j, none⟩ = some v := by
  obtain ⟨b, o, e, hc⟩ := h.2 i hi
  refine ⟨b, o, e, fun j v hv => ⟨hc j v hv, fun x => ?_⟩⟩
  obtain ⟨b', o', e', hc'⟩ := (h.new_ (nw_new w x)).2 i hi
  rw [e] at e'
  injection e' with e'
  injection e' with e1 e2
  subst e1 e2
  exact hc' j v hv
theorem Own.nw2 {w : World} {b : Nat} {t : TypeId} {u v : Value} (h : Own w b t #[u, v]) : (∀ x, (Proofs.Ytedfgbkaijjaeaa.nw w x).cell? ⟨b, 0, none⟩ = some u) ∧ (∀ x, (Proofs.Ytedfgbkaijjaeaa.nw w x).cell? ⟨b, 1, none⟩ = some v) := ⟨h.nw 0, h.nw 1⟩
theorem Own.nw3 {w : World} {b : Nat} {t : TypeId} {u v z : Value} (h : Own w b t #[u, v, z]) : (∀ x, (Proofs.Ytedfgbkaijjaeaa.nw w x).cell? ⟨b, 0, none⟩ = some u) ∧ (∀ x, (Proofs.Ytedfgbkaijjaeaa.nw w x).cell? ⟨b, 1, none⟩ = some v) ∧ (∀ x, (Proofs.Ytedfgbkaijjaeaa.nw w x).cell? ⟨b, 2, none⟩ = some z) := ⟨h.nw 0, h.nw 1, h.nw 2⟩

/-- A block of two cells as a walk reads it. -/
theorem Own.two {w : World} {b : Nat} {t : TypeId} {u v : Value} (h : Own w b t #[u, v]) :
    w.cell? ⟨b, 0, none⟩ = some u ∧ w.cell? ⟨b, 1, none⟩ = some v ∧ w.frozen? ⟨b, 0, none⟩ = false ∧ w.frozen? ⟨b, 1, none⟩ = false := ⟨h.cell 0, h.cell 1, h.free 0, h.free 1⟩
theorem Own.one {w : World} {b : Nat} {t : TypeId} {u : Value} (h : Own w b t #[u]) : w.cell? ⟨b, 0, none⟩ = some u ∧ w.frozen? ⟨b, 0, none⟩ = false := ⟨h.cell 0, h.free 0⟩
theorem Own.three {w : World} {b : Nat} {t : TypeId} {u v x : Value} (h : Own w b t #[u, v, x]) :
    w.cell? ⟨b, 0, none⟩ = some u ∧ w.cell? ⟨b, 1, none⟩ = some v ∧ w.cell? ⟨b, 2, none⟩ = some x ∧ w.frozen? ⟨b, 0, none⟩ = false ∧ w.frozen? ⟨b, 1, none⟩ = false ∧ w.frozen? ⟨b, 2, none⟩ = false :=
  ⟨h.cell 0, h.cell 1, h.cell 2, h.free 0, h.free 1, h.free 2⟩

/-- A slice that came in: where, how long, with how much room, and what its elements are. -/
structure ESl (α : Type) where
  adr : Option Addr
  len : Nat
  cap : Nat
  at_ : Nat → α
instance {α : Type} [Inhabited α] : Inhabited (ESl α) := ⟨⟨none, 0, 0, fun _ => default⟩⟩

theorem okWide_agg {P : Program} {w : World} {r : Go.Reach} {base : Nat} {t : TypeId} {v : Value} {u : TypeDesc} (ht : P.underlying t = some u) (h : Value.okWide P w r base t v) (hu : (match u with | .struct _ | .array _ _ => true | _ => false) = true := by rfl) :
    ∃ cs, v = .agg cs ∧ cs.size = P.cellsOf t := by
  unfold Value.okWide at h
  rw [ht] at h
  cases u <;> simp at hu
  · obtain ⟨cs, e, hs, _⟩ := h; exact ⟨cs, e, hs⟩
  · obtain ⟨cs, e, hs, _⟩ := h; exact ⟨cs, e, hs⟩

theorem ret_bool {a b : Bool} (h : a = b) : Ending.returned (.bool a) = .returned (.bool b) := by rw [h]
theorem ret_int {k : IntKind} {a b : Int} (h : a = b) : Ending.returned (.int k a) = .returned (.int k b) := by rw [h]
theorem ret_str {a b : ByteArray} (h : a = b) : Ending.returned (.string a) = .returned (.string b) := by rw [h]
end Go.Proofs.Ytedfgbkaijjaeaa
