/- A range over a function whose walker keeps what is left in a box of its own: the law for a body that never leaves the loop. -/
import Derived.RangeFuncNested
import Derived.RangeFuncBound
import Derived.RangeFuncCalls
import Derived.RangeFuncLeaves
import Derived.RangeFuncBox
import Derived.Shelf.Abstract
import Derived.Shelf.RegionOpen
import Derived.WalkKit
import Derived.OwnWalkIn
import Derived.TacticsInMore
import Derived.LoopNIn
import Derived.LoopIn
import Derived.Lib.Hide
import Derived.Test.YtedfgbkaijjaeaaBase
namespace Go.Proofs.Ytedfgbkaijjaeaa
open Go.RowKit
set_option linter.unusedVariables false

/-- What may change behind an invariant: the box b; and, from block B on, what holds no cells. -/
def Aside (B b : Nat) (W : World) (k : Nat) : Prop := k = b ∨ (B ≤ k ∧ ∃ o : Obj, W.heap[k]? = some o ∧ o.isCells = false)
/-- A step that an invariant beside box b abides. -/
structure Stp (B b : Nat) (W W' : World) : Prop where
  size : W.heap.size ≤ W'.heap.size
  os : W'.os = W.os
  tape : W'.tape = W.tape
  output : W'.output = W.output
  block : ∀ k, k < W.heap.size → ¬ Aside B b W k → W'.heap[k]? = W.heap[k]?
theorem Stp.put {B b : Nat} {W : World} {l : Nat} {o : Obj} (o' : Obj) (hl : W.heap[l]? = some o) (ho : o.isCells = false) (hB : B ≤ l) : Stp B b W (W.putObj l o') :=
  ⟨Nat.le_of_eq World.putObj_size.symm, rfl, rfl, rfl, fun k hk hn => World.putObj_heap_other fun e => hn (.inr (by subst e; exact ⟨hB, o, hl, ho⟩))⟩
theorem Stp.of_fr {B b : Nat} {W W' : World} (f : Fr (fun k => k = b) W W') : Stp B b W W' := ⟨f.size, f.os, f.tape, f.output, fun k hk hn => f.block k hk fun e => hn (.inl e)⟩
theorem Stp.alloc (B b : Nat) (W : World) (o : Obj) : Stp B b W (W.alloc o) := .of_fr ((Fr.refl _ W).alloc o)
theorem Own.stp {B b : Nat} {W W' : World} {c : Nat} {t : TypeId} {cs : Array Value} (h : Own W c t cs) (s : Stp B b W W') (hc : c ≠ b) : Own W' c t cs :=
  h.of_eq (s.block c h.lt fun a => by
    rcases a with e | ⟨_, o, ho, hn⟩
    · exact hc e
    · have : W.heap[c]? = _ := h
      rw [this] at ho
      injection ho with ho
      subst ho
      cases hn)
theorem Fr.stp {F : Nat → Prop} {B b : Nat} {w W W' : World} (h : Fr F w W) (s : Stp B b W W') (hB : w.heap.size ≤ B) (hb : w.heap.size ≤ b ∨ F b) : Fr F w W' :=
  ⟨s.os.trans h.os, s.tape.trans h.tape, s.output.trans h.output, Nat.le_trans h.size s.size, fun k hk hn => by
    refine (s.block k (Nat.lt_of_lt_of_le hk h.size) fun a => ?_).trans (h.block k hk hn)
    rcases a with e | ⟨h1, _⟩
    · subst e
      rcases hb with h2 | h2
      · omega
      · exact hn h2
    · omega⟩

/-- The contract of a walker that keeps what is left in box b: rounds that go on hand back true and keep the box. -/
def BoxSeq {α : Type} (F : Fence) (n : Nat) (P : Program) (g : Nat) (lb : Array Value) (encs : α → Array Value) (T : α → Prop) (S : List α → Prop) (N : Nat) (b : Nat) (w : World) : Prop :=
  ∀ (l : Nat) (J : List α → World → Prop) (W : World), New w W → (∀ s X Y, J s X → Fr (fun k => k = b) X Y → J s Y) →
    (∀ pre x X, J pre X → T x → pre.length < N → b < X.heap.size → YieldAt F (n - 1) P l (encs x) X fun e Y => e = .returned (.bool true) ∧ J (pre ++ [x]) Y ∧ Y.heap[b]? = X.heap[b]?) →
    J [] W → CallsIn F n P g (#[.func (.yield l) #[] #[]] ++ lb) W fun e Y => (∃ v, e = .returned v) ∧ ∃ xs, S xs ∧ J xs Y

theorem keepsFrom_of_fr {F : Nat → Prop} {B : Nat} {W Y : World} (f : Fr F W Y) (h : ∀ k o, F k → W.heap[k]? = some o → o.isCells = true) : KeepsFrom B W Y :=
  ⟨f.size, fun k o hB hk ho => (f.block k (Array.getElem?_eq_some_iff.1 hk).1 fun e => by rw [h k o e hk] at ho; cases ho).trans hk⟩
theorem Own.cells {W : World} {b : Nat} {t : TypeId} {cs : Array Value} {o : Obj} (h : Own W b t cs) (ho : W.heap[b]? = some o) : o.isCells = true := by
  have e : W.heap[b]? = _ := h
  rw [e] at ho
  injection ho with ho
  subst ho
  rfl
/-- What a body owes that goes on. -/
def boxPost {α : Type} (B b : Nat) (I : List α → World → Prop) (xs : List α) (W : World) : Exit → Act → World → Prop
  | .normal, _, Y => KeepsFrom B W Y ∧ Y.heap[b]? = W.heap[b]? ∧ I xs Y
  | _, _, _ => False

variable {F : Fence} {n : Nat} {P : Program}
theorem wpIn_rangeFunc_boxed {α : Type} {g : Operand} {ps : Array Tmp} {assign body : Code} {Q : Exit → Act → World → Prop} {a : Act} {w : World}
    (hro : F.round = none) (h1 : 1 ≤ n) {gf : Nat} {lb : Array Value} (hg : a.eval g = .func (.func gf) #[] lb) (hFg : F.fn gf) (eg : ∀ args w, (callFunc gf args).run P w = .ok (.enter gf args) w)
    {encs : α → Array Value} {T : α → Prop} {S : List α → Prop} {N b : Nat} (hb : b < w.heap.size) (hseq : BoxSeq F (n - 1) P gf lb encs T S N b w) (hps : ∀ x, (encs x).size = ps.size)
    (I : List α → World → Prop) (hI : ∀ s X Y, I s X → Stp w.heap.size b X Y → I s Y) (h0 : I [] w) (a₁ : α → Act)
    (hassign : ∀ (l : Nat) (x : α) (W : World) (K : Act → World → Prop), K (a₁ x) W →
      assign.wpIn (F.inRound l) (n - 1 - 1) P (Exit.then K (fun _ _ _ => False)) { tmps := (ps.zip (encs x)).foldl (fun t (p, v) => t.setIfInBounds p v) a.tmps, defers := [] } W)
    (hbody : ∀ (l : Nat) (pre : List α) (x : α) (W : World), I pre W → T x → pre.length < N → body.wpIn (F.inRound l) (n - 1 - 1) P (boxPost w.heap.size b I (pre ++ [x]) W) (a₁ x) W)
    (hdone : ∀ (D : Nat) (xs : List α) (W : World), w.heap.size ≤ D → S xs → I xs W → W.heap[D]? = some (.deferred (some [])) → Q .normal { a with defers := { target := .collected D, args := #[] } :: a.defers } W) :
    (Code.rangeFunc g ps assign body).wpIn F n P Q a w := by
  refine wpIn_rangeFunc fun fn hfn => ?_
  rw [hro]
  obtain ⟨D, hD⟩ : ∃ D, D = w.heap.size := ⟨_, rfl⟩
  let R : LoopState → Option Code → Obj := fun st pe => .loop { state := st, pending := pe, fn, tmps := a.tmps, params := ps, assign, body, defers := D }
  obtain ⟨V, hV⟩ : ∃ V, V = (w.alloc (.deferred (some []))).alloc (R .ready none) := ⟨_, rfl⟩
  have hNV : New w V := hV ▸ ((Fr.refl _ w).alloc _).alloc _
  have hsV : V.heap.size = D + 2 := by rw [hV, hD]; simp
  have hLV : V.heap[D + 1]? = some (R .ready none) := by
    have h := World.alloc_heap_new (w.alloc (.deferred (some []))) (R .ready none)
    rw [World.size_alloc, ← hD, ← hV] at h
    exact h
  have hDV : V.heap[D]? = some (.deferred (some [])) := by
    rw [hV, hD]
    exact (Below.heap_alloc _ _ _ (by simp)).trans (World.alloc_heap_new w _)
  have hIV : I [] V := hV ▸ hI _ _ _ (hI _ _ _ h0 (Stp.alloc _ _ _ _)) (Stp.alloc _ _ _ _)
  refine ⟨D + 1, [{ target := .collected D, args := #[] }], V, { target := .fn (.func gf) lb, args := #[.func (.yield (D + 1)) #[] #[]] }, V, gf, #[.func (.yield (D + 1)) #[] #[]] ++ lb, V, ?_, ?_, ?_, ?_, fun _ => h1, ?_⟩
  · rw [hV, hD]
    simp only [R, hD]
    exact run_enterLoop_outer _ _ _ _ _
  · simp only [resolve, hg]
    simp [go_sem]
  · intro f' hf'
    simp [Target.leads] at hf'
    subst hf'
    exact hFg
  · simp [invoke, go_sem, eg]
  refine (hseq (D + 1) (fun pre X => I pre X ∧ X.heap[D + 1]? = some (R .ready none) ∧ X.heap[D]? = some (.deferred (some []))) V hNV ?_ ?_ ⟨hIV, hLV, hDV⟩).mono ?_
  · rintro s X Y ⟨h, hl, hd⟩ f
    have l1 := (Array.getElem?_eq_some_iff.1 hl).1
    have l2 := (Array.getElem?_eq_some_iff.1 hd).1
    exact ⟨hI _ _ _ h (.of_fr f), (f.block _ l1 (by omega)).trans hl, (f.block _ l2 (by omega)).trans hd⟩
  · rintro pre x X ⟨h, hl, hd⟩ hT hlen hbX
    have l1 := (Array.getElem?_eq_some_iff.1 hl).1
    refine ⟨fn, _, assign, body, run_yield (P := P) hl (hps x), roundIn_of_wpIn hfn (hassign _ x X _ ⟨_, run_beginRound hl rfl, ?_⟩)⟩
    have hl2 : (X.putObj (D + 1) (R .busy none)).heap[D + 1]? = some (R .busy none) := World.putObj_heap_same l1
    have hd2 : (X.putObj (D + 1) (R .busy none)).heap[D]? = some (.deferred (some [])) := (World.putObj_heap_other (by omega)).trans hd
    have hb2 : (X.putObj (D + 1) (R .busy none)).heap[b]? = X.heap[b]? := World.putObj_heap_other (by omega)
    refine wpIn_mono (hbody _ pre x _ (hI _ _ _ h (Stp.put _ hl rfl (by omega))) hT hlen) ?_
    rintro e a3 Y hp
    cases e with
    | normal =>
      obtain ⟨hk, hbk, hi⟩ := hp
      have hl3 := hk.same (D + 1) _ (by omega) hl2 rfl
      have hd3 := hk.same D _ (by omega) hd2 rfl
      have l3 := (Array.getElem?_eq_some_iff.1 hl3).1
      refine ⟨_, _, run_endRound (P := P) none hl3, rfl, ⟨hI _ _ _ hi (Stp.put _ hl3 rfl (by omega)), World.putObj_heap_same l3, (World.putObj_heap_other (by omega)).trans hd3⟩, ?_⟩
      exact (World.putObj_heap_other (by omega)).trans (hbk.trans hb2)
    | ret => exact hp.elim
    | exit id => exact hp.elim
    | goto t => exact hp.elim
    | panic ch => exact hp.elim
    | outgrown => exact hp.elim
  · rintro e Y ⟨⟨v, rfl⟩, xs, hS, hi, hl, hd⟩
    exact ⟨none, _, run_endLoop (P := P) hl (by simp), hdone D xs _ (by omega) hS (hI _ _ _ hi (Stp.put _ hl rfl (by omega))) ((World.putObj_heap_other (by omega)).trans hd)⟩
end Go.Proofs.Ytedfgbkaijjaeaa
