/- A range over a function whose walker keeps what is left in a box of its own: the law for a body that may leave the loop. -/
import Derived.Test.YtedfgbkaijjaeaaRangeBox
namespace Go.Proofs.Ytedfgbkaijjaeaa
open Go.RowKit
set_option linter.unusedVariables false

/-- The contract of a walker that keeps what is left in box b, whose rounds may end it. -/
def BoxStops {α : Type} (F : Fence) (n : Nat) (P : Program) (g : Nat) (lb : Array Value) (encs : α → Array Value) (T : α → Prop) (S Sp : List α → Prop) (N : Nat) (b : Nat) (Kp : World → Prop) (w : World) : Prop :=
  ∀ (l : Nat) (J Jx : List α → World → Prop) (W : World), New w W → (∀ s X, J s X → Kp X) → (∀ s X Y, J s X → Fr (fun k => k = b) X Y → J s Y) → (∀ s X Y, Jx s X → Fr (fun k => k = b) X Y → Jx s Y) →
    (∀ pre x X, J pre X → T x → pre.length < N → b < X.heap.size → YieldAt F (n - 1) P l (encs x) X fun e Y => (e = .returned (.bool true) ∧ J (pre ++ [x]) Y ∧ Y.heap[b]? = X.heap[b]?) ∨ (e = .returned (.bool false) ∧ Jx (pre ++ [x]) Y)) →
    J [] W → CallsIn F n P g (#[.func (.yield l) #[] #[]] ++ lb) W fun e Y => (∃ v, e = .returned v) ∧ ((∃ xs, S xs ∧ J xs Y) ∨ ∃ pre, Sp pre ∧ Jx pre Y)
/-- What a body owes that goes on, or leaves. -/
def boxPostX {α : Type} (B b : Nat) (I : List α → World → Prop) (Ix : Code → List α → World → Prop) (xs : List α) (W : World) : Exit → Act → World → Prop
  | .normal, _, Y => KeepsFrom B W Y ∧ Y.heap[b]? = W.heap[b]? ∧ I xs Y
  | .ret, _, Y => KeepsFrom B W Y ∧ Ix .ret xs Y
  | _, _, _ => False

variable {F : Fence} {n : Nat} {P : Program}
theorem wpIn_rangeFunc_boxedX {α : Type} {g : Operand} {ps : Array Tmp} {assign body : Code} {Q : Exit → Act → World → Prop} {a : Act} {w : World}
    (hro : F.round = none) (h1 : 1 ≤ n) {gf : Nat} {lb : Array Value} (hg : a.eval g = .func (.func gf) #[] lb) (hFg : F.fn gf) (eg : ∀ args w, (callFunc gf args).run P w = .ok (.enter gf args) w)
    {encs : α → Array Value} {T : α → Prop} {S Sp : List α → Prop} {N b : Nat} {Kp : World → Prop} (hb : b < w.heap.size) (hseq : BoxStops F (n - 1) P gf lb encs T S Sp N b Kp w) (hps : ∀ x, (encs x).size = ps.size)
    (I : List α → World → Prop) (Ix : Code → List α → World → Prop) (hIK : ∀ s X, I s X → Kp X) (hI : ∀ s X Y, I s X → Stp w.heap.size b X Y → I s Y) (hIx : ∀ c s X Y, Ix c s X → Stp w.heap.size b X Y → Ix c s Y) (h0 : I [] w) (a₁ : α → Act)
    (hassign : ∀ (l : Nat) (x : α) (W : World) (K : Act → World → Prop), K (a₁ x) W →
      assign.wpIn (F.inRound l) (n - 1 - 1) P (Exit.then K (fun _ _ _ => False)) { tmps := (ps.zip (encs x)).foldl (fun t (p, v) => t.setIfInBounds p v) a.tmps, defers := [] } W)
    (hbody : ∀ (l : Nat) (pre : List α) (x : α) (W : World), I pre W → T x → pre.length < N → body.wpIn (F.inRound l) (n - 1 - 1) P (boxPostX w.heap.size b I Ix (pre ++ [x]) W) (a₁ x) W)
    (hdone : ∀ (D : Nat) (xs : List α) (W : World), w.heap.size ≤ D → S xs → I xs W → W.heap[D]? = some (.deferred (some [])) → Q .normal { a with defers := { target := .collected D, args := #[] } :: a.defers } W)
    (hstop : ∀ (D : Nat) (c : Code) (pre : List α) (W : World), w.heap.size ≤ D → Sp pre → Ix c pre W → W.heap[D]? = some (.deferred (some [])) → c.wpIn F n P Q { a with defers := { target := .collected D, args := #[] } :: a.defers } W) :
    (Code.rangeFunc g ps assign body).wpIn F n P Q a w := by
  refine wpIn_rangeFunc fun fn hfn => ?_
  rw [hro]
  obtain ⟨D, hD⟩ : ∃ D, D = w.heap.size := ⟨_, rfl⟩
  let R : LoopState → Option Code → Obj := fun st pe => .loop { state := st, pending := pe, fn, tmps := a.tmps, params := ps, assign, body, defers := D }
  obtain ⟨V, hV⟩ : ∃ V, V = (w.alloc (.deferred (some []))).alloc (R .ready none) := ⟨_, rfl⟩
  have hNV : New w V := hV ▸ ((Fr.refl _ w).alloc _).alloc _
  have hsV : V.heap.size = D + 2 := by rw [hV, hD]; simp
  have hLV : V.heap[D + 1]? = some (R .ready none) := by
    have h := World.alloc_heap_new (w.alloc (.deferred (some []))) (R .ready none)
    rw [World.size_alloc, ← hD, ← hV] at h
    exact h
  have hDV : V.heap[D]? = some (.deferred (some [])) := by
    rw [hV, hD]
    exact (Below.heap_alloc _ _ _ (by simp)).trans (World.alloc_heap_new w _)
  have hIV : I [] V := hV ▸ hI _ _ _ (hI _ _ _ h0 (Stp.alloc _ _ _ _)) (Stp.alloc _ _ _ _)
  refine ⟨D + 1, [{ target := .collected D, args := #[] }], V, { target := .fn (.func gf) lb, args := #[.func (.yield (D + 1)) #[] #[]] }, V, gf, #[.func (.yield (D + 1)) #[] #[]] ++ lb, V, ?_, ?_, ?_, ?_, fun _ => h1, ?_⟩
  · rw [hV, hD]
    simp only [R, hD]
    exact run_enterLoop_outer _ _ _ _ _
  · simp only [resolve, hg]
    simp [go_sem]
  · intro f' hf'
    simp [Target.leads] at hf'
    subst hf'
    exact hFg
  · simp [invoke, go_sem, eg]
  refine (hseq (D + 1) (fun pre X => I pre X ∧ X.heap[D + 1]? = some (R .ready none) ∧ X.heap[D]? = some (.deferred (some [])))
    (fun pre X => ∃ c, Ix c pre X ∧ X.heap[D + 1]? = some (R .done (some c)) ∧ X.heap[D]? = some (.deferred (some []))) V hNV (fun s X h => hIK s X h.1) ?_ ?_ ?_ ⟨hIV, hLV, hDV⟩).mono ?_
  · rintro s X Y ⟨h, hl, hd⟩ f
    have l1 := (Array.getElem?_eq_some_iff.1 hl).1
    have l2 := (Array.getElem?_eq_some_iff.1 hd).1
    exact ⟨hI _ _ _ h (.of_fr f), (f.block _ l1 (by omega)).trans hl, (f.block _ l2 (by omega)).trans hd⟩
  · rintro s X Y ⟨c, h, hl, hd⟩ f
    have l1 := (Array.getElem?_eq_some_iff.1 hl).1
    have l2 := (Array.getElem?_eq_some_iff.1 hd).1
    exact ⟨c, hIx _ _ _ _ h (.of_fr f), (f.block _ l1 (by omega)).trans hl, (f.block _ l2 (by omega)).trans hd⟩
  · rintro pre x X ⟨h, hl, hd⟩ hT hlen hbX
    have l1 := (Array.getElem?_eq_some_iff.1 hl).1
    refine ⟨fn, _, assign, body, run_yield (P := P) hl (hps x), roundIn_of_wpIn hfn (hassign _ x X _ ⟨_, run_beginRound hl rfl, ?_⟩)⟩
    have hl2 : (X.putObj (D + 1) (R .busy none)).heap[D + 1]? = some (R .busy none) := World.putObj_heap_same l1
    have hd2 : (X.putObj (D + 1) (R .busy none)).heap[D]? = some (.deferred (some [])) := (World.putObj_heap_other (by omega)).trans hd
    have hb2 : (X.putObj (D + 1) (R .busy none)).heap[b]? = X.heap[b]? := World.putObj_heap_other (by omega)
    refine wpIn_mono (hbody _ pre x _ (hI _ _ _ h (Stp.put _ hl rfl (by omega))) hT hlen) ?_
    rintro e a3 Y hp
    cases e with
    | normal =>
      obtain ⟨hk, hbk, hi⟩ := hp
      have hl3 := hk.same (D + 1) _ (by omega) hl2 rfl
      have hd3 := hk.same D _ (by omega) hd2 rfl
      have l3 := (Array.getElem?_eq_some_iff.1 hl3).1
      refine ⟨_, _, run_endRound (P := P) none hl3, .inl ⟨rfl, ⟨hI _ _ _ hi (Stp.put _ hl3 rfl (by omega)), World.putObj_heap_same l3, (World.putObj_heap_other (by omega)).trans hd3⟩, ?_⟩⟩
      exact (World.putObj_heap_other (by omega)).trans (hbk.trans hb2)
    | ret =>
      obtain ⟨hk, hi⟩ := hp
      have hl3 := hk.same (D + 1) _ (by omega) hl2 rfl
      have hd3 := hk.same D _ (by omega) hd2 rfl
      have l3 := (Array.getElem?_eq_some_iff.1 hl3).1
      exact ⟨_, _, run_endRound (P := P) (some .ret) hl3, .inr ⟨rfl, .ret, hIx _ _ _ _ hi (Stp.put _ hl3 rfl (by omega)), World.putObj_heap_same l3, (World.putObj_heap_other (by omega)).trans hd3⟩⟩
    | exit id => exact hp.elim
    | goto t => exact hp.elim
    | panic ch => exact hp.elim
    | outgrown => exact hp.elim
  · rintro e Y ⟨⟨v, rfl⟩, (⟨xs, hS, hi, hl, hd⟩ | ⟨pre, hS, c, hi, hl, hd⟩)⟩
    · exact ⟨none, _, run_endLoop (P := P) hl (by simp), hdone D xs _ (by omega) hS (hI _ _ _ hi (Stp.put _ hl rfl (by omega))) ((World.putObj_heap_other (by omega)).trans hd)⟩
    · exact ⟨some c, _, run_endLoop (P := P) hl (by simp), hstop D c pre _ (by omega) hS (hIx _ _ _ _ hi (Stp.put _ hl rfl (by omega))) ((World.putObj_heap_other (by omega)).trans hd)⟩
end Go.Proofs.Ytedfgbkaijjaeaa
