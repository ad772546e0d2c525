/- Operations in order: one more in its place. -/
import Derived.Test.YtedfgbkaijjaeaaMvChain
import Derived.Test.YtedfgbkaijjaeaaStampA
import Derived.Lib.Bytealg
namespace Go.Proofs.Ytedfgbkaijjaeaa
open Go.RowKit
set_option linter.unusedVariables false

def cmpT (a b : ByteArray) : Int := Lib.compareBytes a.data.toList b.data.toList
theorem cb_zero : ∀ a b : List UInt8, Lib.compareBytes a b = 0 ↔ a = b
  | [], [] => by simp [Lib.compareBytes]
  | [], _ :: _ => by simp [Lib.compareBytes]
  | _ :: _, [] => by simp [Lib.compareBytes]
  | x :: a, y :: b => by
    unfold Lib.compareBytes
    split
    · rename_i h
      constructor
      · intro e; omega
      · intro e; cases e; exact absurd h (UInt8.lt_irrefl x)
    · rename_i h
      split
      · rename_i h2
        constructor
        · intro e; omega
        · intro e; cases e; exact absurd h2 (UInt8.lt_irrefl x)
      · rename_i h2
        have e : x = y := UInt8.le_antisymm (UInt8.not_lt.1 h2) (UInt8.not_lt.1 h)
        subst e
        rw [cb_zero a b]
        simp
theorem cb_flip : ∀ a b : List UInt8, Lib.compareBytes a b = - Lib.compareBytes b a
  | [], [] => by simp [Lib.compareBytes]
  | [], _ :: _ => by simp [Lib.compareBytes]
  | _ :: _, [] => by simp [Lib.compareBytes]
  | x :: a, y :: b => by
    unfold Lib.compareBytes
    by_cases h : x < y
    · have h2 : ¬ y < x := fun h2 => UInt8.lt_irrefl x (UInt8.lt_trans h h2)
      rw [if_pos h, if_neg h2, if_pos h]
    · by_cases h2 : y < x
      · rw [if_neg h, if_pos h2, if_pos h2]
        rfl
      · rw [if_neg h, if_neg h2, if_neg h2, if_neg h]
        exact cb_flip a b
theorem cb_trans : ∀ a b c : List UInt8, Lib.compareBytes a b < 0 → Lib.compareBytes b c < 0 → Lib.compareBytes a c < 0
  | [], [], c, h, _ => by simp [Lib.compareBytes] at h
  | [], _ :: _, [], _, h => by simp [Lib.compareBytes] at h
  | [], _ :: _, _ :: _, _, _ => by simp [Lib.compareBytes]
  | _ :: _, [], c, h, _ => by simp [Lib.compareBytes] at h
  | _ :: _, _ :: _, [], _, h => by simp [Lib.compareBytes] at h
  | x :: a, y :: b, z :: c, h1, h2 => by
    unfold Lib.compareBytes at h1 h2 ⊢
    split at h1
    · rename_i hxy
      split at h2
      · rename_i hyz
        rw [if_pos (UInt8.lt_trans hxy hyz)]
        omega
      · split at h2
        · omega
        · rename_i n1 n2
          have e : y = z := UInt8.le_antisymm (UInt8.not_lt.1 n2) (UInt8.not_lt.1 n1)
          subst e
          rw [if_pos hxy]
          omega
    · split at h1
      · omega
      · rename_i n1 n2
        have e : x = y := UInt8.le_antisymm (UInt8.not_lt.1 n2) (UInt8.not_lt.1 n1)
        subst e
        split at h2
        · rename_i hyz
          rw [if_pos hyz]
          omega
        · rename_i m1
          split at h2
          · omega
          · rename_i m2
            rw [if_neg m1, if_neg m2]
            exact cb_trans a b c h1 h2
theorem cmpT_zero (a b : ByteArray) : cmpT a b = 0 ↔ a = b := by
  unfold cmpT
  rw [cb_zero]
  constructor
  · intro e
    exact ByteArray.ext (Array.ext' e)
  · intro e; rw [e]
def cmpE (a b : EnV) : Int := orI (orI (cmpI a.op.count b.op.count) (cmpI a.op.who b.op.who)) (cmpT a.hash b.hash)
def ltE (a b : EnV) : Prop := (a.op.count < b.op.count) ∨ (a.op.count = b.op.count ∧ (a.op.who < b.op.who ∨ (a.op.who = b.op.who ∧ cmpT a.hash b.hash < 0)))
def eqE (a b : EnV) : Prop := a.op.count = b.op.count ∧ a.op.who = b.op.who ∧ a.hash = b.hash
theorem cmpE_three (a b : EnV) : (cmpE a b < 0 ↔ ltE a b) ∧ (cmpE a b = 0 ↔ eqE a b) ∧ (0 < cmpE a b ↔ ltE b a) := by
  have hz := cmpT_zero a.hash b.hash
  have hf : cmpT a.hash b.hash = - cmpT b.hash a.hash := cb_flip _ _
  unfold cmpE ltE eqE orI cmpI
  by_cases h1 : (a.op.count : Int) < b.op.count
  · rw [if_pos h1]
    simp only [show ¬ ((-1 : Int) = 0) by omega, if_false]
    refine ⟨⟨fun _ => .inl (by omega), fun _ => by omega⟩, ⟨fun h => by first | exact False.elim h | exact absurd h (by decide) | (exfalso; omega), fun h => by have := h.1; have := h.2.1; omega⟩, ⟨fun h => by omega, fun h => by omega⟩⟩
  · rw [if_neg h1]
    by_cases h2 : (b.op.count : Int) < a.op.count
    · rw [if_pos h2]
      simp only [show ¬ ((1 : Int) = 0) by omega, if_false]
      refine ⟨⟨fun h => by omega, fun h => by omega⟩, ⟨fun h => by first | exact False.elim h | exact absurd h (by decide) | (exfalso; omega), fun h => by have := h.1; have := h.2.1; omega⟩, ⟨fun h => .inl (by omega), fun h => by omega⟩⟩
    · rw [if_neg h2]
      simp only [if_true]
      have hc : a.op.count = b.op.count := by omega
      by_cases h3 : a.op.who < b.op.who
      · rw [if_pos h3]
        simp only [show ¬ ((-1 : Int) = 0) by omega, if_false]
        refine ⟨⟨fun _ => .inr ⟨hc, .inl h3⟩, fun _ => by omega⟩, ⟨fun h => by first | exact False.elim h | exact absurd h (by decide) | (exfalso; omega), fun h => by have := h.1; have := h.2.1; omega⟩, ⟨fun h => by omega, fun h => by omega⟩⟩
      · rw [if_neg h3]
        by_cases h4 : b.op.who < a.op.who
        · rw [if_pos h4]
          simp only [show ¬ ((1 : Int) = 0) by omega, if_false]
          refine ⟨⟨fun h => by omega, fun h => by omega⟩, ⟨fun h => by first | exact False.elim h | exact absurd h (by decide) | (exfalso; omega), fun h => by have := h.1; have := h.2.1; omega⟩, ⟨fun h => .inr ⟨hc.symm, .inl h4⟩, fun h => by omega⟩⟩
        · rw [if_neg h4]
          simp only [if_true]
          have hw : a.op.who = b.op.who := by omega
          refine ⟨⟨fun h => .inr ⟨hc, .inr ⟨hw, h⟩⟩, fun h => by omega⟩, ⟨fun h => ⟨hc, hw, hz.1 h⟩, fun h => hz.2 h.2.2⟩, ⟨fun h => .inr ⟨hc.symm, .inr ⟨hw.symm, by omega⟩⟩, fun h => by omega⟩⟩
theorem ltE_trans {a b c : EnV} (h1 : ltE a b) (h2 : ltE b c) : ltE a c := by
  unfold ltE at *
  rcases h1 with h1 | ⟨e1, h1 | ⟨w1, h1⟩⟩ <;> rcases h2 with h2 | ⟨e2, h2 | ⟨w2, h2⟩⟩
  · exact .inl (by omega)
  · exact .inl (by omega)
  · exact .inl (by omega)
  · exact .inl (by omega)
  · exact .inr ⟨by omega, .inl (by omega)⟩
  · exact .inr ⟨by omega, .inl (by omega)⟩
  · exact .inl (by omega)
  · exact .inr ⟨by omega, .inl (by omega)⟩
  · exact .inr ⟨by omega, .inr ⟨by omega, cb_trans _ _ _ h1 h2⟩⟩
theorem eqE_refl (a : EnV) : eqE a a := ⟨rfl, rfl, rfl⟩
theorem ltE_irrefl (a : EnV) : ¬ ltE a a := fun h => by
  have h1 := (cmpE_three a a).1.2 h
  have h2 := (cmpE_three a a).2.1.2 (eqE_refl a)
  omega
theorem ltE_eq {a b c : EnV} (h : ltE a b) (e : eqE b c) : ltE a c := by
  obtain ⟨e1, e2, e3⟩ := e
  unfold ltE at *
  rw [← e1, ← e2, ← e3]
  exact h
/-- Operations in order. -/
abbrev UpE (l : List EnV) : Prop := l.Pairwise ltE
instance (a b : EnV) : Decidable (ltE a b) := by unfold ltE; infer_instance
def lowE (l : List EnV) (e : EnV) : Nat := (l.takeWhile fun y => decide (ltE y e)).length
def insE (l : List EnV) (e : EnV) : List EnV := l.take (lowE l e) ++ e :: l.drop (lowE l e)
theorem lowE_cons (a : EnV) (l : List EnV) (e : EnV) : lowE (a :: l) e = if ltE a e then lowE l e + 1 else 0 := by
  unfold lowE
  by_cases h : ltE a e
  · simp [List.takeWhile, h]
  · simp [List.takeWhile, h]
theorem lowE_le (l : List EnV) (e : EnV) : lowE l e ≤ l.length := by
  induction l with
  | nil => simp [lowE]
  | cons a l ih => rw [lowE_cons]; split <;> simp <;> omega
theorem lowE_lt {l : List EnV} {e : EnV} : ∀ {j : Nat} {x : EnV}, j < lowE l e → l[j]? = some x → ltE x e := by
  induction l with
  | nil => intro j x h; simp [lowE] at h
  | cons a l ih =>
    intro j x h hx
    rw [lowE_cons] at h
    split at h
    · cases j with
      | zero => simp at hx; subst hx; assumption
      | succ j => exact ih (j := j) (by omega) (by simpa using hx)
    · omega
theorem lowE_ge {l : List EnV} (hl : UpE l) {e : EnV} : ∀ {j : Nat} {x : EnV}, lowE l e ≤ j → l[j]? = some x → ¬ ltE x e := by
  induction l with
  | nil => intro j x h hx; simp at hx
  | cons a l ih =>
    intro j x h hx
    obtain ⟨h1, h2⟩ := List.pairwise_cons.1 hl
    rw [lowE_cons] at h
    split at h
    · cases j with
      | zero => omega
      | succ j => exact ih h2 (j := j) (by omega) (by simpa using hx)
    · rename_i hn
      cases j with
      | zero => simp at hx; subst hx; exact hn
      | succ j => exact fun hh => hn (ltE_trans (h1 x (List.mem_of_getElem? (by simpa using hx))) hh)
theorem insE_cons (a : EnV) (l : List EnV) (e : EnV) : insE (a :: l) e = if ltE a e then a :: insE l e else e :: a :: l := by
  unfold insE
  rw [lowE_cons]
  split <;> simp
theorem mem_insE (l : List EnV) (e y : EnV) : y ∈ insE l e ↔ y = e ∨ y ∈ l := by
  induction l with
  | nil => simp [insE, lowE]
  | cons a l ih =>
    rw [insE_cons]
    split
    · simp only [List.mem_cons, ih]
      constructor
      · rintro (h | h | h) <;> simp [h]
      · rintro (h | h | h) <;> simp [h]
    · simp
theorem insE_up {l : List EnV} (h : UpE l) {e : EnV} (hx : ∀ y ∈ l, ¬ eqE y e) : UpE (insE l e) := by
  induction l with
  | nil => simp [insE, lowE, UpE]
  | cons a l ih =>
    obtain ⟨h1, h2⟩ := List.pairwise_cons.1 h
    have h3 := fun y hy => hx y (List.mem_cons_of_mem _ hy)
    rw [insE_cons]
    split
    · rename_i hlt
      refine List.pairwise_cons.2 ⟨fun y hy => ?_, ih h2 h3⟩
      rcases (mem_insE l e y).1 hy with rfl | hy
      · exact hlt
      · exact h1 y hy
    · rename_i hn
      have hea : ltE e a := by
        have c := cmpE_three a e
        rcases Int.lt_trichotomy (cmpE a e) 0 with k | k | k
        · exact absurd (c.1.1 k) hn
        · exact absurd (c.2.1.1 k) (hx a List.mem_cons_self)
        · exact c.2.2.1 k
      refine List.pairwise_cons.2 ⟨fun y hy => ?_, h⟩
      rcases List.mem_cons.1 hy with rfl | hy
      · exact hea
      · exact ltE_trans hea (h1 y hy)
/-- Is there one of that time and digest? -/
theorem at_lowE {l : List EnV} (h : UpE l) {e : EnV} : (∃ x, l[lowE l e]? = some x ∧ eqE x e) ↔ ∃ y ∈ l, eqE y e := by
  constructor
  · rintro ⟨x, hx, he⟩
    exact ⟨x, List.mem_of_getElem? hx, he⟩
  · induction l with
    | nil => rintro ⟨y, hy, _⟩; cases hy
    | cons a l ih =>
      obtain ⟨h1, h2⟩ := List.pairwise_cons.1 h
      rintro ⟨y, hy, he⟩
      rw [lowE_cons]
      rcases List.mem_cons.1 hy with rfl | hy
      · have : ¬ ltE y e := fun hh => by
          have c := cmpE_three y e
          have := c.1.2 hh
          have := c.2.1.2 he
          omega
        rw [if_neg this]
        exact ⟨y, rfl, he⟩
      · have hlt : ltE a e := ltE_eq (h1 y hy) he
        rw [if_pos hlt]
        obtain ⟨x, hx, hxe⟩ := ih h2 ⟨y, hy, he⟩
        exact ⟨x, by simpa using hx, hxe⟩
/-- One more, where there is none of that time and digest. -/
def freshE (l : List EnV) (e : EnV) : Bool := !(match l[lowE l e]? with | some x => decide (x.op.count = e.op.count ∧ x.op.who = e.op.who ∧ x.hash = e.hash) | none => false)
def addE (l : List EnV) (e : EnV) : List EnV := if freshE l e = true then insE l e else l
end Go.Proofs.Ytedfgbkaijjaeaa
