/- A region that draws its order, whose last operations wait for all the others: first the others, in the text's order, if they only read; then the last ones. -/
import Derived.Test.YtedfgbkaijjaeaaBase
namespace Go.Proofs.Ytedfgbkaijjaeaa
set_option linter.unusedVariables false

/-- The operations from number n on wait for all ahead of them; those ahead wait for earlier ones alone, and none of them has a guard. -/
def partsB (n : Nat) (ops : Array Oper) : Bool :=
  ((List.range n).all fun j => match ops[j]? with
    | some o => o.guard.isNone && o.after.toList.all fun e => !(Region.binds .any e) || decide (e.on < j)
    | none => false) &&
  ((List.range (ops.size - n)).all fun j => match ops[n + j]? with
    | some o => (List.range n).all fun i => o.after.toList.any fun e => Region.binds .any e && decide (e.on = i)
    | none => true)
theorem partsB_low {n : Nat} {ops : Array Oper} (h : partsB n ops = true) {j : Nat} (hj : j < n) :
    ∃ o, ops[j]? = some o ∧ o.guard = none ∧ ∀ e ∈ o.after, Region.binds .any e = true → e.on < j := by
  unfold partsB at h
  rw [Bool.and_eq_true] at h
  have h1 := List.all_eq_true.1 h.1 j (List.mem_range.2 hj)
  cases ho : ops[j]? with
  | none => rw [ho] at h1; cases h1
  | some o =>
    rw [ho] at h1
    simp only [Bool.and_eq_true] at h1
    refine ⟨o, rfl, by simpa using h1.1, fun e he hb => ?_⟩
    have h2 := List.all_eq_true.1 h1.2 e (by simpa using he)
    simpa [hb] using h2
theorem partsB_high {n : Nat} {ops : Array Oper} (h : partsB n ops = true) {j : Nat} {o : Oper} (hn : n ≤ j) (ho : ops[j]? = some o) {i : Nat} (hi : i < n) :
    ∃ e ∈ o.after, Region.binds .any e = true ∧ e.on = i := by
  unfold partsB at h
  rw [Bool.and_eq_true] at h
  have hlt := (Array.getElem?_eq_some_iff.1 ho).1
  have h1 := List.all_eq_true.1 h.2 (j - n) (List.mem_range.2 (by omega))
  rw [show n + (j - n) = j by omega, ho] at h1
  have h2 := List.all_eq_true.1 h1 i (List.mem_range.2 hi)
  obtain ⟨e, he, h3⟩ := List.any_eq_true.1 h2
  rw [Bool.and_eq_true] at h3
  exact ⟨e, by simpa using he, h3.1, by simpa using h3.2⟩

/-- How many of the first n are not listed. -/
def openN (L : Nat → Bool) : Nat → Nat
  | 0 => 0
  | n + 1 => openN L n + (if L n then 0 else 1)
theorem openN_zero (L : Nat → Bool) (n : Nat) (h : openN L n = 0) : ∀ j, j < n → L j = true := by
  induction n with
  | zero => intro j hj; omega
  | succ n ih =>
    intro j hj
    rw [openN] at h
    by_cases e : j = n
    · subst e
      cases hL : L j with
      | true => rfl
      | false => rw [hL] at h; simp at h
    · exact ih (by omega) j (by omega)
theorem openN_same {L M : Nat → Bool} {n : Nat} (h : ∀ j, j < n → L j = M j) : openN L n = openN M n := by
  induction n with
  | zero => rfl
  | succ n ih => rw [openN, openN, ih (fun j hj => h j (by omega)), h n (by omega)]
theorem openN_set {L M : Nat → Bool} {n i : Nat} (hi : i < n) (h0 : L i = false) (h1 : M i = true) (h : ∀ j, j ≠ i → M j = L j) : openN L n = openN M n + 1 := by
  induction n with
  | zero => omega
  | succ n ih =>
    rw [openN, openN]
    by_cases e : i = n
    · subst e
      rw [h0, h1, openN_same (L := L) (M := M) (fun j hj => (h j (by omega)).symm)]
      simp
    · rw [ih (by omega), h n (fun e' => e e'.symm)]
      omega
theorem openN_pos {L : Nat → Bool} {n : Nat} (h : openN L n ≠ 0) : ∃ j, j < n ∧ L j = false ∧ ∀ k, k < j → L k = true := by
  induction n with
  | zero => exact absurd rfl h
  | succ n ih =>
    by_cases e : openN L n = 0
    · refine ⟨n, by omega, ?_, openN_zero L n e⟩
      rw [openN, e] at h
      cases hL : L n with
      | false => rfl
      | true => rw [hL] at h; simp at h
    · obtain ⟨j, hj, r⟩ := ih e
      exact ⟨j, by omega, r⟩

/-- What is asked when the first part is through. -/
def restQ (Q : Exit → Act → World → Prop) (R : Act → World → Prop) : Exit → Act → World → Prop
  | .normal, a, w => R a w
  | e, a, w => Q e a w
theorem wpOp_part {P : Program} {pre ops : Array Oper} {Q : Exit → Act → World → Prop} {R : Act → World → Prop} {i : Nat} {o : Oper} (h1 : pre[i]? = some o) (h2 : ops[i]? = some o) (hg : o.guard = none)
    {K K' : Act → World → Prop} {a : Act} {w : World} (hK : ∀ a w, K a w → K' a w) (h : wpOp P pre (restQ Q R) i K a w) : wpOp P ops Q i K' a w := by
  unfold wpOp at *
  have hw : ∀ y, Region.wanted o y = true := fun y => by unfold Region.wanted; rw [hg]
  simp only [h1, h2, hw, if_true] at *
  rcases h with h | ⟨h, a', w', hl⟩
  · refine .inl ?_
    unfold Oper.wp at *
    generalize (execOp a.eval o).run P w = r at *
    cases r with
    | ok n w' =>
      cases n <;> simp only [Oper.upon] at h ⊢
      case value u => exact hK _ _ h
      case skip => exact hK _ _ h
      case defer d => exact hK _ _ h
      case enter f args =>
        refine Calls.mono h fun e w'' he => ?_
        cases e with
        | returned u => exact hK _ _ he
        | panicked c => exact he
        | outgrown => obtain ⟨a', w', hl⟩ := he; exact ⟨a', w', hl⟩
      case row row args => exact Rows.mono h fun u w'' he => hK _ _ he
    | halt x w' => cases x <;> simp only [Oper.upon] at h ⊢ <;> exact h
  · exact .inr ⟨h, a', w', hl⟩

/-- In two parts. -/
theorem wpAny_parts {P : Program} {pre ops : Array Oper} {Q : Exit → Act → World → Prop} {n p : Nat} (hn : pre.size = n) (hp : ops.size = n + p) (hpre : ∀ j, j < n → pre[j]? = ops[j]?) (hB : partsB n ops = true) :
    ∀ (fuel : Nat) (L M : Array Bool) (a : Act) (w : World), L.size = n → M.size = n + p → (∀ j, j < n → M.getD j true = L.getD j true) → (∀ j, n ≤ j → j < n + p → M.getD j true = false) →
      openN (fun j => L.getD j true) n = fuel →
      wpAny P .any pre (restQ Q fun a w => ∀ M' : Array Bool, M'.size = n + p → (∀ j, j < n → M'.getD j true = true) → (∀ j, n ≤ j → j < n + p → M'.getD j true = false) → wpAny P .any ops Q p M' a w) fuel L a w →
      wpAny P .any ops Q (fuel + p) M a w := by
  intro fuel
  induction fuel with
  | zero =>
    intro L M a w hL hM h1 h2 ho h
    rw [Nat.zero_add]
    exact h.2 M hM (fun j hj => (h1 j hj).trans (openN_zero _ _ ho j hj)) h2
  | succ fuel ih =>
    intro L M a w hL hM h1 h2 ho h
    have hd : ∀ (A : Array Bool) (j : Nat), j < A.size → A.getD j false = A.getD j true := fun A j hj => by
      have : A[j]? = some A[j] := Array.getElem?_eq_getElem hj
      simp [this]
    have tr : ∀ i, i ∈ Region.ready .any ops M → i < n ∧ i ∈ Region.ready .any pre L := by
      intro i hi
      rw [mem_ready] at hi
      obtain ⟨h0, o, hoi, hall⟩ := hi
      have hlt := (Array.getElem?_eq_some_iff.1 hoi).1
      have hin : i < n := by
        rcases Nat.lt_or_ge i n with h' | h'
        · exact h'
        · exfalso
          obtain ⟨j, hj, hjf, _⟩ := openN_pos (L := fun j => L.getD j true) (n := n) (by rw [ho]; omega)
          obtain ⟨e, he, hb, hon⟩ := partsB_high hB h' hoi hj
          have := hall e he hb
          rw [hon, hd M j (by omega), h1 j hj] at this
          rw [hjf] at this
          cases this
      refine ⟨hin, mem_ready.2 ⟨(h1 i hin).symm.trans h0, o, (hpre i hin).trans hoi, fun e he hb => ?_⟩⟩
      obtain ⟨o', ho', _, hlow⟩ := partsB_low hB hin
      rw [hoi] at ho'
      cases ho'
      have he' := hlow e he hb
      rw [hd L _ (by omega), ← h1 _ (by omega), ← hd M _ (by omega)]
      exact hall e he hb
    rw [show fuel + 1 + p = (fuel + p) + 1 by omega]
    refine ⟨fun h0 => ?_, fun i hi => ?_⟩
    · exfalso
      obtain ⟨j, hj, hjf, hmin⟩ := openN_pos (L := fun j => L.getD j true) (n := n) (by rw [ho]; omega)
      obtain ⟨o, hoj, _, hlow⟩ := partsB_low hB hj
      have : j ∈ Region.ready .any ops M := mem_ready.2 ⟨(h1 j hj).trans hjf, o, hoj, fun e he hb => by
        have := hlow e he hb
        rw [hd M _ (by omega), h1 _ (by omega)]
        exact hmin _ this⟩
      rw [h0] at this
      cases this
    · obtain ⟨hin, hr⟩ := tr i hi
      obtain ⟨o, hoi, hg, _⟩ := partsB_low hB hin
      refine wpOp_part ((hpre i hin).trans hoi) hoi hg (fun a' w' h' => ?_) (h.2 i hr)
      refine ih (L.setIfInBounds i true) (M.setIfInBounds i true) a' w' (by simpa using hL) (by simpa using hM) ?_ ?_ ?_ h'
      · intro j hj
        by_cases e : i = j
        · subst e
          simp [hL, hM, hin, Nat.lt_of_lt_of_le hin (Nat.le_add_right n p)]
        · rw [getD_set_ne true e, getD_set_ne true e]
          exact h1 j hj
      · intro j hj hj2
        rw [getD_set_ne true (by omega)]
        exact h2 j hj hj2
      · have := openN_set (L := fun j => L.getD j true) (M := fun j => (L.setIfInBounds i true).getD j true) hin (mem_ready.1 hr).1 (by simp [hL, hin]) (fun j hj => getD_set_ne true (fun e => hj e.symm))
        omega
/-- A region whose first operations only read, and whose last one waits for all of them. -/
theorem wp_region_last {P : Program} {id : Nat} {Q : Exit → Act → World → Prop} {a : Act} {w : World} {l : List Oper} (pre : List Oper) (o : Oper) (hl : l = pre ++ [o]) (hm : P.follows .mixedOrders = true)
    (hx : Region.lexB .any pre.toArray = true) (hB : partsB pre.length l.toArray = true) (hg : o.guard = none)
    (hr : Region.ready .any l.toArray ((List.replicate pre.length true ++ [false]).toArray) = [pre.length]) (hr2 : Region.ready .any l.toArray (List.replicate (pre.length + 1) true).toArray = [])
    (h : wpQuiet P pre.toArray (fun w' => ∃ n, w' = w.drewN n) (fun a' => ∀ w', (∃ n, w' = w.drewN n) → ∀ K : Act → World → Prop, (∀ a w, Q .normal a w → K a w) → o.wp P a' w' K Q) pre a) : (Code.region id l.toArray true).wp P Q a w := by
  refine wp_region_any hm ?_
  have hsz : l.toArray.size = pre.length + 1 := by rw [hl]; simp
  have uniq : ∀ (M : Array Bool) (k : Nat) (b : List Bool), b.length = k → M.size = k → (∀ j, j < k → M.getD j true = b.getD j true) → M = b.toArray := by
    intro M k b hb hM he
    apply Array.ext
    · simp [hM, hb]
    · intro j h1 h2
      have := he j (by omega)
      have e1 : M.getD j true = M[j] := by simp [Array.getElem?_eq_getElem h1]
      have e2 : b.getD j true = b[j]'(by simpa using h2) := by simp [List.getD, List.getElem?_eq_getElem (by simpa using h2)]
      rw [e1, e2] at this
      simpa using this
  simp only [Region.lexB, Bool.and_eq_true] at hx
  have hq := wpAnyQ_lex (P := P) (C := fun w' => ∃ n, w' = w.drewN n) (md := .any) hx.1 pre 0 (Array.replicate pre.length false) a (by simp) (by simpa using hx.2) h
  have hpre := wpAny_of_quiet (P := P) (md := .any) (Q' := restQ Q fun a w => ∀ M' : Array Bool, M'.size = pre.length + 1 → (∀ j, j < pre.length → M'.getD j true = true) → (∀ j, pre.length ≤ j → j < pre.length + 1 → M'.getD j true = false) → wpAny P .any l.toArray Q 1 M' a w)
    (fun a' w' hw' h' M' hM h1 h2 => ?_) pre.length _ a { w with drawn := w.drawn + 1 } ⟨1, rfl⟩ hq
  · have := wpAny_parts (P := P) (pre := pre.toArray) (ops := l.toArray) (Q := Q) (n := pre.length) (p := 1) (by simp) hsz (fun j hj => by rw [hl]; simp [List.getElem?_append_left hj]) hB pre.length
      (Array.replicate pre.length false) (Array.replicate (pre.length + 1) false) a { w with drawn := w.drawn + 1 } (by simp) (by simp) (fun j hj => by simp [hj, Nat.lt_succ_of_lt hj]) (fun j h1 h2 => by simp [h2]) ?_ hpre
    · rw [hsz]
      exact this
    · have : ∀ k, k ≤ pre.length → openN (fun j => (Array.replicate pre.length false).getD j true) k = k := by
        intro k
        induction k with
        | zero => intro _; rfl
        | succ k ih =>
          intro hk
          have e : (Array.replicate pre.length false).getD k true = false := by simp [show k < pre.length by omega]
          rw [openN, ih (by omega)]
          simp only [e]
          rfl
      exact this _ (Nat.le_refl _)
  · have e : M' = (List.replicate pre.length true ++ [false]).toArray := by
      refine uniq M' (pre.length + 1) _ (by simp) hM fun j hj => ?_
      by_cases e : j < pre.length
      · rw [h1 j e]
        simp [List.getD, List.getElem?_append_left, e]
      · rw [h2 j (by omega) hj]
        obtain rfl : j = pre.length := by omega
        simp [List.getD]
    subst e
    refine ⟨fun h0 => (by rw [hr] at h0; cases h0), fun i hi => ?_⟩
    rw [hr, List.mem_singleton] at hi
    subst hi
    have ho : l.toArray[pre.length]? = some o := by rw [hl]; simp
    unfold wpOp
    have hw : ∀ y, Region.wanted o y = true := fun y => by unfold Region.wanted; rw [hg]
    simp only [ho, hw, if_true]
    refine .inl (h' w' hw' _ fun a'' w'' hq => ?_)
    have e2 : (List.replicate pre.length true ++ [false]).toArray.setIfInBounds pre.length true = (List.replicate (pre.length + 1) true).toArray := by
      apply Array.ext_getElem?
      intro j
      rw [Array.getElem?_setIfInBounds]
      by_cases e : pre.length = j
      · subst e
        simp
      · rw [if_neg e]
        by_cases h3 : j < pre.length
        · simp [h3, Nat.lt_succ_of_lt h3]
        · rw [Array.getElem?_eq_none (by simp; omega), Array.getElem?_eq_none (by simp; omega)]
    rw [e2]
    exact ⟨hr2, hq⟩
theorem wp_region_cut {P : Program} {id : Nat} {Q : Exit → Act → World → Prop} {a : Act} {w : World} {l pre : List Oper} {o : Oper} (n : Nat) (hp : l.take n = pre) (hd : l.drop n = [o]) (hm : P.follows .mixedOrders = true)
    (hx : Region.lexB .any pre.toArray = true) (hB : partsB pre.length l.toArray = true) (hg : o.guard = none)
    (hr : Region.ready .any l.toArray ((List.replicate pre.length true ++ [false]).toArray) = [pre.length]) (hr2 : Region.ready .any l.toArray (List.replicate (pre.length + 1) true).toArray = [])
    (h : wpQuiet P pre.toArray (fun w' => ∃ n, w' = w.drewN n) (fun a' => ∀ w', (∃ n, w' = w.drewN n) → ∀ K : Act → World → Prop, (∀ a w, Q .normal a w → K a w) → o.wp P a' w' K Q) pre a) : (Code.region id l.toArray true).wp P Q a w :=
  wp_region_last pre o (by rw [← hp, ← hd, List.take_append_drop]) hm hx hB hg hr hr2 h
end Go.Proofs.Ytedfgbkaijjaeaa
