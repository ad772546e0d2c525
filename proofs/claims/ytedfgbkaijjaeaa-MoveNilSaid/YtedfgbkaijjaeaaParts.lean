/- A region that draws its order: first what only reads or makes new blocks, in any order; then the rest, in the text's order. -/
import Derived.Test.YtedfgbkaijjaeaaRounds
namespace Go.Proofs.Ytedfgbkaijjaeaa
open Go.RowKit
set_option linter.unusedVariables false
set_option linter.unusedSimpArgs false

/-- Operation o waits, directly or through others, for number i. -/
def reachB (ops : Array Oper) : Nat → Oper → Nat → Bool
  | 0, _, _ => false
  | f + 1, o, i => o.after.toList.any fun e => Region.binds .any e && (decide (e.on = i) || match ops[e.on]? with
    | some o' => reachB ops f o' i
    | none => false)
/-- As partsB, but the last operations may wait through others. -/
def partsT (n : Nat) (ops : Array Oper) : Bool :=
  ((List.range n).all fun j => match ops[j]? with
    | some o => o.guard.isNone && o.after.toList.all fun e => !(Region.binds .any e) || decide (e.on < j)
    | none => false) &&
  ((List.range (ops.size - n)).all fun j => match ops[n + j]? with
    | some o => (List.range n).all fun i => reachB ops (ops.size + 1) o i
    | none => true)
theorem partsT_low {n : Nat} {ops : Array Oper} (h : partsT n ops = true) {j : Nat} (hj : j < n) :
    ∃ o, ops[j]? = some o ∧ o.guard = none ∧ ∀ e ∈ o.after, Region.binds .any e = true → e.on < j := by
  unfold partsT at h
  rw [Bool.and_eq_true] at h
  have h1 := List.all_eq_true.1 h.1 j (List.mem_range.2 hj)
  cases ho : ops[j]? with
  | none => rw [ho] at h1; cases h1
  | some o =>
    rw [ho] at h1
    simp only [Bool.and_eq_true] at h1
    refine ⟨o, rfl, by simpa using h1.1, fun e he hb => ?_⟩
    have h2 := List.all_eq_true.1 h1.2 e (by simpa using he)
    simpa [hb] using h2
/-- What is listed waits for what is listed. -/
def ClosedM (ops : Array Oper) (n : Nat) (M : Array Bool) : Prop := ∀ k, k < n → M.getD k true = true → ∀ o, ops[k]? = some o → ∀ e ∈ o.after, Region.binds .any e = true → M.getD e.on false = true
theorem reach_listed {n : Nat} {ops : Array Oper} {M : Array Bool} (hcl : ClosedM ops n M) (hlow : ∀ k, n ≤ k → M.getD k false = false) {i : Nat} : ∀ (f : Nat) (o : Oper), (∀ e ∈ o.after, Region.binds .any e = true → M.getD e.on false = true) → reachB ops f o i = true → M.getD i false = true
  | 0, o, _, h => by cases h
  | f + 1, o, hd, h => by
    unfold reachB at h
    obtain ⟨e, he, h2⟩ := List.any_eq_true.1 h
    rw [Bool.and_eq_true, Bool.or_eq_true] at h2
    have hl := hd e (by simpa using he) h2.1
    rcases h2.2 with h3 | h3
    · have : e.on = i := by simpa using h3
      rw [← this]
      exact hl
    · cases ho : ops[e.on]? with
      | none => rw [ho] at h3; cases h3
      | some o' =>
        rw [ho] at h3
        have hk : e.on < n := by
          rcases Nat.lt_or_ge e.on n with h' | h'
          · exact h'
          · rw [hlow _ h'] at hl
            cases hl
        refine reach_listed hcl hlow f o' (fun e' he' hb' => hcl e.on hk ?_ o' ho e' he' hb') h3
        have : e.on < M.size := by
          rcases Nat.lt_or_ge e.on M.size with h' | h'
          · exact h'
          · simp [Array.getElem?_eq_none h'] at hl
        simpa [Array.getElem?_eq_getElem this] using hl
theorem partsT_high {n p : Nat} {ops : Array Oper} {M : Array Bool} (h : partsT n ops = true) (hM : M.size = n + p) (hcl : ClosedM ops n M) {j : Nat} {o : Oper} (hlow : ∀ k, n ≤ k → M.getD k false = false) (hn : n ≤ j) (ho : ops[j]? = some o) {i : Nat} (hi : i < n)
    (hall : ∀ e ∈ o.after, Region.binds .any e = true → M.getD e.on false = true) : M.getD i false = true := by
  unfold partsT at h
  rw [Bool.and_eq_true] at h
  have hlt := (Array.getElem?_eq_some_iff.1 ho).1
  have h1 := List.all_eq_true.1 h.2 (j - n) (List.mem_range.2 (by omega))
  rw [show n + (j - n) = j by omega, ho] at h1
  have h2 := List.all_eq_true.1 h1 i (List.mem_range.2 hi)
  exact reach_listed hcl hlow _ o hall h2
theorem wpAny_partsT {P : Program} {pre ops : Array Oper} {Q : Exit → Act → World → Prop} {n p : Nat} (hn : pre.size = n) (hp : ops.size = n + p) (hpre : ∀ j, j < n → pre[j]? = ops[j]?) (hB : partsT n ops = true) :
    ∀ (fuel : Nat) (L M : Array Bool) (a : Act) (w : World), L.size = n → M.size = n + p → (∀ j, j < n → M.getD j true = L.getD j true) → (∀ j, n ≤ j → j < n + p → M.getD j true = false) →
      openN (fun j => L.getD j true) n = fuel → ClosedM ops n M →
      wpAny P .any pre (restQ Q fun a w => ∀ M' : Array Bool, M'.size = n + p → (∀ j, j < n → M'.getD j true = true) → (∀ j, n ≤ j → j < n + p → M'.getD j true = false) → wpAny P .any ops Q p M' a w) fuel L a w →
      wpAny P .any ops Q (fuel + p) M a w := by
  intro fuel
  induction fuel with
  | zero =>
    intro L M a w hL hM h1 h2 ho hcl h
    rw [Nat.zero_add]
    exact h.2 M hM (fun j hj => (h1 j hj).trans (openN_zero _ _ ho j hj)) h2
  | succ fuel ih =>
    intro L M a w hL hM h1 h2 ho hcl h
    have hd : ∀ (A : Array Bool) (j : Nat), j < A.size → A.getD j false = A.getD j true := fun A j hj => by
      have : A[j]? = some A[j] := Array.getElem?_eq_getElem hj
      simp [this]
    have hlw : ∀ k, n ≤ k → M.getD k false = false := fun k hk => by
      rcases Nat.lt_or_ge k (n + p) with h' | h'
      · rw [hd M k (by omega)]
        exact h2 k hk h'
      · simp [Array.getElem?_eq_none (show M.size ≤ k by omega)]
    have tr : ∀ i, i ∈ Region.ready .any ops M → i < n ∧ i ∈ Region.ready .any pre L := by
      intro i hi
      rw [mem_ready] at hi
      obtain ⟨h0, o, hoi, hall⟩ := hi
      have hlt := (Array.getElem?_eq_some_iff.1 hoi).1
      have hin : i < n := by
        rcases Nat.lt_or_ge i n with h' | h'
        · exact h'
        · exfalso
          obtain ⟨j, hj, hjf, _⟩ := openN_pos (L := fun j => L.getD j true) (n := n) (by rw [ho]; omega)
          have := partsT_high hB hM hcl hlw h' hoi hj (fun e he hb => hall e he hb)
          rw [hd M j (by omega), h1 j hj] at this
          rw [hjf] at this
          cases this
      refine ⟨hin, mem_ready.2 ⟨(h1 i hin).symm.trans h0, o, (hpre i hin).trans hoi, fun e he hb => ?_⟩⟩
      obtain ⟨o', ho', _, hlow⟩ := partsT_low hB hin
      rw [hoi] at ho'
      cases ho'
      have he' := hlow e he hb
      rw [hd L _ (by omega), ← h1 _ (by omega), ← hd M _ (by omega)]
      exact hall e he hb
    rw [show fuel + 1 + p = (fuel + p) + 1 by omega]
    refine ⟨fun h0 => ?_, fun i hi => ?_⟩
    · exfalso
      obtain ⟨j, hj, hjf, hmin⟩ := openN_pos (L := fun j => L.getD j true) (n := n) (by rw [ho]; omega)
      obtain ⟨o, hoj, _, hlow⟩ := partsT_low hB hj
      have : j ∈ Region.ready .any ops M := mem_ready.2 ⟨(h1 j hj).trans hjf, o, hoj, fun e he hb => by
        have := hlow e he hb
        rw [hd M _ (by omega), h1 _ (by omega)]
        exact hmin _ this⟩
      rw [h0] at this
      cases this
    · obtain ⟨hin, hr⟩ := tr i hi
      obtain ⟨o, hoi, hg, _⟩ := partsT_low hB hin
      refine wpOp_part ((hpre i hin).trans hoi) hoi hg (fun a' w' h' => ?_) (h.2 i hr)
      refine ih (L.setIfInBounds i true) (M.setIfInBounds i true) a' w' (by simpa using hL) (by simpa using hM) ?_ ?_ ?_ ?_ h'
      · intro j hj
        by_cases e : i = j
        · subst e
          simp [hL, hM, hin, Nat.lt_of_lt_of_le hin (Nat.le_add_right n p)]
        · rw [getD_set_ne true e, getD_set_ne true e]
          exact h1 j hj
      · intro j hj hj2
        rw [getD_set_ne true (by omega)]
        exact h2 j hj hj2
      · have := openN_set (L := fun j => L.getD j true) (M := fun j => (L.setIfInBounds i true).getD j true) hin (mem_ready.1 hr).1 (by simp [hL, hin]) (fun j hj => getD_set_ne true (fun e => hj e.symm))
        omega
      · intro k hk hkt ok hok e he hb
        by_cases ei : i = k
        · subst ei
          rw [hoi] at hok
          cases hok
          have h5 := (mem_ready.1 hi).2
          obtain ⟨o5, ho5, hall⟩ := h5
          rw [hoi] at ho5
          cases ho5
          have h6 := hall e he hb
          by_cases e7 : i = e.on
          · rw [← e7]
            simp [hM, Nat.lt_of_lt_of_le hin (Nat.le_add_right n p)]
          · rw [getD_set_ne false e7]
            exact h6
        · rw [getD_set_ne true ei] at hkt
          have h6 := hcl k hk hkt ok hok e he hb
          by_cases e7 : i = e.on
          · rw [← e7]
            simp [hM, Nat.lt_of_lt_of_le hin (Nat.le_add_right n p)]
          · rw [getD_set_ne false e7]
            exact h6
/-- First the first part, then the last ones in the text's order. -/
theorem wpAny_twoT {P : Program} {Q : Exit → Act → World → Prop} {a : Act} {w : World} {l : List Oper} (pre post : List Oper) (hl : l = pre ++ post) (hB : partsT pre.length l.toArray = true) (hT : tailB pre.length l.toArray = true)
    (h : wpAny P .any pre.toArray (restQ Q fun a' w' => wpList P l.toArray Q post a' w') pre.length (Array.replicate pre.length false) a w) : wpAny P .any l.toArray Q l.toArray.size (Array.replicate l.toArray.size false) a w := by
  have hsz : l.toArray.size = pre.length + post.length := by rw [hl]; simp
  have uniq : ∀ (M : Array Bool) (k : Nat) (b : List Bool), b.length = k → M.size = k → (∀ j, j < k → M.getD j true = b.getD j true) → M = b.toArray := by
    intro M k b hb hM he
    apply Array.ext
    · simp [hM, hb]
    · intro j h1 h2
      have := he j (by omega)
      have e1 : M.getD j true = M[j] := by simp [Array.getElem?_eq_getElem h1]
      have e2 : b.getD j true = b[j]'(by simpa using h2) := by simp [List.getD, List.getElem?_eq_getElem (by simpa using h2)]
      rw [e1, e2] at this
      simpa using this
  have hpre := wpAny_monoQ (Q' := restQ Q fun a w => ∀ M' : Array Bool, M'.size = pre.length + post.length → (∀ j, j < pre.length → M'.getD j true = true) → (∀ j, pre.length ≤ j → j < pre.length + post.length → M'.getD j true = false) → wpAny P .any l.toArray Q post.length M' a w)
    (fun e a' w' h' => ?_) _ _ _ _ h
  · have := wpAny_partsT (P := P) (pre := pre.toArray) (ops := l.toArray) (Q := Q) (n := pre.length) (p := post.length) (by simp) hsz (fun j hj => by rw [hl]; simp [List.getElem?_append_left hj]) hB pre.length
      (Array.replicate pre.length false) (Array.replicate (pre.length + post.length) false) a w (by simp) (by simp) (fun j hj => by simp [hj, Nat.lt_of_lt_of_le hj (Nat.le_add_right _ _)]) (fun j h1 h2 => by simp [h2]) ?_ (fun k hk hkt => by simp [hk, Nat.lt_of_lt_of_le hk (Nat.le_add_right _ _)] at hkt) hpre
    · rw [hsz]
      exact this
    · have : ∀ k, k ≤ pre.length → openN (fun j => (Array.replicate pre.length false).getD j true) k = k := by
        intro k
        induction k with
        | zero => intro _; rfl
        | succ k ih =>
          intro hk
          have e : (Array.replicate pre.length false).getD k true = false := by simp [show k < pre.length by omega]
          rw [openN, ih (by omega)]
          simp only [e]
          rfl
      exact this _ (Nat.le_refl _)
  · cases e <;> first | exact h' | skip
    intro M' hM h1 h2
    have e : M' = (List.replicate pre.length true ++ List.replicate post.length false).toArray := by
      refine uniq M' (pre.length + post.length) _ (by simp) hM fun j hj => ?_
      by_cases e : j < pre.length
      · rw [h1 j e]
        simp [List.getD, List.getElem?_append_left, e]
      · rw [h2 j (by omega) hj]
        simp [List.getD, List.getElem?_append, e, show j - pre.length < post.length by omega]
    subst e
    have := wpAny_tail (P := P) (Q := Q) (n := pre.length) (p := post.length) hsz hT post.length post a' w' (Nat.le_refl _) (by rw [hl]; simp) h'
    simpa using this
theorem wp_region_heldE {P : Program} {id : Nat} {ops : Array Oper} {Q : Exit → Act → World → Prop} {a : Act} {w : World} (S : World → Prop) (hm : P.follows .mixedOrders = true)
    (h : wpAnyH P .any ops Q S ops.size (Array.replicate ops.size false) a w.drew) : (Code.region id ops true).wp P Q a w := wp_region_held hm h
theorem wp_region_new_parts {P : Program} {id : Nat} {Q : Exit → Act → World → Prop} {a : Act} {w : World} {l pre post : List Oper} (n0 : Nat) (hp : l.take n0 = pre) (hd : l.drop n0 = post) (hm : P.follows .mixedOrders = true)
    (hB : partsT pre.length l.toArray = true) (hT : tailB pre.length l.toArray = true) (hL : Region.lexB .any pre.toArray = true)
    (h : wpQuiet P pre.toArray (fun w' => ∃ x, w' = nw w x) (fun a' => ∀ w', (∃ x, w' = nw w x) → wpList P l.toArray Q post a' w') pre a) : (Code.region id l.toArray true).wp P Q a w := by
  refine wp_region_any hm (wpAny_twoT pre post (by rw [← hp, ← hd, List.take_append_drop]) hB hT ?_)
  simp only [Region.lexB, Bool.and_eq_true] at hL
  have hq := wpAnyQ_lex (P := P) (C := fun w' => ∃ x, w' = nw w x) (md := .any) (Q := fun a' => ∀ w', (∃ x, w' = nw w x) → wpList P l.toArray Q post a' w') hL.1 pre 0 (Array.replicate pre.toArray.size false) a (by simp) (by simpa using hL.2) h
  refine wpAny_of_quiet (C := fun w' => ∃ x, w' = nw w x) (Q := fun a' => ∀ w', (∃ x, w' = nw w x) → wpList P l.toArray Q post a' w') (fun _ w' hw' h => h w' hw') _ _ _ _ ⟨⟨w.drew, (Fr.refl _ _).drew⟩, rfl⟩ ?_
  simpa using hq
/-- A region whose last operations wait for all others, among which a condition on the world is kept. -/
theorem wp_region_partsK {P : Program} {id : Nat} {Q : Exit → Act → World → Prop} {a : Act} {w : World} {l pre post : List Oper} (n0 : Nat) (S : World → Prop) (hp : l.take n0 = pre) (hd : l.drop n0 = post) (hm : P.follows .mixedOrders = true)
    (hB : partsB pre.length l.toArray = true) (hT : tailB pre.length l.toArray = true)
    (h : wpAnyH P .any pre.toArray (restQ Q fun a' w' => wpList P l.toArray Q post a' w') S pre.length (Array.replicate pre.length false) a w.drew) : (Code.region id l.toArray true).wp P Q a w :=
  wp_region_any hm (wpAny_two pre post (by rw [← hp, ← hd, List.take_append_drop]) hB hT (wpAny_of_held _ _ _ _ h))
end Go.Proofs.Ytedfgbkaijjaeaa
