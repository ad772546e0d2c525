/- Regions that draw their order, in a round of a loop over a function: by the plain words. -/
import Derived.Test.YtedfgbkaijjaeaaSplit
import Derived.RangeFuncNested
import Derived.OrdersIn
import Derived.OrdersHeld
import Derived.TacticsIn
namespace Go.Proofs.Ytedfgbkaijjaeaa
open Go.RowKit
set_option linter.unusedVariables false

def noDefer (ops : Array Oper) : Bool := ops.toList.all fun o => match o.op with | .defer _ => false | _ => true
theorem noDefer_spec {ops : Array Oper} (h : noDefer ops = true) {i : Nat} {o : Oper} (ho : ops[i]? = some o) : ∀ c, o.op ≠ .defer c := by
  intro c e
  unfold noDefer at h
  have hm : o ∈ ops.toList := by
    rw [Array.mem_toList_iff]
    exact Array.mem_of_getElem? ho
  have := List.all_eq_true.1 h o hm
  rw [e] at this
  cases this
theorem wpOpIn_of_wpOp {P : Program} {ops : Array Oper} {Q : Exit → Act → World → Prop} {l n i : Nat} {K K' : Act → World → Prop} {a : Act} {w : World} (hd : noDefer ops = true) (hQ : ¬ LetsOut Q)
    (hK : ∀ a w, K a w → K' a w) (h : wpOp P ops Q i K a w) : wpOpIn (Fence.wide.inRound l) n P ops Q i K' a w := by
  unfold wpOp at h
  unfold wpOpIn
  cases ho : ops[i]? with
  | none =>
    simp only [ho] at h
    exact hK _ _ h
  | some o =>
    simp only [ho] at h
    by_cases hw : Region.wanted o (yielded ops a.tmps) = true
    · simp only [hw, if_true] at h ⊢
      rcases h with h | ⟨_, hl⟩
      · refine ⟨fun _ _ => trivial, ?_⟩
        rw [show (Fence.wide.inRound l).round = some l from rfl, Oper.semAt_some l _ _ (noDefer_spec hd ho)]
        unfold Oper.wp at h
        generalize (execOp a.eval o).run P w = r at h ⊢
        cases r with
        | ok nx w' =>
          cases nx <;> simp only [Oper.upon] at h <;> simp only [Oper.uponIn]
          case value u => exact hK _ _ h
          case skip => exact hK _ _ h
          case defer d => exact hK _ _ h
          case enter f args =>
            refine ⟨fun e => (by cases e), CallsIn.inRound l (callsIn_wide.2 (Calls.mono h fun e w'' he => ?_))⟩
            cases e with
            | returned u => exact hK _ _ he
            | panicked c => exact he
            | outgrown => exact he
          case row row args =>
            refine ⟨fun e => (by cases e), fun c cs _ => ?_⟩
            obtain ⟨v, w', r, s⟩ := h c cs
            exact ⟨v, w', hK _ _ r, stepsIn_wide.2 s⟩
        | halt x w' => cases x <;> simp only [Oper.upon] at h <;> simp only [Oper.uponIn] <;> exact h
      · exact absurd hl hQ
    · simp only [hw] at h ⊢
      exact ⟨fun _ _ => trivial, hK _ _ h⟩
theorem wpAnyIn_of_wpAny {P : Program} {md : Region.Mode} {ops : Array Oper} {Q : Exit → Act → World → Prop} {l n : Nat} (hd : noDefer ops = true) (hQ : ¬ LetsOut Q) :
    ∀ (fuel : Nat) (listed : Array Bool) (a : Act) (w : World), wpAny P md ops Q fuel listed a w → wpAnyIn (Fence.wide.inRound l) n P md ops Q fuel listed a w
  | 0, _, _, _, h => h
  | fuel + 1, _, _, _, h => ⟨h.1, fun i hi => wpOpIn_of_wpOp hd hQ (fun a' w' h' => wpAnyIn_of_wpAny hd hQ fuel _ a' w' h') (h.2 i hi)⟩
theorem wpIn_region_round {P : Program} {id l n : Nat} {ops : Array Oper} {Q : Exit → Act → World → Prop} {a : Act} {w : World} (hm : P.follows .mixedOrders = true) (hd : noDefer ops = true) (hQ : ¬ LetsOut Q)
    (h : wpAny P .any ops Q ops.size (Array.replicate ops.size false) a w.drew) : (Code.region id ops true).wpIn (Fence.wide.inRound l) n P Q a w :=
  wpIn_region_any hm (wpAnyIn_of_wpAny hd hQ _ _ _ _ h)
/-- One walk of the text's order, in the worlds behind w in which nothing old has changed. -/
theorem wpIn_region_new_lit {P : Program} {id k n : Nat} {Q : Exit → Act → World → Prop} {a : Act} {w : World} {l : List Oper} (hm : P.follows .mixedOrders = true) (hB : Region.lexB .any l.toArray = true) (hd : noDefer l.toArray = true) (hQ : ¬ LetsOut Q)
    (h : wpQuiet P l.toArray (fun w' => ∃ x, w' = nw w x) (fun a' => ∀ w', (∃ x, w' = nw w x) → Q .normal a' w') l a) : (Code.region id l.toArray true).wpIn (Fence.wide.inRound k) n P Q a w := by
  refine wpIn_region_round hm hd hQ ?_
  simp only [Region.lexB, Bool.and_eq_true] at hB
  refine wpAny_of_quiet (C := fun w' => ∃ x, w' = nw w x) (Q := fun a' => ∀ w', (∃ x, w' = nw w x) → Q .normal a' w') (fun _ w' hw' h => h w' hw') _ _ _ _ ⟨⟨w.drew, (Fr.refl _ _).drew⟩, rfl⟩ ?_
  have := wpAnyQ_lex (C := fun w' => ∃ x, w' = nw w x) (md := .any) hB.1 l 0 (Array.replicate l.toArray.size false) a (by simp) (by simpa using hB.2) h
  simpa using this
/-- A condition on the world kept through the region. -/
theorem wpIn_region_heldR {P : Program} {id l n : Nat} {ops : Array Oper} {Q : Exit → Act → World → Prop} {a : Act} {w : World} (S : World → Prop) (hm : P.follows .mixedOrders = true) (hd : noDefer ops = true) (hQ : ¬ LetsOut Q)
    (h : wpAnyH P .any ops Q S ops.size (Array.replicate ops.size false) a w.drew) : (Code.region id ops true).wpIn (Fence.wide.inRound l) n P Q a w :=
  wpIn_region_round hm hd hQ (wpAny_of_held _ _ _ _ h)
theorem wpOp_monoQ {P : Program} {ops : Array Oper} {Q Q' : Exit → Act → World → Prop} {i : Nat} {K K' : Act → World → Prop} {a : Act} {w : World} (hq : ∀ e a w, Q e a w → Q' e a w) (hK : ∀ a w, K a w → K' a w) (h : wpOp P ops Q i K a w) : wpOp P ops Q' i K' a w := by
  unfold wpOp at *
  cases ho : ops[i]? with
  | none =>
    simp only [ho] at h
    exact hK _ _ h
  | some o =>
    simp only [ho] at h
    by_cases hw : Region.wanted o (yielded ops a.tmps) = true
    · simp only [hw, if_true] at h ⊢
      rcases h with h | ⟨h, a', w', hl⟩
      · refine .inl ?_
        unfold Oper.wp at *
        generalize (execOp a.eval o).run P w = r at *
        cases r with
        | ok nx w' =>
          cases nx <;> simp only [Oper.upon] at h ⊢
          case value u => exact hK _ _ h
          case skip => exact hK _ _ h
          case defer d => exact hK _ _ h
          case enter f args =>
            refine Calls.mono h fun e w'' he => ?_
            cases e with
            | returned u => exact hK _ _ he
            | panicked c => exact hq _ _ _ he
            | outgrown => obtain ⟨a', w', hl⟩ := he; exact ⟨a', w', hq _ _ _ hl⟩
          case row row args => exact Rows.mono h fun u w'' he => hK _ _ he
        | halt x w' => cases x <;> simp only [Oper.upon] at h ⊢ <;> exact hq _ _ _ h
      · exact .inr ⟨h, a', w', hq _ _ _ hl⟩
    · simp only [hw] at h ⊢
      exact hK _ _ h
theorem wpAny_monoQ {P : Program} {md : Region.Mode} {ops : Array Oper} {Q Q' : Exit → Act → World → Prop} (hq : ∀ e a w, Q e a w → Q' e a w) :
    ∀ (fuel : Nat) (listed : Array Bool) (a : Act) (w : World), wpAny P md ops Q fuel listed a w → wpAny P md ops Q' fuel listed a w
  | 0, _, _, _, h => ⟨h.1, hq _ _ _ h.2⟩
  | fuel + 1, _, _, _, h => ⟨fun e => hq _ _ _ (h.1 e), fun i hi => wpOp_monoQ hq (fun a' w' h' => wpAny_monoQ hq fuel _ a' w' h') (h.2 i hi)⟩
def tailB (n : Nat) (ops : Array Oper) : Bool :=
  ((List.range (ops.size - n)).all fun j => decide (Region.ready .any ops (List.replicate (n + j) true ++ List.replicate (ops.size - n - j) false).toArray = [n + j])) && decide (Region.ready .any ops (List.replicate ops.size true).toArray = [])
theorem set_at (n q : Nat) : (List.replicate n true ++ List.replicate (q + 1) false).toArray.setIfInBounds n true = (List.replicate (n + 1) true ++ List.replicate q false).toArray := by
  apply Array.ext_getElem?
  intro j
  rw [Array.getElem?_setIfInBounds]
  by_cases e : n = j
  · subst e
    simp [List.getElem?_append]
  · rw [if_neg e]
    simp only [List.getElem?_toArray, List.getElem?_append, List.length_replicate, List.getElem?_replicate]
    by_cases h1 : j < n
    · simp [h1, show j < n + 1 by omega]
    · have h3 : ¬ j < n + 1 := by omega
      by_cases h2 : j - n < q + 1
      · simp [h1, h2, h3, show j - (n + 1) < q by omega]
      · simp [h1, h2, h3, show ¬ j - (n + 1) < q by omega]
theorem wpAny_tail {P : Program} {Q : Exit → Act → World → Prop} {ops : Array Oper} {n p : Nat} (hp : ops.size = n + p) (hT : tailB n ops = true) :
    ∀ (q : Nat) (post : List Oper) (a : Act) (w : World), q ≤ p → ops.toList.drop (n + p - q) = post → wpList P ops Q post a w →
      wpAny P .any ops Q q (List.replicate (n + p - q) true ++ List.replicate q false).toArray a w := by
  unfold tailB at hT
  rw [Bool.and_eq_true] at hT
  intro q
  induction q with
  | zero =>
    intro post a w _ hd h
    have : post = [] := by rw [← hd]; simp [hp]
    subst this
    refine ⟨?_, h⟩
    have h2 := of_decide_eq_true hT.2
    rw [hp] at h2
    simpa using h2
  | succ q ih =>
    intro post a w hq hd h
    have hlt : n + p - (q + 1) < ops.toList.length := by simp [hp]; omega
    obtain ⟨o, rest, hpost, ho, hrest⟩ : ∃ o rest, post = o :: rest ∧ ops[n + p - (q + 1)]? = some o ∧ ops.toList.drop (n + p - q) = rest := by
      refine ⟨ops.toList[n + p - (q + 1)], ops.toList.drop (n + p - (q + 1) + 1), ?_, ?_, ?_⟩
      · rw [← hd]; exact List.drop_eq_getElem_cons hlt
      · simp [Array.getElem?_eq_getElem (show n + p - (q + 1) < ops.size by simpa using hlt)]
      · rw [show n + p - (q + 1) + 1 = n + p - q by omega]
    subst hpost
    have hr : Region.ready .any ops (List.replicate (n + p - (q + 1)) true ++ List.replicate (q + 1) false).toArray = [n + p - (q + 1)] := by
      have := of_decide_eq_true (List.all_eq_true.1 hT.1 (p - (q + 1)) (List.mem_range.2 (by omega)))
      rw [show n + (p - (q + 1)) = n + p - (q + 1) by omega, show ops.size - n - (p - (q + 1)) = q + 1 by omega] at this
      exact this
    refine ⟨fun h0 => (by rw [hr] at h0; cases h0), fun i hi => ?_⟩
    rw [hr, List.mem_singleton] at hi
    subst hi
    have h1 : wpOp P ops Q (n + p - (q + 1)) (wpList P ops Q rest) a w := by
      unfold wpOp
      simp only [ho]
      exact h
    refine wpOp_mono (fun a' w' h' => ?_) h1
    rw [set_at, show n + p - (q + 1) + 1 = n + p - q by omega]
    exact ih rest a' w' (by omega) hrest h'
/-- First the first part, then the last ones in the text's order. -/
theorem wpAny_two {P : Program} {Q : Exit → Act → World → Prop} {a : Act} {w : World} {l : List Oper} (pre post : List Oper) (hl : l = pre ++ post) (hB : partsB pre.length l.toArray = true) (hT : tailB pre.length l.toArray = true)
    (h : wpAny P .any pre.toArray (restQ Q fun a' w' => wpList P l.toArray Q post a' w') pre.length (Array.replicate pre.length false) a w) : wpAny P .any l.toArray Q l.toArray.size (Array.replicate l.toArray.size false) a w := by
  have hsz : l.toArray.size = pre.length + post.length := by rw [hl]; simp
  have uniq : ∀ (M : Array Bool) (k : Nat) (b : List Bool), b.length = k → M.size = k → (∀ j, j < k → M.getD j true = b.getD j true) → M = b.toArray := by
    intro M k b hb hM he
    apply Array.ext
    · simp [hM, hb]
    · intro j h1 h2
      have := he j (by omega)
      have e1 : M.getD j true = M[j] := by simp [Array.getElem?_eq_getElem h1]
      have e2 : b.getD j true = b[j]'(by simpa using h2) := by simp [List.getD, List.getElem?_eq_getElem (by simpa using h2)]
      rw [e1, e2] at this
      simpa using this
  have hpre := wpAny_monoQ (Q' := restQ Q fun a w => ∀ M' : Array Bool, M'.size = pre.length + post.length → (∀ j, j < pre.length → M'.getD j true = true) → (∀ j, pre.length ≤ j → j < pre.length + post.length → M'.getD j true = false) → wpAny P .any l.toArray Q post.length M' a w)
    (fun e a' w' h' => ?_) _ _ _ _ h
  · have := wpAny_parts (P := P) (pre := pre.toArray) (ops := l.toArray) (Q := Q) (n := pre.length) (p := post.length) (by simp) hsz (fun j hj => by rw [hl]; simp [List.getElem?_append_left hj]) hB pre.length
      (Array.replicate pre.length false) (Array.replicate (pre.length + post.length) false) a w (by simp) (by simp) (fun j hj => by simp [hj, Nat.lt_of_lt_of_le hj (Nat.le_add_right _ _)]) (fun j h1 h2 => by simp [h2]) ?_ hpre
    · rw [hsz]
      exact this
    · have : ∀ k, k ≤ pre.length → openN (fun j => (Array.replicate pre.length false).getD j true) k = k := by
        intro k
        induction k with
        | zero => intro _; rfl
        | succ k ih =>
          intro hk
          have e : (Array.replicate pre.length false).getD k true = false := by simp [show k < pre.length by omega]
          rw [openN, ih (by omega)]
          simp only [e]
          rfl
      exact this _ (Nat.le_refl _)
  · cases e <;> first | exact h' | skip
    intro M' hM h1 h2
    have e : M' = (List.replicate pre.length true ++ List.replicate post.length false).toArray := by
      refine uniq M' (pre.length + post.length) _ (by simp) hM fun j hj => ?_
      by_cases e : j < pre.length
      · rw [h1 j e]
        simp [List.getD, List.getElem?_append_left, e]
      · rw [h2 j (by omega) hj]
        simp [List.getD, List.getElem?_append, e, show j - pre.length < post.length by omega]
    subst e
    have := wpAny_tail (P := P) (Q := Q) (n := pre.length) (p := post.length) hsz hT post.length post a' w' (Nat.le_refl _) (by rw [hl]; simp) h'
    simpa using this
/-- In a round: a region whose last operations wait for all others, among which a condition on the world is kept. -/
theorem wpIn_region_partsH {P : Program} {id k n : Nat} {Q : Exit → Act → World → Prop} {a : Act} {w : World} {l pre post : List Oper} (n0 : Nat) (S : World → Prop) (hp : l.take n0 = pre) (hd : l.drop n0 = post) (hm : P.follows .mixedOrders = true)
    (hB : partsB pre.length l.toArray = true) (hT : tailB pre.length l.toArray = true) (hnd : noDefer l.toArray = true) (hQ : ¬ LetsOut Q)
    (h : wpAnyH P .any pre.toArray (restQ Q fun a' w' => wpList P l.toArray Q post a' w') S pre.length (Array.replicate pre.length false) a w.drew) : (Code.region id l.toArray true).wpIn (Fence.wide.inRound k) n P Q a w :=
  wpIn_region_round hm hnd hQ (wpAny_two pre post (by rw [← hp, ← hd, List.take_append_drop]) hB hT (wpAny_of_held _ _ _ _ h))
/-- In a round: a region in the text's order. -/
theorem wpListIn_of_wpList {P : Program} {ops : Array Oper} {Q : Exit → Act → World → Prop} {k n : Nat} (hQ : ¬ LetsOut Q) : ∀ (l : List Oper) (a : Act) (w : World), noDefer l.toArray = true → wpList P ops Q l a w → wpListIn (Fence.wide.inRound k) n P ops Q l a w
  | [], _, _, _, h => h
  | o :: rest, a, w, hd, h => by
    have hd1 : ∀ c, o.op ≠ .defer c := noDefer_spec (i := 0) hd (by simp)
    have hd2 : noDefer rest.toArray = true := by
      unfold noDefer at *
      simp only [List.all_cons, Bool.and_eq_true] at hd ⊢
      exact hd.2
    have ih := fun a w => wpListIn_of_wpList (P := P) (ops := ops) (Q := Q) (k := k) (n := n) hQ rest a w hd2
    unfold wpList at h
    unfold wpListIn
    by_cases hw : Region.wanted o (yielded ops a.tmps) = true
    · simp only [hw, if_true] at h ⊢
      have h1 : wpOp P #[{ o with guard := none }] Q 0 (wpList P ops Q rest) a w := by
        unfold wpOp
        simp only [Region.wanted]
        exact h
      have h2 := wpOpIn_of_wpOp (l := k) (n := n) (K' := wpListIn (Fence.wide.inRound k) n P ops Q rest) (by unfold noDefer at *; simp only [List.all_cons, Bool.and_eq_true] at hd ⊢; exact ⟨hd.1, rfl⟩) hQ ih h1
      unfold wpOpIn at h2
      simp only [Region.wanted] at h2
      exact h2
    · simp only [hw] at h ⊢
      exact ⟨fun _ _ => trivial, ih _ _ h⟩
theorem wpIn_region_plain {P : Program} {id k n : Nat} {l : List Oper} {Q : Exit → Act → World → Prop} {a : Act} {w : World} (hnd : noDefer l.toArray = true) (hQ : ¬ LetsOut Q)
    (h : wpList P l.toArray Q l a w) : (Code.region id l.toArray false).wpIn (Fence.wide.inRound k) n P Q a w := wpIn_region_lit (wpListIn_of_wpList hQ _ _ _ hnd h)
end Go.Proofs.Ytedfgbkaijjaeaa
