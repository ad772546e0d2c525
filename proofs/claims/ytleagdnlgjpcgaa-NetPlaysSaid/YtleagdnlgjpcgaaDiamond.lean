/- 'append(append([]T{}, l...), p)' in a region that draws its order: an alloc, an append to it, another alloc, an append of that. -/
import Derived.Test.YtleagdnlgjpcgaaRounds
import Derived.RegionTactic
namespace Go.Proofs.Ytleagdnlgjpcgaa
open Go.RowKit
set_option linter.unusedVariables false
set_option linter.unusedSimpArgs false

/-- A region whose last operations wait for all others, among which a condition on the world is kept. -/
theorem wp_region_partsH {P : Program} {id : Nat} {Q : Exit → Act → World → Prop} {a : Act} {w : World} {l pre post : List Oper} (n0 : Nat) (S : World → Prop) (hp : l.take n0 = pre) (hd : l.drop n0 = post) (hm : P.follows .mixedOrders = true)
    (hB : partsB pre.length l.toArray = true) (hT : tailB pre.length l.toArray = true)
    (h : wpAnyH P .any pre.toArray (restQ Q fun a' w' => wpList P l.toArray Q post a' w') S pre.length (Array.replicate pre.length false) a w.drew) : (Code.region id l.toArray true).wp P Q a w :=
  wp_region_any hm (wpAny_two pre post (by rw [← hp, ← hd, List.take_append_drop]) hB hT (wpAny_of_held _ _ _ _ h))
def step1 (P : Program) (ops : Array Oper) (Q : Exit → Act → World → Prop) (S : World → Prop) (W : World) (i : Nat) (d : Tmp) (pre : Act → World → Prop) (V : Value → World → Prop) : Prop :=
  ∀ (a : Act) (W' : World) (K : Act → World → Prop), New W W' → S W' → pre a W' → (∀ v W'', V v W'' → New W' W'' → S W'' → K (a.put (some d) v) W'') → wpOp P ops Q i K a W'
def step2 (P : Program) (ops : Array Oper) (Q : Exit → Act → World → Prop) (S : World → Prop) (W : World) (i : Nat) (d : Tmp) (pre : Act → World → Prop) (V : Value → World → Prop) : Prop :=
  ∀ (a : Act) (W' : World) (K : Act → World → Prop), New W W' → S W' → pre a W' → (∀ v W'', V v W'' → New W W'' → S W'' → K (a.put (some d) v) W'') → wpOp P ops Q i K a W'
theorem eval_off {a : Act} {d t : Tmp} {v : Value} (h : d ≠ t) : (a.put (some d) v).eval (.tmp t) = a.eval (.tmp t) := Act.eval_put fun d' e => by cases e; intro e2; cases e2; exact h rfl
theorem eval_on {a : Act} {d : Tmp} {v : Value} (h : d < a.tmps.size) : (a.put (some d) v).eval (.tmp d) = v := by
  simp [Act.put, Act.eval, Array.getElem?_setIfInBounds, h]
theorem wpAnyH_diamond {P : Program} {md : Region.Mode} {ops : Array Oper} {Q : Exit → Act → World → Prop} {S : World → Prop} {fuel : Nat} {L : Array Bool} {a : Act} {W : World} (e a1 b1 a2 : Nat) (de da db d2 sa sb : Tmp) (va vb : Value)
    (VE VA VB V2 : Value → World → Prop) (tE : ∀ v W W', VE v W → New W W' → VE v W') (tA : ∀ v W W', VA v W → New W W' → VA v W') (tB : ∀ v W W', VB v W → New W W' → VB v W')
    (hne : de ≠ da ∧ de ≠ db ∧ de ≠ d2 ∧ da ≠ db ∧ da ≠ d2 ∧ db ≠ d2 ∧ sa ≠ de ∧ sa ≠ db ∧ sb ≠ de ∧ sb ≠ da) (hsz : de < a.tmps.size ∧ da < a.tmps.size ∧ db < a.tmps.size)
    (r0 : Region.ready md ops L = [e, b1]) (r1 : Region.ready md ops (L.setIfInBounds e true) = [a1, b1]) (r2 : Region.ready md ops (L.setIfInBounds b1 true) = [e])
    (r3 : Region.ready md ops ((L.setIfInBounds e true).setIfInBounds a1 true) = [b1]) (r4 : Region.ready md ops ((L.setIfInBounds e true).setIfInBounds b1 true) = [a1]) (r5 : Region.ready md ops ((L.setIfInBounds b1 true).setIfInBounds e true) = [a1])
    (r6 : Region.ready md ops (((L.setIfInBounds e true).setIfInBounds a1 true).setIfInBounds b1 true) = [a2]) (r7 : Region.ready md ops (((L.setIfInBounds e true).setIfInBounds b1 true).setIfInBounds a1 true) = [a2]) (r8 : Region.ready md ops (((L.setIfInBounds b1 true).setIfInBounds e true).setIfInBounds a1 true) = [a2])
    (n1 : e ≠ a1) (n2 : e ≠ b1) (n3 : a1 ≠ b1)
    (ha : a.eval (.tmp sa) = va) (hb : a.eval (.tmp sb) = vb)
    (hE : step1 P ops Q S W e de (fun _ _ => True) VE)
    (hA : step1 P ops Q S W a1 da (fun a' W' => ∃ v, a'.eval (.tmp de) = v ∧ VE v W' ∧ a'.eval (.tmp sa) = va) VA)
    (hB : step1 P ops Q S W b1 db (fun a' _ => a'.eval (.tmp sb) = vb) VB)
    (h2 : step2 P ops Q S W a2 d2 (fun a' W' => ∃ v u, a'.eval (.tmp da) = v ∧ VA v W' ∧ a'.eval (.tmp db) = u ∧ VB u W') V2)
    (hS : S W)
    (fin : ∀ ve v u v2 W', V2 v2 W' → New W W' → S W' → wpAnyH P md ops Q S fuel ((((L.setIfInBounds e true).setIfInBounds a1 true).setIfInBounds b1 true).setIfInBounds a2 true) ((((a.put (some de) ve).put (some da) v).put (some db) u).put (some d2) v2) W') :
    wpAnyH P md ops Q S (fuel + 4) L a W := by
  obtain ⟨m1, m2, m3, m4, m5, m6, m7, m8, m9, m10⟩ := hne
  obtain ⟨z1, z2, z3⟩ := hsz
  have sz : ∀ (a : Act) d v, (a.put (some d) v).tmps.size = a.tmps.size := fun a d v => by simp [Act.put]
  have cm : ∀ (a : Act) (x y : Tmp) v u, x ≠ y → (a.put (some x) v).put (some y) u = (a.put (some y) u).put (some x) v := fun a x y v u h => Act.put_comm a v u fun d e1 e2 => by cases e1; cases e2; exact h rfl
  have c1 : ((L.setIfInBounds e true).setIfInBounds b1 true).setIfInBounds a1 true = ((L.setIfInBounds e true).setIfInBounds a1 true).setIfInBounds b1 true := Array.setIfInBounds_comm _ _ (Ne.symm n3)
  have c2 : ((L.setIfInBounds b1 true).setIfInBounds e true).setIfInBounds a1 true = ((L.setIfInBounds e true).setIfInBounds a1 true).setIfInBounds b1 true := by
    rw [show (L.setIfInBounds b1 true).setIfInBounds e true = (L.setIfInBounds e true).setIfInBounds b1 true from Array.setIfInBounds_comm _ _ (Ne.symm n2), c1]
  refine wpAnyH_all r0 (by simp) fun i hi => ?_
  rw [List.mem_cons, List.mem_singleton] at hi
  rcases hi with rfl | rfl
  · refine hE a W _ (Fr.refl _ _) hS trivial fun ve W1 k1 g1 s1 => ⟨s1, ?_⟩
    refine wpAnyH_all r1 (by simp) fun i hi => ?_
    rw [List.mem_cons, List.mem_singleton] at hi
    rcases hi with rfl | rfl
    · refine hA _ W1 _ g1 s1 ⟨ve, eval_on z1, k1, (eval_off (Ne.symm m7)).trans ha⟩ fun v W2 k2 g2 s2 => ⟨s2, ?_⟩
      refine wpAnyH_all r3 (by simp) fun i hi => ?_
      rw [List.mem_singleton] at hi
      subst hi
      refine hB _ W2 _ (g1.new_ g2) s2 (((eval_off (Ne.symm m10)).trans (eval_off (Ne.symm m9))).trans hb) fun u W3 k3 g3 s3 => ⟨s3, ?_⟩
      refine wpAnyH_all r6 (by simp) fun i hi => ?_
      rw [List.mem_singleton] at hi
      subst hi
      refine h2 _ W3 _ ((g1.new_ g2).new_ g3) s3 ⟨v, u, (eval_off (Ne.symm m4)).trans (eval_on (by rw [sz]; exact z2)), tA _ _ _ k2 g3, eval_on (by rw [sz, sz]; exact z3), k3⟩ fun v2 W4 k4 g4 s4 => ⟨s4, ?_⟩
      exact fin ve v u v2 W4 k4 g4 s4
    · refine hB _ W1 _ g1 s1 ((eval_off (Ne.symm m9)).trans hb) fun u W2 k2 g2 s2 => ⟨s2, ?_⟩
      refine wpAnyH_all r4 (by simp) fun i hi => ?_
      rw [List.mem_singleton] at hi
      subst hi
      refine hA _ W2 _ (g1.new_ g2) s2 ⟨ve, (eval_off (Ne.symm m2)).trans (eval_on z1), tE _ _ _ k1 g2, ((eval_off (Ne.symm m8)).trans (eval_off (Ne.symm m7))).trans ha⟩ fun v W3 k3 g3 s3 => ⟨s3, ?_⟩
      refine wpAnyH_all r7 (by simp) fun i hi => ?_
      rw [List.mem_singleton] at hi
      subst hi
      refine h2 _ W3 _ ((g1.new_ g2).new_ g3) s3 ⟨v, u, eval_on (by rw [sz, sz]; exact z2), k3, (eval_off m4).trans (eval_on (by rw [sz]; exact z3)), tB _ _ _ k2 g3⟩ fun v2 W4 k4 g4 s4 => ⟨s4, ?_⟩
      rw [c1, cm _ db da u v (Ne.symm m4)]
      exact fin ve v u v2 W4 k4 g4 s4
  · refine hB a W _ (Fr.refl _ _) hS hb fun u W1 k1 g1 s1 => ⟨s1, ?_⟩
    refine wpAnyH_all r2 (by simp) fun i hi => ?_
    rw [List.mem_singleton] at hi
    subst hi
    refine hE _ W1 _ g1 s1 trivial fun ve W2 k2 g2 s2 => ⟨s2, ?_⟩
    refine wpAnyH_all r5 (by simp) fun i hi => ?_
    rw [List.mem_singleton] at hi
    subst hi
    refine hA _ W2 _ (g1.new_ g2) s2 ⟨ve, eval_on (by rw [sz]; exact z1), k2, ((eval_off (Ne.symm m7)).trans (eval_off (Ne.symm m8))).trans ha⟩ fun v W3 k3 g3 s3 => ⟨s3, ?_⟩
    refine wpAnyH_all r8 (by simp) fun i hi => ?_
    rw [List.mem_singleton] at hi
    subst hi
    refine h2 _ W3 _ ((g1.new_ g2).new_ g3) s3 ⟨v, u, eval_on (by rw [sz, sz]; exact z2), k3, ((eval_off m4).trans (eval_off m2)).trans (eval_on z3), tB _ _ _ (tB _ _ _ k1 g2) g3⟩ fun v2 W4 k4 g4 s4 => ⟨s4, ?_⟩
    rw [c2, cm a db de u ve (Ne.symm m2), cm _ db da u v (Ne.symm m4)]
    exact fin ve v u v2 W4 k4 g4 s4
end Go.Proofs.Ytleagdnlgjpcgaa
