/- A map of the call's own, as a function from its keys: looked up, stored into, struck, cleared. -/
import Derived.Maps.Own
import Derived.Maps.Keyed
import Derived.DeepKeys4
import Derived.Test.YtedfgbkaijjaeaaOpen
namespace Go.Proofs.Ytedfgbkaijjaeaa
open Go.RowKit Go.Maps
set_option linter.unusedVariables false

/-- Block b of W is a map of n entries, that holds M. -/
def MapF (P : Program) (k : TypeId) (W : World) (b n : Nat) (M : Value → Option Value) : Prop :=
  ∃ es clock, W.heap[b]? = some (.map es clock) ∧ es.size = n ∧ (es.toList.map (·.key)).Nodup ∧ (∀ e ∈ es.toList, (∃ z, keyOf P k e.key = some z) ∧ M e.key = some e.val) ∧
    ∀ x v, M x = some v → ∃ e ∈ es.toList, e.key = x ∧ e.val = v
open Classical in
noncomputable def mUpd (M : Value → Option Value) (x v : Value) : Value → Option Value := fun y => if y = x then some v else M y
section
variable {P : Program} {k e t : TypeId} {W : World} {b n : Nat} {M : Value → Option Value}
theorem MapF.made (W : World) (P : Program) (k : TypeId) : MapF P k (W.alloc (.map #[] 0)) W.heap.size 0 fun _ => none :=
  ⟨#[], 0, (MapKept.heap_alloc W _).1, rfl, by simp, by simp, by simp⟩
theorem MapF.lt (h : MapF P k W b n M) : b < W.heap.size := by
  obtain ⟨es, clock, hb, _⟩ := h
  exact (Array.getElem?_eq_some_iff.1 hb).1
theorem MapF.kept {W' : World} {row : Option Nat} (h : MapF P k W b n M) (hg : W.grownBy W' row) (hne : some b ≠ row) : MapF P k W' b n M := by
  have hlt := h.lt
  obtain ⟨es, clock, hb, r⟩ := h
  exact ⟨es, clock, (hg.block b hlt hne).trans hb, r⟩
theorem MapF.fr {W' : World} {G : Nat → Prop} (h : MapF P k W b n M) (f : Fr G W W') (hv : ¬ G b) : MapF P k W' b n M := by
  have hlt := h.lt
  obtain ⟨es, clock, hb, r⟩ := h
  exact ⟨es, clock, (f.block b hlt hv).trans hb, r⟩
theorem MapF.congr {M' : Value → Option Value} (h : MapF P k W b n M) (e : ∀ x, M x = M' x) : MapF P k W b n M' := by
  rw [← funext e]; exact h
/-- What stands at a key. -/
theorem MapF.find (h : MapF P k W b n M) (K : Keyed P k) {x : Value} {z : Lit} (hx : keyOf P k x = some z) {es : Array MapEntry} {clock : Nat} (hb : W.heap[b]? = some (.map es clock)) :
    ((Instr.findKey k x es.toList).run P W = .ok none W ∧ M x = none ∧ ∀ e ∈ es.toList, e.key ≠ x) ∨
    ∃ j e, (Instr.findKey k x es.toList).run P W = .ok (some (j, e.val)) W ∧ es.toList[j]? = some e ∧ e.key = x ∧ M x = some e.val := by
  obtain ⟨es', clock', hb', hn, hd, hm, ho⟩ := h
  rw [hb] at hb'
  cases hb'
  rcases K.find W hx es.toList (fun e he => (hm e he).1) with ⟨h1, h2⟩ | ⟨j, e, h1, h2, h3⟩
  · refine .inl ⟨h1, ?_, h2⟩
    cases hM : M x with
    | none => rfl
    | some v =>
      obtain ⟨e, he, hk, _⟩ := ho x v hM
      exact absurd hk (h2 e he)
  · exact .inr ⟨j, e, h1, h2, h3, h3 ▸ (hm e (List.mem_of_getElem? h2)).2⟩
theorem MapF.look (h : MapF P k W b n M) (K : Keyed P k) (ht : P.underlying t = some (.map k e)) {d : Value} (hz : (zeroValue e).run P W = .ok d W) {x : Value} {z : Lit} (hx : keyOf P k x = some z) (ok : Bool) :
    (Instr.lookup t (.map (some b)) x ok).run P W = .ok (if ok then .tuple #[(M x).getD d, .bool (M x).isSome] else (M x).getD d) W := by
  have h' := h
  obtain ⟨es, clock, hb, _⟩ := h'
  rcases h.find K hx hb with ⟨h1, h2, _⟩ | ⟨j, e0, h1, h2, h3, h4⟩
  · cases ok <;> simp [Instr.lookup, run_underlying ht, MapKept.run_getObj_map hb, K.check W es.isEmpty hx, h1, hz, h2, Result.andThen]
  · cases ok <;> simp [Instr.lookup, run_underlying ht, MapKept.run_getObj_map hb, K.check W es.isEmpty hx, h1, h4, Result.andThen]
theorem MapF.put (h : MapF P k W b n M) (K : Keyed P k) (ht : P.underlying t = some (.map k e)) {x v : Value} {z : Lit} (hx : keyOf P k x = some z) :
    ∃ W', (Instr.mapUpdate t (.map (some b)) x v).run P W = .ok () W' ∧ MapF P k W' b (if (M x).isSome then n else n + 1) (mUpd M x v) ∧ W.grownBy W' (some b) := by
  have h' := h
  obtain ⟨es, clock, hb, hn, hd, hm, ho⟩ := h'
  have grow : ∀ o, W.grownBy (ChangeMaps.setBlock W b o) (some b) := fun o => ⟨rfl, rfl, rfl, by simp [ChangeMaps.setBlock], fun i _ hi => ChangeMaps.heap_setBlock_other hb _ (fun e => hi (by rw [e]))⟩
  rcases h.find K hx hb with ⟨h1, h2, h3⟩ | ⟨j, e0, h1, h2, h3, h4⟩
  · refine ⟨ChangeMaps.setBlock W b (.map (es.push ⟨x, v, clock⟩) (clock + 1)), ?_, ⟨_, _, ChangeMaps.heap_setBlock_same hb _, by simp [h2, hn], ?_, ?_, ?_⟩, grow _⟩
    · simp [Instr.mapUpdate, run_underlying ht, MapKept.run_getObj_map hb, K.check W false hx, h1, MapKept.run_setObj_map _ hb, Result.andThen, ChangeMaps.setBlock]
    · simp only [Array.toList_push, List.map_append, List.map_cons, List.map_nil]
      rw [List.nodup_append]
      refine ⟨hd, by simp, ?_⟩
      intro a ha b' hb' e1
      simp only [List.mem_singleton] at hb'
      obtain ⟨e2, he2, rfl⟩ := List.mem_map.1 ha
      exact h3 e2 he2 (e1.trans hb')
    · intro e1 he1
      simp only [Array.toList_push, List.mem_append, List.mem_singleton] at he1
      rcases he1 with he1 | rfl
      · refine ⟨(hm e1 he1).1, ?_⟩
        unfold mUpd
        rw [if_neg (h3 e1 he1)]
        exact (hm e1 he1).2
      · exact ⟨⟨z, hx⟩, by simp [mUpd]⟩
    · intro y u hy
      unfold mUpd at hy
      split at hy
      · rename_i ey
        cases hy
        exact ⟨⟨x, v, clock⟩, by simp, ey.symm, rfl⟩
      · obtain ⟨e1, he1, r⟩ := ho y u hy
        exact ⟨e1, by simp [he1], r⟩
  · have hj : es[j]? = some e0 := by simpa using h2
    have hlist : (es.modify j (fun e' => { e' with key := x, val := v })).toList = es.toList.set j { e0 with key := x, val := v } := by rw [Array.toList_modify, ChangeMaps.modify_eq_set _ _ _ _ h2]
    have hkeys : ((es.toList.set j { e0 with key := x, val := v }).map (·.key)) = es.toList.map (·.key) := by
      rw [List.map_set]
      have hjl : j < es.toList.length := (List.getElem?_eq_some_iff.1 h2).1
      have : x = (es.toList.map (·.key))[j]'(by simpa using hjl) := by
        have e2 := (List.getElem?_eq_some_iff.1 h2).2
        rw [List.getElem_map, e2, h3]
      exact (congrArg (fun y => (es.toList.map (·.key)).set j y) this).trans (List.set_getElem_self _)
    have who : ∀ e1, e1 ∈ es.toList.set j { e0 with key := x, val := v } ↔ e1 = { e0 with key := x, val := v } ∨ (e1 ∈ es.toList ∧ e1.key ≠ x) := by
      have hjl : j < es.toList.length := (List.getElem?_eq_some_iff.1 h2).1
      have e0j := (List.getElem?_eq_some_iff.1 h2).2
      intro e1
      constructor
      · intro he
        obtain ⟨i, hi, ex⟩ := List.getElem_of_mem he
        rw [List.getElem_set] at ex
        split at ex
        · exact Or.inl ex.symm
        · rename_i hne
          have hi' : i < es.toList.length := by simpa using hi
          refine Or.inr ⟨ex ▸ List.getElem_mem hi', fun ek => hne ?_⟩
          have hp := List.getElem_inj (xs := es.toList.map (·.key)) (i := j) (j := i) (h₀ := by simpa using hjl) (h₁ := by simpa using hi') hd
          rw [List.getElem_map, List.getElem_map, e0j, ex, ek, h3] at hp
          exact hp.1 rfl
      · rintro (rfl | ⟨he, hk⟩)
        · exact List.mem_set hjl _
        · obtain ⟨i, hi, ex⟩ := List.getElem_of_mem he
          have hne : j ≠ i := fun ej => by subst ej; rw [e0j] at ex; exact hk (ex ▸ h3)
          have : (es.toList.set j { e0 with key := x, val := v })[i]'(by simpa using hi) = e1 := by rw [List.getElem_set, if_neg hne]; exact ex
          exact this ▸ List.getElem_mem _
    refine ⟨ChangeMaps.setBlock W b (.map (es.modify j (fun e' => { e' with key := x, val := v })) clock), ?_, ⟨_, _, ChangeMaps.heap_setBlock_same hb _, by simp [h4, hn], ?_, ?_, ?_⟩, grow _⟩
    · simp [Instr.mapUpdate, run_underlying ht, MapKept.run_getObj_map hb, K.check W false hx, h1, hj, h3, K.stays W hx, MapKept.run_setObj_map _ hb, Result.andThen, ChangeMaps.setBlock]
    · rw [hlist, hkeys]; exact hd
    · intro e1 he1
      rw [hlist, who] at he1
      rcases he1 with rfl | ⟨he1, hk⟩
      · exact ⟨⟨z, hx⟩, by simp [mUpd]⟩
      · refine ⟨(hm e1 he1).1, ?_⟩
        unfold mUpd
        rw [if_neg hk]
        exact (hm e1 he1).2
    · intro y u hy
      unfold mUpd at hy
      rw [hlist]
      split at hy
      · rename_i ey
        cases hy
        exact ⟨_, (who _).2 (.inl rfl), ey.symm, rfl⟩
      · rename_i ey
        obtain ⟨e1, he1, r1, r2⟩ := ho y u hy
        exact ⟨e1, (who _).2 (.inr ⟨he1, r1 ▸ ey⟩), r1, r2⟩
theorem MapF.clear (h : MapF P k W b n M) (ht : P.underlying t = some (.map k e)) (ty : TypeId) :
    ∃ W', (Builtin.clear_ #[t] ty #[.map (some b)]).run P W = .ok (.tuple #[]) W' ∧ MapF P k W' b 0 (fun _ => none) ∧ W.grownBy W' (some b) := by
  obtain ⟨es, clock, hb, _⟩ := h
  have grow : ∀ o, W.grownBy (ChangeMaps.setBlock W b o) (some b) := fun o => ⟨rfl, rfl, rfl, by simp [ChangeMaps.setBlock], fun i _ hi => ChangeMaps.heap_setBlock_other hb _ (fun e => hi (by rw [e]))⟩
  refine ⟨ChangeMaps.setBlock W b (.map #[] clock), ?_, ⟨#[], clock, ChangeMaps.heap_setBlock_same hb _, rfl, by simp, by simp, by simp⟩, grow _⟩
  simp [Builtin.clear_, run_underlying ht, MapKept.run_getObj_map hb, MapKept.run_setObj_map _ hb, Result.andThen, ChangeMaps.setBlock]
open Classical in
noncomputable def mDel (M : Value → Option Value) (x : Value) : Value → Option Value := fun y => if y = x then none else M y
theorem MapF.del {ty : TypeId} (h : MapF P k W b n M) (K : Keyed P k) (ht : P.underlying t = some (.map k e)) {x : Value} {z : Lit} (hx : keyOf P k x = some z) :
    ∃ W' n', (Builtin.delete_ #[t, k] ty #[.map (some b), x]).run P W = .ok (.tuple #[]) W' ∧ MapF P k W' b n' (mDel M x) ∧ W.grownBy W' (some b) := by
  have h' := h
  obtain ⟨es, clock, hb, hn, hd, hm, ho⟩ := h'
  have grow : ∀ o, W.grownBy (ChangeMaps.setBlock W b o) (some b) := fun o => ⟨rfl, rfl, rfl, by simp [ChangeMaps.setBlock], fun i _ hi => ChangeMaps.heap_setBlock_other hb _ (fun e => hi (by rw [e]))⟩
  rcases h.find K hx hb with ⟨h1, h2, h3⟩ | ⟨j, e0, h1, h2, h3, h4⟩
  · refine ⟨ChangeMaps.setBlock W b (.map es clock), n, ?_, ⟨_, _, ChangeMaps.heap_setBlock_same hb _, hn, hd, ?_, ?_⟩, grow _⟩
    · simp [Builtin.delete_, run_underlying ht, MapKept.run_getObj_map hb, K.check W _ hx, h1, MapKept.run_setObj_map _ hb, Result.andThen, ChangeMaps.setBlock]
    · intro e1 he1
      refine ⟨(hm e1 he1).1, ?_⟩
      unfold mDel
      rw [if_neg (h3 e1 he1)]
      exact (hm e1 he1).2
    · intro y u hy
      unfold mDel at hy
      split at hy
      · cases hy
      · exact ho y u hy
  · have hjl : j < es.toList.length := (List.getElem?_eq_some_iff.1 h2).1
    have hjs : j < es.size := by simpa using hjl
    have e0j := (List.getElem?_eq_some_iff.1 h2).2
    have hsub : (es.eraseIdxIfInBounds j).toList = es.toList.eraseIdx j := by
      unfold Array.eraseIdxIfInBounds
      rw [dif_pos hjs]
      simp
    have who : ∀ e1, e1 ∈ es.toList.eraseIdx j ↔ e1 ∈ es.toList ∧ e1.key ≠ x := by
      intro e1
      constructor
      · intro he
        refine ⟨(List.eraseIdx_sublist _ _).subset he, fun ek => ?_⟩
        rw [List.mem_eraseIdx_iff_getElem] at he
        obtain ⟨i, hi, hne, ex⟩ := he
        have hp := List.getElem_inj (xs := es.toList.map (·.key)) (i := j) (j := i) (h₀ := by simpa using hjl) (h₁ := by simpa using hi) hd
        rw [List.getElem_map, List.getElem_map, e0j, ex, ek, h3] at hp
        exact hne (hp.1 rfl).symm
      · rintro ⟨he, hk⟩
        rw [List.mem_eraseIdx_iff_getElem]
        obtain ⟨i, hi, ex⟩ := List.getElem_of_mem he
        refine ⟨i, hi, fun ej => ?_, ex⟩
        subst ej
        rw [e0j] at ex
        exact hk (ex ▸ h3)
    refine ⟨ChangeMaps.setBlock W b (.map (es.eraseIdxIfInBounds j) clock), _, ?_, ⟨_, _, ChangeMaps.heap_setBlock_same hb _, rfl, ?_, ?_, ?_⟩, grow _⟩
    · simp [Builtin.delete_, run_underlying ht, MapKept.run_getObj_map hb, K.check W _ hx, h1, MapKept.run_setObj_map _ hb, Result.andThen, ChangeMaps.setBlock]
    · rw [hsub]
      exact ((List.eraseIdx_sublist _ _).map _).nodup hd
    · intro e1 he1
      rw [hsub, who] at he1
      refine ⟨(hm e1 he1.1).1, ?_⟩
      unfold mDel
      rw [if_neg he1.2]
      exact (hm e1 he1.1).2
    · intro y u hy
      unfold mDel at hy
      split at hy
      · cases hy
      · rename_i ey
        obtain ⟨e1, he1, r1, r2⟩ := ho y u hy
        exact ⟨e1, by rw [hsub, who]; exact ⟨he1, fun e2 => ey (r1.symm.trans e2)⟩, r1, r2⟩
end
end Go.Proofs.Ytedfgbkaijjaeaa
