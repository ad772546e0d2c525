/- Operations taken back, and done again: plain laws. -/
import Derived.Test.YtedfgbkaijjaeaaMvOrder
namespace Go.Proofs.Ytedfgbkaijjaeaa
set_option linter.unusedVariables false

theorem take_snoc {α : Type} (l : List α) (i : Nat) (x : α) (h : l[i]? = some x) : l.take (i + 1) = l.take i ++ [x] := by
  rw [List.take_add_one, h]
  rfl
theorem runD_at {es : List EnV} {i : Nat} {e : EnV} (h : es[i]? = some e) : (runD noneS es)[i]? = some (doD (runS (es.take i)) e) := by
  have hi : i < es.length := (List.getElem?_eq_some_iff.1 h).1
  have e1 : es = es.take i ++ e :: es.drop (i + 1) := by
    have h2 := List.drop_eq_getElem_cons hi
    have h3 : es[i] = e := by
      have := List.getElem?_eq_getElem hi
      rw [h] at this
      exact (Option.some.inj this).symm
    rw [h3] at h2
    rw [← h2, List.take_append_drop]
  have hl : (runD noneS (es.take i)).length = i := by rw [runD_length, List.length_take]; omega
  conv => lhs; rw [e1]
  rw [runD_append, List.getElem?_append_right (by omega), hl, Nat.sub_self]
  rfl
theorem runS_take {es : List EnV} {i : Nat} {e : EnV} (h : es[i]? = some e) : runS (es.take (i + 1)) = doS (runS (es.take i)) e := by
  rw [take_snoc _ _ _ h, runS_snoc]
theorem run_undo {es : List EnV} {i : Nat} {e : EnV} (h : es[i]? = some e) : undoF (runS (es.take (i + 1))) (doD (runS (es.take i)) e) = runS (es.take i) := by
  rw [runS_take h]
  exact undo_do (run_ok _).1 (run_ok _).2 e
/-- Row L: the first i are done in their order; all of them are the operations es. -/
structure Redo (es : List EnV) (L : List DoV) (i : Nat) : Prop where
  done_ : L.take i = runD noneS (es.take i)
  all_ : L.map (·.e) = es
theorem Redo.length {es : List EnV} {L : List DoV} {i : Nat} (h : Redo es L i) : L.length = es.length := by
  rw [← h.all_, List.length_map]
theorem Redo.step {es : List EnV} {L : List DoV} {i : Nat} {e : EnV} (h : Redo es L i) (he : es[i]? = some e) : Redo es (L.set i (doD (runS (es.take i)) e)) (i + 1) := by
  have hi : i < es.length := (List.getElem?_eq_some_iff.1 he).1
  have hl := h.length
  refine ⟨?_, ?_⟩
  · rw [take_snoc _ i _ (List.getElem?_set_self (by omega)), take_snoc _ _ _ he, runD_snoc, List.take_set_of_le (Nat.le_refl _), h.done_]
  · rw [List.map_set, h.all_]
    show es.set i e = es
    have h3 : es[i] = e := by
      have := List.getElem?_eq_getElem hi
      rw [he] at this
      exact (Option.some.inj this).symm
    rw [← h3, List.set_getElem_self]
theorem Redo.at_ {es : List EnV} {L : List DoV} {i j : Nat} {d : DoV} (h : Redo es L i) (hd : L[j]? = some d) : es[j]? = some d.e := by
  rw [← h.all_, List.getElem?_map, hd]
  rfl
theorem Redo.end_ {es : List EnV} {L : List DoV} (h : Redo es L es.length) : L = runD noneS es := by
  have := h.done_
  rw [List.take_of_length_le (Nat.le_of_eq h.length), List.take_length] at this
  exact this
theorem Redo.start {es : List EnV} {e : EnV} {d : DoV} {at_ : Nat} (hat : at_ ≤ es.length) (hd : d.e = e) : Redo (es.take at_ ++ e :: es.drop at_) ((runD noneS es).take at_ ++ [d] ++ (runD noneS es).drop at_) at_ := by
  have h1 : ((runD noneS es).take at_).length = at_ := by rw [List.length_take, runD_length]; omega
  have h2 : (es.take at_).length = at_ := by rw [List.length_take]; omega
  have h3 : (runD noneS es).take at_ = runD noneS (es.take at_) := by
    conv => lhs; rw [← List.take_append_drop at_ es, runD_append]
    rw [List.take_append_of_le_length (by rw [runD_length]; omega), List.take_of_length_le (by rw [runD_length]; omega)]
  refine ⟨?_, ?_⟩
  · rw [List.append_assoc, List.take_append_of_le_length (Nat.le_of_eq h1.symm), List.take_of_length_le (Nat.le_of_eq h1), List.take_append_of_le_length (Nat.le_of_eq h2.symm), List.take_of_length_le (Nat.le_of_eq h2), h3]
  · simp only [List.map_append, List.map_cons, List.map_take, List.map_drop, runD_es, hd, List.append_assoc, List.singleton_append]
theorem addE_fresh {l : List EnV} {e : EnV} (h : freshE l e = true) : addE l e = l.take (lowE l e) ++ e :: l.drop (lowE l e) := by
  unfold addE insE
  rw [if_pos h]
theorem addE_old {l : List EnV} {e : EnV} (h : freshE l e = false) : addE l e = l := by
  unfold addE
  rw [if_neg (by simp [h])]
theorem fresh_iff {l : List EnV} (h : UpE l) {e : EnV} : freshE l e = false ↔ ∃ y ∈ l, eqE y e := by
  rw [← at_lowE h]
  unfold freshE eqE
  cases l[lowE l e]? with
  | none => simp
  | some x => simp
theorem addE_up {l : List EnV} (h : UpE l) (e : EnV) : UpE (addE l e) := by
  cases hf : freshE l e with
  | false => rw [addE_old hf]; exact h
  | true =>
    rw [addE_fresh hf]
    refine insE_up h fun y hy hq => ?_
    have := (fresh_iff h).2 ⟨y, hy, hq⟩
    rw [hf] at this
    cases this
theorem addE_length (l : List EnV) (e : EnV) : (addE l e).length ≤ l.length + 1 := by
  cases hf : freshE l e with
  | false => rw [addE_old hf]; omega
  | true => rw [addE_fresh hf]; have := lowE_le l e; simp; omega
theorem mem_addE (l : List EnV) (e y : EnV) (h : y ∈ addE l e) : y = e ∨ y ∈ l := by
  cases hf : freshE l e with
  | false => rw [addE_old hf] at h; exact .inr h
  | true => rw [addE_fresh hf] at h; exact (mem_insE l e y).1 h
end Go.Proofs.Ytedfgbkaijjaeaa
