/- Rows of ways. -/
import Derived.Test.YtleagdnlgjpcgaaNetMod
namespace Go.Proofs.Ytleagdnlgjpcgaa
open Go.RowKit Go.Maps
set_option linter.unusedVariables false
set_option linter.unusedSimpArgs false

def WyL (W : World) (v : Value) (l : List (Int × Int)) : Prop := W.ownsRow 0 70 2 v l.length (wyCells l)
theorem info_wy : (Try.prog.info? 70).map (fun i => (i.zero, i.size, i.bytes)) = some (some (.agg #[.int .i64 0, .int .i64 0]), 2, 16) := by kernel_rfl
theorem WyS.news {W : World} {a : Addr} {l : List (Int × Int)} (h : WyS W (some a) l) : ∀ j u, (wyCells l)[j]? = some u → W.cell? (a.add j) = some u := by
  intro j u hu
  have hj := (List.getElem?_eq_some_iff.1 hu).1
  rw [wyCells_length] at hj
  have hi : j / 2 < l.length := by omega
  obtain ⟨sb, so, e, hc⟩ := h.2 (j / 2) hi
  cases e
  have hadd : (⟨sb, so, none⟩ : Addr).add j = ⟨sb, so + j, none⟩ := by unfold Addr.add; split <;> simp_all
  rw [hadd]
  obtain ⟨p0, p1⟩ := wyCells_at l (j / 2) hi
  simp only [List.getElem?_eq_getElem hi] at hc
  have hr : j % 2 = 0 ∨ j % 2 = 1 := by omega
  rcases hr with e | e
  · have hj2 : j = j / 2 * 2 := by omega
    rw [hj2, p0] at hu
    cases hu
    have := hc 0 _ rfl
    rw [show so + j / 2 * 2 + 0 = so + j by omega] at this
    exact this
  · have hj2 : j = j / 2 * 2 + 1 := by omega
    rw [hj2, p1] at hu
    cases hu
    have := hc 1 _ rfl
    rw [show so + j / 2 * 2 + 1 = so + j by omega] at this
    exact this
theorem WyL.cells {W : World} {A : Option Addr} {n cap : Nat} {l : List (Int × Int)} (h : WyL W (.slice A n cap) l) : WyS W A l := by
  have hmx : l.length ≤ maxLen := by
    rcases h.2 with ⟨e, h0⟩ | ⟨g, cap', cur, e, hB, hg, h1, h2, h3, h4⟩
    · rw [h0]; exact Nat.zero_le _
    · omega
  rcases h.2 with ⟨e, h0⟩ | ⟨g, cap', cur, e, hB, hg, h1, h2, h3, h4⟩
  · refine ⟨hmx, fun i hi => ?_⟩
    omega
  · injection e with e1 e2 e3
    subst e1
    refine ⟨hmx, fun i hi => ⟨g, 0, rfl, fun j u hu => ?_⟩⟩
    obtain ⟨p0, p1⟩ := wyCells_at l i hi
    simp only [List.getElem?_eq_getElem hi] at hu
    have hj : j < 2 := by
      have := (List.getElem?_eq_some_iff.1 hu).1
      simpa using this
    have hx : (wyCells l)[i * 2 + j]? = some u := by
      rcases j with _ | _ | j
      · simp at hu; subst hu; exact p0
      · simp at hu; subst hu; exact p1
      · omega
    rw [show W.cell? ⟨g, 0 + i * 2 + j, none⟩ = cur[i * 2 + j]? by
      rw [show 0 + i * 2 + j = i * 2 + j by omega]
      exact Own.cell (w := W) (b := g) (t := 70) (cs := cur) hg _]
    rw [← h4, List.getElem?_take] at hx
    split at hx
    · simpa using hx
    · cases hx
theorem WyL.fr {W W' : World} {v : Value} {l : List (Int × Int)} {G : Nat → Prop} (h : WyL W v l) (f : Fr G W W') (hv : ∀ k, v.ownBlock = some k → ¬ G k) : WyL W' v l := by
  rcases h.2 with ⟨e, h0⟩ | ⟨g, cap, cur, e, hB, hg, r⟩
  · exact ⟨h.1, .inl ⟨e, h0⟩⟩
  · subst e
    exact ⟨h.1, .inr ⟨g, cap, cur, rfl, hB, (f.block g (lt_of_block hg) (hv g rfl)).trans hg, r⟩⟩
theorem WyL.lt {W : World} {v : Value} {l : List (Int × Int)} (h : WyL W v l) {k : Nat} (hk : v.ownBlock = some k) : k < W.heap.size := (World.ownsRow.lt h k hk).2
theorem WyL.row {W : World} {v : Value} {l : List (Int × Int)} (h : WyL W v l) {k : Nat} (hk : v.ownBlock = some k) : ∃ cur, W.heap[k]? = some (.cells cur 70 (0, 0)) := by
  rcases h.2 with ⟨e, h0⟩ | ⟨g, cap, cur, e, hB, hg, r⟩
  · rw [e] at hk; cases hk
  · subst e
    injection hk with hk
    have : g = k := hk
    subst this
    exact ⟨cur, hg⟩
theorem WyL.form {W : World} {v : Value} {l : List (Int × Int)} (h : WyL W v l) : ∃ A cap, v = .slice A l.length cap := by
  rcases h.2 with ⟨e, h0⟩ | ⟨g, cap, cur, e, _⟩
  · exact ⟨none, 0, by rw [e, h0]⟩
  · exact ⟨_, cap, e⟩
/-- One packet more. -/
theorem append_wy {W : World} {blk : Nat} {v : Value} {l : List (Int × Int)} {p : Int × Int} (h : WyL W v l) (hn : l.length ≤ 100000) (hb : Own W blk 70 #[.int .i64 p.1, .int .i64 p.2]) :
    ∃ v' W', (Builtin.append_ #[41, 41] 41 #[v, .slice (some ⟨blk, 0, none⟩) 1 1]).run Try.prog W = .ok v' W' ∧ WyL W' v' (l ++ [p]) ∧
      Fr (fun k => v.ownBlock = some k) W W' ∧ (v'.ownBlock = v.ownBlock ∨ ∃ k, v'.ownBlock = some k ∧ W.heap.size ≤ k) := by
  obtain ⟨i, hi, hv⟩ := Option.map_eq_some_iff.1 info_wy
  have z1 : i.zero = some (.agg #[.int .i64 0, .int .i64 0]) := congrArg Prod.fst hv
  have z2 : i.size = 2 := congrArg (fun x => x.2.1) hv
  have z3 : i.bytes = 16 := congrArg (fun x => x.2.2) hv
  obtain ⟨v', W', hr, h2, h3, h4, h5⟩ := run_append_own_at (P := Try.prog) W 0 41 41 70 i _ 2 16 Try.underlying41 hi z1 z2 z3 rfl (by omega) v l.length _ h ⟨blk, 0, none⟩ 1 1 [.int .i64 p.1, .int .i64 p.2] rfl
    (fun j u hu => World.news_of_block hb j u hu) (by simp [Value.oneCell']) (by simp [maxLen]; omega) (by omega) (Nat.zero_le _)
  refine ⟨v', W', hr, ?_, fr_of_grown' h3, ?_⟩
  · unfold WyL
    rw [List.length_append, wyCells_append]
    exact h2
  · rcases h5 with e | e
    · exact .inl e
    · exact .inr ⟨_, e, Nat.le_refl _⟩
theorem WyL.empty {W : World} {b : Nat} (h : Own W b 70 #[]) : WyL W (.slice (some ⟨b, 0, none⟩) 0 0) [] :=
  ⟨rfl, .inr ⟨b, 0, #[], rfl, Nat.zero_le _, h, Nat.le_refl _, Nat.zero_le _, rfl, rfl⟩⟩
/-- A list more, onto a row of the call's own. -/
theorem append_wys {W : World} {v : Value} {l l2 : List (Int × Int)} {A : Option Addr} {cap : Nat} (h : WyL W v l) (hn : l.length + l2.length ≤ 100000) (hs : WyS W A l2) :
    ∃ v' W', (Builtin.append_ #[41, 41] 41 #[v, .slice A l2.length cap]).run Try.prog W = .ok v' W' ∧ WyL W' v' (l ++ l2) ∧
      Fr (fun k => v.ownBlock = some k) W W' ∧ (v'.ownBlock = v.ownBlock ∨ ∃ k, v'.ownBlock = some k ∧ W.heap.size ≤ k) := by
  obtain ⟨i, hi, hv⟩ := Option.map_eq_some_iff.1 info_wy
  have z1 : i.zero = some (.agg #[.int .i64 0, .int .i64 0]) := congrArg Prod.fst hv
  have z2 : i.size = 2 := congrArg (fun x => x.2.1) hv
  have z3 : i.bytes = 16 := congrArg (fun x => x.2.2) hv
  cases A with
  | some a =>
    obtain ⟨v', W', hr, h2, h3, h4, h5⟩ := run_append_own_at (P := Try.prog) W 0 41 41 70 i _ 2 16 Try.underlying41 hi z1 z2 z3 rfl (by omega) v l.length _ h a l2.length cap (wyCells l2) (wyCells_length l2)
      hs.news (wyCells_one l2) (by simp [maxLen]; omega) (by omega) (Nat.zero_le _)
    refine ⟨v', W', hr, ?_, fr_of_grown' h3, ?_⟩
    · unfold WyL
      rw [List.length_append, wyCells_append]
      exact h2
    · rcases h5 with e | e
      · exact .inl e
      · exact .inr ⟨_, e, Nat.le_refl _⟩
  | none =>
    have hl2 : l2 = [] := by
      cases l2 with
      | nil => rfl
      | cons p l2 =>
        obtain ⟨b, o, e, _⟩ := hs.2 0 (by simp)
        cases e
    subst hl2
    refine ⟨v, W, ?_, by simpa using h, Fr.refl _ _, .inl rfl⟩
    rcases h.2 with ⟨e, h0⟩ | ⟨g, cap', cur, e, _⟩
    · subst e
      have hlo : ∀ w', (Builtin.lenOf (.slice none 0 cap)).run Try.prog w' = .ok 0 w' := fun _ => rfl
      simp [Builtin.append_, run_underlying Try.underlying41, sizeOf, typeInfo, hi, hlo, run_firstCells_none, h0]
    · subst e
      have := run_append_room_src (P := Try.prog) W 41 41 41 70 i Try.underlying41 hi g 0 l.length cap' (.slice none 0 cap) 0 [] (Src.ofNil W Try.underlying41 cap) (by have := h.form; obtain ⟨A, c, e⟩ := this; cases e; rcases h.2 with ⟨e, _⟩ | ⟨_, _, _, e, _, _, hc, _⟩ <;> cases e; omega) (by simp) (by simp)
      simpa [World.setCells] using this
/-- A list onto '[]T{}'. -/
theorem fresh_wys {W : World} {b : Nat} (hb : Own W b 70 #[]) {l2 : List (Int × Int)} {A : Option Addr} {cap : Nat} (hs : WyS W A l2) (hn : l2.length ≤ 100000) :
    ∃ v' W', (Builtin.append_ #[41, 41] 41 #[.slice (some ⟨b, 0, none⟩) 0 0, .slice A l2.length cap]).run Try.prog W = .ok v' W' ∧ WyL W' v' l2 ∧
      New W W' ∧ (v'.ownBlock = some b ∨ ∃ k, v'.ownBlock = some k ∧ W.heap.size ≤ k) := by
  obtain ⟨v', W', hr, hp, f, ho⟩ := append_wys (cap := cap) (WyL.empty hb) (by simpa using hn) hs
  rw [List.nil_append] at hp
  refine ⟨v', W', hr, hp, ?_, by rcases ho with e | e; exact .inl e; exact .inr e⟩
  obtain ⟨i, hi, hv⟩ := Option.map_eq_some_iff.1 info_wy
  have z1 : i.zero = some (.agg #[.int .i64 0, .int .i64 0]) := congrArg Prod.fst hv
  have z2 : i.size = 2 := congrArg (fun x => x.2.1) hv
  have z3 : i.bytes = 16 := congrArg (fun x => x.2.2) hv
  by_cases h0 : l2.length = 0
  · have e0 : l2 = [] := List.eq_nil_of_length_eq_zero h0
    subst e0
    have hsrc : Src Try.prog i.size 41 (.slice A 0 cap) 0 [] W := by
      cases A with
      | none => exact Src.ofNil W Try.underlying41 cap
      | some a => exact Src.ofSlice W Try.underlying41 a 0 cap [] (by simp) (fun j u hu => by simp at hu) (fun u hu => by cases hu)
    have := run_append_room_src (P := Try.prog) W 41 41 41 70 i Try.underlying41 hi b 0 0 0 (.slice A 0 cap) 0 [] hsrc (Nat.le_refl _) (by simp) (by simp)
    rw [show ([] : List (Int × Int)).length = 0 from rfl] at hr
    rw [this] at hr
    injection hr with e1 e2
    rw [← e2]
    simp [World.setCells]
    exact Fr.refl _ _
  · obtain ⟨a, hA⟩ : ∃ a, A = some a := by
      obtain ⟨b', o, e, _⟩ := hs.2 0 (by omega)
      exact ⟨_, e⟩
    subst hA
    have := run_append_grow_src (P := Try.prog) W 41 41 41 70 i _ Try.underlying41 hi z1 (some ⟨b, 0, none⟩) 0 0 [] (run_firstCells_some W.drew i.size 0 ⟨b, 0, none⟩ 0 0 [] (by simp) (fun j u hu => by simp at hu)) (.slice (some a) l2.length cap) l2.length (wyCells l2)
      (Src.ofSlice W Try.underlying41 a l2.length cap (wyCells l2) (by rw [z2, wyCells_length]) hs.news (wyCells_one l2)) (by omega) (by omega) (by rw [z3]; exact growslice_fits (by omega) (by omega))
    rw [this] at hr
    injection hr with e1 e2
    rw [← e2]
    exact ((Fr.refl _ _).drew).alloc _

theorem WyL.sl {W : World} {X : Nat → Prop} {v : Value} {l : List (Int × Int)} (h : WyL W v l) (hX : ∀ k, v.ownBlock = some k → ¬ X k) : SlC W X v l := by
  rcases h.2 with ⟨e, h0⟩ | ⟨g, cap, cur, e, hB, hg, h1, h2, h3, h4⟩
  · have : l = [] := List.eq_nil_of_length_eq_zero h0
    subst this
    subst e
    exact SlC.nil _ _
  · subst e
    exact ⟨_, cap, rfl, h.cells, fun a e => by cases e; exact ⟨hX g rfl, lt_of_block hg, cur, hg⟩⟩
end Go.Proofs.Ytleagdnlgjpcgaa
