/- A tree's row of what was done: another one, or one place of it written anew. -/
import Derived.Test.YtedfgbkaijjaeaaMvBsf
import Derived.Test.YtedfgbkaijjaeaaMvPut
namespace Go.Proofs.Ytedfgbkaijjaeaa
open Go.RowKit Go.Maps
set_option linter.unusedVariables false
set_option linter.unusedSimpArgs false

theorem wpList_storeAt_run {P : Program} {w : World} {ops : Array Oper} {rest : List Oper} {o : Oper} {a : Act} {Q : Exit → Act → World → Prop} (hgd : o.guard = none) (ty : TypeId) (x y : Operand) (ho : o.op = .store ty x y)
    {xv yv : Value} {w' : World} (hx : a.eval x = xv) (hy : a.eval y = yv) (hr : (Instr.storeAt ty xv yv).run P w = .ok () w') (k : wpList P ops Q rest (a.put o.dst undef) w') : wpList P ops Q (o :: rest) a w := by
  refine wpList_plain hgd fun K hK => ?_
  unfold Oper.wp execOp
  simp only [ho, hx, hy, hr, Sem.run_bind, Sem.run_pure, Result.andThen_ok]
  exact hK _ _ k
theorem set_cells (P D R R' : List Value) (k : Nat) (hp : P.length = 18) (h : R' = R.take (k * 18) ++ D ++ R.drop (k * 18 + 18)) : P ++ R' = (P ++ R).take ((k + 1) * 18) ++ D ++ (P ++ R).drop ((k + 1) * 18 + 18) := by
  have h1 : P.take ((k + 1) * 18) = P := List.take_of_length_le (by omega)
  have h2 : P.drop ((k + 1) * 18 + 18) = [] := List.drop_of_length_le (by omega)
  rw [h, List.take_append, List.drop_append, hp, show (k + 1) * 18 - 18 = k * 18 by omega, show (k + 1) * 18 + 18 - 18 = k * 18 + 18 by omega, h1, h2]
  simp
theorem set_cells0 (P D R : List Value) (hp : P.length = 18) : D ++ R = (P ++ R).take (0 * 18) ++ D ++ (P ++ R).drop (0 * 18 + 18) := by
  rw [List.drop_append, List.drop_of_length_le (by omega), hp]
  simp
theorem dCells_set : ∀ (l : List DoV) (i : Nat) (d : DoV), i < l.length → dCells (l.set i d) = (dCells l).take (i * 18) ++ d.cs.toList ++ (dCells l).drop (i * 18 + 18)
  | p :: l, 0, d, _ => set_cells0 p.cs.toList d.cs.toList (dCells l) rfl
  | p :: l, i + 1, d, h => set_cells p.cs.toList d.cs.toList (dCells l) _ i rfl (dCells_set l i d (by simpa using h))
theorem info_size_d : (Try.prog.info? 108).map (·.size) = some 18 := by kernel_rfl
set_option maxRecDepth 100000 in
/-- One place of a row written anew. -/
theorem DL.put {W : World} {A : Option Addr} {n cap : Nat} {l : List DoV} (h : DL W (.slice A n cap) l) {i : Nat} (hi : i < l.length) (d : DoV) :
    ∃ g W', A = some ⟨g, 0, none⟩ ∧ (Instr.storeAt 108 (.pointer (some ⟨g, i * 18, none⟩)) d.val).run Try.prog W = .ok () W' ∧ DL W' (.slice A n cap) (l.set i d) ∧ Fr (fun k => (Value.slice A n cap).ownBlock = some k) W W' := by
  rcases h.2 with ⟨e, h0⟩ | ⟨g, cap', cur, e, hB, hg, hc, hm, hs, ht⟩
  · injection e with e1 e2 e3
    omega
  · injection e with e1 e2 e3
    subst e2 e3
    have hlen : (dCells l).length = l.length * 18 := dCells_length l
    have hcs : d.cs.size = 18 := rfl
    have hO : Own W g 108 cur := hg
    have hfit : i * 18 + d.cs.size ≤ cur.size := by
      have h2 : (cur.toList.take (l.length * 18)).length = l.length * 18 := by rw [ht, hlen]
      rw [List.length_take] at h2
      have h3 : cur.toList.length = cur.size := Array.length_toList
      omega
    refine ⟨g, _, e1, run_store_own hO hfit info_size_d (by simp [Value.oneCell']), ?_, ?_⟩
    · refine ⟨by rw [dCells_length], .inr ⟨g, cap, _, by rw [List.length_set, e1], hB, hO.setRow _, by rw [List.length_set]; exact hc, hm, ?_, ?_⟩⟩
      · rw [← hs]
        simp
        omega
      · rw [List.length_set]
        show List.take (l.length * 18) (cur.toList.take (i * 18) ++ d.cs.toList ++ cur.toList.drop (i * 18 + d.cs.size)).toArray.toList = _
        rw [dCells_set l i d hi, ← ht]
        have h3 : cur.toList.length = cur.size := Array.length_toList
        apply List.ext_getElem?
        intro j
        simp only [List.getElem?_take, List.getElem?_append, List.getElem?_drop, List.length_take, List.length_append, h3]
        have h18 : d.cs.toList.length = 18 := rfl
        rw [h18, hcs]
        have e1 : min (i * 18) cur.size = i * 18 := by omega
        have e2 : min (i * 18) (min (l.length * 18) cur.size) = i * 18 := by omega
        rw [e1, e2]
        by_cases c1 : j < i * 18
        · have c2 : j < l.length * 18 := by omega
          simp [c1, c2, show j < i * 18 + 18 by omega]
        · by_cases c2 : j < i * 18 + 18
          · have c3 : j < l.length * 18 := by omega
            simp [c1, c2, c3]
          · by_cases c3 : j < l.length * 18
            · have c4 : i * 18 + 18 + (j - (i * 18 + 18)) < l.length * 18 := by omega
              simp [c1, c2, c3, c4]
            · have c4 : ¬ i * 18 + 18 + (j - (i * 18 + 18)) < l.length * 18 := by omega
              simp [c1, c2, c3, c4]
    · exact (fr_setRow' _ _ _).mono fun k hk => by subst hk; rw [e1]; rfl
theorem TrC.row {w W : World} {t u : Nat} {X : Nat → Prop} {l l' : List DoV} {s : TkV} {lv : Value} {mt mk n1 n2 : Nat} {V : Nat → Option Value} (h : TrC w t X l s u lv mt mk n1 n2 V)
    (f : Fr (fun k => lv.ownBlock = some k) w W) (hd : DL W lv l') : TrC W t X l' s u lv mt mk n1 n2 V ∧ Fr X w W := by
  obtain ⟨h1, h2, h3, h4, h5, h6, hX⟩ := h
  exact ⟨⟨h1.fr f (fun e => h2.notOwn h1 e), hd, h3.fr f (fun e => h2.notMap h3 e), h4.fr f (fun e => h2.notMap h4 e), ⟨fun p v e => (h5.row p v e).fr f (fun k e1 e2 => h2.notRow (h5.row p v e) e2 e1), h5.none_, h5.apart⟩, h6, hX⟩, f.mono fun k e => (hX k).2 (.inr (.inr (.inr (.inl e))))⟩
theorem TrC.put_row {w W : World} {t u : Nat} {X : Nat → Prop} {l l' : List DoV} {s : TkV} {lv : Value} {mt mk n1 n2 : Nat} {V : Nat → Option Value} (h : TrC w t X l s u lv mt mk n1 n2 V)
    (f : Fr (fun k => lv.ownBlock = some k) w W) {v' : Value} (hd : DL W v' l') (ho : v'.ownBlock = lv.ownBlock ∨ ∃ k, v'.ownBlock = some k ∧ w.heap.size ≤ k) :
    ∃ X', TrB (W.setCell ⟨t, 0, none⟩ v') t X' l' s u ∧ Fr X w (W.setCell ⟨t, 0, none⟩ v') ∧ ∀ k, X' k → X k ∨ w.heap.size ≤ k := by
  have hlt : ∀ k, X k → k < w.heap.size := fun k hk => h.of.lt hk
  obtain ⟨h1, h2, h3, h4, h5, h6, hX⟩ := h
  have k1 := h1.fr f (fun e => h2.notOwn h1 e)
  have g : Fr (fun k => k = t) W (W.setCell ⟨t, 0, none⟩ v') := Fr.set (F := fun k => k = t) (p := ⟨t, 0, none⟩) (Fr.refl _ W) (fun _ => rfl) _
  have k3 := h3.fr f (fun e => h2.notMap h3 e)
  have k4 := h4.fr f (fun e => h2.notMap h4 e)
  have k5 : ∀ p v, V p = some v → UL W v (s.ks p) := fun p v e => (h5.row p v e).fr f (fun k e1 e2 => h2.notRow (h5.row p v e) e2 e1)
  refine ⟨fun k => k = t ∨ k = mt ∨ k = mk ∨ v'.ownBlock = some k ∨ ∃ p v, V p = some v ∧ v.ownBlock = some k, ⟨v', mt, mk, n1, n2, V, k1.put rfl, hd.fr g (fun k e e2 => hd.notOwn k1 (e2 ▸ e)), k3.fr g (fun e => k3.notOwn k1 e.symm), k4.fr g (fun e => k4.notOwn k1 e.symm), ⟨fun p v e => (k5 p v e).fr g (fun k e1 e2 => (k5 p v e).notOwn k1 (e2 ▸ e1)), h5.none_, h5.apart⟩, h6, fun k => Iff.rfl⟩,
    (f.mono fun k e => (hX k).2 (.inr (.inr (.inr (.inl e))))).trans (g.mono fun k e => (hX k).2 (.inl e)) fun _ _ e => e, ?_⟩
  rintro k (e | e | e | e | e)
  · exact .inl ((hX k).2 (.inl e))
  · exact .inl ((hX k).2 (.inr (.inl e)))
  · exact .inl ((hX k).2 (.inr (.inr (.inl e))))
  · rcases ho with ho | ⟨k2, ho, hk2⟩
    · exact .inl ((hX k).2 (.inr (.inr (.inr (.inl (ho ▸ e))))))
    · rw [e] at ho
      have ho := Option.some.inj ho
      exact .inr (by omega)
  · exact .inl ((hX k).2 (.inr (.inr (.inr (.inr e)))))
end Go.Proofs.Ytedfgbkaijjaeaa
