/- A tree in memory: a thing put, or gone; a row of kids put, or gone. -/
import Derived.Test.YtedfgbkaijjaeaaMvTree
namespace Go.Proofs.Ytedfgbkaijjaeaa
open Go.RowKit Go.Maps
set_option linter.unusedVariables false
set_option linter.unusedSimpArgs false

def TrC (W : World) (t : Nat) (X : Nat → Prop) (l : List DoV) (s : TkV) (u : Nat) (lv : Value) (mt mk n1 n2 : Nat) (V : Nat → Option Value) : Prop :=
  Own W t 104 #[lv, .map (some mt), .map (some mk), .int .i64 u] ∧ DL W lv l ∧ MapF Try.prog 22 W mt n1 (keyM (thV s.th)) ∧ MapF Try.prog 22 W mk n2 (keyM V) ∧ KdB W V s.ks ∧ mt ≠ mk ∧
    (∀ k, X k ↔ k = t ∨ k = mt ∨ k = mk ∨ lv.ownBlock = some k ∨ ∃ p v, V p = some v ∧ v.ownBlock = some k)
theorem TrC.of {W : World} {t u : Nat} {X : Nat → Prop} {l : List DoV} {s : TkV} {lv : Value} {mt mk n1 n2 : Nat} {V : Nat → Option Value} (h : TrC W t X l s u lv mt mk n1 n2 V) : TrB W t X l s u := ⟨lv, mt, mk, n1, n2, V, h⟩
theorem TrC.fr {W W' : World} {t u : Nat} {X G : Nat → Prop} {l : List DoV} {s : TkV} {lv : Value} {mt mk n1 n2 : Nat} {V : Nat → Option Value} (h : TrC W t X l s u lv mt mk n1 n2 V) (f : Fr G W W') (hG : ∀ k, X k → ¬ G k) : TrC W' t X l s u lv mt mk n1 n2 V := by
  obtain ⟨h1, h2, h3, h4, h5, h6, hX⟩ := h
  exact ⟨h1.fr f (hG _ ((hX _).2 (.inl rfl))), h2.fr f (fun k e => hG k ((hX k).2 (.inr (.inr (.inr (.inl e)))))), h3.fr f (hG _ ((hX _).2 (.inr (.inl rfl)))), h4.fr f (hG _ ((hX _).2 (.inr (.inr (.inl rfl))))),
    ⟨fun p v e => (h5.row p v e).fr f (fun k e2 => hG k ((hX k).2 (.inr (.inr (.inr (.inr ⟨p, v, e, e2⟩)))))), h5.none_, h5.apart⟩, h6, hX⟩
theorem TrC.new_ {W W' : World} {t u : Nat} {X : Nat → Prop} {l : List DoV} {s : TkV} {lv : Value} {mt mk n1 n2 : Nat} {V : Nat → Option Value} (h : TrC W t X l s u lv mt mk n1 n2 V) (f : New W W') : TrC W' t X l s u lv mt mk n1 n2 V := h.fr f fun _ _ g => g
theorem MapF.notRow {P : Program} {k : TypeId} {W : World} {b n : Nat} {M : Value → Option Value} (h : MapF P k W b n M) {cs : Array Value} {ty : TypeId} {z : Nat × Nat} (e : W.heap[b]? = some (.cells cs ty z)) : False := by
  obtain ⟨es, clock, hb, _⟩ := h
  rw [hb] at e
  cases e
theorem UL.notMap {P : Program} {k : TypeId} {W : World} {b n : Nat} {M : Value → Option Value} {v : Value} {l : List Nat} (h : UL W v l) (hm : MapF P k W b n M) : v.ownBlock ≠ some b := fun e => by
  obtain ⟨cur, hc⟩ := h.row e
  exact hm.notRow hc
theorem DL.notMap {P : Program} {k : TypeId} {W : World} {b n : Nat} {M : Value → Option Value} {v : Value} {l : List DoV} (h : DL W v l) (hm : MapF P k W b n M) : v.ownBlock ≠ some b := fun e => by
  obtain ⟨cur, hc⟩ := h.row e
  exact hm.notRow hc
theorem DL.notRow {W : World} {v u : Value} {l : List DoV} {m : List Nat} (h : DL W v l) (hu : UL W u m) {k : Nat} (e : v.ownBlock = some k) : u.ownBlock ≠ some k := fun e2 => by
  obtain ⟨cur, hc⟩ := h.row e
  obtain ⟨cur2, hc2⟩ := hu.row e2
  rw [hc] at hc2
  cases hc2
theorem DL.notOwn {W : World} {v : Value} {l : List DoV} (h : DL W v l) {t : Nat} {cs : Array Value} (hu : Own W t 104 cs) : v.ownBlock ≠ some t := fun e => by
  obtain ⟨cur, hc⟩ := h.row e
  have h2 : W.heap[t]? = _ := hu
  rw [hc] at h2
  cases h2
theorem UL.notOwn {W : World} {v : Value} {l : List Nat} (h : UL W v l) {t : Nat} {cs : Array Value} (hu : Own W t 104 cs) : v.ownBlock ≠ some t := fun e => by
  obtain ⟨cur, hc⟩ := h.row e
  have h2 : W.heap[t]? = _ := hu
  rw [hc] at h2
  cases h2
theorem MapF.notOwn {P : Program} {k : TypeId} {W : World} {b n : Nat} {M : Value → Option Value} (h : MapF P k W b n M) {t : Nat} {ty : TypeId} {cs : Array Value} (hu : Own W t ty cs) : t ≠ b := fun e => by
  subst e
  exact h.notRow hu
theorem TrC.ks_own {W : World} {t u : Nat} {X : Nat → Prop} {l : List DoV} {s : TkV} {lv : Value} {mt mk n1 n2 : Nat} {V : Nat → Option Value} (h : TrC W t X l s u lv mt mk n1 n2 V) (p : Nat) : ∀ k, ((V p).getD (.slice none 0 0)).ownBlock = some k → X k := by
  obtain ⟨h1, h2, h3, h4, h5, h6, hX⟩ := h
  intro k hk
  cases e : V p with
  | none => rw [e] at hk; cases hk
  | some v => rw [e] at hk; exact (hX k).2 (.inr (.inr (.inr (.inr ⟨p, v, e, hk⟩))))
/-- A thing put. -/
theorem TrC.put_thing {W : World} {t u : Nat} {X : Nat → Prop} {l : List DoV} {s : TkV} {lv : Value} {mt mk n1 n2 : Nat} {V : Nat → Option Value} (h : TrC W t X l s u lv mt mk n1 n2 V) {i : Nat} (hi : i < 18446744073709551616) (x : ThV) :
    ∃ W2 n1', (Instr.mapUpdate 100 (.map (some mt)) (.int .u64 (i : Int)) x.val).run Try.prog W = .ok () W2 ∧ TrC W2 t X l ⟨updF s.th i (some x), s.ks⟩ u lv mt mk n1' n2 V ∧ Fr X W W2 := by
  obtain ⟨h1, h2, h3, h4, h5, h6, hX⟩ := h
  obtain ⟨z, hz⟩ := u64_key hi
  obtain ⟨W2, hr, hm, hg⟩ := h3.put u64_keyed Try.underlying100 (v := x.val) hz
  have f := fr_of_grown' hg
  refine ⟨W2, _, hr, ⟨h1.fr f (fun e => h3.notOwn h1 (Option.some.inj e).symm), h2.fr f (fun k e e2 => h2.notMap h3 (e.trans e2.symm)), hm.congr fun y => by rw [keyM_upd, thV_upd], h4.fr f (fun e => h6 (Option.some.inj e)), ⟨fun p v e => (h5.row p v e).fr f (fun k e1 e2 => (h5.row p v e).notMap h3 (e1.trans e2.symm)), h5.none_, h5.apart⟩, h6, hX⟩, f.mono fun k e => (hX k).2 (.inr (.inl (Option.some.inj e).symm))⟩
/-- A thing gone. -/
theorem TrC.del_thing {W : World} {t u : Nat} {X : Nat → Prop} {l : List DoV} {s : TkV} {lv : Value} {mt mk n1 n2 : Nat} {V : Nat → Option Value} (h : TrC W t X l s u lv mt mk n1 n2 V) {i : Nat} (hi : i < 18446744073709551616) (ty : TypeId) :
    ∃ W2 n1', (Builtin.delete_ #[100, 22] ty #[.map (some mt), .int .u64 (i : Int)]).run Try.prog W = .ok (.tuple #[]) W2 ∧ TrC W2 t X l ⟨updF s.th i none, s.ks⟩ u lv mt mk n1' n2 V ∧ Fr X W W2 := by
  obtain ⟨h1, h2, h3, h4, h5, h6, hX⟩ := h
  obtain ⟨z, hz⟩ := u64_key hi
  obtain ⟨W2, n', hr, hm, hg⟩ := h3.del (ty := ty) u64_keyed Try.underlying100 hz
  have f := fr_of_grown' hg
  refine ⟨W2, n', hr, ⟨h1.fr f (fun e => h3.notOwn h1 (Option.some.inj e).symm), h2.fr f (fun k e e2 => h2.notMap h3 (e.trans e2.symm)), hm.congr fun y => by rw [keyM_del, thV_del], h4.fr f (fun e => h6 (Option.some.inj e)), ⟨fun p v e => (h5.row p v e).fr f (fun k e1 e2 => (h5.row p v e).notMap h3 (e1.trans e2.symm)), h5.none_, h5.apart⟩, h6, hX⟩, f.mono fun k e => (hX k).2 (.inr (.inl (Option.some.inj e).symm))⟩
/-- A row of kids put, whose block may be another one. -/
theorem TrC.put_kids {w W : World} {t u : Nat} {X : Nat → Prop} {l : List DoV} {s : TkV} {lv : Value} {mt mk n1 n2 : Nat} {V : Nat → Option Value} (h : TrC w t X l s u lv mt mk n1 n2 V) {p : Nat} (hp : p < 18446744073709551616) {v' : Value} {row' : List Nat}
    (f : Fr (fun k => ((V p).getD (.slice none 0 0)).ownBlock = some k) w W) (hv : UL W v' row') (ho : v'.ownBlock = ((V p).getD (.slice none 0 0)).ownBlock ∨ ∃ k, v'.ownBlock = some k ∧ w.heap.size ≤ k) :
    ∃ W2 n2' X', (Instr.mapUpdate 101 (.map (some mk)) (.int .u64 (p : Int)) v').run Try.prog W = .ok () W2 ∧ TrC W2 t X' l ⟨s.th, updF s.ks p row'⟩ u lv mt mk n1 n2' (updF V p (some v')) ∧ Fr X w W2 ∧ ∀ k, X' k → X k ∨ w.heap.size ≤ k := by
  have hown := h.ks_own p
  obtain ⟨h1, h2, h3, h4, h5, h6, hX⟩ := h
  obtain ⟨z, hz⟩ := u64_key hp
  have hrow := h5.at_ p
  have k4 := h4.fr f (fun e => hrow.notMap h4 e)
  have k3 := h3.fr f (fun e => hrow.notMap h3 e)
  have k1 := h1.fr f (fun e => hrow.notOwn h1 e)
  have k2 := h2.fr f (fun k e => h2.notRow hrow e)
  obtain ⟨W2, hr, hm, hg⟩ := k4.put u64_keyed Try.underlying101 (v := v') hz
  have g := fr_of_grown' hg
  have hd : ∀ q v, q ≠ p → V q = some v → ∀ k, v.ownBlock = some k → ¬ ((V p).getD (.slice none 0 0)).ownBlock = some k := by
    intro q v hq e k hk h9
    cases ep : V p with
    | none => rw [ep] at h9; cases h9
    | some vp => rw [ep] at h9; exact hq (h5.apart q p v vp k e ep hk h9)
  refine ⟨W2, _, fun k => k = t ∨ k = mt ∨ k = mk ∨ lv.ownBlock = some k ∨ ∃ q v, updF V p (some v') q = some v ∧ v.ownBlock = some k, hr,
    ⟨k1.fr g (fun e => k4.notOwn k1 (Option.some.inj e).symm), k2.fr g (fun k e e2 => k2.notMap k4 (e.trans e2.symm)), k3.fr g (fun e => h6 (Option.some.inj e).symm), hm.congr fun y => by rw [keyM_upd], ⟨?_, ?_, ?_⟩, h6, fun k => Iff.rfl⟩, ?_, ?_⟩
  · intro q v e
    by_cases hq : q = p
    · subst hq
      rw [updF_same] at e
      have e := Option.some.inj e
      subst e
      show UL W2 v' (updF s.ks q row' q)
      rw [updF_same]
      exact hv.fr g (fun k e1 e2 => hv.notMap k4 (e1.trans e2.symm))
    · rw [updF_other _ _ hq] at e
      show UL W2 v (updF s.ks p row' q)
      rw [updF_other _ _ hq]
      have k5 := (h5.row q v e).fr f (hd q v hq e)
      exact k5.fr g (fun k e1 e2 => k5.notMap k4 (e1.trans e2.symm))
  · intro q e
    by_cases hq : q = p
    · subst hq
      rw [updF_same] at e
      cases e
    · rw [updF_other _ _ hq] at e
      show updF s.ks p row' q = []
      rw [updF_other _ _ hq]
      exact h5.none_ q e
  · have aux : ∀ q v k, q ≠ p → V q = some v → v.ownBlock = some k → v'.ownBlock = some k → False := by
      intro q v k hq e hk hk'
      rcases ho with ho | ⟨k2, ho, hlt⟩
      · exact hd q v hq e k hk (ho ▸ hk')
      · rw [hk'] at ho
        injection ho with ho
        have := (h5.row q v e).lt hk
        omega
    intro q r v v2 k e1 e2 hk1 hk2
    by_cases hq : q = p <;> by_cases hr : r = p
    · exact hq.trans hr.symm
    · subst hq
      rw [updF_same] at e1
      rw [updF_other _ _ hr] at e2
      have e1 := Option.some.inj e1
      subst e1
      exact (aux r v2 k hr e2 hk2 hk1).elim
    · subst hr
      rw [updF_same] at e2
      rw [updF_other _ _ hq] at e1
      have e2 := Option.some.inj e2
      subst e2
      exact (aux q v k hq e1 hk1 hk2).elim
    · rw [updF_other _ _ hq] at e1
      rw [updF_other _ _ hr] at e2
      exact h5.apart q r v v2 k e1 e2 hk1 hk2
  · refine (f.mono hown).trans (g.mono fun k e => (?_ : X k)) fun k _ e => e
    exact (hX k).2 (.inr (.inr (.inl (Option.some.inj e).symm)))
  · rintro k (e | e | e | e | ⟨q, v, e, e2⟩)
    · exact .inl ((hX k).2 (.inl e))
    · exact .inl ((hX k).2 (.inr (.inl e)))
    · exact .inl ((hX k).2 (.inr (.inr (.inl e))))
    · exact .inl ((hX k).2 (.inr (.inr (.inr (.inl e)))))
    · by_cases hq : q = p
      · subst hq
        rw [updF_same] at e
        have e := Option.some.inj e
        subst e
        rcases ho with ho | ⟨k2, ho, hlt⟩
        · exact .inl (hown k (ho ▸ e2))
        · rw [e2] at ho
          injection ho with ho
          exact .inr (by omega)
      · rw [updF_other _ _ hq] at e
        exact .inl ((hX k).2 (.inr (.inr (.inr (.inr ⟨q, v, e, e2⟩)))))
/-- A row of kids gone, when it is empty. -/
theorem TrC.del_kids {W : World} {t u : Nat} {X : Nat → Prop} {l : List DoV} {s : TkV} {lv : Value} {mt mk n1 n2 : Nat} {V : Nat → Option Value} (h : TrC W t X l s u lv mt mk n1 n2 V) {p : Nat} (hp : p < 18446744073709551616) (he : s.ks p = []) (ty : TypeId) :
    ∃ W2 n2' X', (Builtin.delete_ #[101, 22] ty #[.map (some mk), .int .u64 (p : Int)]).run Try.prog W = .ok (.tuple #[]) W2 ∧ TrC W2 t X' l s u lv mt mk n1 n2' (updF V p none) ∧ Fr X W W2 ∧ ∀ k, X' k → X k := by
  obtain ⟨h1, h2, h3, h4, h5, h6, hX⟩ := h
  obtain ⟨z, hz⟩ := u64_key hp
  obtain ⟨W2, n', hr, hm, hg⟩ := h4.del (ty := ty) u64_keyed Try.underlying101 hz
  have f := fr_of_grown' hg
  have hsome : ∀ q v, updF V p none q = some v → V q = some v := by
    intro q v e
    by_cases hq : q = p
    · subst hq
      rw [updF_same] at e
      cases e
    · rw [updF_other _ _ hq] at e
      exact e
  refine ⟨W2, n', fun k => k = t ∨ k = mt ∨ k = mk ∨ lv.ownBlock = some k ∨ ∃ q v, updF V p none q = some v ∧ v.ownBlock = some k, hr,
    ⟨h1.fr f (fun e => h4.notOwn h1 (Option.some.inj e).symm), h2.fr f (fun k e e2 => h2.notMap h4 (e.trans e2.symm)), h3.fr f (fun e => h6 (Option.some.inj e).symm), hm.congr fun y => by rw [keyM_del], ⟨?_, ?_, ?_⟩, h6, fun k => Iff.rfl⟩, f.mono fun k e => (hX k).2 (.inr (.inr (.inl (Option.some.inj e).symm))), ?_⟩
  · intro q v e
    have e' := hsome q v e
    exact (h5.row q v e').fr f (fun k e1 e2 => (h5.row q v e').notMap h4 (e1.trans e2.symm))
  · intro q e
    by_cases hq : q = p
    · rw [hq]; exact he
    · rw [updF_other _ _ hq] at e
      exact h5.none_ q e
  · intro q r v v2 k e1 e2
    exact h5.apart q r v v2 k (hsome q v e1) (hsome r v2 e2)
  · rintro k (e | e | e | e | ⟨q, v, e, e2⟩)
    · exact (hX k).2 (.inl e)
    · exact (hX k).2 (.inr (.inl e))
    · exact (hX k).2 (.inr (.inr (.inl e)))
    · exact (hX k).2 (.inr (.inr (.inr (.inl e))))
    · exact (hX k).2 (.inr (.inr (.inr (.inr ⟨q, v, hsome q v e, e2⟩))))
end Go.Proofs.Ytedfgbkaijjaeaa
