/- A network of the call's own; what its functions do. -/
import Derived.Test.YtleagdnlgjpcgaaNetRow
import Derived.Lib.Hide
namespace Go.Proofs.Ytleagdnlgjpcgaa
open Go.RowKit Go.Maps
set_option linter.unusedVariables false
set_option linter.unusedSimpArgs false

abbrev wayV (a b : Int) : Value := .agg #[.int .i64 a, .int .i64 b]
open Classical in
noncomputable def wayM (C : List (Int × Int)) : Value → Option Value := fun v => if ∃ p ∈ C, v = wayV p.1 p.2 then some (.bool true) else none
theorem wayM_nil (v : Value) : wayM [] v = none := by simp [wayM]
theorem wayM_upd (C : List (Int × Int)) (a b : Int) (v : Value) : mUpd (wayM C) (wayV a b) (.bool true) v = wayM ((a, b) :: C) v := by
  unfold mUpd wayM
  by_cases h : v = wayV a b
  · simp [h]
  · have e : (∃ p, p ∈ (a, b) :: C ∧ v = wayV p.fst p.snd) ↔ ∃ p, p ∈ C ∧ v = wayV p.fst p.snd := by
      constructor
      · rintro ⟨p, hp, e⟩
        rcases List.mem_cons.1 hp with rfl | hp
        · exact absurd e h
        · exact ⟨p, hp, e⟩
      · rintro ⟨p, hp, e⟩
        exact ⟨p, List.mem_cons_of_mem _ hp, e⟩
    rw [if_neg h]
    by_cases hh : ∃ p, p ∈ C ∧ v = wayV p.fst p.snd
    · rw [if_pos hh, if_pos (e.2 hh)]
    · rw [if_neg hh, if_neg fun x => hh (e.1 x)]
theorem wayM_get (C : List (Int × Int)) (a b : Int) : (wayM C (wayV a b)).getD (.bool false) = .bool (decide ((a, b) ∈ C)) := by
  unfold wayM
  by_cases h : (a, b) ∈ C
  · rw [if_pos ⟨_, h, rfl⟩]; simp [h]
  · rw [if_neg]
    · rw [decide_eq_false h]; rfl
    · rintro ⟨p, hp, e⟩
      have : p = (a, b) := by
        simp only [wayV, Value.agg.injEq] at e
        simp at e
        exact Prod.ext e.1.symm e.2.symm
      exact h (this ▸ hp)
theorem laidOut : laidOutB Try.prog = true := by kernel_rfl
theorem way_row : (57 : TypeId) < Try.prog.types.size := of_decide_eq_true (by kernel_rfl)
theorem way_wide : (match Try.prog.underlying 57 with | some (.array _ _) | some (.struct _) => true | _ => false) = true := by kernel_rfl
theorem way_law : Go.WideMaps.KeyLaw Try.prog 57 := deep_law_laid laidOut (m := 2) (by omega) way_row (by kernel_rfl) way_wide
theorem way_keyed : Keyed Try.prog 57 := Keyed.of_law way_law
theorem way_key {a b : Int} (ha : (Lit.int .i64 a).wf = true) (hb : (Lit.int .i64 b).wf = true) : ∃ z, keyOf Try.prog 57 (wayV a b) = some z := by
  have cw : Try.prog.cellsOf 57 = 2 := by kernel_rfl
  have ci : Try.prog.cellsOf 3 = 1 := by kernel_rfl
  have hk : Try.prog.keyType 57 = true := by kernel_rfl
  obtain ⟨N, hN⟩ : ∃ N, Try.prog.types.size = N + 1 := ⟨Try.prog.types.size - 1, by have : (0 : Nat) < Try.prog.types.size := of_decide_eq_true (by kernel_rfl); omega⟩
  have i9 : ∀ x : Int, (Lit.int .i64 x).wf = true → Try.prog.keyLits (N + 1) 3 [.int .i64 x] = some [.int .i64 x] := fun x hx => by
    unfold Program.keyLits; rw [Try.underlying3]; (try simp [hx])
  unfold keyOf
  rw [Try.underlying57, hN]
  have hl : Try.prog.keyLits (N + 1 + 1) 57 (wayV a b).cells.toList = some [.int .i64 a, .int .i64 b] := by
    unfold Program.keyLits
    rw [Try.underlying57]
    simp [cw, ci, i9 _ ha, i9 _ hb, Value.cells]
  simp [hk, hl, Value.formed, Try.underlying57, cw]

theorem own5 {w : World} {b : Nat} {t : TypeId} {u0 u1 u2 u3 u4 : Value} (h : Own w b t #[u0, u1, u2, u3, u4]) :
    (w.cell? ⟨b, 0, none⟩ = some u0 ∧ w.cell? ⟨b, 1, none⟩ = some u1 ∧ w.cell? ⟨b, 2, none⟩ = some u2 ∧ w.cell? ⟨b, 3, none⟩ = some u3 ∧ w.cell? ⟨b, 4, none⟩ = some u4) ∧
    w.frozen? ⟨b, 0, none⟩ = false ∧ w.frozen? ⟨b, 1, none⟩ = false ∧ w.frozen? ⟨b, 2, none⟩ = false ∧ w.frozen? ⟨b, 3, none⟩ = false ∧ w.frozen? ⟨b, 4, none⟩ = false :=
  ⟨⟨h.cell 0, h.cell 1, h.cell 2, h.cell 3, h.cell 4⟩, h.free 0, h.free 1, h.free 2, h.free 3, h.free 4⟩
theorem own3c {w : World} {b : Nat} {t : TypeId} {u0 u1 u2 : Value} (h : Own w b t #[u0, u1, u2]) :
    (w.cell? ⟨b, 0, none⟩ = some u0 ∧ w.cell? ⟨b, 1, none⟩ = some u1 ∧ w.cell? ⟨b, 2, none⟩ = some u2) ∧
    w.frozen? ⟨b, 0, none⟩ = false ∧ w.frozen? ⟨b, 1, none⟩ = false ∧ w.frozen? ⟨b, 2, none⟩ = false :=
  ⟨⟨h.cell 0, h.cell 1, h.cell 2⟩, h.free 0, h.free 1, h.free 2⟩
structure NetV where
  l : List Pkt
  w : List Pkt
  c : List (Int × Int)
  sent : Nat
  lost : Nat
/-- Block n is a network of the call's own that holds s; X: its blocks. -/
def NetB (W : World) (n : Nat) (X : Nat → Prop) (s : NetV) : Prop :=
  ∃ lv wv m z, Own W n 55 #[lv, wv, .map (some m), .int .i64 s.sent, .int .i64 s.lost] ∧ PkL W lv s.l ∧ PkL W wv s.w ∧ MapF Try.prog 57 W m z (wayM s.c) ∧
    (∀ k, lv.ownBlock = some k → wv.ownBlock ≠ some k) ∧ ∀ k, X k ↔ k = n ∨ k = m ∨ lv.ownBlock = some k ∨ wv.ownBlock = some k
theorem NetB.fr {W W' : World} {n : Nat} {X G : Nat → Prop} {s : NetV} (h : NetB W n X s) (f : Fr G W W') (hG : ∀ k, X k → ¬ G k) : NetB W' n X s := by
  obtain ⟨lv, wv, m, z, h1, h2, h3, h4, h5, h6⟩ := h
  exact ⟨lv, wv, m, z, h1.fr f (hG _ ((h6 _).2 (.inl rfl))), h2.fr f fun k hk => hG _ ((h6 _).2 (.inr (.inr (.inl hk)))), h3.fr f fun k hk => hG _ ((h6 _).2 (.inr (.inr (.inr hk)))), h4.fr f (hG _ ((h6 _).2 (.inr (.inl rfl)))), h5, h6⟩
theorem NetB.new_ {W W' : World} {n : Nat} {X : Nat → Prop} {s : NetV} (h : NetB W n X s) (f : New W W') : NetB W' n X s := h.fr f fun _ _ g => g
theorem NetB.lt {W : World} {n : Nat} {X : Nat → Prop} {s : NetV} (h : NetB W n X s) {k : Nat} (hk : X k) : k < W.heap.size := by
  obtain ⟨lv, wv, m, z, h1, h2, h3, h4, h5, h6⟩ := h
  rcases (h6 k).1 hk with rfl | rfl | hk | hk
  · exact h1.lt
  · exact h4.lt
  · exact h2.lt hk
  · exact h3.lt hk
set_option maxHeartbeats 4000000 in
/-- A new network. -/
theorem new_any {w : World} : Calls Try.prog 7 #[] w fun e W => ∃ n X, e = .returned (.pointer (some ⟨n, 0, none⟩)) ∧ NetB W n X ⟨[], [], [], 0, 0⟩ ∧ New w W ∧ ∀ k, X k → w.heap.size ≤ k := by
  have hmm := @run_makeMap Try.prog
  go_enter Try.func7, Try.ntmps7
  go_wp2
  go_ret
  refine ⟨w.heap.size + 1, fun k => k = w.heap.size + 1 ∨ k = w.heap.size, by simp, ⟨.slice none 0 0, .slice none 0 0, w.heap.size, 0, Own.new' (by simp), PkL.nil _, PkL.nil _, ?_, ?_, ?_⟩, ((Fr.refl _ _).alloc _).alloc _, ?_⟩
  · exact ((MapF.made w _ _).congr fun x => (wayM_nil x).symm).fr ((Fr.refl _ _).alloc _) (G := fun _ => False) (fun h => h)
  · intro k hk; cases hk
  · intro k; simp [Value.ownBlock]
  · intro k hk; omega
set_option maxHeartbeats 4000000 in
theorem between_any {w : World} {a b : Int} : Calls Try.prog 23 #[.int .i64 a, .int .i64 b] w fun e W => e = .returned (wayV (min a b) (max a b)) ∧ New w W := by
  go_enter Try.func23, Try.ntmps23
  go_wp2
  all_goals (
    refine bodyPost_ret (v := wayV (min a b) (max a b)) ?_ rfl ⟨rfl, ?_⟩
    · first
        | (have e : a = b := by omega
           subst e
           rw [Int.min_self, Int.max_self]
           simp [results, Try.results23, go_sem, *])
        | (rw [Int.min_eq_left (by omega), Int.max_eq_right (by omega)]
           simp [results, Try.results23, go_sem, *])
        | (rw [Int.min_eq_right (by omega), Int.max_eq_left (by omega)]
           simp [results, Try.results23, go_sem, *])
    · exact (Fr.refl _ _).alloc _)
set_option maxHeartbeats 4000000 in
theorem len_any {w : World} {n : Nat} {X : Nat → Prop} {s : NetV} (h : NetB w n X s) : Calls Try.prog 10 #[.pointer (some ⟨n, 0, none⟩)] w fun e W => e = .returned (.int .i64 s.l.length) ∧ W = w := by
  obtain ⟨lv, wv, m, z, h1, h2, h3, h4, h5, h6⟩ := h
  obtain ⟨A, cap, rfl⟩ := h2.form
  obtain ⟨⟨c0, c1, c2, c3, c4⟩, f0, f1, f2, f3, f4⟩ := own5 h1
  clear h1 h2 h3 h4 h5 h6
  go_enter Try.func10, Try.ntmps10
  go_wp2
  go_ret
  exact ⟨rfl, rfl⟩
theorem len_none {w : World} : Calls Try.prog 10 #[.pointer none] w fun e W => e = .returned (.int .i64 0) ∧ W = w := by
  go_enter Try.func10, Try.ntmps10
  go_wp2
  go_ret
  exact ⟨rfl, rfl⟩
set_option maxHeartbeats 4000000 in
theorem waits_any {w : World} {n : Nat} {X : Nat → Prop} {s : NetV} (h : NetB w n X s) : Calls Try.prog 13 #[.pointer (some ⟨n, 0, none⟩)] w fun e W => e = .returned (.int .i64 s.w.length) ∧ W = w := by
  obtain ⟨lv, wv, m, z, h1, h2, h3, h4, h5, h6⟩ := h
  obtain ⟨A, cap, rfl⟩ := h3.form
  obtain ⟨⟨c0, c1, c2, c3, c4⟩, f0, f1, f2, f3, f4⟩ := own5 h1
  clear h1 h2 h3 h4 h5 h6
  go_enter Try.func13, Try.ntmps13
  go_wp2
  go_ret
  exact ⟨rfl, rfl⟩
theorem waits_none {w : World} : Calls Try.prog 13 #[.pointer none] w fun e W => e = .returned (.int .i64 0) ∧ W = w := by
  go_enter Try.func13, Try.ntmps13
  go_wp2
  go_ret
  exact ⟨rfl, rfl⟩
set_option maxHeartbeats 4000000 in
theorem counts_any {w : World} {n : Nat} {X : Nat → Prop} {s : NetV} (h : NetB w n X s) : Calls Try.prog 16 #[.pointer (some ⟨n, 0, none⟩)] w fun e W => e = .returned (.tuple #[.int .i64 s.sent, .int .i64 s.lost]) ∧ New w W := by
  obtain ⟨lv, wv, m, z, h1, h2, h3, h4, h5, h6⟩ := h
  obtain ⟨⟨c0, c1, c2, c3, c4⟩, f0, f1, f2, f3, f4⟩ := own5 h1
  clear h2 h3 h4 h5 h6
  go_enter Try.func16, Try.ntmps16
  go_wp2
  go_region
  go_wp2
  exact bodyPost_ret (v := .tuple #[.int .i64 s.sent, .int .i64 s.lost]) (by simp [results, Try.results16, go_sem, *]) rfl ⟨rfl, (Fr.refl _ _).drew⟩
theorem counts_none {w : World} : Calls Try.prog 16 #[.pointer none] w fun e W => e = .returned (.tuple #[.int .i64 0, .int .i64 0]) ∧ New w W := by
  go_enter Try.func16, Try.ntmps16
  go_wp2
  exact bodyPost_ret (v := .tuple #[.int .i64 0, .int .i64 0]) (by simp [results, Try.results16, go_sem, *]) rfl ⟨rfl, Fr.refl _ _⟩
theorem netB_of {w W : World} {n m z : Nat} {X : Nat → Prop} {s : NetV} {lv wv v' wv' : Value}
    (q1 : Own W n 55 #[v', wv', .map (some m), .int .i64 s.sent, .int .i64 s.lost]) (q2 : PkL W v' s.l) (q3 : PkL W wv' s.w) (q4 : MapF Try.prog 57 W m z (wayM s.c))
    (h5 : ∀ k, lv.ownBlock = some k → wv.ownBlock ≠ some k) (h6 : ∀ k, X k ↔ k = n ∨ k = m ∨ lv.ownBlock = some k ∨ wv.ownBlock = some k)
    (hx : ∀ k, X k → k < w.heap.size) (h5' : ∀ k, v'.ownBlock = some k → wv'.ownBlock ≠ some k)
    (o1 : ∀ k, v'.ownBlock = some k → X k ∨ w.heap.size ≤ k) (o2 : ∀ k, wv'.ownBlock = some k → X k ∨ w.heap.size ≤ k) (f : Fr X w W) :
    ∃ X', NetB W n X' s ∧ Fr X w W ∧ ∀ k, X' k → X k ∨ w.heap.size ≤ k := by
  refine ⟨fun k => k = n ∨ k = m ∨ v'.ownBlock = some k ∨ wv'.ownBlock = some k, ⟨v', wv', m, z, q1, q2, q3, q4, h5', fun k => Iff.rfl⟩, f, ?_⟩
  rintro k (e | e | e | e)
  · exact .inl ((h6 k).2 (.inl e))
  · exact .inl ((h6 k).2 (.inr (.inl e)))
  · exact o1 k e
  · exact o2 k e
theorem del0 {w : World} {v : Value} {l : List Pkt} (h : PkL w v l) (hi : 0 < l.length) (hl : l.length ≤ 100000) :
    Calls Try.prog 25 #[v, .int .i64 0, .int .i64 1] w fun e W => ∃ v', e = .returned v' ∧ PkL W v' (l.drop 1) ∧ v'.ownBlock = v.ownBlock ∧ Fr (fun k => v.ownBlock = some k) w W := by
  have := del_any h hi hl
  simpa using this
def NetV.push (s : NetV) (p : Pkt) : NetV := if s.l.length < 4096 then { s with l := s.l ++ [p] } else { s with l := (s.l ++ [p]).drop 1, lost := s.lost + 1 }
set_option maxHeartbeats 4000000 in
theorem push_any {w : World} {n : Nat} {X : Nat → Prop} {s : NetV} {p : Pkt} (h : NetB w n X s) (hl : s.l.length ≤ 4096) (hs : s.lost ≤ 1000000) :
    Calls Try.prog 24 #[.pointer (some ⟨n, 0, none⟩), p.v] w fun e W => e = .returned (.tuple #[]) ∧ ∃ X', NetB W n X' (s.push p) ∧ Fr X w W ∧ ∀ k, X' k → X k ∨ w.heap.size ≤ k := by
  obtain ⟨lv, wv, m, z, h1, h2, h3, h4, h5, h6⟩ := h
  have hnm : n ≠ m := fun e => by subst e; obtain ⟨es, ck, hb, _⟩ := h4; rw [show w.heap[n]? = _ from h1] at hb; cases hb
  have hnl : ∀ k, lv.ownBlock = some k → k ≠ n := fun k hk e => by subst e; obtain ⟨cur, hb⟩ := h2.row hk; rw [show w.heap[k]? = _ from h1] at hb; cases hb
  have hnw : ∀ k, wv.ownBlock = some k → k ≠ n := fun k hk e => by subst e; obtain ⟨cur, hb⟩ := h3.row hk; rw [show w.heap[k]? = _ from h1] at hb; cases hb
  have hml : ∀ k, lv.ownBlock = some k → k ≠ m := fun k hk e => by subst e; obtain ⟨cur, hb⟩ := h2.row hk; obtain ⟨es, ck, hb2, _⟩ := h4; rw [hb] at hb2; cases hb2
  have hmw : ∀ k, wv.ownBlock = some k → k ≠ m := fun k hk e => by subst e; obtain ⟨cur, hb⟩ := h3.row hk; obtain ⟨es, ck, hb2, _⟩ := h4; rw [hb] at hb2; cases hb2
  obtain ⟨A, cap, hlv⟩ := h2.form
  have hxlt : ∀ k, X k → k < w.heap.size := fun k hk => NetB.lt ⟨lv, wv, m, z, h1, h2, h3, h4, h5, h6⟩ hk
  go_enter Try.func24, Try.ntmps24
  go_wp2_with fail
  refine wp_world (fun W1 => Own W1 n 55 #[lv, wv, .map (some m), .int .i64 s.sent, .int .i64 s.lost] ∧ PkL W1 lv s.l ∧ PkL W1 wv s.w ∧ MapF Try.prog 57 W1 m z (wayM s.c) ∧ Own W1 w.heap.size 26 #[.int .i64 p.f, .int .i64 p.t, .string p.s] ∧ New w W1)
    ⟨h1.alloc _, h2.fr ((Fr.refl _ _).alloc _) (G := fun _ => False) (fun _ _ g => g), h3.fr ((Fr.refl _ _).alloc _) (G := fun _ => False) (fun _ _ g => g), h4.fr ((Fr.refl _ _).alloc _) (G := fun _ => False) (fun g => g), Own.fresh _ _ _, (Fr.refl _ _).alloc _⟩ ?_
  clear h1 h2 h3 h4
  rintro W1 ⟨h1, h2, h3, h4, hb, hN⟩
  obtain ⟨⟨c0, c1, c2, c3, c4⟩, f0, f1, f2, f3, f4⟩ := own5 h1
  obtain ⟨⟨d0, d1, d2⟩, -⟩ := own3c hb
  obtain ⟨v', W3, hr, p3, g3, o3⟩ := append_pk (W := W1.drew.alloc (.cells #[.int .i64 p.f, .int .i64 p.t, .string p.s] 26)) (blk := W1.heap.size) (v := lv) (l := s.l) (p := p)
    (h2.fr (((Fr.refl _ _).drew).alloc _) (G := fun _ => False) (fun _ _ g => g)) (by omega) (Own.new' (by simp))
  obtain ⟨A', cap', hv'⟩ := p3.form
  rw [show (s.l ++ [p]).length = s.l.length + 1 by simp] at hv'
  subst hv'
  have g3' : Fr (fun k => lv.ownBlock = some k) W1 W3 := (((Fr.refl _ _).drew).alloc _).trans g3 fun _ _ h => h
  have k1 := h1.fr g3' (fun e => hnl _ e rfl)
  obtain ⟨⟨x0, x1, x2, x3, x4⟩, y0, y1, y2, y3, y4⟩ := own5 k1
  have hlt := h1.lt
  have hlb := hb.lt
  clear h1 hb
  subst hlv
  have H := Lib.hid (And.intro h5 (And.intro h6 (And.intro hnl (And.intro hml (And.intro o3 (And.intro p3 (And.intro k1 (And.intro g3' (And.intro h2 (And.intro h3 h4))))))))))
  clear h5 h6 hnl hml o3 p3 k1 g3' g3 h2 h3 h4
  go_region_law (first | (refine step_append_run rfl (.tmp 8) (.tmp 10) 22 rfl ?ev1 ?ev2 hr ?_; (case ev1 => simp [Act.eval, Act.put]); (case ev2 => simp [Act.eval, Act.put])))
  all_goals (
    obtain ⟨h5, h6, hnl, hml, o3, p3, k1, g3', h2, h3, h4⟩ := H.out
    clear H
    rename_i ha
    refine ha _ _ ?_
    clear ha
    refine wp_world (fun W4 => Own W4 n 55 #[.slice A' (s.l.length + 1) cap', wv, .map (some m), .int .i64 s.sent, .int .i64 s.lost] ∧ PkL W4 (.slice A' (s.l.length + 1) cap') (s.l ++ [p]) ∧ PkL W4 wv s.w ∧ MapF Try.prog 57 W4 m z (wayM s.c) ∧ Fr (fun k => k = n ∨ (Value.slice A s.l.length cap).ownBlock = some k) w W4) ?_ ?_
    · refine ⟨k1.put rfl, ?_, ?_, ?_, ?_⟩
      · refine p3.fr ((Fr.refl (fun k => k = n) _).set (fun _ => rfl) _) ?_
        intro k hk e
        subst e
        obtain ⟨cur, hb⟩ := p3.row hk
        rw [show W3.heap[k]? = _ from k1] at hb
        cases hb
      · refine h3.fr ((g3'.mono (G := fun k => k = n ∨ (Value.slice A s.l.length cap).ownBlock = some k) fun _ h => .inr h).set (fun _ => .inl rfl) _) ?_
        rintro k hk (e | e)
        · exact hnw k hk e
        · exact h5 k e hk
      · refine h4.fr ((g3'.mono (G := fun k => k = n ∨ (Value.slice A s.l.length cap).ownBlock = some k) fun _ h => .inr h).set (fun _ => .inl rfl) _) ?_
        rintro (e | e)
        · exact hnm e.symm
        · exact hml m e rfl
      · exact (Fr.trans (hN.mono (G := fun k => k = n ∨ (Value.slice A s.l.length cap).ownBlock = some k) fun _ h => h.elim) g3' fun _ _ h => .inr h).set (fun _ => .inl rfl) _
    have hfar : (Value.slice A' (s.l.length + 1) cap').ownBlock = (Value.slice A s.l.length cap).ownBlock ∨ ∃ k, (Value.slice A' (s.l.length + 1) cap').ownBlock = some k ∧ w.heap.size ≤ k := by
      rcases o3 with e | ⟨k, e, hk⟩
      · exact .inl e
      · refine .inr ⟨k, e, Nat.le_trans (hN.size) (Nat.le_trans (by simp) hk)⟩
    clear x0 x1 x2 x3 x4 y0 y1 y2 y3 y4 k1 g3' p3 hr d0 d1 d2 c0 c1 c2 c3 c4 f0 f1 f2 f3 f4 h2 h3 h4 hN o3
    rintro W4 ⟨q1, q2, q3, q4, q5⟩
    obtain ⟨⟨c0, c1, c2, c3, c4⟩, f0, f1, f2, f3, f4⟩ := own5 q1
    have hcase : s.l.length < 4096 ∨ s.l.length = 4096 := by omega
    rcases hcase with hc | hc
    · have hgt : ¬ ((4096 : Int) < (s.l.length : Int) + 1) := by omega
      have H2 := Lib.hid (netB_of (w := w) (s := { s with l := s.l ++ [p] }) q1 q2 q3 q4 h5 h6 hxlt ?hd ?ho1 (fun k hk => .inl ((h6 k).2 (.inr (.inr (.inr hk))))) (q5.mono ?hf))
      case hd =>
        intro k hk e
        rcases hfar with e2 | ⟨k2, e2, hk2⟩
        · exact h5 k (e2 ▸ hk) e
        · rw [hk] at e2
          have := hxlt k ((h6 k).2 (.inr (.inr (.inr e))))
          cases e2
          omega
      case ho1 =>
        intro k hk
        rcases hfar with e2 | ⟨k2, e2, hk2⟩
        · exact .inl ((h6 k).2 (.inr (.inr (.inl (e2 ▸ hk)))))
        · rw [hk] at e2
          cases e2
          exact .inr hk2
      case hf =>
        rintro k (e | e)
        · exact (h6 k).2 (.inl e)
        · exact (h6 k).2 (.inr (.inr (.inl e)))
      clear q1 q2 q3 q4 q5 h5 h6 hnl hml hfar
      go_wp2_with fail
      go_end0
      refine ⟨rfl, ?_⟩
      rw [show s.push p = { s with l := s.l ++ [p] } from if_pos hc]
      exact H2.out
    · have hgt : (4096 : Int) < (s.l.length : Int) + 1 := by omega
      have HC := Lib.hid hc
      clear hc
      have HD := Lib.hid (del0 (w := W4) q2 (by simp) (by simp; omega))
      have H := Lib.hid (And.intro h5 (And.intro h6 (And.intro hnl (And.intro hml (And.intro hfar (And.intro q1 (And.intro q2 (And.intro q3 (And.intro q4 q5)))))))))
      clear h5 h6 hnl hml hfar q1 q2 q3 q4 q5
      go_wp2_with fail
      refine HD.out.mono ?_
      rintro e W5 ⟨v5, rfl, r2, r3, r4⟩
      obtain ⟨h5, h6, hnl, hml, hfar, q1, q2, q3, q4, q5⟩ := H.out
      clear H HD c0 c1 c2 c3 c4 f0 f1 f2 f3 f4
      obtain ⟨A5, cap5, rfl⟩ := r2.form
      have hnv : ∀ k, (Value.slice A' (s.l.length + 1) cap').ownBlock = some k → k ≠ n ∧ k ≠ m ∧ wv.ownBlock ≠ some k := by
        intro k hk
        rcases hfar with e2 | ⟨k2, e2, hk2⟩
        · rw [e2] at hk
          exact ⟨hnl k hk, hml k hk, h5 k hk⟩
        · rw [hk] at e2
          cases e2
          refine ⟨fun e => ?_, fun e => ?_, fun e => ?_⟩
          · have := hxlt n ((h6 n).2 (.inl rfl)); omega
          · have := hxlt m ((h6 m).2 (.inr (.inl rfl))); omega
          · have := hxlt k ((h6 k).2 (.inr (.inr (.inr e)))); omega
      have e1 := q1.fr r4 fun h => (hnv n h).1 rfl
      have e3 := q3.fr r4 fun k hk h => (hnv k h).2.2 hk
      have e4 := q4.fr r4 fun h => (hnv m h).2.1 rfl
      obtain ⟨⟨c0, c1, c2, c3, c4⟩, f0, f1, f2, f3, f4⟩ := own5 e1
      have H := Lib.hid (And.intro h5 (And.intro h6 (And.intro hnv (And.intro e1 (And.intro e3 (And.intro e4 (And.intro hfar (And.intro q5 (And.intro r2 (And.intro r3 r4))))))))))
      clear h5 h6 hnl hml hfar q1 q2 q3 q4 q5 hnv e1 e3 e4 r2 r3 r4
      go_wp2_with fail
      obtain ⟨h5, h6, hnv, e1, e3, e4, hfar, q5, r2, r3, r4⟩ := H.out
      have HC' := HC.out
      go_end0
      refine ⟨rfl, ?_⟩
      rw [show s.push p = { s with l := (s.l ++ [p]).drop 1, lost := s.lost + 1 } from if_neg (by omega)]
      have g5 : Fr (fun k => k = n ∨ (Value.slice A' (s.l.length + 1) cap').ownBlock = some k) W5 ((W5.setCell ⟨n, 0, none⟩ (.slice A5 s.l.length cap5)).setCell ⟨n, 4, none⟩ (.int .i64 ((s.lost : Int) + 1))) := ((Fr.refl _ _).set (fun _ => .inl rfl) _).set (fun _ => .inl rfl) _
      have hown5 : (Value.slice A5 s.l.length cap5).ownBlock = (Value.slice A' (s.l.length + 1) cap').ownBlock := by
        rw [← r3, show ((s.l ++ [p]).drop 1).length = s.l.length by simp]
      rw [show ((s.l ++ [p]).drop 1).length = s.l.length by simp] at r2
      refine netB_of (z := z) (w := w) (s := { s with l := (s.l ++ [p]).drop 1, lost := s.lost + 1 }) (v' := .slice A5 s.l.length cap5) ?_ ?_ ?_ ?_ h5 h6 hxlt ?_ ?_ (fun k hk => .inl ((h6 k).2 (.inr (.inr (.inr hk))))) ?_
      · exact (e1.put rfl).put rfl
      · refine r2.fr (((Fr.refl (fun k => k = n) _).set (fun _ => rfl) _).set (fun _ => rfl) _) fun k hk e => ?_
        rw [hown5] at hk
        exact (hnv k hk).1 e
      · refine e3.fr g5 ?_
        rintro k hk (e | e)
        · exact hnw k hk e
        · exact (hnv k e).2.2 hk
      · refine e4.fr g5 ?_
        rintro (e | e)
        · exact hnm e.symm
        · exact (hnv m e).2.1 rfl
      · intro k hk
        rw [hown5] at hk
        exact (hnv k hk).2.2
      · intro k hk
        rw [hown5] at hk
        rcases hfar with e2 | ⟨k2, e2, hk2⟩
        · exact .inl ((h6 k).2 (.inr (.inr (.inl (e2 ▸ hk)))))
        · rw [hk] at e2
          cases e2
          exact .inr hk2
      · have f5 : Fr X w W4 := q5.mono (by
          rintro k (e | e)
          · exact (h6 k).2 (.inl e)
          · exact (h6 k).2 (.inr (.inr (.inl e))))
        have hX : ∀ k, k < w.heap.size → (Value.slice A' (s.l.length + 1) cap').ownBlock = some k → X k := by
          intro k hk e
          rcases hfar with e2 | ⟨k2, e2, hk2⟩
          · exact (h6 k).2 (.inr (.inr (.inl (e2 ▸ e))))
          · rw [e] at e2
            cases e2
            omega
        refine (f5.trans r4 hX).trans g5 ?_
        rintro k hk (e | e)
        · exact (h6 k).2 (.inl e)
        · exact hX k hk e)
end Go.Proofs.Ytleagdnlgjpcgaa
