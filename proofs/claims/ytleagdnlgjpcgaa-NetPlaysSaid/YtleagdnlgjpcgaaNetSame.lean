/- Has a network just what the model has? -/
import Derived.Test.YtleagdnlgjpcgaaNetDoG
namespace Go.Proofs.Ytleagdnlgjpcgaa
open Go.RowKit Go.Maps Go.Shelf
set_option linter.unusedVariables false
set_option linter.unusedSimpArgs false
attribute [local go_sem] Oper.semAt_some

theorem bl_loop (bs : ByteArray) : ∀ (n i : Nat) (r : List UInt8), bs.size - i = n → ByteArray.toList.loop bs i r = r.reverse ++ bs.data.toList.drop i
  | 0, i, r, h => by
    unfold ByteArray.toList.loop
    have h2 : ¬ i < bs.size := by omega
    rw [if_neg h2, List.drop_eq_nil_of_le (by rw [Array.length_toList]; show bs.size ≤ i; omega), List.append_nil]
  | n + 1, i, r, h => by
    unfold ByteArray.toList.loop
    have h2 : i < bs.size := by omega
    rw [if_pos h2, bl_loop bs n (i + 1) _ (by omega), List.reverse_cons, List.append_assoc]
    congr 1
    have h3 : i < bs.data.toList.length := by rw [Array.length_toList]; exact h2
    rw [List.drop_eq_getElem_cons h3]
    simp [ByteArray.get!, getElem!_pos bs.data i h2]
theorem bl_inj {a b : ByteArray} (h : a.toList = b.toList) : a = b := by
  unfold ByteArray.toList at h
  rw [bl_loop a _ 0 _ rfl, bl_loop b _ 0 _ rfl] at h
  cases a; cases b
  simpa using h
/-- What the loop of same keeps. -/
def SameI (w : World) (X : Nat → Prop) (n bT B : Nat) (mv : Value) (cs : Array Value) (s : NetV) (pre : List (Nat × Pkt)) (W : World) : Prop :=
  pre = pairs s.l pre.length ∧ NetB W n X s ∧ ModB W (fun k => X k ∨ w.heap.size ≤ k) mv s ∧ Own W w.heap.size 43 cs ∧ Own W (w.heap.size + 1) 4 #[.bool false] ∧ Own W bT 3 #[.int .i64 (pre.length : Int)] ∧ New w W
theorem SameI.grown {w : World} {X : Nat → Prop} {n bT B : Nat} {mv : Value} {cs : Array Value} {s : NetV} (hB : w.heap.size + 1 < B) (hT : bT < B) (hX : ∀ k, X k → k < B) : OwnFrom B (SameI w X n bT B mv cs s) := by
  intro pre W W' row h hg hr
  obtain ⟨h1, h2, h3, h4, h5, h6, h7⟩ := h
  have f := fr_of_grown' hg
  exact ⟨h1, h2.fr f (fun k hk e => by have := (hr _ e).1; have := hX k hk; omega), h3.fr f (fun k e => .inr (by have := (hr _ e).1; omega)) (fun _ h => .inl h), h4.fr f (fun e => by have := (hr _ e).1; omega), h5.fr f (fun e => by have := (hr _ e).1; omega), h6.fr f (fun e => by have := (hr _ e).1; omega), h7.trans f fun i hi e => by have := (hr _ e).1; omega⟩
set_option maxRecDepth 100000 in
set_option maxHeartbeats 8000000 in
theorem same_any {w : World} {n : Nat} {X : Nat → Prop} {s : NetV} {mv : Value} (hB : NetB w n X s) (hM : ModB w X mv s) (hl : s.l.length ≤ 4096) (hw : s.w.length ≤ 100000) (hse : s.sent ≤ 1000000) (hlo : s.lost ≤ 1000000) :
    Calls Try.prog 20 #[.pointer (some ⟨n, 0, none⟩), mv] w fun e W => e = .returned (.bool true) ∧ New w W := by
  have hXlt := fun k hk => hB.lt (k := k) hk
  obtain ⟨A1, n1, c1, A2, n2, c2, A3, n3, c3, rfl, rfl, rfl⟩ := hM.form
  have HB := Lib.hid (And.intro hB hM)
  clear hB hM
  refine (callsIn_wide (n := 4)).1 ?_
  refine callsIn_of_wp_marks Try.func20 rfl trivial ?_
  simp only [Try.ntmps20, List.size_toArray, List.length_cons, List.length_nil, Nat.reduceAdd, Nat.reduceSub, Array.replicate_succ, Array.replicate_zero, List.push_toArray, List.append_toArray, List.nil_append, List.cons_append]
  refine wpIn_wide.2 ?_
  go_wp2_with fail
  refine calls_world (fun W => NetB W n X s ∧ ModB W (fun k => X k ∨ w.heap.size ≤ k) (.agg #[.slice A1 s.l.length c1, .slice A2 s.w.length c2, .slice A3 n3 c3, .int .i64 s.sent, .int .i64 s.lost]) s ∧ Own W w.heap.size 43 #[.slice A1 s.l.length c1, .slice A2 s.w.length c2, .slice A3 n3 c3, .int .i64 s.sent, .int .i64 s.lost] ∧ Own W (w.heap.size + 1) 4 #[.bool false] ∧ New w W) ?_ ?_
  · exact ⟨(HB.out.1.new_ ((Fr.refl _ _).alloc _)).new_ ((Fr.refl _ _).alloc _), HB.out.2.fr (((Fr.refl _ _).alloc _).alloc _) (F := fun _ => False) (fun _ g => g.elim) (fun _ h => h), Own.alloc (Own.fresh _ _ _) _, Own.new' (by simp), ((Fr.refl _ _).alloc _).alloc _⟩
  clear HB
  rintro W1 ⟨hB, hM, bm, br, hN⟩
  refine (counts_any hB).mono ?_
  rintro e W2 ⟨rfl, g2⟩
  replace hB := hB.new_ g2
  replace hM := hM.new_ g2
  replace bm := bm.new_ g2
  replace br := br.new_ g2
  replace hN := hN.new_ g2
  have hlr := br.lt
  have h0 := bm.nw 0
  have h1 := bm.nw 1
  have h3 := bm.nw 3
  have h4 := bm.nw 4
  simp only [List.getElem?_toArray, List.getElem?_cons_zero, List.getElem?_cons_succ] at h0 h1 h3 h4
  have B1 := fun (y : Nx W2) => Calls.nw_same (len_any (hB.new_ (nw_new W2 y)))
  have B2 := fun (y : Nx W2) => Calls.nw_same (waits_any (hB.new_ (nw_new W2 y)))
  have H := Lib.hid (And.intro hB (And.intro hM (And.intro bm (And.intro br hN))))
  clear hB hM bm br hN g2
  go_wp2_with fail
  refine wp_region_new_lit (by kernel_rfl) (by kernel_rfl) ?_; (repeat (any_goals (first | go_big_quiet_step ((first | (go_at_call 10; with_reducible exact B1 _) | (go_at_call 13; with_reducible exact B2 _))) | quiet_step ((first | (go_at_call 10; with_reducible exact B1 _) | (go_at_call 13; with_reducible exact B2 _))) | (refine wpQuiet_step (fun K hK => ?_); go_simp; split <;> (refine hK _ ?_; clear hK K))))); all_goals (refine wpQuiet_nil ?_; intro _ hw'; obtain ⟨xq, hw''⟩ := hw'; subst hw''; have hnq := nw_new _ xq)
  obtain ⟨hB, hM, bm, br, hN⟩ := H.out
  obtain ⟨Wq, hWq⟩ : ∃ Wq, Wq = nw W2 xq := ⟨_, rfl⟩
  rw [← hWq] at hnq
  replace hB := hB.new_ hnq
  replace hM := hM.new_ hnq
  replace bm := bm.new_ hnq
  replace br := br.new_ hnq
  replace hN := hN.new_ hnq
  clear H h0 h1 h3 h4 B1 B2 hnq
  go_wp2_with fail
  rw [← hWq]
  clear hWq
  refine calls_world (fun W => W.heap.size = Wq.heap.size + 1 ∧ NetB W n X s ∧ ModB W (fun k => X k ∨ w.heap.size ≤ k) (.agg #[.slice A1 s.l.length c1, .slice A2 s.w.length c2, .slice A3 n3 c3, .int .i64 s.sent, .int .i64 s.lost]) s ∧ Own W w.heap.size 43 #[.slice A1 s.l.length c1, .slice A2 s.w.length c2, .slice A3 n3 c3, .int .i64 s.sent, .int .i64 s.lost] ∧ Own W (w.heap.size + 1) 4 #[.bool false] ∧ Own W Wq.heap.size 3 #[.int .i64 0] ∧ New w W)
    ⟨by simp, hB.new_ ((Fr.refl _ _).alloc _), hM.new_ ((Fr.refl _ _).alloc _), bm.alloc _, br.alloc _, Own.fresh _ _ _, hN.alloc _⟩ ?_
  have hrq := br.lt
  clear hB hM bm br hN
  rintro W5 ⟨hsz5, hB, hM, bm, br, bt, hN⟩
  refine all_fn.mono ?_
  rintro e W6 ⟨rfl, hW6⟩
  have fA : New W5 W6 := hW6 ▸ (Fr.refl _ _).alloc _
  replace hB := hB.new_ fA
  replace hM := hM.new_ fA
  replace bm := bm.new_ fA
  replace br := br.new_ fA
  replace bt := bt.new_ fA
  replace hN := hN.new_ fA
  have ks : Own W6 W5.heap.size 23 #[.pointer (some ⟨n, 0, none⟩)] := hW6 ▸ Own.fresh _ _ _
  have hsz6 : W6.heap.size = Wq.heap.size + 2 := by rw [hW6]; simp [hsz5]
  rw [hsz5] at ks ⊢
  clear hW6 hsz5 fA W5
  have H := Lib.hid (And.intro hB (And.intro hM (And.intro bm (And.intro br (And.intro bt (And.intro hN ks))))))
  clear hB hM bm br bt hN ks
  go_wp2_with fail
  refine (wpIn_wide (n := 4)).1 ?_
  obtain ⟨hB, hM, bm, br, bt, hN, ks⟩ := H.out
  clear H
  obtain ⟨lv, wv, m, z, q1, q2, q3, q4, q5, q6⟩ := hB
  obtain ⟨B1, cap1, hlv⟩ := q2.form
  subst hlv
  have hnx : n < w.heap.size := hXlt n ((q6 n).2 (.inl rfl))
  have hlx : ∀ k, (Value.slice B1 s.l.length cap1).ownBlock = some k → k < w.heap.size := fun k hk => hXlt k ((q6 k).2 (.inr (.inr (.inl hk))))
  have hB : NetB W6 n X s := ⟨_, wv, m, z, q1, q2, q3, q4, q5, q6⟩
  obtain ⟨RS, hRS⟩ : ∃ RS : Addr → Prop, RS = fun ad => ad = ⟨Wq.heap.size + 1, 0, none⟩ ∨ ad = ⟨n, 0, none⟩ ∨ ∃ k i, (Value.slice B1 s.l.length cap1).ownBlock = some k ∧ ad = ⟨k, i, none⟩ := ⟨_, rfl⟩
  have hRSlt : ∀ ad, RS ad → ad.block < W6.heap.size ∧ ad.block ≠ Wq.heap.size := by
    intro ad h
    rw [hRS] at h
    rcases h with e | e | ⟨k, i, hk, e⟩
    · rw [e]; show Wq.heap.size + 1 < _ ∧ Wq.heap.size + 1 ≠ _; omega
    · rw [e]; show n < _ ∧ n ≠ _; omega
    · rw [e]; have := hlx k hk; show k < _ ∧ k ≠ _; omega
  have hseq := all_stops (Wq.heap.size + 1) n cap1 B1 s.l RS hl W6 (by rw [hRS]; exact .inl rfl) (by rw [hRS]; exact .inr (.inl rfl)) (fun sb so e i => by rw [hRS]; exact .inr (.inr ⟨sb, i, by rw [e]; rfl, rfl⟩)) (by omega) (by omega)
    (fun ad e => by have := hlx ad.block (by rw [e]; rfl); omega) (ks.cell 0) (q1.cell 0) q2.cells 3 (by omega)
  obtain ⟨cs, hcs⟩ : ∃ cs : Array Value, cs = #[.slice A1 s.l.length c1, .slice A2 s.w.length c2, .slice A3 n3 c3, .int .i64 s.sent, .int .i64 s.lost] := ⟨_, rfl⟩
  rw [← hcs] at bm hM
  have hI0 : SameI w X n Wq.heap.size W6.heap.size (.agg cs) cs s [] W6 := ⟨rfl, hB, hM, bm, br, bt, hN⟩
  have hg := SameI.grown (w := w) (X := X) (n := n) (bT := Wq.heap.size) (B := W6.heap.size) (mv := .agg cs) (cs := cs) (s := s) (by omega) (by omega) (fun k hk => by have := hXlt k hk; omega)
  refine wpIn_act fun aa haa => ?_
  clear hB hM bm br bt hN q1 q2 q3 q4 q5 q6 ks
  refine wpIn_rangeFunc_ownH (w0 := W6) rfl (by omega) (by rw [haa]; rfl) trivial (enters_of Try.func32 (by kernel_rfl) rfl) hseq (fun h k => h.trans k)
    (fun W l o o' hl ho _ _ => KeepC.of_fr (fr_of_grown' (grownBy_putObj' W l o')) fun ad h e => by have := (hRSlt ad h).1; injection e with e; omega) (Below.refl _ _) (fun _ => rfl)
    (SameI w X n Wq.heap.size W6.heap.size (.agg cs) cs s) (fun _ pre _ => ∀ k, pre ≠ pairs s.l k) hg (fun _ _ _ _ _ h _ _ => h) hI0
    (fun x a' W => ∃ Bx, Wq.heap.size < Bx ∧ Own W Bx 26 #[.int .i64 x.2.f, .int .i64 x.2.t, .string x.2.s] ∧ a' = { tmps := (((aa.tmps.setIfInBounds 43 (.int .i64 (x.1 : Int))).setIfInBounds 44 x.2.v).setIfInBounds 8 (.int .i64 (x.1 : Int))).setIfInBounds 9 (.pointer (some ⟨Bx, 0, none⟩)), defers := [] })
    (fun x a' _ W W' row h hg hr => ?ax) ?assign ?body ?done (fun D c pre W hD hSp hx _ => by obtain ⟨k, _, e⟩ := hSp; exact absurd e (hx k))
  case ax =>
    obtain ⟨Bx, e1, e2, e3⟩ := h
    exact ⟨Bx, e1, e2.fr (fr_of_grown' hg) (fun e => cells_not e2 (hr _ e).2), e3⟩
  case assign =>
    rintro l pre x W K hI hK
    subst haa
    gi_wp2
    have hsz : Wq.heap.size < W.heap.size := hI.2.2.2.2.2.1.lt
    exact hK _ _ ((KeepsOthers.alloc _ _).from _) (KeepC.of_fr ((Fr.refl _ _).alloc _) (G := fun _ => False) fun _ _ h => h) (hg.alloc _ hI) ⟨W.heap.size, hsz, Own.fresh _ _ _, by simp⟩
  case body =>
    rintro l pre x a' W hl2 hloop hI ⟨Bx, hBx, bX, rfl⟩ hlen
    subst haa
    simp only [List.setIfInBounds_toArray, List.set_cons_zero, List.set_cons_succ]
    obtain ⟨i1, i2, i3, i4, i5, i6, i7⟩ := hI
    obtain ⟨k, hk⟩ : ∃ k, k = pre.length := ⟨_, rfl⟩
    rw [← hk] at i1 i6 hlen
    obtain ⟨p, hpi⟩ : ∃ p, s.l[k]? = some p := ⟨s.l[k], List.getElem?_eq_getElem hlen⟩
    have i3' := i3
    rw [hcs] at i3'
    obtain ⟨_, _, eL, hsL, -, hAL⟩ := i3'.getL
    injection eL with e1 e2 e3
    subst e1 e3
    have hns := fun y : Nx W => (hsL.new_ (nw_new W y)).2 k hlen
    obtain ⟨sb, so, hAe, -⟩ := hsL.2 k hlen
    simp only [hpi] at hns
    have a0 : ∀ y : Nx W, (nw W y).cell? ⟨sb, so + k * 3, none⟩ = some (.int .i64 p.f) := fun y => by
      obtain ⟨sb', so', e, hcc⟩ := hns y
      rw [hAe] at e
      cases e
      exact hcc 0 _ rfl
    have a1 : ∀ y : Nx W, (nw W y).cell? ⟨sb, so + k * 3 + 1, none⟩ = some (.int .i64 p.t) := fun y => by
      obtain ⟨sb', so', e, hcc⟩ := hns y
      rw [hAe] at e
      cases e
      exact hcc 1 _ rfl
    have a2 : ∀ y : Nx W, (nw W y).cell? ⟨sb, so + k * 3 + 2, none⟩ = some (.string p.s) := fun y => by
      obtain ⟨sb', so', e, hcc⟩ := hns y
      rw [hAe] at e
      cases e
      exact hcc 2 _ rfl
    have HAe := Lib.hid (And.intro hAe hpi)
    clear hns hsL hAL i3' hpi
    subst hAe
    obtain ⟨M0, M1, M2⟩ := bX.nw3
    have t0 := i6.nw 0
    have h0 := (hcs ▸ i4).nw 0
    simp only [List.getElem?_toArray, List.getElem?_cons_zero, List.getElem?_cons_succ] at t0 h0
    have H := Lib.hid (And.intro i1 (And.intro i2 (And.intro i3 (And.intro i4 (And.intro i5 (And.intro i6 (And.intro i7 (And.intro bX (And.intro hk hcs)))))))))
    clear i1 i2 i3 i4 i5 i6 i7 bX hk hcs
    have hlt : (k : Int) < (s.l.length : Int) := by omega
    have hix : ¬ (x.1 = k ∧ x.2 = p) → ∀ k', pre ++ [x] ≠ pairs s.l k' := fun hb k' e => by
      obtain ⟨i1, i2, i3, i4, i5, i6, i7, bX, hk, hcs⟩ := H.out
      have hk' : k' = k + 1 := by
        have := congrArg List.length e
        rw [pairs_length, List.length_append, ← hk] at this
        simpa using this.symm
      rw [hk', pairs_succ, HAe.out.2] at e
      have := List.append_inj_right' e rfl
      injection this with this
      subst this
      exact hb ⟨rfl, rfl⟩
    by_cases hgood : x.1 = k ∧ x.2 = p
    · clear hix
      obtain ⟨hx1, hx2⟩ := hgood
      subst hx1
      subst hx2
      gi_wp2
      refine wpIn_region_new_lit (by kernel_rfl) (by kernel_rfl) (by kernel_rfl) (fun ⟨_, _, h⟩ => h) ?_
      repeat (any_goals (first | go_big_quiet_step (fail) | quiet_step (fail)))
      refine wpQuiet_nil ?_
      rintro _ ⟨xq, rfl⟩
      have hnq := nw_new _ xq
      obtain ⟨Wf, hWf⟩ : ∃ W', W' = nw W xq := ⟨_, rfl⟩
      rw [← hWf] at hnq ⊢
      clear hWf xq M0 M1 M2 a0 a1 a2 t0 h0
      rename_i ha
      refine ha _ _ ?_
      clear ha
      refine wpIn_cond (t := false) (by simp [Act.eval]; try omega) ?_
      rw [if_neg (by simp)]
      obtain ⟨i1, i2, i3, i4, i5, i6, i7, bX, hk, hcs⟩ := H.out
      clear H
      have I6 := i6
      replace i2 := i2.new_ hnq
      replace i3 := i3.new_ hnq
      replace i4 := i4.new_ hnq
      replace i5 := i5.new_ hnq
      replace i6 := i6.new_ hnq
      replace i7 := i7.new_ hnq
      have c7 : Wf.cell? ⟨Wq.heap.size, 0, none⟩ = some (.int .i64 (x.1 : Int)) := i6.cell 0
      have f7 : Wf.frozen? ⟨Wq.heap.size, 0, none⟩ = false := i6.free 0
      have hlt4 : (x.1 : Int) < 4096 := by omega
      have H2 := Lib.hid (And.intro i1 (And.intro i2 (And.intro i3 (And.intro i4 (And.intro i5 (And.intro i6 (And.intro i7 (And.intro I6 (And.intro hk (And.intro hcs HAe.out.2))))))))))
      clear i1 i2 i3 i4 i5 i6 i7 I6 bX hk hcs
      refine wpIn_skip ?_
      rename_i ha Kz
      refine ha _ _ ?_
      clear ha
      refine wpIn_region_plain (by kernel_rfl) (fun ⟨_, _, h⟩ => h) ?_
      go_wp2_with fail
      clear c7 f7
      obtain ⟨i1, i2, i3, i4, i5, i6, i7, I6, hk, hcs, hpi⟩ := H2.out
      clear H2
      obtain ⟨W8, hW8⟩ : ∃ W8, W8 = Wf.setCell ⟨Wq.heap.size, 0, none⟩ (.int .i64 ((x.1 : Int) + 1)) := ⟨_, rfl⟩
      rw [← hW8]
      have f8 : Fr (fun k => k = Wq.heap.size) Wf W8 := by rw [hW8]; exact Fr.set (F := fun k => k = Wq.heap.size) (Fr.refl _ _) (p := ⟨Wq.heap.size, 0, none⟩) (fun _ => rfl) _
      have b8 : Own W8 Wq.heap.size 3 #[.int .i64 ((x.1 : Int) + 1)] := hW8 ▸ i6.put rfl
      have fG : Fr (fun k => k = Wq.heap.size) W W8 := (hnq.mono fun _ h => h.elim).trans f8 fun _ _ h => h
      have hXq : ∀ k, X k → ¬ k = Wq.heap.size := fun k hk e => by have := hXlt k hk; omega
      refine ⟨keepsFrom_fr fG (fun k o hB e _ => by omega), KeepC.of_fr fG (fun ad h e => (hRSlt ad h).2 e), ?_, i2.fr f8 hXq, ?_, i4.fr f8 (by omega), i5.fr f8 (by omega), ?_, i7.trans f8 fun _ _ e => by omega⟩
      · rw [List.length_append, ← hk, List.length_cons, List.length_nil, Nat.zero_add, pairs_succ, hpi, ← i1]
        rfl
      · exact i3.fr f8 (fun k e => .inr (by omega)) (fun _ h => .inl h)
      · rw [List.length_append, ← hk]
        simpa using b8
    · replace hix := hix hgood
      by_cases hx1 : (x.1 : Int) = (k : Int)
      all_goals (
        gi_wp2
        refine wpIn_region_new_lit (by kernel_rfl) (by kernel_rfl) (by kernel_rfl) (fun ⟨_, _, h⟩ => h) ?_
        repeat (any_goals (first | go_big_quiet_step (fail) | quiet_step (fail))))
      · refine wpQuiet_step (fun K hK => ?_)
        go_simp
        refine ⟨.bool true, fun y => ?_, ?_⟩
        · by_cases e1 : x.2.f = p.f
          · by_cases e2 : x.2.t = p.t
            · have e3 : ¬ x.2.s.toList = p.s.toList := fun e3 => hgood ⟨by omega, by
                have e4 : x.2.s = p.s := bl_inj e3
                cases hxx : x.2
                cases hpp : p
                rw [hxx, hpp] at e1 e2 e4
                simp only at e1 e2 e4
                rw [e1, e2, e4]⟩
              simp [e1, e2, e3]
            · simp [e1, e2]
          · simp [e1]
        refine hK _ ?_
        clear hK K
        repeat (any_goals (first | go_big_quiet_step (fail) | quiet_step (fail)))
        refine wpQuiet_nil ?_
        rintro _ ⟨xq, rfl⟩
        have hnq := nw_new _ xq
        obtain ⟨Wf, hWf⟩ : ∃ W', W' = nw W xq := ⟨_, rfl⟩
        rw [← hWf] at hnq ⊢
        clear hWf xq M0 M1 M2 a0 a1 a2 t0 h0
        rename_i ha
        refine ha _ _ ?_
        clear ha
        refine wpIn_cond (t := true) (by simp [Act.eval]; try omega) ?_
        rw [if_pos (by simp)]
        obtain ⟨i1, i2, i3, i4, i5, i6, i7, bX, hk, hcs⟩ := H.out
        clear H
        replace i5 := i5.new_ hnq
        have c7 : Wf.cell? ⟨w.heap.size + 1, 0, none⟩ = some (.bool false) := i5.cell 0
        have f7 : Wf.frozen? ⟨w.heap.size + 1, 0, none⟩ = false := i5.free 0
        clear i1 i2 i3 i4 i5 i6 i7 bX hk hcs
        gi_wp2
        have fG : Fr (fun k => k = w.heap.size + 1) W (Wf.setCell ⟨w.heap.size + 1, 0, none⟩ (.bool false)) := (hnq.mono fun _ h => h.elim).trans (Fr.set (F := fun k => k = w.heap.size + 1) (Fr.refl _ _) (p := ⟨w.heap.size + 1, 0, none⟩) (fun _ => rfl) _) fun _ _ h => h
        exact ⟨keepsFrom_fr fG (fun k o hB e _ => by omega), hix⟩
      · refine wpQuiet_nil ?_
        rintro _ ⟨xq, rfl⟩
        have hnq := nw_new _ xq
        obtain ⟨Wf, hWf⟩ : ∃ W', W' = nw W xq := ⟨_, rfl⟩
        rw [← hWf] at hnq ⊢
        clear hWf xq M0 M1 M2 a0 a1 a2 t0 h0
        rename_i ha
        refine ha _ _ ?_
        clear ha
        refine wpIn_cond (t := true) (by simp [Act.eval]; try omega) ?_
        rw [if_pos (by simp)]
        obtain ⟨i1, i2, i3, i4, i5, i6, i7, bX, hk, hcs⟩ := H.out
        clear H
        replace i5 := i5.new_ hnq
        have c7 : Wf.cell? ⟨w.heap.size + 1, 0, none⟩ = some (.bool false) := i5.cell 0
        have f7 : Wf.frozen? ⟨w.heap.size + 1, 0, none⟩ = false := i5.free 0
        clear i1 i2 i3 i4 i5 i6 i7 bX hk hcs
        gi_wp2
        have fG : Fr (fun k => k = w.heap.size + 1) W (Wf.setCell ⟨w.heap.size + 1, 0, none⟩ (.bool false)) := (hnq.mono fun _ h => h.elim).trans (Fr.set (F := fun k => k = w.heap.size + 1) (Fr.refl _ _) (p := ⟨w.heap.size + 1, 0, none⟩) (fun _ => rfl) _) fun _ _ h => h
        exact ⟨keepsFrom_fr fG (fun k o hB e _ => by omega), hix⟩
  case done =>
    intro D xs W hD hxs hI hK
    subst haa
    subst hxs
    obtain ⟨i1, i2, i3, i4, i5, i6, i7⟩ := hI
    rw [pairs_length] at i6
    have h0 := (hcs ▸ i4).cell 0
    have r0 : W.cell? ⟨w.heap.size + 1, 0, none⟩ = some (.bool false) := i5.cell 0
    have rf : W.frozen? ⟨w.heap.size + 1, 0, none⟩ = false := i5.free 0
    have t0 : W.cell? ⟨Wq.heap.size, 0, none⟩ = some (.int .i64 (s.l.length : Int)) := i6.cell 0
    simp only [List.getElem?_toArray, List.getElem?_cons_zero, List.getElem?_cons_succ] at h0
    have H := Lib.hid (And.intro i5 i7)
    clear i1 i2 i3 i4 i5 i6 i7 hcs hg hI0
    go_wp2_with fail
    obtain ⟨i5, i7⟩ := H.out
    clear H r0 rf t0 h0
    have b5 : Own (W.setCell ⟨w.heap.size + 1, 0, none⟩ (.bool true)) (w.heap.size + 1) 4 #[.bool true] := i5.put rfl
    have f5 : Fr (fun k => k = w.heap.size + 1) W (W.setCell ⟨w.heap.size + 1, 0, none⟩ (.bool true)) := Fr.set (F := fun k => k = w.heap.size + 1) (Fr.refl _ _) (p := ⟨w.heap.size + 1, 0, none⟩) (fun _ => rfl) _
    refine ⟨by simp, .inl ⟨_, _, rfl, run_takeDeferred ((KeepsOthers.setCell _ _ _).same D _ hK rfl), ?_⟩⟩
    have gD : ∀ (Ws : World) o, Fr (fun k => k = D) Ws (Ws.putObj D o) := fun Ws o => (fr_of_grown' (grownBy_putObj' Ws D o)).mono fun k e => by injection e with e; exact e.symm
    have b6 := b5.fr (gD (W.setCell ⟨w.heap.size + 1, 0, none⟩ (.bool true)) (.deferred none)) (by omega)
    have n6 : New w ((W.setCell ⟨w.heap.size + 1, 0, none⟩ (.bool true)).putObj D (.deferred none)) := (i7.trans f5 fun k hk e => by omega).trans (gD _ _) fun k hk e => by omega
    generalize (W.setCell ⟨w.heap.size + 1, 0, none⟩ (.bool true)).putObj D (.deferred none) = Wz at b6 n6 ⊢
    have c6 : Wz.cell? ⟨w.heap.size + 1, 0, none⟩ = some (.bool true) := b6.cell 0
    clear b5 b6 f5 i5
    exact ⟨.bool true, by simp [results, Try.results20, go_sem, *], rfl, n6⟩
end Go.Proofs.Ytleagdnlgjpcgaa
