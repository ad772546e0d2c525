/- The model: packets are sent. -/
import Derived.Test.YtleagdnlgjpcgaaNetModHeal
namespace Go.Proofs.Ytleagdnlgjpcgaa
open Go.RowKit Go.Maps
set_option linter.unusedVariables false
set_option linter.unusedSimpArgs false

theorem ModB.setSent {W : World} {X : Nat → Prop} {a b c : Value} {s : NetV} (h : ModB W X (.agg #[a, b, c, .int .i64 s.sent, .int .i64 s.lost]) s) : ModB W X (.agg #[a, b, c, .int .i64 ((s.sent : Int) + 1), .int .i64 s.lost]) { s with sent := s.sent + 1 } := by
  obtain ⟨lv, wv, cv, C, e, h1, h2, h3, h4⟩ := h
  injection e with e
  simp at e
  obtain ⟨rfl, rfl, rfl⟩ := e
  exact ⟨_, _, _, C, by simp, h1, h2, h3, h4⟩
theorem ModB.setW {W : World} {X : Nat → Prop} {a b c d e1 e2 : Value} {s : NetV} {w' : List Pkt} (h : ModB W X (.agg #[a, b, c, e1, e2]) s) (hd : SlP W X d w') : ModB W X (.agg #[a, d, c, e1, e2]) { s with w := w' } := by
  obtain ⟨lv, wv, cv, C, e, h1, h2, h3, h4⟩ := h
  injection e with e
  simp at e
  obtain ⟨rfl, rfl, rfl, rfl, rfl⟩ := e
  exact ⟨_, _, _, C, rfl, h1, hd, h3, h4⟩
theorem ModB.getW {W : World} {X : Nat → Prop} {a b c e1 e2 : Value} {s : NetV} (h : ModB W X (.agg #[a, b, c, e1, e2]) s) : SlP W X b s.w := by
  obtain ⟨lv, wv, cv, C, e, h1, h2, h3, h4⟩ := h
  injection e with e
  simp at e
  obtain ⟨rfl, rfl, rfl, rfl, rfl⟩ := e
  exact h2
theorem ModB.getL {W : World} {X : Nat → Prop} {a b c e1 e2 : Value} {s : NetV} (h : ModB W X (.agg #[a, b, c, e1, e2]) s) : SlP W X a s.l := by
  obtain ⟨lv, wv, cv, C, e, h1, h2, h3, h4⟩ := h
  injection e with e
  simp at e
  obtain ⟨rfl, rfl, rfl, rfl, rfl⟩ := e
  exact h1
theorem ModB.setL {W : World} {X : Nat → Prop} {a b c d e1 e2 : Value} {s : NetV} {l' : List Pkt} (h : ModB W X (.agg #[a, b, c, e1, e2]) s) (hd : SlP W X d l') : ModB W X (.agg #[d, b, c, e1, e2]) { s with l := l' } := by
  obtain ⟨lv, wv, cv, C, e, h1, h2, h3, h4⟩ := h
  injection e with e
  simp at e
  obtain ⟨rfl, rfl, rfl, rfl, rfl⟩ := e
  exact ⟨_, _, _, C, rfl, hd, h2, h3, h4⟩
set_option maxRecDepth 100000 in
set_option maxHeartbeats 8000000 in
theorem msend_any {w : World} {X : Nat → Prop} {mv : Value} {s : NetV} {A : Option Addr} {l : List Pkt} {cap : Nat} (h : ModB w X mv s) (hX : ∀ k, X k → k < w.heap.size) (hA : PkS w A l) (hAl : ∀ a, A = some a → a.block < w.heap.size)
    (hl : s.l.length ≤ 4096) (hw : s.w.length + l.length ≤ 100000) (hs : s.lost + l.length ≤ 1000000) (ht : s.sent + l.length ≤ 1000000) :
    Calls Try.prog 31 #[mv, .slice A l.length cap] w fun e W => ∃ mv', e = .returned (.tuple #[mv', .int .i64 (s.send l).2]) ∧ ModB W X mv' (s.send l).1 ∧ New w W := by
  obtain ⟨A1, n1, c1, A2, n2, c2, A3, n3, c3, rfl, -, -⟩ := h.form
  go_enter Try.func31, Try.ntmps31
  go_wp2_with fail
  refine wp_world (fun W => Own W w.heap.size 43 #[.slice A1 n1 c1, .slice A2 n2 c2, .slice A3 n3 c3, .int .i64 s.sent, .int .i64 s.lost] ∧ Own W (w.heap.size + 1) 43 zMod ∧ New w W) ⟨Own.alloc (Own.fresh _ _ _) _, Own.new' (by simp), ((Fr.refl _ _).alloc _).alloc _⟩ ?_
  rintro W1 ⟨bm, br, hN⟩
  have h0 : ModB W1 (fun k => X k ∨ k = w.heap.size ∨ k = w.heap.size + 1) (.agg #[.slice A1 n1 c1, .slice A2 n2 c2, .slice A3 n3 c3, .int .i64 s.sent, .int .i64 s.lost]) s :=
    h.fr hN (fun _ g => g.elim) (fun k hk => by rcases hk with h | h | h; exact .inl h; exact .inr (by omega); exact .inr (by omega))
  have hA1 : PkS W1 A l := hA.fr hN fun _ _ g => g
  have HH := Lib.hid (And.intro bm (And.intro br (And.intro hN (And.intro h0 (And.intro hA1 (And.intro hAl hX))))))
  clear bm br hN h0 hA1 h hA
  go_loopw [6, 7] (fun kv iv wr => ∃ (i k : Nat) (cs : Array Value) (si : NetV), kv = .int .i64 k ∧ iv = .int .i64 i ∧ i ≤ l.length ∧ k ≤ i ∧ si.l.length ≤ 4096 ∧ si.w.length ≤ s.w.length + i ∧ si.lost ≤ s.lost + i ∧ si.sent = s.sent + i ∧
      Hid (s.send l = ((si.send (l.drop i)).1, k + (si.send (l.drop i)).2)) ∧ Hid (Own wr w.heap.size 43 cs ∧ Own wr (w.heap.size + 1) 43 zMod ∧ Fr (fun k => k = w.heap.size) W1 wr ∧ ModB wr (fun k => X k ∨ k = w.heap.size ∨ k = w.heap.size + 1) (.agg cs) si)) (fun _ iv _ => l.length - (intOf iv).toNat)
  case atStart => exact ⟨0, 0, _, s, rfl, rfl, Nat.zero_le _, Nat.le_refl _, hl, by omega, by omega, by omega, Lib.hid (by simp), Lib.hid ⟨HH.out.1, HH.out.2.1, Fr.refl _ _, HH.out.2.2.2.1⟩⟩
  case round =>
    obtain ⟨i, k, cs, si, rfl, rfl, hil, hki, hl', hw', hs', ht', HS, HR⟩ := hrel
    obtain ⟨bm, br, fW, hm⟩ := HR.out
    obtain ⟨B1, k1, d1, B2, k2, d2, B3, k3, d3, hcs, -, -⟩ := hm.form
    injection hcs with hcs
    subst hcs
    have hN : New w wr := HH.out.2.2.1.trans fW fun k hk e => by omega
    have hlb := br.lt
    have hXw : ∀ k, (X k ∨ k = w.heap.size ∨ k = w.heap.size + 1) → k < wr.heap.size := fun k hk => by
      rcases hk with h | h | h
      · exact Nat.lt_of_lt_of_le (HH.out.2.2.2.2.2.2 k h) hN.size
      · omega
      · omega
    obtain ⟨⟨m0, m1, m2, m3, m4⟩, f0, f1, f2, f3, f4⟩ := own5 bm
    by_cases hlt : i < l.length
    · have hlt2 : (i : Int) < (l.length : Int) := by omega
      obtain ⟨p, hpi⟩ : ∃ p, l[i]? = some p := ⟨l[i], List.getElem?_eq_getElem hlt⟩
      have hdrop : l.drop i = p :: l.drop (i + 1) := by
        have := List.drop_eq_getElem_cons hlt
        rw [this]
        congr 1
        have e2 := List.getElem?_eq_getElem hlt
        rw [hpi] at e2
        exact (Option.some.inj e2).symm
      have hwS : PkS wr A l := HH.out.2.2.2.2.1.fr fW fun a ha e => by have := HH.out.2.2.2.2.2.1 a ha; omega
      obtain ⟨sb, so, hAe, -⟩ := hwS.2 i hlt
      have hsb : (si.sent : Int) ≤ 1000000 := by omega
      have HC := Lib.hid (And.intro bm (And.intro br (And.intro fW (And.intro hm (And.intro hN (And.intro hXw hwS))))))
      have HD := Lib.hid (And.intro hpi hdrop)
      have HT := Lib.hid ht'
      clear bm br fW hm hN hXw hwS HR hpi hdrop hlb ht'
      subst hAe
      go_wp2_with fail
      obtain ⟨bm, br, fW, hm, hN, hXw, hwS⟩ := HC.out
      refine wp_world (fun W => Own W w.heap.size 43 #[.slice B1 k1 d1, .slice B2 k2 d2, .slice B3 k3 d3, .int .i64 ((si.sent : Int) + 1), .int .i64 si.lost] ∧ Own W (w.heap.size + 1) 43 zMod ∧ Fr (fun k => k = w.heap.size) wr W) ⟨bm.put rfl, br.far (by show ¬ (_ = w.heap.size); omega) _, Fr.set (F := fun k => k = w.heap.size) (Fr.refl _ _) (p := ⟨w.heap.size, 3, none⟩) (fun _ => rfl) _⟩ ?_
      clear m0 m1 m2 m3 m4 f0 f1 f2 f3 f4
      rintro W2 ⟨bm2, br2, f2⟩
      have hm2 := (hm.fr (X' := fun k => X k ∨ k = w.heap.size ∨ k = w.heap.size + 1) f2 (fun k e => .inr (.inl e)) (fun _ h => .inl h)).setSent
      have hw2 : PkS W2 (some ⟨sb, so, none⟩) l := hwS.fr f2 fun a ha e => by have := HH.out.2.2.2.2.2.1 a ha; omega
      have hXw2 : ∀ k, (X k ∨ k = w.heap.size ∨ k = w.heap.size + 1) → k < W2.heap.size := fun k hk => Nat.lt_of_lt_of_le (hXw k hk) f2.size
      have fW2 := fW.trans f2 fun _ _ e => e
      clear bm br fW hm hN hXw hwS HC f2
      obtain ⟨M0, M1, M2, M3, M4⟩ : (∀ x, (nw W2 x).cell? ⟨w.heap.size, 0, none⟩ = some (.slice B1 k1 d1)) ∧ (∀ x, (nw W2 x).cell? ⟨w.heap.size, 1, none⟩ = some (.slice B2 k2 d2)) ∧ (∀ x, (nw W2 x).cell? ⟨w.heap.size, 2, none⟩ = some (.slice B3 k3 d3)) ∧ (∀ x, (nw W2 x).cell? ⟨w.heap.size, 3, none⟩ = some (.int .i64 ((si.sent : Int) + 1))) ∧ (∀ x, (nw W2 x).cell? ⟨w.heap.size, 4, none⟩ = some (.int .i64 si.lost)) := ⟨bm2.nw 0, bm2.nw 1, bm2.nw 2, bm2.nw 3, bm2.nw 4⟩
      have hpc : ∀ W', New W2 W' → W'.cell? ⟨sb, so + i * 3, none⟩ = some (.int .i64 p.f) ∧ W'.cell? ⟨sb, so + i * 3 + 1, none⟩ = some (.int .i64 p.t) ∧ W'.cell? ⟨sb, so + i * 3 + 2, none⟩ = some (.string p.s) := fun W' g => by
        obtain ⟨sb', so', hAe', hcc⟩ := (hw2.fr g fun _ _ x => x).2 i hlt
        cases hAe'
        simp only [HD.out.1] at hcc
        exact ⟨hcc 0 _ rfl, hcc 1 _ rfl, hcc 2 _ rfl⟩
      have P0 := fun (y : Nx W2) => (hpc _ (nw_new W2 y)).1
      have P1 := fun (y : Nx W2) => (hpc _ (nw_new W2 y)).2.1
      have P2 := fun (y : Nx W2) => (hpc _ (nw_new W2 y)).2.2
      obtain ⟨cw, hcw⟩ : ∃ c, decide (p.w ∈ si.c) = c := ⟨_, rfl⟩
      have B1' := fun (y : Nx W2) => Calls.nw_of (hcw ▸ mcut_any (p := p) (hm2.new_ (nw_new W2 y)) (fun k hk => Nat.lt_of_lt_of_le (hXw2 k hk) (nw_new W2 y).size))
      have HC := Lib.hid (And.intro bm2 (And.intro br2 (And.intro fW2 (And.intro hm2 (And.intro hXw2 (And.intro hw2 (And.intro hpc hcw)))))))
      clear bm2 br2 fW2 hm2 hXw2 hw2 hcw hpc
      refine wp_region_new_lit (by kernel_rfl) (by kernel_rfl) ?_; (repeat (any_goals (first | go_big_quiet_step ((go_at_call 35; with_reducible exact B1' _)) | quiet_step ((go_at_call 35; with_reducible exact B1' _)) | (refine wpQuiet_step (fun K hK => ?_); go_simp; split <;> (refine hK _ ?_; clear hK K))))); all_goals (refine wpQuiet_nil ?_; intro _ hw'; obtain ⟨xq, hw''⟩ := hw'; subst hw''; have hnq := nw_new _ xq)
      obtain ⟨W3, hW3⟩ : ∃ W3, W3 = nw W2 xq := ⟨_, rfl⟩
      rw [← hW3] at hnq ⊢
      clear hW3 xq M0 M1 M2 M3 M4 P0 P1 P2 B1'
      rename_i ha
      refine ha _ _ ?_
      clear ha
      obtain ⟨bm2, br2, fW2, hm2, hXw2, hw2, hpc2, hcw⟩ := HC.out
      have ht' := HT.out
      have bm := bm2.new_ hnq
      have br := br2.new_ hnq
      have fW := fW2.new_ hnq
      have hm := hm2.new_ hnq
      have hXw : ∀ k, (X k ∨ k = w.heap.size ∨ k = w.heap.size + 1) → k < W3.heap.size := fun k hk => Nat.lt_of_lt_of_le (hXw2 k hk) hnq.size
      have hpc : ∀ W', New W3 W' → W'.cell? ⟨sb, so + i * 3, none⟩ = some (.int .i64 p.f) ∧ W'.cell? ⟨sb, so + i * 3 + 1, none⟩ = some (.int .i64 p.t) ∧ W'.cell? ⟨sb, so + i * 3 + 2, none⟩ = some (.string p.s) := fun W' g => hpc2 W' (hnq.trans g fun _ _ x => x)
      clear bm2 br2 fW2 hm2 hXw2 hw2 hpc2 HC hnq
      obtain ⟨_, _, eW, hsW, -, hAW⟩ := hm.getW
      injection eW with e1 e2 e3
      subst e1 e2 e3
      have hS0 : New W3 W3.drew := (Fr.refl _ _).drew
      have hSn : ∀ W', New W3.drew W' → New W3 W' := fun W' g => hS0.new_ g
      have hone : si.send (p :: l.drop (i + 1)) = (((si.one p).send (l.drop (i + 1))).1, si.oneN p + ((si.one p).send (l.drop (i + 1))).2) := rfl
      have hle1 := si.one_le p hl'
      cases cw
      · have hnc : ¬ p.w ∈ si.c := of_decide_eq_false hcw
        have ho1 : si.one p = ({ si with sent := si.sent + 1 } : NetV).push p := if_neg hnc
        have ho2 : si.oneN p = 1 := if_neg hnc
        have HX := Lib.hid (And.intro hone (And.intro hle1 (And.intro ho1 (And.intro ho2 (And.intro ht' (And.intro hnc hcw))))))
        clear hone hle1 ho1 ho2 ht' hnc hcw
        go_wp2_with fail
        apply wp_region_partsH 6 (fun W' => New W3 W')
        case hp => simp only [List.take_succ_cons, List.take_zero]; exact rfl
        case hd => simp only [List.drop_succ_cons, List.drop_zero]; exact rfl
        case hm => kernel_rfl
        case hB => kernel_rfl
        case hT => kernel_rfl
        refine wpAnyH_take (i := 0) (v := .agg #[.slice B1 k1 d1, .slice B2 si.w.length d2, .slice B3 k3 d3, .int .i64 ((si.sent : Int) + 1), .int .i64 si.lost]) rfl (by kernel_rfl) (by kernel_rfl) (by kernel_rfl) (fun _ _ _ h => h) (.inl ⟨rfl, fun w' hS => ?t0⟩) hS0 ?_
        case t0 =>
          obtain ⟨⟨m0, m1, m2, m3, m4⟩, -⟩ := own5 (bm.new_ hS)
          go_simp
        refine wpAnyH_take (i := 1) (v := .slice (some ⟨sb, so, none⟩) l.length cap) rfl (by kernel_rfl) (by kernel_rfl) (by kernel_rfl) (fun _ _ _ h => h) (.inl ⟨rfl, fun w' hS => ?t1⟩) hS0 ?_
        case t1 =>
          go_simp
        refine wpAnyH_take (i := 2) (v := .int .i64 (i : Nat)) rfl (by kernel_rfl) (by kernel_rfl) (by kernel_rfl) (fun _ _ _ h => h) (.inl ⟨rfl, fun w' hS => ?t2⟩) hS0 ?_
        case t2 =>
          go_simp
        refine wpAnyH_take (i := 3) (v := .pointer (some ⟨sb, so + i * 3, none⟩)) rfl (by kernel_rfl) (by kernel_rfl) (by kernel_rfl) (fun _ _ _ h => h) (.inl ⟨rfl, fun w' hS => ?t3⟩) hS0 ?_
        case t3 =>
          go_simp
        refine wpAnyH_take (i := 4) (v := p.v) rfl (by kernel_rfl) (by kernel_rfl) (by kernel_rfl) (fun _ _ _ h => h) (.inl ⟨rfl, fun w' hS => ?t4⟩) hS0 ?_
        case t4 =>
          obtain ⟨a0, a1, a2⟩ := hpc w' hS
          go_simp
        simp only [Act.put, List.setIfInBounds_toArray, List.set_cons_zero, List.set_cons_succ]
        refine wpAnyH_all (rs := [5]) (by kernel_rfl) (by simp) (fun j hj => ?_)
        rw [List.mem_singleton] at hj
        subst hj
        refine wpOp_step rfl (fun K hK => ?_)
        go_simp
        refine (mpush_any (p := p) (hm.new_ hS0) (fun k hk => hXw k hk) hl' (by simp only; omega)).mono ?_
        rintro e W4 ⟨mv', rfl, hm4, g4⟩
        rw [← HX.out.2.2.1] at hm4
        obtain ⟨F1, q1, z1, F2, q2, z2, F3, q3, z3, hcs4, -, -⟩ := hm4.form
        subst hcs4
        refine hK _ _ ⟨hS0.new_ g4, ?_⟩
        clear hK K
        refine wpAnyH_done (by kernel_rfl) ?_ _
        have bm4 := (bm.new_ hS0).new_ g4
        have br4 := (br.new_ hS0).new_ g4
        have gW := (fW.trans (hS0.new_ g4) fun _ _ x => x.elim)
        obtain ⟨⟨m0, m1, m2, m3, m4⟩, f0, f1, f2, f3, f4⟩ := own5 bm4
        have H := Lib.hid (And.intro bm4 (And.intro br4 (And.intro gW hm4)))
        clear bm4 br4 gW hm4 hm bm br fW hXw hS0 hSn g4 hpc hsW hAW
        obtain ⟨Sn, hSn⟩ : ∃ Sn, si.one p = Sn := ⟨_, rfl⟩
        rw [hSn] at H ⊢
        have HSn := Lib.hid hSn
        clear hSn
        unfold restQ
        go_simp
        go_wp2_with fail
        obtain ⟨bm2, br2, gW, hm2⟩ := H.out
        obtain ⟨bm3, f3⟩ := bm2.put5 (.slice F1 q1 z1) (.slice F2 q2 z2) (.slice F3 q3 z3) (.int .i64 Sn.sent) (.int .i64 Sn.lost)
        generalize hW5 : World.setCell _ _ _ = W5 at bm3 f3 ⊢
        clear hW5
        have hSn := HSn.out
        have hle := HX.out.2.1
        have ht' := HX.out.2.2.2.2.1
        rw [hSn] at hle
        refine ⟨⟨i + 1, k + 1, _, Sn, by simp, by simp, by omega, by omega, hle.1, by omega, by omega, by omega, Lib.hid ?_, Lib.hid ⟨bm3, br2.fr f3 (by omega), gW.trans f3 fun _ _ e => e, hm2.fr f3 (fun k e => .inr (.inl e)) (fun _ h => .inl h)⟩⟩, by simp [intOf]; omega⟩
        have := HS.out
        rw [HD.out.2, HX.out.1, HX.out.2.2.2.1, hSn] at this
        rw [this]
        simp only [Prod.mk.injEq, true_and]
        omega
      · have hnc : p.w ∈ si.c := of_decide_eq_true hcw
        have ho1 : si.one p = { si with sent := si.sent + 1, w := si.w ++ [p] } := if_pos hnc
        have ho2 : si.oneN p = 0 := if_pos hnc
        have HX := Lib.hid (And.intro hone (And.intro hle1 (And.intro ho1 (And.intro ho2 (And.intro ht' (And.intro hnc hcw))))))
        clear hone hle1 ho1 ho2 ht' hnc hcw
        go_wp2_with fail
        apply wp_region_partsH 10 (fun W' => New W3 W')
        case hp => simp only [List.take_succ_cons, List.take_zero]; exact rfl
        case hd => simp only [List.drop_succ_cons, List.drop_zero]; exact rfl
        case hm => kernel_rfl
        case hB => kernel_rfl
        case hT => kernel_rfl
        refine wpAnyH_take (i := 1) (v := .pointer (some ⟨w.heap.size, 1, none⟩)) rfl (by kernel_rfl) (by kernel_rfl) (by kernel_rfl) (fun _ _ _ h => h) (.inl ⟨rfl, fun w' hS => ?t1⟩) hS0 ?_
        case t1 =>
          go_simp
        refine wpAnyH_take (i := 2) (v := .slice B2 si.w.length d2) rfl (by kernel_rfl) (by kernel_rfl) (by kernel_rfl) (fun _ _ _ h => h) (.inl ⟨rfl, fun w' hS => ?t2⟩) hS0 ?_
        case t2 =>
          obtain ⟨⟨m0, m1, m2, m3, m4⟩, -⟩ := own5 (bm.new_ hS)
          go_simp
        refine wpAnyH_take (i := 4) (v := .slice (some ⟨sb, so, none⟩) l.length cap) rfl (by kernel_rfl) (by kernel_rfl) (by kernel_rfl) (fun _ _ _ h => h) (.inl ⟨rfl, fun w' hS => ?t4⟩) hS0 ?_
        case t4 =>
          go_simp
        refine wpAnyH_take (i := 5) (v := .int .i64 (i : Nat)) rfl (by kernel_rfl) (by kernel_rfl) (by kernel_rfl) (fun _ _ _ h => h) (.inl ⟨rfl, fun w' hS => ?t5⟩) hS0 ?_
        case t5 =>
          go_simp
        refine wpAnyH_take (i := 6) (v := .pointer (some ⟨sb, so + i * 3, none⟩)) rfl (by kernel_rfl) (by kernel_rfl) (by kernel_rfl) (fun _ _ _ h => h) (.inl ⟨rfl, fun w' hS => ?t6⟩) hS0 ?_
        case t6 =>
          go_simp
        refine wpAnyH_take (i := 7) (v := p.v) rfl (by kernel_rfl) (by kernel_rfl) (by kernel_rfl) (fun _ _ _ h => h) (.inl ⟨rfl, fun w' hS => ?t7⟩) hS0 ?_
        case t7 =>
          obtain ⟨a0, a1, a2⟩ := hpc w' hS
          go_simp
        simp only [Act.put, List.setIfInBounds_toArray, List.set_cons_zero, List.set_cons_succ]
        refine wpAnyH_diamond (fuel := 0) 0 3 8 9 24 27 32 33 26 31 (.slice B2 si.w.length d2) (p.v) (V0 W3.heap.size) (VL W3.heap.size (si.w)) (V1 p) (VL W3.heap.size (si.w ++ [p])) V0.new_ VL.new_ V1.new_ (by decide) (by simp)
          (by kernel_rfl) (by kernel_rfl) (by kernel_rfl) (by kernel_rfl) (by kernel_rfl) (by kernel_rfl) (by kernel_rfl) (by kernel_rfl) (by kernel_rfl) (by decide) (by decide) (by decide) (by simp [Act.eval]) (by simp [Act.eval]) ?hE ?hA ?hB ?h2 hS0 ?fin
        case hE =>
          intro a' W' K g hS _ k
          refine wpOp_step rfl (fun K2 hK => ?_)
          go_simp
          exact hK _ _ (k _ _ ⟨W'.heap.size, rfl, Own.fresh _ _ _, g.size⟩ ((Fr.refl _ _).alloc _) (hSn _ (g.alloc _)))
        case hA =>
          rintro a' W' K g hS ⟨v, hv, ⟨b, rfl, hb, hbl⟩, hsa⟩ k
          obtain ⟨v', W'', hr, hp, gn, ho⟩ := fresh_pks (cap := d2) hb ((hsW.fr hS0 fun _ _ x => x).fr g fun _ _ x => x) (by omega)
          refine wpOp_step rfl (fun K2 hK => ?_)
          refine step_append_run rfl (.tmp 24) (.tmp 26) 22 rfl hv hsa hr ?_
          refine hK _ _ (k _ _ ⟨hp, fun k hk => ?_⟩ gn (hSn _ (g.new_ gn)))
          rcases ho with e | ⟨k', e, hk'⟩
          · rw [hk] at e; cases e; exact hbl
          · rw [hk] at e; cases e; exact Nat.le_trans g.size hk'
        case hB =>
          intro a' W' K g hS hsb k
          replace hsb : a'.tmps[31]?.getD undef = .agg #[.int .i64 p.f, .int .i64 p.t, .string p.s] := by simpa [Act.eval] using hsb
          refine wpOp_step rfl (fun K2 hK => ?_)
          go_simp
          exact hK _ _ (k _ _ ⟨W'.heap.size, rfl, Own.fresh _ _ _⟩ ((Fr.refl _ _).alloc _) (hSn _ (g.alloc _)))
        case h2 =>
          rintro a' W' K g hS ⟨v, u, hv, ⟨hp, hvo⟩, hu, b, rfl, hb⟩ k
          obtain ⟨v', W'', hr, hp', f, ho⟩ := append_pk hp (by omega) hb
          have gn : New W3.drew W'' := g.trans f fun k hk e => by have := hvo k e; exact absurd hk (by show ¬ k < W3.heap.size; omega)
          refine wpOp_step rfl (fun K2 hK => ?_)
          refine step_append_run rfl (.tmp 27) (.tmp 32) 22 rfl hv hu hr ?_
          refine hK _ _ (k _ _ ⟨hp', fun k hk => ?_⟩ gn (hSn _ gn))
          rcases ho with e | ⟨k', e, hk'⟩
          · exact hvo k (e ▸ hk)
          · rw [hk] at e; cases e; exact Nat.le_trans g.size hk'
        case fin =>
          rintro ve v u v2 W' ⟨hp, hvo⟩ g hS
          refine wpAnyH_done (by kernel_rfl) ?_ _
          have bm4 := (bm.new_ hS0).new_ g
          have br4 := (br.new_ hS0).new_ g
          have gW := (fW.trans (hS0.new_ g) fun _ _ x => x.elim)
          have hm4 := (hm.new_ hS0).new_ g
          obtain ⟨A9, c9, hv2⟩ := hp.form
          have hsl := hp.sl (X := fun k => X k ∨ k = w.heap.size ∨ k = w.heap.size + 1) fun k hk hx => by have := hvo k hk; have := hXw k hx; omega
          rw [hv2] at hsl ⊢
          have hm5 := hm4.setW hsl
          obtain ⟨⟨m0, m1, m2, m3, m4⟩, f0, f1, f2, f3, f4⟩ := own5 bm4
          have H := Lib.hid (And.intro bm4 (And.intro br4 (And.intro gW hm5)))
          clear bm4 br4 gW hm4 hm5 hm bm br fW hXw hS0 hSn g hpc hsW hAW hp hvo hv2 hsl hS
          generalize (si.w ++ [p]).length = q9 at H ⊢
          unfold restQ
          go_simp
          go_wp2_with fail
          obtain ⟨bm2, br2, gW, hm2⟩ := H.out
          have f3 : Fr (fun k => k = w.heap.size) W' (W'.setCell ⟨w.heap.size, 1, none⟩ (.slice A9 q9 c9)) := Fr.set (F := fun k => k = w.heap.size) (Fr.refl _ _) (p := ⟨w.heap.size, 1, none⟩) (fun _ => rfl) _
          have bm3 : Own (W'.setCell ⟨w.heap.size, 1, none⟩ (.slice A9 q9 c9)) w.heap.size 43 #[.slice B1 k1 d1, .slice A9 q9 c9, .slice B3 k3 d3, .int .i64 ((si.sent : Int) + 1), .int .i64 si.lost] := bm2.put rfl
          have hle := HX.out.2.1
          have ho1 := HX.out.2.2.1
          have ht' := HX.out.2.2.2.2.1
          have hmF := hm2.fr (X' := fun k => X k ∨ k = w.heap.size ∨ k = w.heap.size + 1) f3 (fun k e => .inr (.inl e)) (fun _ h => .inl h)
          generalize W'.setCell ⟨w.heap.size, 1, none⟩ (.slice A9 q9 c9) = W5 at f3 bm3 hmF ⊢
          refine ⟨⟨i + 1, k, _, si.one p, rfl, by simp, by omega, by omega, hle.1, by omega, by omega, by omega, Lib.hid ?_, Lib.hid ⟨bm3, br2.fr f3 (by omega), gW.trans f3 fun _ _ e => e, by rw [ho1]; exact hmF⟩⟩, by simp [intOf]; omega⟩
          have := HS.out
          rw [HD.out.2, HX.out.1, HX.out.2.2.2.1] at this
          rw [this]
          simp only [Prod.mk.injEq, true_and]
          omega
    · obtain rfl : i = l.length := by omega
      have hge : ¬ (l.length : Int) < (l.length : Int) := by omega
      have hfin := HS.out
      rw [List.drop_length] at hfin
      replace hfin : s.send l = (si, k) := hfin
      obtain ⟨⟨r0, r1, r2, r3, r4⟩, y0, y1, y2, y3, y4⟩ := own5 br
      have H := Lib.hid (And.intro bm (And.intro br (And.intro fW (And.intro hm (And.intro hN hfin)))))
      have hne : ¬ (w.heap.size + 1 = w.heap.size) := by omega
      clear bm br fW hm hN HR HS hXw hfin ht'
      go_wp2_with fail
      obtain ⟨bm, br, fW, hm, hN, hfin⟩ := H.out
      refine post_world (fun Wf => Own Wf (w.heap.size + 1) 43 #[.slice B1 k1 d1, .slice B2 k2 d2, .slice B3 k3 d3, .int .i64 si.sent, .int .i64 si.lost] ∧ Fr (fun k => k = w.heap.size + 1) wr Wf) (br.put5 _ _ _ _ _) ?_
      clear m0 m1 m2 m3 m4 f0 f1 f2 f3 f4 r0 r1 r2 r3 r4 y0 y1 y2 y3 y4
      rintro Wf ⟨brf, ff⟩
      obtain ⟨⟨r0, r1, r2, r3, r4⟩, -⟩ := own5 brf
      have gF : New w Wf := hN.trans ff fun k hk e => by omega
      rw [hfin]
      exact bodyPost_ret (v := .tuple #[.agg #[.slice B1 k1 d1, .slice B2 k2 d2, .slice B3 k3 d3, .int .i64 si.sent, .int .i64 si.lost], .int .i64 k]) (by simp [results, Try.results31, go_sem, *]) rfl ⟨_, rfl, hm.fr ff (fun k e => .inr (.inr e)) (fun _ h => .inl (.inl h)), gF⟩
end Go.Proofs.Ytleagdnlgjpcgaa
