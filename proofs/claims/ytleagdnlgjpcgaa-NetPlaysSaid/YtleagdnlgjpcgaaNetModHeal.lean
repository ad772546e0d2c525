/- The model: the ways mended. -/
import Derived.Test.YtleagdnlgjpcgaaNetModOut
namespace Go.Proofs.Ytleagdnlgjpcgaa
open Go.RowKit Go.Maps
set_option linter.unusedVariables false
set_option linter.unusedSimpArgs false

theorem pushes_snoc (s : NetV) (p : Pkt) : ∀ l, s.pushes (l ++ [p]) = (s.pushes l).push p := by
  intro l
  induction l generalizing s with
  | nil => rfl
  | cons q l ih => exact ih (s.push q)
theorem pushes_le : ∀ (l : List Pkt) (s : NetV), s.l.length ≤ 4096 → (s.pushes l).l.length ≤ 4096 ∧ (s.pushes l).lost ≤ s.lost + l.length ∧ (s.pushes l).w = s.w ∧ (s.pushes l).c = s.c ∧ (s.pushes l).sent = s.sent := by
  intro l
  induction l with
  | nil => intro s h; exact ⟨h, Nat.le_refl _, rfl, rfl, rfl⟩
  | cons q l ih =>
    intro s h
    obtain ⟨h1, h2, h3, h4, h5⟩ := s.push_le q h
    obtain ⟨i1, i2, i3, i4, i5⟩ := ih (s.push q) h1
    refine ⟨i1, ?_, i3.trans h2, i4.trans h3, i5.trans h4⟩
    simp only [List.length_cons]
    show ((s.push q).pushes l).lost ≤ _
    omega
theorem ModB.form {W : World} {X : Nat → Prop} {mv : Value} {s : NetV} (h : ModB W X mv s) : ∃ A1 n1 c1 A2 n2 c2 A3 n3 c3, mv = .agg #[.slice A1 n1 c1, .slice A2 n2 c2, .slice A3 n3 c3, .int .i64 s.sent, .int .i64 s.lost] ∧ n1 = s.l.length ∧ n2 = s.w.length := by
  obtain ⟨lv, wv, cv, C, rfl, ⟨A1, c1, rfl, -⟩, ⟨A2, c2, rfl, -⟩, ⟨A3, c3, rfl, -⟩, -⟩ := h
  exact ⟨_, _, _, _, _, _, _, _, _, rfl, rfl, rfl⟩
theorem Own.put5 {W : World} {b : Nat} {t : TypeId} {a0 a1 a2 a3 a4 : Value} (h : Own W b t #[a0, a1, a2, a3, a4]) (v0 v1 v2 v3 v4 : Value) :
    Own (((((W.setCell ⟨b, 0, none⟩ v0).setCell ⟨b, 1, none⟩ v1).setCell ⟨b, 2, none⟩ v2).setCell ⟨b, 3, none⟩ v3).setCell ⟨b, 4, none⟩ v4) b t #[v0, v1, v2, v3, v4] ∧
    Fr (fun k => k = b) W (((((W.setCell ⟨b, 0, none⟩ v0).setCell ⟨b, 1, none⟩ v1).setCell ⟨b, 2, none⟩ v2).setCell ⟨b, 3, none⟩ v3).setCell ⟨b, 4, none⟩ v4) := by
  refine ⟨((((h.put rfl).put rfl).put rfl).put rfl).put rfl, ?_⟩
  exact (((((Fr.refl (fun k => k = b) W).set (p := ⟨b, 0, none⟩) (fun _ => rfl) v0).set (p := ⟨b, 1, none⟩) (fun _ => rfl) v1).set (p := ⟨b, 2, none⟩) (fun _ => rfl) v2).set (p := ⟨b, 3, none⟩) (fun _ => rfl) v3).set (p := ⟨b, 4, none⟩) (fun _ => rfl) v4
abbrev zMod : Array Value := #[.slice none 0 0, .slice none 0 0, .slice none 0 0, .int .i64 0, .int .i64 0]
set_option maxRecDepth 100000 in
set_option maxHeartbeats 8000000 in
theorem mheal_any {w : World} {X : Nat → Prop} {mv : Value} {s : NetV} (h : ModB w X mv s) (hX : ∀ k, X k → k < w.heap.size) (hl : s.l.length ≤ 4096) (hlo : s.lost + s.w.length ≤ 1000000) (hsw : s.w.length ≤ 100000) :
    Calls Try.prog 30 #[mv] w fun e W => ∃ mv', e = .returned mv' ∧ ModB W X mv' s.heal ∧ New w W := by
  obtain ⟨lv, wv, cv, C, rfl, h1, h2, h3, h4⟩ := h
  clear h4
  obtain ⟨A, cap, rfl, hs⟩ := h1
  obtain ⟨Aw, capw, rfl, hws⟩ := h2
  obtain ⟨Ac, capc, rfl, hcs⟩ := h3
  go_enter Try.func30, Try.ntmps30
  go_wp2_with fail
  refine wp_world (fun W => Own W w.heap.size 43 #[.slice A s.l.length cap, .slice none 0 0, .slice none 0 0, .int .i64 s.sent, .int .i64 s.lost] ∧ Own W (w.heap.size + 1) 43 zMod ∧ New w W) ⟨Own.alloc (Own.fresh _ _ _) _, Own.new' (by simp), ((Fr.refl _ _).alloc _).alloc _⟩ ?_
  rintro W1 ⟨bm, br, hN⟩
  have h0 : ModB W1 (fun k => X k ∨ k = w.heap.size ∨ k = w.heap.size + 1) (.agg #[.slice A s.l.length cap, .slice none 0 0, .slice none 0 0, .int .i64 s.sent, .int .i64 s.lost]) ({ s with w := [], c := [] } : NetV) :=
    ⟨_, _, _, [], rfl, SlP.fr ⟨A, cap, rfl, hs⟩ hN (fun _ g => g.elim) (fun k hk => by rcases hk with h | h | h; exact .inl h; exact .inr (by omega); exact .inr (by omega)), SlP.nil _ _, SlC.nil _ _, rfl, fun p => by simp⟩
  have hw1 : PkS W1 Aw s.w := hws.1.fr hN fun _ _ g => g
  have hwA := hws.2.2
  have HH := Lib.hid (And.intro bm (And.intro br (And.intro hN (And.intro h0 (And.intro hw1 hX)))))
  clear bm br hN h0 hw1 hs hws hcs
  go_loopw [4] (fun iv wr => ∃ (i : Nat) (cs : Array Value), iv = .int .i64 i ∧ i ≤ s.w.length ∧ Hid (Own wr w.heap.size 43 cs ∧ Own wr (w.heap.size + 1) 43 zMod ∧ Fr (fun k => k = w.heap.size) W1 wr ∧ ModB wr (fun k => X k ∨ k = w.heap.size ∨ k = w.heap.size + 1) (.agg cs) (({ s with w := [], c := [] } : NetV).pushes (s.w.take i)))) (fun iv _ => s.w.length - (intOf iv).toNat)
  case atStart => exact ⟨0, _, rfl, Nat.zero_le _, Lib.hid ⟨HH.out.1, HH.out.2.1, Fr.refl _ _, HH.out.2.2.2.1⟩⟩
  case round =>
    obtain ⟨i, cs, rfl, hil, HR⟩ := hrel
    obtain ⟨bm, br, fW, hm⟩ := HR.out
    obtain ⟨A1, n1, c1, A2, n2, c2, A3, n3, c3, hcs, -, -⟩ := hm.form
    injection hcs with hcs
    subst hcs
    have hN : New w wr := HH.out.2.2.1.trans fW fun k hk e => by omega
    have hlb := br.lt
    have hXw : ∀ k, (X k ∨ k = w.heap.size ∨ k = w.heap.size + 1) → k < wr.heap.size := fun k hk => by
      rcases hk with h | h | h
      · exact Nat.lt_of_lt_of_le (HH.out.2.2.2.2.2 k h) hN.size
      · omega
      · omega
    obtain ⟨⟨m0, m1, m2, m3, m4⟩, f0, f1, f2, f3, f4⟩ := own5 bm
    obtain ⟨⟨r0, r1, r2, r3, r4⟩, y0, y1, y2, y3, y4⟩ := own5 br
    by_cases hlt : i < s.w.length
    · have hlt2 : (i : Int) < (s.w.length : Int) := by omega
      obtain ⟨p, hpi⟩ : ∃ p, s.w[i]? = some p := ⟨s.w[i], List.getElem?_eq_getElem hlt⟩
      have hwS : ∀ W', New wr W' → PkS W' Aw s.w := fun W' g => (HH.out.2.2.2.2.1.fr fW fun a ha e => by
        have := (hwA a ha).2; omega).fr g fun _ _ x => x
      obtain ⟨sb, so, hAe, -⟩ := (hwS _ (Fr.refl _ _)).2 i hlt
      subst hAe
      go_wp2_with fail
      clear m0 m1 m2 m3 m4 f0 f1 f2 f3 f4 r0 r1 r2 r3 r4 y0 y1 y2 y3 y4
      apply wp_region_partsH 6 (fun W' => New wr W')
      case hp => simp only [List.take_succ_cons, List.take_zero]; exact rfl
      case hd => simp only [List.drop_succ_cons, List.drop_zero]; exact rfl
      case hm => kernel_rfl
      case hB => kernel_rfl
      case hT => kernel_rfl
      have hS0 : New wr wr.drew := (Fr.refl _ _).drew
      refine wpAnyH_take (i := 0) (v := .agg #[.slice A1 n1 c1, .slice A2 n2 c2, .slice A3 n3 c3, .int .i64 (({ s with w := [], c := [] } : NetV).pushes (s.w.take i)).sent, .int .i64 (({ s with w := [], c := [] } : NetV).pushes (s.w.take i)).lost]) rfl (by kernel_rfl) (by kernel_rfl) (by kernel_rfl) (fun _ _ _ h => h) (.inl ⟨rfl, fun w' hS => ?t0⟩) hS0 ?_
      case t0 =>
        obtain ⟨⟨m0, m1, m2, m3, m4⟩, -⟩ := own5 (bm.new_ hS)
        go_simp
      refine wpAnyH_take (i := 1) (v := .slice (some ⟨sb, so, none⟩) s.w.length capw) rfl (by kernel_rfl) (by kernel_rfl) (by kernel_rfl) (fun _ _ _ h => h) (.inl ⟨rfl, fun w' hS => ?t1⟩) hS0 ?_
      case t1 =>
        go_simp
      refine wpAnyH_take (i := 2) (v := .int .i64 (i : Nat)) rfl (by kernel_rfl) (by kernel_rfl) (by kernel_rfl) (fun _ _ _ h => h) (.inl ⟨rfl, fun w' hS => ?t2⟩) hS0 ?_
      case t2 =>
        go_simp
      refine wpAnyH_take (i := 3) (v := .pointer (some ⟨sb, so + i * 3, none⟩)) rfl (by kernel_rfl) (by kernel_rfl) (by kernel_rfl) (fun _ _ _ h => h) (.inl ⟨rfl, fun w' hS => ?t3⟩) hS0 ?_
      case t3 =>
        go_simp
      refine wpAnyH_take (i := 4) (v := p.v) rfl (by kernel_rfl) (by kernel_rfl) (by kernel_rfl) (fun _ _ _ h => h) (.inl ⟨rfl, fun w' hS => ?t4⟩) hS0 ?_
      case t4 =>
        obtain ⟨sb', so', hAe', hcc⟩ := (hwS w' hS).2 i hlt
        cases hAe'
        simp only [hpi] at hcc
        have a0 := hcc 0 _ rfl
        have a1 := hcc 1 _ rfl
        have a2 := hcc 2 _ rfl
        simp only [Nat.add_zero] at a0
        go_simp
      simp only [Act.put, List.setIfInBounds_toArray, List.set_cons_zero, List.set_cons_succ]
      refine wpAnyH_all (rs := [5]) (by kernel_rfl) (by simp) (fun j hj => ?_)
      rw [List.mem_singleton] at hj
      subst hj
      refine wpOp_step rfl (fun K hK => ?_)
      go_simp
      have hpl := pushes_le (s.w.take i) ({ s with w := [], c := [] } : NetV) hl
      have htl : (s.w.take i).length = i := by rw [List.length_take]; omega
      refine (mpush_any (p := p) (hm.new_ hS0) (fun k hk => hXw k hk) hpl.1 (by have := hpl.2.1; simp only at this; omega)).mono ?_
      rintro e W2 ⟨mv', rfl, hm2, g2⟩
      rw [← pushes_snoc, show s.w.take i ++ [p] = s.w.take (i + 1) by rw [List.take_add_one, hpi]; rfl] at hm2
      obtain ⟨B1, k1, d1, B2, k2, d2, B3, k3, d3, hcs2, -, -⟩ := hm2.form
      subst hcs2
      refine hK _ _ ⟨hS0.new_ g2, ?_⟩
      clear hK K
      refine wpAnyH_done (by kernel_rfl) ?_ _
      have bm2 := (bm.new_ hS0).new_ g2
      have br2 := (br.new_ hS0).new_ g2
      have gW := fW.trans (hS0.new_ g2) fun _ _ x => x.elim
      obtain ⟨⟨m0, m1, m2, m3, m4⟩, f0, f1, f2, f3, f4⟩ := own5 bm2
      have H := Lib.hid (And.intro bm2 (And.intro br2 (And.intro gW hm2)))
      clear bm2 br2 gW hm2 hm bm br fW hpl hwS hXw hN hS0 g2 hwA HR
      generalize hSn : (({ s with w := [], c := [] } : NetV).pushes (s.w.take (i + 1))) = Sn at H ⊢
      have HSn := Lib.hid hSn
      clear hSn
      unfold restQ
      go_simp
      go_wp2_with fail
      obtain ⟨bm2, br2, gW, hm2⟩ := H.out
      obtain ⟨bm3, f3⟩ := bm2.put5 (.slice B1 k1 d1) (.slice B2 k2 d2) (.slice B3 k3 d3) (.int .i64 Sn.sent) (.int .i64 Sn.lost)
      generalize hW3 : World.setCell _ _ _ = W3 at bm3 f3 ⊢
      clear hW3
      go_roundw
      case rel => exact ⟨i + 1, _, by simp, by omega, Lib.hid ⟨bm3, br2.fr f3 (by omega), gW.trans f3 fun _ _ e => e, HSn.out.symm ▸ hm2.fr f3 (fun k e => .inr (.inl e)) (fun _ h => .inl h)⟩⟩
      case measure => simp [intOf]; omega
    · obtain rfl : i = s.w.length := by omega
      have hge : ¬ (s.w.length : Int) < (s.w.length : Int) := by omega
      rw [List.take_length] at hm
      have H := Lib.hid (And.intro bm (And.intro br (And.intro fW (And.intro hm hN))))
      have hne : ¬ (w.heap.size + 1 = w.heap.size) := by omega
      clear bm br fW hm hN HR
      go_wp2_with fail
      obtain ⟨bm, br, fW, hm, hN⟩ := H.out
      refine post_world (fun Wf => Own Wf (w.heap.size + 1) 43 #[.slice A1 n1 c1, .slice A2 n2 c2, .slice A3 n3 c3, .int .i64 (({ s with w := [], c := [] } : NetV).pushes s.w).sent, .int .i64 (({ s with w := [], c := [] } : NetV).pushes s.w).lost] ∧ Fr (fun k => k = w.heap.size + 1) wr Wf) (br.put5 _ _ _ _ _) ?_
      clear m0 m1 m2 m3 m4 f0 f1 f2 f3 f4 r0 r1 r2 r3 r4 y0 y1 y2 y3 y4
      rintro Wf ⟨brf, ff⟩
      obtain ⟨⟨r0, r1, r2, r3, r4⟩, -⟩ := own5 brf
      have gF : New w Wf := hN.trans ff fun k hk e => by omega
      exact bodyPost_ret (v := .agg #[.slice A1 n1 c1, .slice A2 n2 c2, .slice A3 n3 c3, .int .i64 (({ s with w := [], c := [] } : NetV).pushes s.w).sent, .int .i64 (({ s with w := [], c := [] } : NetV).pushes s.w).lost]) (by simp [results, Try.results30, go_sem, *]) rfl ⟨_, rfl, hm.fr ff (fun k e => .inr (.inr e)) (fun _ h => .inl (.inl h)), gF⟩
end Go.Proofs.Ytleagdnlgjpcgaa
