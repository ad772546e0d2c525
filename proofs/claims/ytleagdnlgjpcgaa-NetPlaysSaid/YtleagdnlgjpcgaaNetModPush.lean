/- The model: a packet behind all that are under way. -/
import Derived.Test.YtleagdnlgjpcgaaNetModCut
namespace Go.Proofs.Ytleagdnlgjpcgaa
open Go.RowKit Go.Maps
set_option linter.unusedVariables false
set_option linter.unusedSimpArgs false

abbrev V0 (B : Nat) (v : Value) (W : World) : Prop := ∃ b, v = .slice (some ⟨b, 0, none⟩) 0 0 ∧ Own W b 26 #[] ∧ B ≤ b
abbrev V1 (p : Pkt) (v : Value) (W : World) : Prop := ∃ b, v = .slice (some ⟨b, 0, none⟩) 1 1 ∧ Own W b 26 #[.int .i64 p.f, .int .i64 p.t, .string p.s]
abbrev VL (B : Nat) (l : List Pkt) (v : Value) (W : World) : Prop := PkL W v l ∧ ∀ k, v.ownBlock = some k → B ≤ k
theorem V0.new_ {B : Nat} : ∀ v W W', V0 B v W → New W W' → V0 B v W' := fun v W W' ⟨b, e, h, hb⟩ g => ⟨b, e, h.new_ g, hb⟩
theorem V1.new_ {p : Pkt} : ∀ v W W', V1 p v W → New W W' → V1 p v W' := fun v W W' ⟨b, e, h⟩ g => ⟨b, e, h.new_ g⟩
theorem VL.new_ {B : Nat} {l : List Pkt} : ∀ v W W', VL B l v W → New W W' → VL B l v W' := fun v W W' ⟨h, hb⟩ g => ⟨h.fr g fun _ _ x => x, hb⟩
theorem PkS.drop {W : World} {sb so : Nat} {l : List Pkt} (h : PkS W (some ⟨sb, so, none⟩) l) (i : Nat) : PkS W (some ⟨sb, so + i * 3, none⟩) (l.drop i) := by
  refine ⟨by have := h.1; simp only [List.length_drop]; omega, fun j hj => ⟨sb, so + i * 3, rfl, fun r v hv => ?_⟩⟩
  rw [List.length_drop] at hj
  obtain ⟨b, o, e, hc⟩ := h.2 (i + j) (by omega)
  cases e
  simp only [List.getElem?_drop] at hv
  have := hc r v hv
  rw [show so + i * 3 + j * 3 + r = so + (i + j) * 3 + r by omega]
  exact this
theorem PkS.take {W : World} {A : Option Addr} {l : List Pkt} (h : PkS W A l) (i : Nat) : PkS W A (l.take i) := by
  refine ⟨by have := h.1; simp only [List.length_take]; omega, fun j hj => ?_⟩
  rw [List.length_take] at hj
  obtain ⟨b, o, e, hc⟩ := h.2 j (by omega)
  refine ⟨b, o, e, fun r v hv => ?_⟩
  simp only [List.getElem?_take, show j < i by omega, if_true] at hv
  exact hc r v hv
theorem own5_nw {W W' : World} {b : Nat} {t : TypeId} {cs : Array Value} (h : Own W b t cs) (g : New W W') (i : Nat) : W'.cell? ⟨b, i, none⟩ = cs[i]? := (h.new_ g).cell i
set_option maxRecDepth 100000 in
set_option maxHeartbeats 8000000 in
theorem mpush_any {w : World} {X : Nat → Prop} {mv : Value} {s : NetV} {p : Pkt} (h : ModB w X mv s) (hX : ∀ k, X k → k < w.heap.size) (hl : s.l.length ≤ 4096) (hlo : s.lost ≤ 1000000) :
    Calls Try.prog 28 #[mv, p.v] w fun e W => ∃ mv', e = .returned mv' ∧ ModB W X mv' (s.push p) ∧ New w W := by
  obtain ⟨lv, wv, cv, C, rfl, h1, h2, h3, h4⟩ := h
  replace h4 := Lib.hid h4
  obtain ⟨A, cap, rfl, hs, hc, hA⟩ := h1
  obtain ⟨Aw, capw, rfl, hws⟩ := h2
  obtain ⟨Ac, capc, rfl, hcs⟩ := h3
  go_enter Try.func28, Try.ntmps28
  go_wp2_with fail
  refine wp_world (fun W => Own W w.heap.size 43 #[.slice A s.l.length cap, .slice Aw s.w.length capw, .slice Ac C.length capc, .int .i64 s.sent, .int .i64 s.lost] ∧ Own W (w.heap.size + 1) 26 #[.int .i64 p.f, .int .i64 p.t, .string p.s] ∧ Own W (w.heap.size + 1 + 1) 43 #[.slice none 0 0, .slice none 0 0, .slice none 0 0, .int .i64 0, .int .i64 0] ∧ New w W)
    ⟨Own.alloc (Own.alloc (Own.fresh _ _ _) _) _, Own.alloc (Own.new' (by simp)) _, Own.new' (by simp), (((Fr.refl _ _).alloc _).alloc _).alloc _⟩ ?_
  rintro W1 ⟨bm, bp, br, hN⟩
  have hs1 : PkS W1.drew A s.l := hs.fr ((hN.drew)) fun _ _ g => g
  have d1 : New W1 W1.drew := (Fr.refl _ _).drew
  have hwl : w.heap.size ≤ W1.heap.size := hN.size
  have hlm := bm.lt
  have hlp := bp.lt
  have hlr := br.lt
  apply wp_region_partsH 7 (fun W' => W'.cell? ⟨w.heap.size, 0, none⟩ = some (.slice A s.l.length cap) ∧ W'.cell? ⟨w.heap.size + 1, 0, none⟩ = some (.int .i64 p.f) ∧ W'.cell? ⟨w.heap.size + 1, 1, none⟩ = some (.int .i64 p.t) ∧ W'.cell? ⟨w.heap.size + 1, 2, none⟩ = some (.string p.s))
  case hp => simp only [List.take_succ_cons, List.take_zero]; exact rfl
  case hd => simp only [List.drop_succ_cons, List.drop_zero]; exact rfl
  case hm => kernel_rfl
  case hB => kernel_rfl
  case hT => kernel_rfl
  have hSn : ∀ W', New W1.drew W' → (W'.cell? ⟨w.heap.size, 0, none⟩ = some (.slice A s.l.length cap) ∧ W'.cell? ⟨w.heap.size + 1, 0, none⟩ = some (.int .i64 p.f) ∧ W'.cell? ⟨w.heap.size + 1, 1, none⟩ = some (.int .i64 p.t) ∧ W'.cell? ⟨w.heap.size + 1, 2, none⟩ = some (.string p.s)) :=
    fun W' g => ⟨own5_nw bm.drew g 0, own5_nw bp.drew g 0, own5_nw bp.drew g 1, own5_nw bp.drew g 2⟩
  have hS0 := hSn _ (Fr.refl _ _)
  refine wpAnyH_take (i := 1) (v := .pointer (some ⟨w.heap.size, 0, none⟩)) rfl (by kernel_rfl) (by kernel_rfl) (by kernel_rfl) (fun _ _ _ h => h) (.inl ⟨rfl, fun w' hS => ?t1⟩) hS0 ?_
  case t1 =>
    obtain ⟨s0, s1, s2, s3⟩ := hS
    go_simp
  refine wpAnyH_take (i := 2) (v := .slice A s.l.length cap) rfl (by kernel_rfl) (by kernel_rfl) (by kernel_rfl) (fun _ _ _ h => h) (.inl ⟨rfl, fun w' hS => ?t2⟩) hS0 ?_
  case t2 =>
    obtain ⟨s0, s1, s2, s3⟩ := hS
    go_simp
  refine wpAnyH_take (i := 4) (v := p.v) rfl (by kernel_rfl) (by kernel_rfl) (by kernel_rfl) (fun _ _ _ h => h) (.inl ⟨rfl, fun w' hS => ?t4⟩) hS0 ?_
  case t4 =>
    obtain ⟨s0, s1, s2, s3⟩ := hS
    go_simp
  simp only [Act.put, List.setIfInBounds_toArray, List.set_cons_zero, List.set_cons_succ]
  refine wpAnyH_diamond (fuel := 0) 0 3 5 6 5 8 10 11 7 9 (.slice A s.l.length cap) p.v (V0 W1.heap.size) (VL W1.heap.size s.l) (V1 p) (VL W1.heap.size (s.l ++ [p])) V0.new_ VL.new_ V1.new_ (by decide) (by simp)
    (by kernel_rfl) (by kernel_rfl) (by kernel_rfl) (by kernel_rfl) (by kernel_rfl) (by kernel_rfl) (by kernel_rfl) (by kernel_rfl) (by kernel_rfl) (by decide) (by decide) (by decide) (by simp [Act.eval]) (by simp [Act.eval]) ?hE ?hA ?hB ?h2 hS0 ?fin
  case hE =>
    intro a W' K g hS _ k
    refine wpOp_step rfl (fun K2 hK => ?_)
    go_simp
    exact hK _ _ (k _ _ ⟨W'.heap.size, rfl, Own.fresh _ _ _, g.size⟩ ((Fr.refl _ _).alloc _) (hSn _ (g.alloc _)))
  case hA =>
    rintro a W' K g hS ⟨v, hv, ⟨b, rfl, hb, hbl⟩, hsa⟩ k
    obtain ⟨v', W'', hr, hp, gn, ho⟩ := fresh_pks (cap := cap) hb (hs1.fr g fun _ _ x => x) (by omega)
    refine wpOp_step rfl (fun K2 hK => ?_)
    refine step_append_run rfl (.tmp 5) (.tmp 7) 22 rfl hv hsa hr ?_
    refine hK _ _ (k _ _ ⟨hp, fun k hk => ?_⟩ gn (hSn _ (g.new_ gn)))
    rcases ho with e | ⟨k', e, hk'⟩
    · rw [hk] at e; cases e; exact hbl
    · rw [hk] at e; cases e; exact Nat.le_trans g.size hk'
  case hB =>
    intro a W' K g hS hsb k
    replace hsb : a.tmps[9]?.getD undef = .agg #[.int .i64 p.f, .int .i64 p.t, .string p.s] := by simpa [Act.eval] using hsb
    refine wpOp_step rfl (fun K2 hK => ?_)
    go_simp
    exact hK _ _ (k _ _ ⟨W'.heap.size, rfl, Own.fresh _ _ _⟩ ((Fr.refl _ _).alloc _) (hSn _ (g.alloc _)))
  case h2 =>
    rintro a W' K g hS ⟨v, u, hv, ⟨hp, hvo⟩, hu, b, rfl, hb⟩ k
    obtain ⟨v', W'', hr, hp', f, ho⟩ := append_pk hp (by omega) hb
    have gn : New W1.drew W'' := g.trans f fun k hk e => by have := hvo k e; exact absurd hk (by show ¬ k < W1.heap.size; omega)
    refine wpOp_step rfl (fun K2 hK => ?_)
    refine step_append_run rfl (.tmp 8) (.tmp 10) 22 rfl hv hu hr ?_
    refine hK _ _ (k _ _ ⟨hp', fun k hk => ?_⟩ gn (hSn _ gn))
    rcases ho with e | ⟨k', e, hk'⟩
    · exact hvo k (e ▸ hk)
    · rw [hk] at e; cases e; exact Nat.le_trans g.size hk'
  case fin =>
    rintro ve v u v2 W' ⟨hp, hvo⟩ g hS
    refine wpAnyH_done (by kernel_rfl) ?_ _
    have gN : New w W' := (hN.trans d1 fun _ _ x => x).new_ g
    have bm' := (bm.drew).new_ g
    have br' := (br.drew).new_ g
    obtain ⟨A2, cap2, hv2⟩ := hp.form
    rw [show (s.l ++ [p]).length = s.l.length + 1 by simp] at hv2
    subst hv2
    obtain ⟨⟨c0, c1, c2, c3, c4⟩, f0, f1, f2, f3, f4⟩ := own5 bm'
    obtain ⟨⟨r0, r1, r2, r3, r4⟩, y0, y1, y2, y3, y4⟩ := own5 br'
    have H := Lib.hid (And.intro hp (And.intro hvo (And.intro gN (And.intro hws (And.intro hcs (And.intro h4 (And.intro hX (And.intro bm' br'))))))))
    have hcap : s.l.length + 1 ≤ cap2 := by
      have := hp.sl (X := fun _ => False) fun _ _ x => x
      obtain ⟨_, _, e, _, hh, _⟩ := this
      injection e with e1 e2 e3
      rw [e3]
      simpa using hh
    clear hp hvo gN hws hcs h4 hX bm' br' bm bp br hs hA hs1 hN d1 hSn hS0 hS g
    unfold restQ
    have hnb : ∀ k, (Value.slice A2 (s.l.length + 1) cap2).ownBlock = some k → ¬ (k = w.heap.size ∨ k = w.heap.size + 1 + 1) := fun k hk => by
      have := H.out.2.1 k hk; omega
    by_cases hfull : s.l.length < 4096
    · have hle : ¬ (4096 : Int) < (s.l.length : Int) + 1 := by omega
      go_simp
      go_wp2_with fail
      refine post_world (fun Wf => Own Wf (w.heap.size + 1 + 1) 43 #[.slice A2 (s.l.length + 1) cap2, .slice Aw s.w.length capw, .slice Ac C.length capc, .int .i64 s.sent, .int .i64 s.lost] ∧ Fr (fun k => k = w.heap.size ∨ k = w.heap.size + 1 + 1) W' Wf) ?_ ?_
      · refine ⟨?_, ?_⟩
        · have q0 := (H.out.2.2.2.2.2.2.2.2).far (p := ⟨w.heap.size, 0, none⟩) (by show ¬ (_ = w.heap.size); omega) (.slice A2 (s.l.length + 1) cap2)
          exact ((((q0.put rfl).put rfl).put rfl).put rfl).put rfl
        · repeat (first | with_reducible exact Fr.refl _ _ | (with_reducible refine Fr.set ?_ (fun _ => by first | exact .inl rfl | exact .inr rfl) _))
      clear c0 c1 c2 c3 c4 f0 f1 f2 f3 f4 r0 r1 r2 r3 r4 y0 y1 y2 y3 y4
      rintro Wf ⟨br, fW⟩
      obtain ⟨hp, hvo, gN, hws, hcs, h4, hX, -, -⟩ := H.out
      have gF : New w Wf := gN.trans fW fun k hk e => by omega
      obtain ⟨⟨r0, r1, r2, r3, r4⟩, -⟩ := own5 br
      refine bodyPost_ret (v := .agg #[.slice A2 (s.l.length + 1) cap2, .slice Aw s.w.length capw, .slice Ac C.length capc, .int .i64 s.sent, .int .i64 s.lost]) (by simp [results, Try.results28, go_sem, *]) rfl ⟨_, rfl, ?_, gF⟩
      unfold NetV.push
      rw [if_pos hfull]
      have hsl := (hp.fr fW hnb).sl (X := X) fun k hk hx => by have := hvo k hk; have := hX k hx; omega
      rw [show s.l.length + 1 = (s.l ++ [p]).length by simp] at hsl ⊢
      exact ⟨_, _, _, C, rfl, hsl, SlP.new_ ⟨Aw, capw, rfl, hws⟩ gF, SlC.new_ ⟨Ac, capc, rfl, hcs⟩ gF, h4.out⟩
    · have hle : (4096 : Int) < (s.l.length : Int) + 1 := by omega
      have hc1 : ¬ cap2 = 1 := by omega
      have hc2 : 1 ≤ cap2 := by omega
      obtain ⟨g2, hA2⟩ : ∃ g2, A2 = some ⟨g2, 0, none⟩ := by
        rcases H.out.1.2 with ⟨e, h0⟩ | ⟨g2, c', cur, e, _⟩
        · simp at h0
        · injection e with e1 e2 e3
          exact ⟨g2, e1⟩
      subst hA2
      go_simp
      go_wp2_with fail
      refine post_world (fun Wf => Own Wf (w.heap.size + 1 + 1) 43 #[.slice (some ⟨g2, 3, none⟩) s.l.length (cap2 - 1), .slice Aw s.w.length capw, .slice Ac C.length capc, .int .i64 s.sent, .int .i64 ((s.lost : Int) + 1)] ∧ Fr (fun k => k = w.heap.size ∨ k = w.heap.size + 1 + 1) W' Wf) ?_ ?_
      · refine ⟨?_, ?_⟩
        · have q0 := (((H.out.2.2.2.2.2.2.2.2).far (p := ⟨w.heap.size, 0, none⟩) (by show ¬ (_ = w.heap.size); omega) (.slice (some ⟨g2, 0, none⟩) (s.l.length + 1) cap2)).far (p := ⟨w.heap.size, 0, none⟩) (by show ¬ (_ = w.heap.size); omega) (.slice (some ⟨g2, 3, none⟩) s.l.length (cap2 - 1))).far (p := ⟨w.heap.size, 4, none⟩) (by show ¬ (_ = w.heap.size); omega) (.int .i64 ((s.lost : Int) + 1))
          exact ((((q0.put rfl).put rfl).put rfl).put rfl).put rfl
        · repeat (first | with_reducible exact Fr.refl _ _ | (with_reducible refine Fr.set ?_ (fun _ => by first | exact .inl rfl | exact .inr rfl) _))
      clear c0 c1 c2 c3 c4 f0 f1 f2 f3 f4 r0 r1 r2 r3 r4 y0 y1 y2 y3 y4
      rintro Wf ⟨br, fW⟩
      obtain ⟨hp, hvo, gN, hws, hcs, h4, hX, -, -⟩ := H.out
      have gF : New w Wf := gN.trans fW fun k hk e => by omega
      obtain ⟨⟨r0, r1, r2, r3, r4⟩, -⟩ := own5 br
      refine bodyPost_ret (v := .agg #[.slice (some ⟨g2, 3, none⟩) s.l.length (cap2 - 1), .slice Aw s.w.length capw, .slice Ac C.length capc, .int .i64 s.sent, .int .i64 ((s.lost : Int) + 1)]) (by simp [results, Try.results28, go_sem, *]) rfl ⟨_, rfl, ?_, gF⟩
      unfold NetV.push
      rw [if_neg hfull]
      have hpf := (hp.fr fW hnb).cells
      have hd1 := PkS.drop hpf 1
      have hg1 := hvo g2 rfl
      have hg2 : g2 < Wf.heap.size := (hp.fr fW hnb).lt rfl
      have hsl : SlP Wf X (.slice (some ⟨g2, 3, none⟩) s.l.length (cap2 - 1)) ((s.l ++ [p]).drop 1) :=
        ⟨some ⟨g2, 3, none⟩, cap2 - 1, by simp, by simpa using hd1, by simp; omega, fun a e => by cases e; exact ⟨fun hx => by have := hX _ hx; have h3 : g2 < w.heap.size := this; omega, hg2⟩⟩
      exact ⟨_, _, _, C, rfl, hsl, SlP.new_ ⟨Aw, capw, rfl, hws⟩ gF, SlC.new_ ⟨Ac, capc, rfl, hcs⟩ gF, h4.out⟩
end Go.Proofs.Ytleagdnlgjpcgaa
