/- The model: a way is cut. -/
import Derived.Test.YtleagdnlgjpcgaaNetModSend
import Derived.Test.YtleagdnlgjpcgaaNetModWay
namespace Go.Proofs.Ytleagdnlgjpcgaa
open Go.RowKit Go.Maps
set_option linter.unusedVariables false
set_option linter.unusedSimpArgs false

def mvd (a b : Int) (l : List Pkt) (i : Nat) : List Pkt := (l.take i).filter (onWay a b)
def kpt (a b : Int) (l : List Pkt) (i : Nat) : List Pkt := (l.take i).filter fun p => !onWay a b p
theorem mvd_le (a b : Int) (l : List Pkt) (i : Nat) (h : i ≤ l.length) : (mvd a b l i).length ≤ i := by
  have := List.length_filter_le (onWay a b) (l.take i)
  rw [List.length_take] at this
  unfold mvd
  omega
theorem kpt_le (a b : Int) (l : List Pkt) (i : Nat) (h : i ≤ l.length) : (kpt a b l i).length ≤ i := by
  have := List.length_filter_le (fun p => !onWay a b p) (l.take i)
  rw [List.length_take] at this
  unfold kpt
  omega
theorem take_succ' {l : List Pkt} {i : Nat} {p : Pkt} (h : l[i]? = some p) : l.take (i + 1) = l.take i ++ [p] := by
  rw [List.take_add_one, h]; rfl
theorem mvd_on {a b : Int} {l : List Pkt} {i : Nat} {p : Pkt} (h : l[i]? = some p) (ho : onWay a b p = true) : mvd a b l (i + 1) = mvd a b l i ++ [p] ∧ kpt a b l (i + 1) = kpt a b l i := by
  unfold mvd kpt
  rw [take_succ' h]
  simp [List.filter_cons, ho]
theorem mvd_off {a b : Int} {l : List Pkt} {i : Nat} {p : Pkt} (h : l[i]? = some p) (ho : onWay a b p = false) : mvd a b l (i + 1) = mvd a b l i ∧ kpt a b l (i + 1) = kpt a b l i ++ [p] := by
  unfold mvd kpt
  rw [take_succ' h]
  simp [List.filter_cons, ho]
theorem onWay_mem (a b : Int) (p : Pkt) : decide (p.w ∈ [wayOf (a, b)]) = onWay a b p := by
  unfold onWay Pkt.w wayOf
  rw [decide_eq_decide]
  simp [Prod.ext_iff]
set_option maxRecDepth 100000 in
set_option maxHeartbeats 8000000 in
theorem mpart_any {w : World} {X : Nat → Prop} {mv : Value} {s : NetV} {a b : Int} (h : ModB w X mv s) (hX : ∀ k, X k → k < w.heap.size) (hl : s.l.length ≤ 4096) (hw : s.w.length + s.l.length ≤ 100000) (hcl : s.c.length ≤ 1000) :
    Calls Try.prog 29 #[mv, .int .i64 a, .int .i64 b] w fun e W => ∃ mv', e = .returned (.tuple #[mv', .int .i64 (s.l.filter (onWay a b)).length]) ∧ ModB W X mv' (s.part a b) ∧ New w W := by
  have hM := Lib.hid h
  obtain ⟨lv, wv, cv, C, rfl, ⟨A1, c1, rfl, hs1⟩, ⟨A2, c2, rfl, hs2⟩, ⟨A3, c3, rfl, hs3, hA3⟩, h4⟩ := h
  have hcC : C.length ≤ 1000 := by omega
  replace h4 := Lib.hid h4
  have g2 : New w (((w.alloc (.cells #[.slice A1 s.l.length c1, .slice A2 s.w.length c2, .slice A3 C.length c3, .int .i64 s.sent, .int .i64 s.lost] 43)).alloc (.cells zMod 43)).alloc (.cells #[] 70)) := (((Fr.refl _ _).alloc _).alloc _).alloc _
  obtain ⟨v3, W3, hr1, hp3, g3, ho3⟩ := fresh_wys (cap := c3) (W := ((w.alloc (.cells #[.slice A1 s.l.length c1, .slice A2 s.w.length c2, .slice A3 C.length c3, .int .i64 s.sent, .int .i64 s.lost] 43)).alloc (.cells zMod 43)).alloc (.cells #[] 70)) (b := w.heap.size + 1 + 1) (Own.new' (by simp)) (Sl.new_ hs3 g2) (by omega)
  have hN3 : New w W3 := g2.new_ g3
  obtain ⟨v4, W4, hr2, hp4, f4, ho4⟩ := append_wy (W := W3.alloc (.cells #[.int .i64 a, .int .i64 b] 70)) (blk := W3.heap.size) (p := (a, b)) (hp3.fr ((Fr.refl _ _).alloc _) (G := fun _ => False) (fun _ _ x => x)) (by omega) (Own.new' (by simp))
  have hv3 : ∀ k, v3.ownBlock = some k → w.heap.size + 1 < k := fun k hk => by
    rcases ho3 with e | ⟨k', e, hk'⟩
    · rw [hk] at e; cases e; omega
    · rw [hk] at e; cases e; simp at hk'; omega
  have hs3s : w.heap.size + 1 + 1 < W3.heap.size := by have := g3.size; simp at this; omega
  have hv4 : ∀ k, v4.ownBlock = some k → w.heap.size + 1 < k := fun k hk => by
    rcases ho4 with e | ⟨k', e, hk'⟩
    · exact hv3 k (e ▸ hk)
    · rw [hk] at e; cases e; simp at hk'; omega
  have f34 : Fr (fun k => v3.ownBlock = some k) W3 W4 := ((Fr.refl _ _).alloc _).trans f4 fun _ _ x => x
  have hN4 : New w W4 := hN3.trans f34 fun k hk e => by have := hv3 k e; omega
  have bm : Own W4 w.heap.size 43 #[.slice A1 s.l.length c1, .slice A2 s.w.length c2, .slice A3 C.length c3, .int .i64 s.sent, .int .i64 s.lost] := Own.fr (Own.new_ (Own.alloc (Own.alloc (Own.fresh w _ _) _) _) g3) f34 fun e => by have := hv3 _ e; omega
  have br : Own W4 (w.heap.size + 1) 43 zMod := Own.fr (Own.new_ (Own.alloc (Own.new' (by simp)) _) g3) f34 fun e => by have := hv3 _ e; omega
  obtain ⟨A4, c4, hv⟩ := hp4.form
  rw [show (C ++ [(a, b)]).length = C.length + 1 by simp] at hv
  subst hv
  obtain ⟨⟨m0, m1, m2, m3, m4⟩, f0, f1, f2, f3, f4'⟩ := own5 bm
  have H := Lib.hid (And.intro bm (And.intro br (And.intro hN4 (And.intro hp4 hv4))))
  clear bm br hN4 hp4 hv4 hp3 ho3 ho4 g2 g3 f4 f34 hv3 hs3 hN3
  go_enter Try.func29, Try.ntmps29
  go_wp2_with (at_builtin; first | (refine wpList_append_run rfl (.tmp 12) (.tmp 14) 41 rfl rfl rfl hr1 ?_) | (refine wpList_append_run rfl (.tmp 15) (.tmp 19) 41 rfl rfl rfl hr2 ?_))
  obtain ⟨bm, br, hN4, hp4, hv4⟩ := H.out
  refine wp_world (fun W => Own W w.heap.size 43 #[.slice A1 s.l.length c1, .slice A2 s.w.length c2, .slice A4 (C.length + 1) c4, .int .i64 s.sent, .int .i64 s.lost] ∧ Own W (w.heap.size + 1) 43 zMod ∧ Own W W4.heap.size 26 #[] ∧ Own W (W4.heap.size + 1) 70 #[.int .i64 a, .int .i64 b] ∧
      Own W (W4.heap.size + 1 + 1) 43 #[.slice none 0 0, .slice none 0 0, .slice (some ⟨W4.heap.size + 1, 0, none⟩) 1 1, .int .i64 0, .int .i64 0] ∧ New w W ∧ WyL W (.slice A4 (C.length + 1) c4) (C ++ [(a, b)])) ?_ ?_
  · have f5 : Fr (fun k => k = w.heap.size) W4 ((((W4.setCell ⟨w.heap.size, 2, none⟩ (.slice A4 (C.length + 1) c4)).alloc (.cells #[] 26)).alloc (.cells #[.int .i64 a, .int .i64 b] 70)).alloc (.cells #[.slice none 0 0, .slice none 0 0, .slice (some ⟨W4.heap.size + 1, 0, none⟩) 1 1, .int .i64 0, .int .i64 0] 43)) :=
      (((Fr.set (F := fun k => k = w.heap.size) (Fr.refl _ _) (p := ⟨w.heap.size, 2, none⟩) (fun _ => rfl) _).alloc _).alloc _).alloc _
    have b1 : Own (W4.setCell ⟨w.heap.size, 2, none⟩ (.slice A4 (C.length + 1) c4)) w.heap.size 43 #[.slice A1 s.l.length c1, .slice A2 s.w.length c2, .slice A4 (C.length + 1) c4, .int .i64 s.sent, .int .i64 s.lost] := bm.put rfl
    refine ⟨((b1.alloc _).alloc _).alloc _, br.fr f5 (by omega), ?_, ?_, ?_, hN4.trans f5 fun k hk e => by omega, hp4.fr f5 fun k hk e => by have := hv4 k hk; omega⟩
    · exact Own.alloc (Own.alloc (Own.new' (by simp)) _) _
    · exact Own.alloc (Own.new' (by simp)) _
    · exact Own.new' (by simp)
  have hW4 := hN4.size
  have h45 : w.heap.size + 1 < W4.heap.size := br.lt
  have hc4 : ∀ k, (Value.slice A4 (C.length + 1) c4).ownBlock = some k → w.heap.size + 1 < k ∧ k < W4.heap.size := fun k hk => ⟨hv4 k hk, hp4.lt hk⟩
  clear bm br hN4 hp4 H m0 m1 m2 m3 m4 f0 f1 f2 f3 f4' hr1 hr2 hs3s
  rintro W5 ⟨bm, br, bl, bw, bo, hN, hp4⟩
  have hXX : ∀ k, (X k ∨ k = w.heap.size ∨ k = w.heap.size + 1 ∨ k = W4.heap.size + 1 ∨ k = W4.heap.size + 1 + 1 ∨ (Value.slice (some ⟨W4.heap.size, 0, none⟩) 0 0).ownBlock = some k) → X k ∨ w.heap.size ≤ k := fun k hk => by
    rcases hk with h | h | h | h | h | h
    · exact .inl h
    · exact .inr (by omega)
    · exact .inr (by omega)
    · exact .inr (by omega)
    · exact .inr (by omega)
    · injection h with h; exact .inr (by have : W4.heap.size = k := h; omega)
  have h0 : ModB W5 (fun k => X k ∨ k = w.heap.size ∨ k = w.heap.size + 1 ∨ k = W4.heap.size + 1 ∨ k = W4.heap.size + 1 + 1 ∨ (Value.slice (some ⟨W4.heap.size, 0, none⟩) 0 0).ownBlock = some k) (.agg #[.slice A1 s.l.length c1, .slice A2 s.w.length c2, .slice A4 (C.length + 1) c4, .int .i64 s.sent, .int .i64 s.lost]) ({ s with c := (min a b, max a b) :: s.c } : NetV) := by
    refine ⟨_, _, _, C ++ [(a, b)], rfl, SlP.fr ⟨A1, c1, rfl, hs1⟩ hN (fun _ g => g.elim) hXX, SlP.fr ⟨A2, c2, rfl, hs2⟩ hN (fun _ g => g.elim) hXX, ?_, by simp; exact h4.out.1, fun q => ?_⟩
    · have hsl : SlC W5 (fun k => X k ∨ k = w.heap.size ∨ k = w.heap.size + 1 ∨ k = W4.heap.size + 1 ∨ k = W4.heap.size + 1 + 1 ∨ (Value.slice (some ⟨W4.heap.size, 0, none⟩) 0 0).ownBlock = some k) (.slice A4 (C.length + 1) c4) (C ++ [(a, b)]) := WyL.sl hp4 fun k hk hx => by
        have h1 := hc4 k hk
        rcases hx with h | h | h | h | h | h
        · have := hX k h; omega
        · omega
        · omega
        · omega
        · omega
        · injection h with h
          have h2 : W4.heap.size = k := h
          omega
      exact hsl
    · constructor
      · intro hq
        rcases List.mem_cons.1 hq with rfl | hq
        · exact ⟨(a, b), by simp, rfl⟩
        · obtain ⟨c, hc, e⟩ := (h4.out.2 q).1 hq
          exact ⟨c, by simp [hc], e⟩
      · rintro ⟨c, hc, e⟩
        rcases List.mem_append.1 hc with hc | hc
        · exact List.mem_cons_of_mem _ ((h4.out.2 q).2 ⟨c, hc, e⟩)
        · rw [List.mem_singleton] at hc
          subst hc
          rw [← e]
          exact List.mem_cons_self
  have hlr : ∀ k, (Value.slice (some ⟨W4.heap.size, 0, none⟩) 0 0).ownBlock = some k → W4.heap.size ≤ k ∧ k ≠ W4.heap.size + 1 ∧ k ≠ W4.heap.size + 1 + 1 := fun k hk => by
    injection hk with hk
    have hk' : W4.heap.size = k := hk
    omega
  have HH := Lib.hid (And.intro bm (And.intro br (And.intro bw (And.intro bo (And.intro hN (And.intro (PkL.empty bl) (And.intro h0 hlr)))))))
  have hs1' := Lib.hid hs1
  clear bm br bl bw bo hN hp4 h0 hlr hXX hs1 hs2
  go_loopw [8, 9, 11] (fun lv nv iv wr => ∃ (i : Nat) (Al Aw : Option Addr) (nl cl nw cw : Nat), lv = .slice Al nl cl ∧ nv = .int .i64 (mvd a b s.l i).length ∧ iv = .int .i64 i ∧ i ≤ s.l.length ∧
      Hid (nl = (kpt a b s.l i).length ∧ Own wr w.heap.size 43 #[.slice A1 s.l.length c1, .slice Aw nw cw, .slice A4 (C.length + 1) c4, .int .i64 s.sent, .int .i64 s.lost] ∧ Own wr (w.heap.size + 1) 43 zMod ∧ Own wr (W4.heap.size + 1) 70 #[.int .i64 a, .int .i64 b] ∧ Own wr (W4.heap.size + 1 + 1) 43 #[.slice none 0 0, .slice none 0 0, .slice (some ⟨W4.heap.size + 1, 0, none⟩) 1 1, .int .i64 0, .int .i64 0] ∧ New w wr ∧
        PkL wr (.slice Al nl cl) (kpt a b s.l i) ∧ (∀ k, (Value.slice Al nl cl).ownBlock = some k → W4.heap.size ≤ k ∧ k ≠ W4.heap.size + 1 ∧ k ≠ W4.heap.size + 1 + 1) ∧ ModB wr (fun k => X k ∨ k = w.heap.size ∨ k = w.heap.size + 1 ∨ k = W4.heap.size + 1 ∨ k = W4.heap.size + 1 + 1 ∨ (Value.slice Al nl cl).ownBlock = some k) (.agg #[.slice A1 s.l.length c1, .slice Aw nw cw, .slice A4 (C.length + 1) c4, .int .i64 s.sent, .int .i64 s.lost]) ({ s with c := (min a b, max a b) :: s.c, w := s.w ++ mvd a b s.l i } : NetV))) (fun _ _ iv _ => s.l.length - (intOf iv).toNat)
  case atStart =>
    obtain ⟨bm, br, bw, bo, hN, hp, h0, hlr⟩ := HH.out
    exact ⟨0, some ⟨W4.heap.size, 0, none⟩, A2, 0, 0, s.w.length, c2, rfl, by simp [mvd], rfl, Nat.zero_le _, Lib.hid ⟨by simp [kpt], bm, br, bw, bo, hN, by simpa [kpt] using hp, hlr, by simpa [mvd] using h0⟩⟩
  case round =>
    obtain ⟨i, Al, Aw, nl, cl, nw, cw, rfl, rfl, rfl, hil, HR⟩ := hrel
    obtain ⟨hnl, bm, br, bw, bo, hN, hp, hlr, hm⟩ := HR.out
    have m0 : wr.cell? ⟨w.heap.size, 0, none⟩ = some (.slice A1 s.l.length c1) := bm.cell 0
    by_cases hlt : i < s.l.length
    · have hlt2 : (i : Int) < (s.l.length : Int) := by omega
      obtain ⟨p, hpi⟩ : ∃ p, s.l[i]? = some p := ⟨s.l[i], List.getElem?_eq_getElem hlt⟩
      have hl1 := hm.getL
      obtain ⟨_, _, e1, hsl, -, hAl⟩ := hl1
      injection e1 with e1 e2 e3
      subst e1 e3
      obtain ⟨sb, so, hAe, -⟩ := hsl.2 i hlt
      subst hAe
      have hpc : ∀ W', New wr W' → W'.cell? ⟨sb, so + i * 3, none⟩ = some (.int .i64 p.f) ∧ W'.cell? ⟨sb, so + i * 3 + 1, none⟩ = some (.int .i64 p.t) ∧ W'.cell? ⟨sb, so + i * 3 + 2, none⟩ = some (.string p.s) := fun W' g => by
        obtain ⟨sb', so', hAe', hcc⟩ := (hsl.fr g fun _ _ x => x).2 i hlt
        cases hAe'
        simp only [hpi] at hcc
        exact ⟨hcc 0 _ rfl, hcc 1 _ rfl, hcc 2 _ rfl⟩
      obtain ⟨N0, N1, N2, N3, N4⟩ : (∀ x, (Go.Proofs.Ytleagdnlgjpcgaa.nw wr x).cell? ⟨W4.heap.size + 1 + 1, 0, none⟩ = some (.slice none 0 0)) ∧ (∀ x, (Go.Proofs.Ytleagdnlgjpcgaa.nw wr x).cell? ⟨W4.heap.size + 1 + 1, 1, none⟩ = some (.slice none 0 0)) ∧ (∀ x, (Go.Proofs.Ytleagdnlgjpcgaa.nw wr x).cell? ⟨W4.heap.size + 1 + 1, 2, none⟩ = some (.slice (some ⟨W4.heap.size + 1, 0, none⟩) 1 1)) ∧ (∀ x, (Go.Proofs.Ytleagdnlgjpcgaa.nw wr x).cell? ⟨W4.heap.size + 1 + 1, 3, none⟩ = some (.int .i64 0)) ∧ (∀ x, (Go.Proofs.Ytleagdnlgjpcgaa.nw wr x).cell? ⟨W4.heap.size + 1 + 1, 4, none⟩ = some (.int .i64 0)) := ⟨bo.nw 0, bo.nw 1, bo.nw 2, bo.nw 3, bo.nw 4⟩
      have M0 : ∀ x, (Go.Proofs.Ytleagdnlgjpcgaa.nw wr x).cell? ⟨w.heap.size, 0, none⟩ = some (.slice (some ⟨sb, so, none⟩) s.l.length c1) := bm.nw 0
      have P0 := fun (y : Nx wr) => (hpc _ (nw_new wr y)).1
      have P1 := fun (y : Nx wr) => (hpc _ (nw_new wr y)).2.1
      have P2 := fun (y : Nx wr) => (hpc _ (nw_new wr y)).2.2
      have hmo : ModB wr (fun _ => False) (.agg #[.slice none 0 0, .slice none 0 0, .slice (some ⟨W4.heap.size + 1, 0, none⟩) 1 1, .int .i64 0, .int .i64 0]) (⟨[], [], [wayOf (a, b)], 0, 0⟩ : NetV) := by
        refine ⟨_, _, _, [(a, b)], rfl, SlP.nil _ _, SlP.nil _ _, ⟨some ⟨W4.heap.size + 1, 0, none⟩, 1, rfl, ⟨by simp [maxLen], fun j hj => ⟨_, _, rfl, fun r v hv => ?_⟩⟩, fun a' e => by cases e; exact ⟨fun h => h, bw.lt, _, bw⟩⟩, rfl, fun q => by simp [eq_comm]⟩
        have hj0 : j = 0 := by simp at hj; exact hj
        subst hj0
        have := bw.cell r
        rw [show 0 + 0 * 2 + r = r by omega, this]
        simpa using hv
      obtain ⟨cb, hcb⟩ : ∃ c, onWay a b p = c := ⟨_, rfl⟩
      have B1' := fun (y : Nx wr) => Calls.nw_of (hcb ▸ onWay_mem a b p ▸ mcut_any (p := p) (hmo.new_ (nw_new wr y)) (fun k hk => hk.elim))
      have HC := Lib.hid (And.intro hnl (And.intro bm (And.intro br (And.intro bw (And.intro bo (And.intro hN (And.intro hp (And.intro hlr (And.intro hm (And.intro hsl hpc))))))))))
      have HD := Lib.hid (And.intro hpi hcb)
      clear hnl bm br bw bo hN hp hlr hm hsl hpc hmo HR hpi hcb
      go_wp2_with fail
      refine wp_region_new_lit (by kernel_rfl) (by kernel_rfl) ?_; (repeat (any_goals (first | go_big_quiet_step ((go_at_call 35; with_reducible exact B1' _)) | quiet_step ((go_at_call 35; with_reducible exact B1' _)) | (refine wpQuiet_step (fun K hK => ?_); go_simp; split <;> (refine hK _ ?_; clear hK K))))); all_goals (refine wpQuiet_nil ?_; intro _ hw'; obtain ⟨xq, hw''⟩ := hw'; subst hw''; have hnq := nw_new _ xq)
      obtain ⟨W6, hW6⟩ : ∃ W', W' = Go.Proofs.Ytleagdnlgjpcgaa.nw wr xq := ⟨_, rfl⟩
      rw [← hW6] at hnq ⊢
      clear hW6 xq N0 N1 N2 N3 N4 M0 P0 P1 P2 B1' m0
      rename_i ha
      refine ha _ _ ?_
      clear ha
      obtain ⟨hnl, bm, br, bw, bo, hN, hp, hlr, hm, hsl, hpc2⟩ := HC.out
      replace bm := bm.new_ hnq
      replace br := br.new_ hnq
      replace bw := bw.new_ hnq
      replace bo := bo.new_ hnq
      replace hN := hN.new_ hnq
      replace hp := hp.fr hnq fun _ _ x => x
      replace hm := hm.new_ hnq
      have hpc : ∀ W', New W6 W' → W'.cell? ⟨sb, so + i * 3, none⟩ = some (.int .i64 p.f) ∧ W'.cell? ⟨sb, so + i * 3 + 1, none⟩ = some (.int .i64 p.t) ∧ W'.cell? ⟨sb, so + i * 3 + 2, none⟩ = some (.string p.s) := fun W' g => hpc2 W' (hnq.trans g fun _ _ x => x)
      clear hpc2 HC hsl hnq
      have hkl := kpt_le a b s.l i (by omega)
      have hml := mvd_le a b s.l i (by omega)
      have hW6s : W4.heap.size + 1 + 1 < W6.heap.size := bo.lt
      cases cb
      · obtain ⟨e1, e2⟩ := mvd_off HD.out.1 HD.out.2
        obtain ⟨v7, W7, hr, p7, g7, o7⟩ := append_pk (W := W6.alloc (.cells #[.int .i64 p.f, .int .i64 p.t, .string p.s] 26)) (blk := W6.heap.size) (p := p) (hp.fr ((Fr.refl _ _).alloc _) (G := fun _ => False) (fun _ _ x => x)) (by omega) (Own.new' (by simp))
        have f7 : Fr (fun k => (Value.slice Al nl cl).ownBlock = some k) W6 W7 := ((Fr.refl _ _).alloc _).trans g7 fun _ _ x => x
        have m0 : W6.cell? ⟨w.heap.size, 0, none⟩ = some (.slice (some ⟨sb, so, none⟩) s.l.length c1) := bm.cell 0
        obtain ⟨a0, a1, a2⟩ := hpc _ (Fr.refl _ _)
        obtain ⟨A7, c7, hv7⟩ := p7.form
        obtain ⟨n7, hn7⟩ : ∃ n7, n7 = (kpt a b s.l i ++ [p]).length := ⟨_, rfl⟩
        rw [← hn7] at hv7
        subst hv7
        have hnb : ∀ k, (Value.slice Al nl cl).ownBlock = some k → k ≠ w.heap.size ∧ k ≠ w.heap.size + 1 ∧ k ≠ W4.heap.size + 1 ∧ k ≠ W4.heap.size + 1 + 1 ∧ w.heap.size ≤ k := fun k hk => by have := hlr k hk; omega
        have hlr7 : ∀ k, (Value.slice A7 n7 c7).ownBlock = some k → W4.heap.size ≤ k ∧ k ≠ W4.heap.size + 1 ∧ k ≠ W4.heap.size + 1 + 1 := fun k hk => by
          rcases o7 with e | ⟨k', e, hk'⟩
          · exact hlr k (e ▸ hk)
          · rw [hk] at e; cases e; simp at hk'; omega
        have hm7 := hm.fr (X' := (fun k => X k ∨ k = w.heap.size ∨ k = w.heap.size + 1 ∨ k = W4.heap.size + 1 ∨ k = W4.heap.size + 1 + 1 ∨ (Value.slice A7 n7 c7).ownBlock = some k)) f7 (fun k e => .inr (.inr (.inr (.inr (.inr e))))) (fun k hk => by
          rcases hk with h | h | h | h | h | h
          · exact .inl (.inl h)
          · exact .inl (.inr (.inl h))
          · exact .inl (.inr (.inr (.inl h)))
          · exact .inl (.inr (.inr (.inr (.inl h))))
          · exact .inl (.inr (.inr (.inr (.inr (.inl h)))))
          · rcases o7 with e | ⟨k', e, hk'⟩
            · exact .inl (.inr (.inr (.inr (.inr (.inr (e ▸ h))))))
            · rw [h] at e; cases e; simp at hk'; exact .inr (by omega))
        have H := Lib.hid (And.intro (bm.fr f7 fun e => (hnb _ e).1 rfl) (And.intro (br.fr f7 fun e => (hnb _ e).2.1 rfl) (And.intro (bw.fr f7 fun e => (hnb _ e).2.2.1 rfl) (And.intro (bo.fr f7 fun e => (hnb _ e).2.2.2.1 rfl) (And.intro (hN.trans f7 fun k hk e => by have := (hnb k e).2.2.2.2; omega) (And.intro p7 (And.intro hlr7 (And.intro hm7 (And.intro e1 (And.intro e2 hn7))))))))))
        clear bm br bw bo hN p7 hp hlr7 hlr hm7 hm e1 e2 hnb f7 g7 o7 hpc hn7 hnl
        go_wp2_with (at_builtin; refine wpList_append_run rfl (.tmp 56) (.tmp 62) 22 rfl rfl rfl hr ?_)
        obtain ⟨bm, br, bw, bo, hN, hp, hlr, hm, e1, e2, hn7⟩ := H.out
        refine ⟨⟨i + 1, A7, Aw, n7, c7, nw, cw, rfl, by rw [e1], by simp, by omega, Lib.hid ⟨by rw [e2, hn7], bm, br, bw, bo, hN, by rw [e2]; exact hp, hlr, by rw [e1]; exact hm⟩⟩, by simp [intOf]; omega⟩
      · obtain ⟨e1, e2⟩ := mvd_on HD.out.1 HD.out.2
        obtain ⟨_, _, eW, hsW, -, hAW⟩ := hm.getW
        injection eW with q1 q2 q3
        subst q1 q2 q3
        have hS0 : New W6 W6.drew := (Fr.refl _ _).drew
        have hSn : ∀ W', New W6.drew W' → New W6 W' := fun W' g => hS0.new_ g
        have HE := Lib.hid (And.intro e1 (And.intro e2 hnl))
        clear e1 e2 hnl
        go_wp2_with fail
        apply wp_region_partsH 11 (fun W' => New W6 W')
        case hp => simp only [List.take_succ_cons, List.take_zero]; exact rfl
        case hd => simp only [List.drop_succ_cons, List.drop_zero]; exact rfl
        case hm => kernel_rfl
        case hB => kernel_rfl
        case hT => kernel_rfl
        refine wpAnyH_take (i := 1) (v := .pointer (some ⟨w.heap.size, 1, none⟩)) rfl (by kernel_rfl) (by kernel_rfl) (by kernel_rfl) (fun _ _ _ h => h) (.inl ⟨rfl, fun w' hS => ?t1⟩) hS0 ?_
        case t1 =>
          go_simp
        refine wpAnyH_take (i := 2) (v := .slice Aw (s.w ++ mvd a b s.l i).length cw) rfl (by kernel_rfl) (by kernel_rfl) (by kernel_rfl) (fun _ _ _ h => h) (.inl ⟨rfl, fun w' hS => ?t2⟩) hS0 ?_
        case t2 =>
          have m1 : w'.cell? ⟨w.heap.size, 1, none⟩ = some (.slice Aw (s.w ++ mvd a b s.l i).length cw) := (bm.new_ hS).cell 1
          go_simp
        refine wpAnyH_take (i := 4) (v := .pointer (some ⟨w.heap.size, 0, none⟩)) rfl (by kernel_rfl) (by kernel_rfl) (by kernel_rfl) (fun _ _ _ h => h) (.inl ⟨rfl, fun w' hS => ?t4⟩) hS0 ?_
        case t4 =>
          go_simp
        refine wpAnyH_take (i := 5) (v := .slice (some ⟨sb, so, none⟩) s.l.length c1) rfl (by kernel_rfl) (by kernel_rfl) (by kernel_rfl) (fun _ _ _ h => h) (.inl ⟨rfl, fun w' hS => ?t5⟩) hS0 ?_
        case t5 =>
          have m0 : w'.cell? ⟨w.heap.size, 0, none⟩ = some (.slice (some ⟨sb, so, none⟩) s.l.length c1) := (bm.new_ hS).cell 0
          go_simp
        refine wpAnyH_take (i := 6) (v := .int .i64 (i : Nat)) rfl (by kernel_rfl) (by kernel_rfl) (by kernel_rfl) (fun _ _ _ h => h) (.inl ⟨rfl, fun w' hS => ?t6⟩) hS0 ?_
        case t6 =>
          go_simp
        refine wpAnyH_take (i := 7) (v := .pointer (some ⟨sb, so + i * 3, none⟩)) rfl (by kernel_rfl) (by kernel_rfl) (by kernel_rfl) (fun _ _ _ h => h) (.inl ⟨rfl, fun w' hS => ?t7⟩) hS0 ?_
        case t7 =>
          go_simp
        refine wpAnyH_take (i := 8) (v := p.v) rfl (by kernel_rfl) (by kernel_rfl) (by kernel_rfl) (fun _ _ _ h => h) (.inl ⟨rfl, fun w' hS => ?t8⟩) hS0 ?_
        case t8 =>
          obtain ⟨a0, a1, a2⟩ := hpc w' hS
          go_simp
        simp only [Act.put, List.setIfInBounds_toArray, List.set_cons_zero, List.set_cons_succ]
        refine wpAnyH_diamond (fuel := 0) 0 3 9 10 42 45 51 52 44 50 (.slice Aw (s.w ++ mvd a b s.l i).length cw) (p.v) (V0 W6.heap.size) (VL W6.heap.size (s.w ++ mvd a b s.l i)) (V1 p) (VL W6.heap.size (s.w ++ mvd a b s.l i ++ [p])) V0.new_ VL.new_ V1.new_ (by decide) (by simp)
          (by kernel_rfl) (by kernel_rfl) (by kernel_rfl) (by kernel_rfl) (by kernel_rfl) (by kernel_rfl) (by kernel_rfl) (by kernel_rfl) (by kernel_rfl) (by decide) (by decide) (by decide) (by simp [Act.eval]) (by simp [Act.eval]) ?hE ?hA ?hB ?h2 hS0 ?fin
        case hE =>
          intro a' W' K g hS _ k
          refine wpOp_step rfl (fun K2 hK => ?_)
          go_simp
          exact hK _ _ (k _ _ ⟨W'.heap.size, rfl, Own.fresh _ _ _, g.size⟩ ((Fr.refl _ _).alloc _) (hSn _ (g.alloc _)))
        case hA =>
          rintro a' W' K g hS ⟨v, hv, ⟨b, rfl, hb, hbl⟩, hsa⟩ k
          obtain ⟨v', W'', hr, hp, gn, ho⟩ := fresh_pks (cap := cw) hb ((hsW.fr hS0 fun _ _ x => x).fr g fun _ _ x => x) (by simp only [List.length_append]; omega)
          refine wpOp_step rfl (fun K2 hK => ?_)
          refine step_append_run rfl (.tmp 42) (.tmp 44) 22 rfl hv hsa hr ?_
          refine hK _ _ (k _ _ ⟨hp, fun k hk => ?_⟩ gn (hSn _ (g.new_ gn)))
          rcases ho with e | ⟨k', e, hk'⟩
          · rw [hk] at e; cases e; exact hbl
          · rw [hk] at e; cases e; exact Nat.le_trans g.size hk'
        case hB =>
          intro a' W' K g hS hsb k
          replace hsb : a'.tmps[50]?.getD undef = .agg #[.int .i64 p.f, .int .i64 p.t, .string p.s] := by simpa [Act.eval] using hsb
          refine wpOp_step rfl (fun K2 hK => ?_)
          go_simp
          exact hK _ _ (k _ _ ⟨W'.heap.size, rfl, Own.fresh _ _ _⟩ ((Fr.refl _ _).alloc _) (hSn _ (g.alloc _)))
        case h2 =>
          rintro a' W' K g hS ⟨v, u, hv, ⟨hp, hvo⟩, hu, b, rfl, hb⟩ k
          obtain ⟨v', W'', hr, hp', f, ho⟩ := append_pk hp (by simp only [List.length_append]; omega) hb
          have gn : New W6.drew W'' := g.trans f fun k hk e => by have := hvo k e; exact absurd hk (by show ¬ k < W6.heap.size; omega)
          refine wpOp_step rfl (fun K2 hK => ?_)
          refine step_append_run rfl (.tmp 45) (.tmp 51) 22 rfl hv hu hr ?_
          refine hK _ _ (k _ _ ⟨hp', fun k hk => ?_⟩ gn (hSn _ gn))
          rcases ho with e | ⟨k', e, hk'⟩
          · exact hvo k (e ▸ hk)
          · rw [hk] at e; cases e; exact Nat.le_trans g.size hk'
        case fin =>
          rintro ve v u v2 W' ⟨hp2, hvo⟩ g hS
          refine wpAnyH_done (by kernel_rfl) ?_ _
          obtain ⟨A9, c9, hv2⟩ := hp2.form
          have gg : New W6 W' := hSn _ g
          have hsl := hp2.sl (X := (fun k => X k ∨ k = w.heap.size ∨ k = w.heap.size + 1 ∨ k = W4.heap.size + 1 ∨ k = W4.heap.size + 1 + 1 ∨ (Value.slice Al nl cl).ownBlock = some k)) fun k hk hx => by
            have h1 := hvo k hk
            rcases hx with h | h | h | h | h | h
            · have := hX k h; omega
            · omega
            · omega
            · omega
            · omega
            · have := hp.lt h; omega
          rw [hv2] at hsl ⊢
          have hm5 := (hm.new_ gg).setW hsl
          have bm4 := bm.new_ gg
          have m1 : W'.cell? ⟨w.heap.size, 1, none⟩ = some (.slice Aw (s.w ++ mvd a b s.l i).length cw) := bm4.cell 1
          have f1 : W'.frozen? ⟨w.heap.size, 1, none⟩ = false := bm4.free 1
          have f9 : Fr (fun k => k = w.heap.size) W' (W'.setCell ⟨w.heap.size, 1, none⟩ (.slice A9 (s.w ++ mvd a b s.l i ++ [p]).length c9)) := Fr.set (F := fun k => k = w.heap.size) (Fr.refl _ _) (p := ⟨w.heap.size, 1, none⟩) (fun _ => rfl) _
          have bm9 : Own (W'.setCell ⟨w.heap.size, 1, none⟩ (.slice A9 (s.w ++ mvd a b s.l i ++ [p]).length c9)) w.heap.size 43 #[.slice (some ⟨sb, so, none⟩) s.l.length c1, .slice A9 (s.w ++ mvd a b s.l i ++ [p]).length c9, .slice A4 (C.length + 1) c4, .int .i64 s.sent, .int .i64 s.lost] := bm4.put rfl
          have hm9 := hm5.fr (X' := (fun k => X k ∨ k = w.heap.size ∨ k = w.heap.size + 1 ∨ k = W4.heap.size + 1 ∨ k = W4.heap.size + 1 + 1 ∨ (Value.slice Al nl cl).ownBlock = some k)) f9 (fun k e => .inr (.inl e)) (fun _ h => .inl h)
          have hp9 := (hp.fr gg fun _ _ x => x).fr f9 fun k hk e => by have := hlr k hk; omega
          have H := Lib.hid ((And.intro bm9 (And.intro ((br.new_ gg).fr f9 (by omega)) (And.intro ((bw.new_ gg).fr f9 (by omega)) (And.intro ((bo.new_ gg).fr f9 (by omega)) (And.intro ((hN.new_ gg).trans f9 fun k hk e => by omega) (And.intro hp9 (And.intro hlr hm9))))))))
          clear bm br bw bo hN hp hlr hm hm5 hm9 hp9 bm9 f9 bm4 hsl hv2 hp2 hvo hpc hS0 hSn hsW hAW gg g hS
          generalize (s.w ++ mvd a b s.l i ++ [p]).length = q9 at H ⊢
          unfold restQ
          go_simp
          go_wp2_with fail
          generalize W'.setCell ⟨w.heap.size, 1, none⟩ (.slice A9 q9 c9) = W9 at H ⊢
          obtain ⟨bm, br, bw, bo, hN, hp, hlr, hm⟩ := H.out
          obtain ⟨e1, e2, hnl⟩ := HE.out
          refine ⟨⟨i + 1, Al, A9, nl, cl, q9, c9, rfl, by rw [e1]; simp, by simp, by omega, Lib.hid ⟨by rw [e2, hnl], bm, br, bw, bo, hN, by rw [e2]; exact hp, hlr, by rw [e1, ← List.append_assoc]; exact hm⟩⟩, by simp [intOf]; omega⟩
    · obtain rfl : i = s.l.length := by omega
      have hge : ¬ (s.l.length : Int) < (s.l.length : Int) := by omega
      have hkf : kpt a b s.l s.l.length = s.l.filter fun p => !onWay a b p := by unfold kpt; rw [List.take_length]
      have hmf : mvd a b s.l s.l.length = s.l.filter (onWay a b) := by unfold mvd; rw [List.take_length]
      rw [hkf] at hp
      rw [hmf] at hm ⊢
      have hne : ¬ (w.heap.size + 1 = w.heap.size) := by omega
      have hne2 : ¬ (w.heap.size = w.heap.size + 1) := by omega
      obtain ⟨⟨_, m1, m2, m3, m4⟩, f0, f1, f2, f3, f4⟩ := own5 bm
      obtain ⟨⟨r0, r1, r2, r3, r4⟩, y0, y1, y2, y3, y4⟩ := own5 br
      have hnl2 : nl = (s.l.filter fun p => !onWay a b p).length := by rw [hnl, hkf]
      have H := Lib.hid (And.intro bm (And.intro br (And.intro hN (And.intro hp (And.intro hlr (And.intro hm hnl2))))))
      clear bm br bw bo hN hp hlr hm HR hkf hmf hnl hnl2
      go_wp2_with fail
      obtain ⟨bm, br, hN, hp, hlr, hm, hnl2⟩ := H.out
      refine post_world (fun Wf => Own Wf (w.heap.size + 1) 43 #[.slice Al nl cl, .slice Aw nw cw, .slice A4 (C.length + 1) c4, .int .i64 s.sent, .int .i64 s.lost] ∧ Fr (fun k => k = w.heap.size ∨ k = w.heap.size + 1) wr Wf) ?_ ?_
      · obtain ⟨q1, q2⟩ := (br.far (p := ⟨w.heap.size, 0, none⟩) (by show ¬ (_ = w.heap.size); omega) (.slice Al nl cl)).put5 (.slice Al nl cl) (.slice Aw nw cw) (.slice A4 (C.length + 1) c4) (.int .i64 s.sent) (.int .i64 s.lost)
        exact ⟨q1, (Fr.set (F := fun k => k = w.heap.size ∨ k = w.heap.size + 1) (Fr.refl _ _) (p := ⟨w.heap.size, 0, none⟩) (fun _ => .inl rfl) _).trans q2 fun _ _ e => .inr e⟩
      clear m0 m1 m2 m3 m4 f0 f1 f2 f3 f4 r0 r1 r2 r3 r4 y0 y1 y2 y3 y4
      rintro Wf ⟨brf, ff⟩
      obtain ⟨⟨r0, r1, r2, r3, r4⟩, -⟩ := own5 brf
      have gF : New w Wf := hN.trans ff fun k hk e => by omega
      have hpf := hp.fr ff fun k hk e => by have := hlr k hk; omega
      have hsl := hpf.sl (X := X) fun k hk hx => by have := hlr k hk; have := hX k hx; omega
      have hmf := (hm.fr (X' := X) ff (fun k e => by rcases e with e | e; exact .inr (.inl e); exact .inr (.inr (.inl e))) (fun _ h => .inl (.inl h))).setL hsl
      exact bodyPost_ret (v := .tuple #[.agg #[.slice Al nl cl, .slice Aw nw cw, .slice A4 (C.length + 1) c4, .int .i64 s.sent, .int .i64 s.lost], .int .i64 (s.l.filter (onWay a b)).length]) (by simp [results, Try.results29, go_sem, *]) rfl ⟨_, rfl, hmf, gF⟩
end Go.Proofs.Ytleagdnlgjpcgaa
