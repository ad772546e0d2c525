/- What happens to a network, and to the model: one is put in. -/
import Derived.Test.YtleagdnlgjpcgaaNetDoC
namespace Go.Proofs.Ytleagdnlgjpcgaa
open Go.RowKit Go.Maps
set_option linter.unusedVariables false
set_option linter.unusedSimpArgs false

abbrev pkIn (a b : Int) : Pkt := ⟨a, b, ⟨#[105, 110]⟩⟩
set_option maxRecDepth 100000 in
set_option maxHeartbeats 8000000 in
theorem do_insert_out {w : World} {n nl cl : Nat} {X : Nat → Prop} {s : NetV} {mv : Value} {a b : Int} {AL : Option Addr} {j : Nat} (hB : NetB w n X s) (hM : ModB w X mv s) (hj : Bnd s j) (hj2 : j ≤ 150) {nn : Int} (ho : nn < 0 ∨ (s.l.length : Int) < nn) :
    Calls Try.prog 19 #[.pointer (some ⟨n, 0, none⟩), mv, .agg #[.int .i64 7, .int .i64 nn, .int .i64 a, .int .i64 b, .slice AL nl cl]] w (DoOk w n X j) := by
  have hXlt := fun k hk => hB.lt (k := k) hk
  obtain ⟨hj0, hj3, hj4, hj5⟩ := hj
  have HO := Lib.hid ho
  have h5 : (s.l.length : Int) < 4096 := by omega
  rcases Int.lt_or_le nn 0 with hr | hr
  all_goals (
    have hr2 : nn < 0 ∨ (s.l.length : Int) < nn := ho
    (try have hr3 : (s.l.length : Int) < nn := by omega)
    clear ho hr2
    obtain ⟨A1, n1, c1, A2, n2, c2, A3, n3, c3, rfl, rfl, rfl⟩ := hM.form
    have HB := Lib.hid (And.intro hB hM)
    clear hB hM
    go_enter Try.func19, Try.ntmps19
    go_wp2_with fail
    refine calls_world (fun W => Own W w.heap.size 43 #[.slice A1 s.l.length c1, .slice A2 s.w.length c2, .slice A3 n3 c3, .int .i64 s.sent, .int .i64 s.lost] ∧ Own W (w.heap.size + 1) 47 #[.int .i64 7, .int .i64 nn, .int .i64 a, .int .i64 b, .slice AL nl cl] ∧ Own W (w.heap.size + 1 + 1) 43 zMod ∧ New w W ∧ Own W (w.heap.size + 1 + 1 + 1) 26 #[.int .i64 a, .int .i64 b, .string ⟨#[105, 110]⟩]) ?_ ?_
    · exact ⟨Own.alloc (Own.alloc (Own.alloc (Own.fresh _ _ _) _) _) _, Own.alloc (Own.alloc (Own.new' (by simp)) _) _, Own.alloc (Own.new' (by simp)) _, ((((Fr.refl _ _).alloc _).alloc _).alloc _).alloc _, Own.new' (by simp)⟩
    rintro W1 ⟨bm, ba, br, hN, hp⟩
    have hB := HB.out.1.new_ hN
    have hM : ModB W1 (fun k => X k ∨ k = w.heap.size ∨ k = w.heap.size + 1 ∨ k = w.heap.size + 1 + 1) (.agg #[.slice A1 s.l.length c1, .slice A2 s.w.length c2, .slice A3 n3 c3, .int .i64 s.sent, .int .i64 s.lost]) s := HB.out.2.fr hN (fun _ g => g.elim) (fun k hk => by rcases hk with h | h | h | h; exact .inl h; exact .inr (by omega); exact .inr (by omega); exact .inr (by omega))
    have hrl := br.lt
    clear HB
    refine (insert_out (p := pkIn a b) hB (by rcases HO.out with h | h; exact .inl h; exact .inr (.inl h))).mono ?_
    rintro e W2 ⟨rfl, g2⟩
    have hX1 : ∀ k, X k → X k ∨ W1.heap.size ≤ k := fun _ h => .inl h
    have fW : Fr X w W2 := (hN.new_ g2).mono fun _ x => x.elim
    obtain ⟨⟨m0, m1, m2, m3, m4⟩, f0, f1, f2', f3, f4⟩ := own5 (bm.new_ g2)
    obtain ⟨⟨r0, r1, r2, r3, r4⟩, y0, y1, y2, y3, y4⟩ := own5 (br.new_ g2)
    have H := Lib.hid (And.intro (br.new_ g2) (And.intro (hB.new_ g2) (And.intro (hM.new_ g2) fW)))
    clear bm ba br hp hB hM g2 fW
    go_wp2_with fail
    obtain ⟨br, hB, hM, fW⟩ := H.out
    obtain ⟨br3, g2⟩ := br.put5 (.slice A1 s.l.length c1) (.slice A2 s.w.length c2) (.slice A3 n3 c3) (.int .i64 s.sent) (.int .i64 s.lost)
    refine post_world (fun Wf => Own Wf (w.heap.size + 1 + 1) 43 #[.slice A1 s.l.length c1, .slice A2 s.w.length c2, .slice A3 n3 c3, .int .i64 s.sent, .int .i64 s.lost] ∧ Fr (fun k => k = w.heap.size ∨ k = w.heap.size + 1 + 1) W2 Wf) ⟨br3, g2.mono fun _ e => .inr e⟩ ?_
    clear m0 m1 m2 m3 m4 f0 f1 f2' f3 f4 r0 r1 r2 r3 r4 y0 y1 y2 y3 y4 br3 g2
    rintro Wf ⟨brf, ff⟩
    obtain ⟨⟨r0, r1, r2, r3, r4⟩, -⟩ := own5 brf
    have hbx : ∀ k, X k → ¬ (k = w.heap.size ∨ k = w.heap.size + 1 + 1) := fun k hk e => by
      rcases hX1 k hk with h | h
      · have := hXlt k h; omega
      · omega
    exact bodyPost_ret (v := .tuple #[.agg #[.slice A1 s.l.length c1, .slice A2 s.w.length c2, .slice A3 n3 c3, .int .i64 s.sent, .int .i64 s.lost], .bool true]) (by simp [results, Try.results19, go_sem, *]) rfl ⟨_, s, X, rfl, hB.fr ff hbx, hM.fr ff (fun k e => by rcases e with e | e; exact .inr (.inl e); exact .inr (.inr (.inr e))) (fun _ h => .inl (.inl h)), fW.trans ff fun k hk e => by omega, fun k hk => by rcases hX1 k hk with h | h; exact .inl h; exact .inr (by have := hN.size; omega), ⟨by omega, by omega, by omega, by omega⟩⟩)
set_option maxRecDepth 100000 in
set_option maxHeartbeats 40000000 in
theorem do_insert_zero {w : World} {n nl cl : Nat} {X : Nat → Prop} {s : NetV} {mv : Value} {a b : Int} {AL : Option Addr} {j : Nat} (hB : NetB w n X s) (hM : ModB w X mv s) (hj : Bnd s j) (hj2 : j ≤ 150) {k : Nat} (hk : k ≤ s.l.length) (hz : s.l.length = 0) :
    Calls Try.prog 19 #[.pointer (some ⟨n, 0, none⟩), mv, .agg #[.int .i64 7, .int .i64 (k : Nat), .int .i64 a, .int .i64 b, .slice AL nl cl]] w (DoOk w n X j) := by
  have hXlt := fun k hk => hB.lt (k := k) hk
  obtain ⟨hj0, hj3, hj4, hj5⟩ := hj
  replace hz := Lib.hid hz
  have hk2 : (k : Int) ≤ (s.l.length : Int) := by omega
  have h5 : (s.l.length : Int) < 4096 := by omega
  obtain ⟨A1, n1, c1, A2, n2, c2, A3, n3, c3, rfl, rfl, rfl⟩ := hM.form
  have HB := Lib.hid (And.intro hB hM)
  clear hB hM
  go_enter Try.func19, Try.ntmps19
  go_wp2_with fail
  refine calls_world (fun W => Own W w.heap.size 43 #[.slice A1 s.l.length c1, .slice A2 s.w.length c2, .slice A3 n3 c3, .int .i64 s.sent, .int .i64 s.lost] ∧ Own W (w.heap.size + 1) 47 #[.int .i64 7, .int .i64 (k : Nat), .int .i64 a, .int .i64 b, .slice AL nl cl] ∧ Own W (w.heap.size + 1 + 1) 43 zMod ∧ New w W ∧ Own W (w.heap.size + 1 + 1 + 1) 26 #[.int .i64 a, .int .i64 b, .string ⟨#[105, 110]⟩]) ?_ ?_
  · exact ⟨Own.alloc (Own.alloc (Own.alloc (Own.fresh _ _ _) _) _) _, Own.alloc (Own.alloc (Own.new' (by simp)) _) _, Own.alloc (Own.new' (by simp)) _, ((((Fr.refl _ _).alloc _).alloc _).alloc _).alloc _, Own.new' (by simp)⟩
  rintro W1 ⟨bm, ba, br, hN, hp⟩
  have hB := HB.out.1.new_ hN
  have hM : ModB W1 (fun k => X k ∨ k = w.heap.size ∨ k = w.heap.size + 1 ∨ k = w.heap.size + 1 + 1) (.agg #[.slice A1 s.l.length c1, .slice A2 s.w.length c2, .slice A3 n3 c3, .int .i64 s.sent, .int .i64 s.lost]) s := HB.out.2.fr hN (fun _ g => g.elim) (fun k hk => by rcases hk with h | h | h | h; exact .inl h; exact .inr (by omega); exact .inr (by omega); exact .inr (by omega))
  have hrl := br.lt
  clear HB
  refine (insert_in (p := pkIn a b) hB hk (by omega)).mono ?_
  rintro e W2 ⟨rfl, X2, hB2, f2, hX1⟩
  have hbx2 : ∀ k, w.heap.size ≤ k → ¬ X k := fun k hk hx => by have := hXlt k hx; omega
  replace bm := bm.fr f2 (hbx2 _ (Nat.le_refl _))
  replace ba := ba.fr f2 (hbx2 _ (by omega))
  replace br := br.fr f2 (hbx2 _ (by omega))
  replace hp := hp.fr f2 (hbx2 _ (by omega))
  replace hM : ModB W2 (fun k => X2 k ∨ k = w.heap.size ∨ k = w.heap.size + 1 ∨ k = w.heap.size + 1 + 1) (.agg #[.slice A1 s.l.length c1, .slice A2 s.w.length c2, .slice A3 n3 c3, .int .i64 s.sent, .int .i64 s.lost]) s := hM.fr f2 (fun k h => .inl h) (fun k hk => by
    rcases hk with h | h
    · rcases hX1 k h with h | h
      · exact .inl (.inl h)
      · exact .inr h
    · exact .inl (.inr h))
  have fW : Fr X w W2 := Fr.trans (F := X) (hN.mono fun _ g => g.elim) f2 fun _ _ h => h
  have hXX : ∀ k, (X2 k ∨ k = w.heap.size ∨ k = w.heap.size + 1 ∨ k = w.heap.size + 1 + 1) → k < W2.heap.size := fun k hk => by
    have h1 := hp.lt
    rcases hk with h | h | h | h
    · exact hB2.lt h
    · omega
    · omega
    · omega
  go_wp2_with fail
  obtain ⟨_, _, eL, hsL, hcL, hAL⟩ := hM.getL
  injection eL with e1 e2 e3
  subst e1 e3
  replace hz := hz.out
  have hk0 : k = 0 := by omega
  subst hk0
  have hl0 : s.l = [] := List.eq_nil_of_length_eq_zero hz
  have hkz : (0 : Int) ≤ (s.l.length : Int) := by omega
  have hsT : PkS W2 A1 (s.l.take 0) := PkS.take hsL 0
  have hsD : PkS W2 A1 (s.l.drop 0) := by rw [List.drop_zero]; exact hsL
  have hS0 : New W2 W2.drew := (Fr.refl _ _).drew
  have hSn : ∀ W', New W2.drew W' → New W2 W' := fun W' g => hS0.new_ g
  have hW2 : w.heap.size + 1 + 1 + 1 < W2.heap.size := hp.lt
  apply wp_region_partsH 16 (fun W' => New W2 W')
  case hp => simp only [List.take_succ_cons, List.take_zero]; exact rfl
  case hd => simp only [List.drop_succ_cons, List.drop_zero]; exact rfl
  case hm => kernel_rfl
  case hB => kernel_rfl
  case hT => kernel_rfl
  refine wpAnyH_take (i := 1) (v := .pointer (some ⟨w.heap.size, 0, none⟩)) rfl (by kernel_rfl) (by kernel_rfl) (by kernel_rfl) (fun _ _ _ h => h) (.inl ⟨rfl, fun w' hS => ?t1⟩) hS0 ?_
  case t1 =>
    go_simp
  refine wpAnyH_take (i := 2) (v := .slice A1 s.l.length c1) rfl (by kernel_rfl) (by kernel_rfl) (by kernel_rfl) (fun _ _ _ h => h) (.inl ⟨rfl, fun w' hS => ?t2⟩) hS0 ?_
  case t2 =>
    have m0 : w'.cell? ⟨w.heap.size, 0, none⟩ = some (.slice A1 s.l.length c1) := (bm.new_ hS).cell 0
    go_simp
  refine wpAnyH_take (i := 3) (v := .pointer (some ⟨w.heap.size + 1, 1, none⟩)) rfl (by kernel_rfl) (by kernel_rfl) (by kernel_rfl) (fun _ _ _ h => h) (.inl ⟨rfl, fun w' hS => ?t3⟩) hS0 ?_
  case t3 =>
    go_simp
  refine wpAnyH_take (i := 4) (v := .int .i64 ((0 : Nat) : Int)) rfl (by kernel_rfl) (by kernel_rfl) (by kernel_rfl) (fun _ _ _ h => h) (.inl ⟨rfl, fun w' hS => ?t4⟩) hS0 ?_
  case t4 =>
    have n1 : w'.cell? ⟨w.heap.size + 1, 1, none⟩ = some (.int .i64 ((0 : Nat) : Int)) := (ba.new_ hS).cell 1
    go_simp
  refine wpAnyH_take (i := 5) (v := .slice A1 (s.l.take 0).length c1) rfl (by kernel_rfl) (by kernel_rfl) (by kernel_rfl) (fun _ _ _ h => h) (.inl ⟨rfl, fun w' hS => ?t5⟩) hS0 ?_
  case t5 =>
    rw [hl0]
    go_simp
  refine wpAnyH_take (i := 7) (v := (pkIn a b).v) rfl (by kernel_rfl) (by kernel_rfl) (by kernel_rfl) (fun _ _ _ h => h) (.inl ⟨rfl, fun w' hS => ?t7⟩) hS0 ?_
  case t7 =>
    obtain ⟨⟨d0, d1, d2⟩, -⟩ := own3c (hp.new_ hS)
    go_simp
  refine wpAnyH_take (i := 10) (v := .pointer (some ⟨w.heap.size, 0, none⟩)) rfl (by kernel_rfl) (by kernel_rfl) (by kernel_rfl) (fun _ _ _ h => h) (.inl ⟨rfl, fun w' hS => ?t10⟩) hS0 ?_
  case t10 =>
    go_simp
  refine wpAnyH_take (i := 11) (v := .slice A1 s.l.length c1) rfl (by kernel_rfl) (by kernel_rfl) (by kernel_rfl) (fun _ _ _ h => h) (.inl ⟨rfl, fun w' hS => ?t11⟩) hS0 ?_
  case t11 =>
    have m0 : w'.cell? ⟨w.heap.size, 0, none⟩ = some (.slice A1 s.l.length c1) := (bm.new_ hS).cell 0
    go_simp
  refine wpAnyH_take (i := 12) (v := .pointer (some ⟨w.heap.size + 1, 1, none⟩)) rfl (by kernel_rfl) (by kernel_rfl) (by kernel_rfl) (fun _ _ _ h => h) (.inl ⟨rfl, fun w' hS => ?t12⟩) hS0 ?_
  case t12 =>
    go_simp
  refine wpAnyH_take (i := 13) (v := .int .i64 ((0 : Nat) : Int)) rfl (by kernel_rfl) (by kernel_rfl) (by kernel_rfl) (fun _ _ _ h => h) (.inl ⟨rfl, fun w' hS => ?t13⟩) hS0 ?_
  case t13 =>
    have n1 : w'.cell? ⟨w.heap.size + 1, 1, none⟩ = some (.int .i64 ((0 : Nat) : Int)) := (ba.new_ hS).cell 1
    go_simp
  refine wpAnyH_take (i := 14) (v := .slice A1 (s.l.drop 0).length c1) rfl (by kernel_rfl) (by kernel_rfl) (by kernel_rfl) (fun _ _ _ h => h) (.inl ⟨rfl, fun w' hS => ?t14⟩) hS0 ?_
  case t14 =>
    rw [hl0]
    go_simp
  simp only [Act.put, List.setIfInBounds_toArray, List.set_cons_zero, List.set_cons_succ]
  refine wpAnyH_diamond (fuel := 1) 0 6 8 9 170 176 178 179 175 177 (.slice A1 (s.l.take 0).length c1) ((pkIn a b).v) (V0 W2.heap.size) (VL W2.heap.size (s.l.take 0)) (V1 (pkIn a b)) (VL W2.heap.size (s.l.take 0 ++ [(pkIn a b)])) V0.new_ VL.new_ V1.new_ (by decide) (by simp)
    (by kernel_rfl) (by kernel_rfl) (by kernel_rfl) (by kernel_rfl) (by kernel_rfl) (by kernel_rfl) (by kernel_rfl) (by kernel_rfl) (by kernel_rfl) (by decide) (by decide) (by decide) (by simp [Act.eval]) (by simp [Act.eval]) ?hE ?hA ?hB ?h2 hS0 ?fin
  case hE =>
    intro a' W' K g hS _ k
    refine wpOp_step rfl (fun K2 hK => ?_)
    go_simp
    exact hK _ _ (k _ _ ⟨W'.heap.size, rfl, Own.fresh _ _ _, g.size⟩ ((Fr.refl _ _).alloc _) (hSn _ (g.alloc _)))
  case hA =>
    rintro a' W' K g hS ⟨v, hv, ⟨b, rfl, hb, hbl⟩, hsa⟩ k
    obtain ⟨v', W'', hr, hp, gn, ho⟩ := fresh_pks (cap := c1) hb ((hsT.fr hS0 fun _ _ x => x).fr g fun _ _ x => x) (by simp only [List.length_take]; omega)
    refine wpOp_step rfl (fun K2 hK => ?_)
    refine step_append_run rfl (.tmp 170) (.tmp 175) 22 rfl hv hsa hr ?_
    refine hK _ _ (k _ _ ⟨hp, fun k hk => ?_⟩ gn (hSn _ (g.new_ gn)))
    rcases ho with e | ⟨k', e, hk'⟩
    · rw [hk] at e; cases e; exact hbl
    · rw [hk] at e; cases e; exact Nat.le_trans g.size hk'
  case hB =>
    intro a' W' K g hS hsb k
    replace hsb : a'.tmps[177]?.getD undef = .agg #[.int .i64 (pkIn a b).f, .int .i64 (pkIn a b).t, .string (pkIn a b).s] := by simpa [Act.eval] using hsb
    refine wpOp_step rfl (fun K2 hK => ?_)
    go_simp
    exact hK _ _ (k _ _ ⟨W'.heap.size, rfl, Own.fresh _ _ _⟩ ((Fr.refl _ _).alloc _) (hSn _ (g.alloc _)))
  case h2 =>
    rintro a' W' K g hS ⟨v, u, hv, ⟨hp, hvo⟩, hu, b, rfl, hb⟩ k
    obtain ⟨v', W'', hr, hp', f, ho⟩ := append_pk hp (by simp only [List.length_take]; omega) hb
    have gn : New W2.drew W'' := g.trans f fun k hk e => by have := hvo k e; exact absurd hk (by show ¬ k < W2.heap.size; omega)
    refine wpOp_step rfl (fun K2 hK => ?_)
    refine step_append_run rfl (.tmp 176) (.tmp 178) 22 rfl hv hu hr ?_
    refine hK _ _ (k _ _ ⟨hp', fun k hk => ?_⟩ gn (hSn _ gn))
    rcases ho with e | ⟨k', e, hk'⟩
    · exact hvo k (e ▸ hk)
    · rw [hk] at e; cases e; exact Nat.le_trans g.size hk'
  case fin =>
    rintro ve v u v2 W' ⟨hp2, hvo⟩ g hS
    obtain ⟨v5, W5, hr5, hp5, f5, ho5⟩ := append_pks (cap := c1) hp2 (by simp only [List.length_append, List.length_take, List.length_drop, List.length_cons, List.length_nil]; omega) ((hsD.fr hS0 fun _ _ x => x).fr g fun _ _ x => x)
    have gg : New W2 W5 := (hSn _ g).trans f5 fun k hk e => by have := hvo k e; omega
    refine wpAnyH_all (rs := [15]) (by kernel_rfl) (by simp) (fun j' hj' => ?_)
    rw [List.mem_singleton] at hj'
    subst hj'
    refine wpOp_step rfl (fun K hK => ?_)
    refine step_append_run rfl (.tmp 179) (.tmp 184) 22 rfl ?ev1 ?ev2 hr5 ?_
    case ev1 => simp [Act.eval, Act.put]
    case ev2 => simp [Act.eval, Act.put]
    refine hK _ _ ⟨gg, ?_⟩
    clear hK K
    refine wpAnyH_done (by kernel_rfl) ?_ _
    obtain ⟨A9, c9, hv9⟩ := hp5.form
    obtain ⟨q9, hq9⟩ : ∃ q9, q9 = (s.l.take 0 ++ [pkIn a b] ++ s.l.drop 0).length := ⟨_, rfl⟩
    rw [← hq9] at hv9
    subst hv9
    have hv9 : ∀ k, (Value.slice A9 q9 c9).ownBlock = some k → W2.heap.size ≤ k := fun k hk => by
      rcases ho5 with e | ⟨k', e, hk'⟩
      · exact hvo k (e ▸ hk)
      · rw [hk] at e; cases e; exact Nat.le_trans g.size hk'
    have hsl := hp5.sl (X := (fun k => X2 k ∨ k = w.heap.size ∨ k = w.heap.size + 1 ∨ k = w.heap.size + 1 + 1)) fun k hk hx => by have := hv9 k hk; have := hXX k hx; omega
    have hM5 := (hM.new_ gg).setL hsl
    have hlen : (s.l.take 0 ++ [pkIn a b] ++ s.l.drop 0).length = s.l.length + 1 := by simp only [List.length_append, List.length_take, List.length_drop, List.length_cons, List.length_nil]; omega
    have H3 := Lib.hid (And.intro (bm.new_ gg) (And.intro (br.new_ gg) (And.intro (hB2.new_ gg) (And.intro hM5 (And.intro (fW.new_ gg) hlen)))))
    clear bm ba br hp hB2 hM hM5 fW hXX hsl hv9 hq9 hp5 f5 ho5 hr5 gg hp2 hvo g hS hsT hsD hsL hcL hAL hS0 hSn hlen
    obtain ⟨⟨m0, m1, m2, m3, m4⟩, f0, f1, f2', f3, f4⟩ := own5 H3.out.1
    obtain ⟨⟨r0, r1, r2, r3, r4⟩, y0, y1, y2, y3, y4⟩ := own5 H3.out.2.1
    have hne1 : ¬ (w.heap.size + 1 + 1 = w.heap.size) := by omega
    have hne2 : ¬ (w.heap.size = w.heap.size + 1 + 1) := by omega
    unfold restQ
    go_simp
    go_wp2_with fail
    obtain ⟨bm, br, hB, hM, fW, hlen⟩ := H3.out
    have b1 := br.far (p := ⟨w.heap.size, 0, none⟩) (by show ¬ (_ = w.heap.size); omega) (.slice A9 q9 c9)
    have g1 : Fr (fun k => k = w.heap.size) W5 (W5.setCell ⟨w.heap.size, 0, none⟩ (.slice A9 q9 c9)) := Fr.set (F := fun k => k = w.heap.size) (Fr.refl _ _) (p := ⟨w.heap.size, 0, none⟩) (fun _ => rfl) _
    obtain ⟨br3, g2⟩ := b1.put5 (.slice A9 q9 c9) (.slice A2 s.w.length c2) (.slice A3 n3 c3) (.int .i64 s.sent) (.int .i64 s.lost)
    refine post_world (fun Wf => Own Wf (w.heap.size + 1 + 1) 43 #[.slice A9 q9 c9, .slice A2 s.w.length c2, .slice A3 n3 c3, .int .i64 s.sent, .int .i64 s.lost] ∧ Fr (fun k => k = w.heap.size ∨ k = w.heap.size + 1 + 1) W5 Wf) ⟨br3, (g1.mono fun _ e => .inl e).trans g2 fun _ _ e => .inr e⟩ ?_
    clear m0 m1 m2 m3 m4 f0 f1 f2' f3 f4 r0 r1 r2 r3 r4 y0 y1 y2 y3 y4 br3 g1 g2 b1
    rintro Wf ⟨brf, ff⟩
    obtain ⟨⟨r0, r1, r2, r3, r4⟩, -⟩ := own5 brf
    have hbx : ∀ k, X2 k → ¬ (k = w.heap.size ∨ k = w.heap.size + 1 + 1) := fun k hk e => by
      rcases hX1 k hk with h | h
      · have := hXlt k h; omega
      · omega
    exact bodyPost_ret (v := .tuple #[.agg #[.slice A9 q9 c9, .slice A2 s.w.length c2, .slice A3 n3 c3, .int .i64 s.sent, .int .i64 s.lost], .bool true]) (by simp [results, Try.results19, go_sem, *]) rfl ⟨_, ({ s with l := s.l.take 0 ++ [pkIn a b] ++ s.l.drop 0 } : NetV), X2, rfl, hB.fr ff hbx, hM.fr ff (fun k e => by rcases e with e | e; exact .inr (.inl e); exact .inr (.inr (.inr e))) (fun _ h => .inl (.inl h)), fW.trans ff fun k hk e => by omega, fun k hk => by rcases hX1 k hk with h | h; exact .inl h; exact .inr (by have := hN.size; omega), ⟨by simp only [hlen]; omega, by simp only; omega, by simp only; omega, by simp only; omega⟩⟩
set_option maxRecDepth 100000 in
set_option maxHeartbeats 40000000 in
theorem do_insert_some {w : World} {n nl cl : Nat} {X : Nat → Prop} {s : NetV} {mv : Value} {a b : Int} {AL : Option Addr} {j : Nat} (hB : NetB w n X s) (hM : ModB w X mv s) (hj : Bnd s j) (hj2 : j ≤ 150) {k : Nat} (hk : k ≤ s.l.length) (hz : ¬ s.l.length = 0) :
    Calls Try.prog 19 #[.pointer (some ⟨n, 0, none⟩), mv, .agg #[.int .i64 7, .int .i64 (k : Nat), .int .i64 a, .int .i64 b, .slice AL nl cl]] w (DoOk w n X j) := by
  have hXlt := fun k hk => hB.lt (k := k) hk
  obtain ⟨hj0, hj3, hj4, hj5⟩ := hj
  replace hz := Lib.hid hz
  have hk2 : (k : Int) ≤ (s.l.length : Int) := by omega
  have h5 : (s.l.length : Int) < 4096 := by omega
  obtain ⟨A1, n1, c1, A2, n2, c2, A3, n3, c3, rfl, rfl, rfl⟩ := hM.form
  have HB := Lib.hid (And.intro hB hM)
  clear hB hM
  go_enter Try.func19, Try.ntmps19
  go_wp2_with fail
  refine calls_world (fun W => Own W w.heap.size 43 #[.slice A1 s.l.length c1, .slice A2 s.w.length c2, .slice A3 n3 c3, .int .i64 s.sent, .int .i64 s.lost] ∧ Own W (w.heap.size + 1) 47 #[.int .i64 7, .int .i64 (k : Nat), .int .i64 a, .int .i64 b, .slice AL nl cl] ∧ Own W (w.heap.size + 1 + 1) 43 zMod ∧ New w W ∧ Own W (w.heap.size + 1 + 1 + 1) 26 #[.int .i64 a, .int .i64 b, .string ⟨#[105, 110]⟩]) ?_ ?_
  · exact ⟨Own.alloc (Own.alloc (Own.alloc (Own.fresh _ _ _) _) _) _, Own.alloc (Own.alloc (Own.new' (by simp)) _) _, Own.alloc (Own.new' (by simp)) _, ((((Fr.refl _ _).alloc _).alloc _).alloc _).alloc _, Own.new' (by simp)⟩
  rintro W1 ⟨bm, ba, br, hN, hp⟩
  have hB := HB.out.1.new_ hN
  have hM : ModB W1 (fun k => X k ∨ k = w.heap.size ∨ k = w.heap.size + 1 ∨ k = w.heap.size + 1 + 1) (.agg #[.slice A1 s.l.length c1, .slice A2 s.w.length c2, .slice A3 n3 c3, .int .i64 s.sent, .int .i64 s.lost]) s := HB.out.2.fr hN (fun _ g => g.elim) (fun k hk => by rcases hk with h | h | h | h; exact .inl h; exact .inr (by omega); exact .inr (by omega); exact .inr (by omega))
  have hrl := br.lt
  clear HB
  refine (insert_in (p := pkIn a b) hB hk (by omega)).mono ?_
  rintro e W2 ⟨rfl, X2, hB2, f2, hX1⟩
  have hbx2 : ∀ k, w.heap.size ≤ k → ¬ X k := fun k hk hx => by have := hXlt k hx; omega
  replace bm := bm.fr f2 (hbx2 _ (Nat.le_refl _))
  replace ba := ba.fr f2 (hbx2 _ (by omega))
  replace br := br.fr f2 (hbx2 _ (by omega))
  replace hp := hp.fr f2 (hbx2 _ (by omega))
  replace hM : ModB W2 (fun k => X2 k ∨ k = w.heap.size ∨ k = w.heap.size + 1 ∨ k = w.heap.size + 1 + 1) (.agg #[.slice A1 s.l.length c1, .slice A2 s.w.length c2, .slice A3 n3 c3, .int .i64 s.sent, .int .i64 s.lost]) s := hM.fr f2 (fun k h => .inl h) (fun k hk => by
    rcases hk with h | h
    · rcases hX1 k h with h | h
      · exact .inl (.inl h)
      · exact .inr h
    · exact .inl (.inr h))
  have fW : Fr X w W2 := Fr.trans (F := X) (hN.mono fun _ g => g.elim) f2 fun _ _ h => h
  have hXX : ∀ k, (X2 k ∨ k = w.heap.size ∨ k = w.heap.size + 1 ∨ k = w.heap.size + 1 + 1) → k < W2.heap.size := fun k hk => by
    have h1 := hp.lt
    rcases hk with h | h | h | h
    · exact hB2.lt h
    · omega
    · omega
    · omega
  go_wp2_with fail
  obtain ⟨_, _, eL, hsL, hcL, hAL⟩ := hM.getL
  injection eL with e1 e2 e3
  subst e1 e3
  replace hz := hz.out
  obtain ⟨sb, so, hAe, -⟩ := hsL.2 0 (by omega)
  subst hAe
  obtain ⟨B, hB⟩ : ∃ B : Addr, B = (if c1 = k then ⟨sb, so, none⟩ else ⟨sb, so + k * 3, none⟩) := ⟨_, rfl⟩
  have hsD : PkS W2 (some B) (s.l.drop k) := by
    rw [hB]
    split
    · have e : s.l.drop k = [] := List.drop_eq_nil_of_le (by omega)
      rw [e]
      exact ⟨Nat.zero_le _, fun j hj => absurd hj (Nat.not_lt_zero j)⟩
    · exact PkS.drop hsL k
  have hsT : PkS W2 (some ⟨sb, so, none⟩) (s.l.take k) := PkS.take hsL k
  have hi4 : k ≤ c1 := by omega
  have hkz : (k : Int) ≤ (s.l.length : Int) := by omega
  have htk : min k s.l.length = k := Nat.min_eq_left hk
  have hS0 : New W2 W2.drew := (Fr.refl _ _).drew
  have hSn : ∀ W', New W2.drew W' → New W2 W' := fun W' g => hS0.new_ g
  have hW2 : w.heap.size + 1 + 1 + 1 < W2.heap.size := hp.lt
  apply wp_region_partsH 16 (fun W' => New W2 W')
  case hp => simp only [List.take_succ_cons, List.take_zero]; exact rfl
  case hd => simp only [List.drop_succ_cons, List.drop_zero]; exact rfl
  case hm => kernel_rfl
  case hB => kernel_rfl
  case hT => kernel_rfl
  refine wpAnyH_take (i := 1) (v := .pointer (some ⟨w.heap.size, 0, none⟩)) rfl (by kernel_rfl) (by kernel_rfl) (by kernel_rfl) (fun _ _ _ h => h) (.inl ⟨rfl, fun w' hS => ?t1⟩) hS0 ?_
  case t1 =>
    go_simp
  refine wpAnyH_take (i := 2) (v := .slice (some ⟨sb, so, none⟩) s.l.length c1) rfl (by kernel_rfl) (by kernel_rfl) (by kernel_rfl) (fun _ _ _ h => h) (.inl ⟨rfl, fun w' hS => ?t2⟩) hS0 ?_
  case t2 =>
    have m0 : w'.cell? ⟨w.heap.size, 0, none⟩ = some (.slice (some ⟨sb, so, none⟩) s.l.length c1) := (bm.new_ hS).cell 0
    go_simp
  refine wpAnyH_take (i := 3) (v := .pointer (some ⟨w.heap.size + 1, 1, none⟩)) rfl (by kernel_rfl) (by kernel_rfl) (by kernel_rfl) (fun _ _ _ h => h) (.inl ⟨rfl, fun w' hS => ?t3⟩) hS0 ?_
  case t3 =>
    go_simp
  refine wpAnyH_take (i := 4) (v := .int .i64 (k : Nat)) rfl (by kernel_rfl) (by kernel_rfl) (by kernel_rfl) (fun _ _ _ h => h) (.inl ⟨rfl, fun w' hS => ?t4⟩) hS0 ?_
  case t4 =>
    have n1 : w'.cell? ⟨w.heap.size + 1, 1, none⟩ = some (.int .i64 (k : Nat)) := (ba.new_ hS).cell 1
    go_simp
  refine wpAnyH_take (i := 5) (v := .slice (some ⟨sb, so, none⟩) (s.l.take k).length c1) rfl (by kernel_rfl) (by kernel_rfl) (by kernel_rfl) (fun _ _ _ h => h) (.inl ⟨rfl, fun w' hS => ?t5⟩) hS0 ?_
  case t5 =>
    go_simp
  refine wpAnyH_take (i := 7) (v := (pkIn a b).v) rfl (by kernel_rfl) (by kernel_rfl) (by kernel_rfl) (fun _ _ _ h => h) (.inl ⟨rfl, fun w' hS => ?t7⟩) hS0 ?_
  case t7 =>
    obtain ⟨⟨d0, d1, d2⟩, -⟩ := own3c (hp.new_ hS)
    go_simp
  refine wpAnyH_take (i := 10) (v := .pointer (some ⟨w.heap.size, 0, none⟩)) rfl (by kernel_rfl) (by kernel_rfl) (by kernel_rfl) (fun _ _ _ h => h) (.inl ⟨rfl, fun w' hS => ?t10⟩) hS0 ?_
  case t10 =>
    go_simp
  refine wpAnyH_take (i := 11) (v := .slice (some ⟨sb, so, none⟩) s.l.length c1) rfl (by kernel_rfl) (by kernel_rfl) (by kernel_rfl) (fun _ _ _ h => h) (.inl ⟨rfl, fun w' hS => ?t11⟩) hS0 ?_
  case t11 =>
    have m0 : w'.cell? ⟨w.heap.size, 0, none⟩ = some (.slice (some ⟨sb, so, none⟩) s.l.length c1) := (bm.new_ hS).cell 0
    go_simp
  refine wpAnyH_take (i := 12) (v := .pointer (some ⟨w.heap.size + 1, 1, none⟩)) rfl (by kernel_rfl) (by kernel_rfl) (by kernel_rfl) (fun _ _ _ h => h) (.inl ⟨rfl, fun w' hS => ?t12⟩) hS0 ?_
  case t12 =>
    go_simp
  refine wpAnyH_take (i := 13) (v := .int .i64 (k : Nat)) rfl (by kernel_rfl) (by kernel_rfl) (by kernel_rfl) (fun _ _ _ h => h) (.inl ⟨rfl, fun w' hS => ?t13⟩) hS0 ?_
  case t13 =>
    have n1 : w'.cell? ⟨w.heap.size + 1, 1, none⟩ = some (.int .i64 (k : Nat)) := (ba.new_ hS).cell 1
    go_simp
  refine wpAnyH_take (i := 14) (v := .slice (some B) (s.l.drop k).length (c1 - k)) rfl (by kernel_rfl) (by kernel_rfl) (by kernel_rfl) (fun _ _ _ h => h) (.inl ⟨rfl, fun w' hS => ?t14⟩) hS0 ?_
  case t14 =>
    rw [hB]
    by_cases hcap : c1 = k
    · go_simp
    · rw [if_neg hcap]
      go_simp
  clear hB
  simp only [Act.put, List.setIfInBounds_toArray, List.set_cons_zero, List.set_cons_succ]
  refine wpAnyH_diamond (fuel := 1) 0 6 8 9 170 176 178 179 175 177 (.slice (some ⟨sb, so, none⟩) (s.l.take k).length c1) ((pkIn a b).v) (V0 W2.heap.size) (VL W2.heap.size (s.l.take k)) (V1 (pkIn a b)) (VL W2.heap.size (s.l.take k ++ [(pkIn a b)])) V0.new_ VL.new_ V1.new_ (by decide) (by simp)
    (by kernel_rfl) (by kernel_rfl) (by kernel_rfl) (by kernel_rfl) (by kernel_rfl) (by kernel_rfl) (by kernel_rfl) (by kernel_rfl) (by kernel_rfl) (by decide) (by decide) (by decide) (by simp [Act.eval]) (by simp [Act.eval]) ?hE ?hA ?hB ?h2 hS0 ?fin
  case hE =>
    intro a' W' K g hS _ k
    refine wpOp_step rfl (fun K2 hK => ?_)
    go_simp
    exact hK _ _ (k _ _ ⟨W'.heap.size, rfl, Own.fresh _ _ _, g.size⟩ ((Fr.refl _ _).alloc _) (hSn _ (g.alloc _)))
  case hA =>
    rintro a' W' K g hS ⟨v, hv, ⟨b, rfl, hb, hbl⟩, hsa⟩ k
    obtain ⟨v', W'', hr, hp, gn, ho⟩ := fresh_pks (cap := c1) hb ((hsT.fr hS0 fun _ _ x => x).fr g fun _ _ x => x) (by simp only [List.length_take]; omega)
    refine wpOp_step rfl (fun K2 hK => ?_)
    refine step_append_run rfl (.tmp 170) (.tmp 175) 22 rfl hv hsa hr ?_
    refine hK _ _ (k _ _ ⟨hp, fun k hk => ?_⟩ gn (hSn _ (g.new_ gn)))
    rcases ho with e | ⟨k', e, hk'⟩
    · rw [hk] at e; cases e; exact hbl
    · rw [hk] at e; cases e; exact Nat.le_trans g.size hk'
  case hB =>
    intro a' W' K g hS hsb k
    replace hsb : a'.tmps[177]?.getD undef = .agg #[.int .i64 (pkIn a b).f, .int .i64 (pkIn a b).t, .string (pkIn a b).s] := by simpa [Act.eval] using hsb
    refine wpOp_step rfl (fun K2 hK => ?_)
    go_simp
    exact hK _ _ (k _ _ ⟨W'.heap.size, rfl, Own.fresh _ _ _⟩ ((Fr.refl _ _).alloc _) (hSn _ (g.alloc _)))
  case h2 =>
    rintro a' W' K g hS ⟨v, u, hv, ⟨hp, hvo⟩, hu, b, rfl, hb⟩ k
    obtain ⟨v', W'', hr, hp', f, ho⟩ := append_pk hp (by simp only [List.length_take]; omega) hb
    have gn : New W2.drew W'' := g.trans f fun k hk e => by have := hvo k e; exact absurd hk (by show ¬ k < W2.heap.size; omega)
    refine wpOp_step rfl (fun K2 hK => ?_)
    refine step_append_run rfl (.tmp 176) (.tmp 178) 22 rfl hv hu hr ?_
    refine hK _ _ (k _ _ ⟨hp', fun k hk => ?_⟩ gn (hSn _ gn))
    rcases ho with e | ⟨k', e, hk'⟩
    · exact hvo k (e ▸ hk)
    · rw [hk] at e; cases e; exact Nat.le_trans g.size hk'
  case fin =>
    rintro ve v u v2 W' ⟨hp2, hvo⟩ g hS
    obtain ⟨v5, W5, hr5, hp5, f5, ho5⟩ := append_pks (cap := (c1 - k)) hp2 (by simp only [List.length_append, List.length_take, List.length_drop, List.length_cons, List.length_nil]; omega) ((hsD.fr hS0 fun _ _ x => x).fr g fun _ _ x => x)
    have gg : New W2 W5 := (hSn _ g).trans f5 fun k hk e => by have := hvo k e; omega
    refine wpAnyH_all (rs := [15]) (by kernel_rfl) (by simp) (fun j' hj' => ?_)
    rw [List.mem_singleton] at hj'
    subst hj'
    refine wpOp_step rfl (fun K hK => ?_)
    refine step_append_run rfl (.tmp 179) (.tmp 184) 22 rfl ?ev1 ?ev2 hr5 ?_
    case ev1 => simp [Act.eval, Act.put]
    case ev2 => simp [Act.eval, Act.put]
    refine hK _ _ ⟨gg, ?_⟩
    clear hK K
    refine wpAnyH_done (by kernel_rfl) ?_ _
    obtain ⟨A9, c9, hv9⟩ := hp5.form
    obtain ⟨q9, hq9⟩ : ∃ q9, q9 = (s.l.take k ++ [pkIn a b] ++ s.l.drop k).length := ⟨_, rfl⟩
    rw [← hq9] at hv9
    subst hv9
    have hv9 : ∀ k, (Value.slice A9 q9 c9).ownBlock = some k → W2.heap.size ≤ k := fun k hk => by
      rcases ho5 with e | ⟨k', e, hk'⟩
      · exact hvo k (e ▸ hk)
      · rw [hk] at e; cases e; exact Nat.le_trans g.size hk'
    have hsl := hp5.sl (X := (fun k => X2 k ∨ k = w.heap.size ∨ k = w.heap.size + 1 ∨ k = w.heap.size + 1 + 1)) fun k hk hx => by have := hv9 k hk; have := hXX k hx; omega
    have hM5 := (hM.new_ gg).setL hsl
    have hlen : (s.l.take k ++ [pkIn a b] ++ s.l.drop k).length = s.l.length + 1 := by simp only [List.length_append, List.length_take, List.length_drop, List.length_cons, List.length_nil]; omega
    have H3 := Lib.hid (And.intro (bm.new_ gg) (And.intro (br.new_ gg) (And.intro (hB2.new_ gg) (And.intro hM5 (And.intro (fW.new_ gg) hlen)))))
    clear bm ba br hp hB2 hM hM5 fW hXX hsl hv9 hq9 hp5 f5 ho5 hr5 gg hp2 hvo g hS hsT hsD hsL hcL hAL hS0 hSn hlen
    obtain ⟨⟨m0, m1, m2, m3, m4⟩, f0, f1, f2', f3, f4⟩ := own5 H3.out.1
    obtain ⟨⟨r0, r1, r2, r3, r4⟩, y0, y1, y2, y3, y4⟩ := own5 H3.out.2.1
    have hne1 : ¬ (w.heap.size + 1 + 1 = w.heap.size) := by omega
    have hne2 : ¬ (w.heap.size = w.heap.size + 1 + 1) := by omega
    unfold restQ
    go_simp
    go_wp2_with fail
    obtain ⟨bm, br, hB, hM, fW, hlen⟩ := H3.out
    have b1 := br.far (p := ⟨w.heap.size, 0, none⟩) (by show ¬ (_ = w.heap.size); omega) (.slice A9 q9 c9)
    have g1 : Fr (fun k => k = w.heap.size) W5 (W5.setCell ⟨w.heap.size, 0, none⟩ (.slice A9 q9 c9)) := Fr.set (F := fun k => k = w.heap.size) (Fr.refl _ _) (p := ⟨w.heap.size, 0, none⟩) (fun _ => rfl) _
    obtain ⟨br3, g2⟩ := b1.put5 (.slice A9 q9 c9) (.slice A2 s.w.length c2) (.slice A3 n3 c3) (.int .i64 s.sent) (.int .i64 s.lost)
    refine post_world (fun Wf => Own Wf (w.heap.size + 1 + 1) 43 #[.slice A9 q9 c9, .slice A2 s.w.length c2, .slice A3 n3 c3, .int .i64 s.sent, .int .i64 s.lost] ∧ Fr (fun k => k = w.heap.size ∨ k = w.heap.size + 1 + 1) W5 Wf) ⟨br3, (g1.mono fun _ e => .inl e).trans g2 fun _ _ e => .inr e⟩ ?_
    clear m0 m1 m2 m3 m4 f0 f1 f2' f3 f4 r0 r1 r2 r3 r4 y0 y1 y2 y3 y4 br3 g1 g2 b1
    rintro Wf ⟨brf, ff⟩
    obtain ⟨⟨r0, r1, r2, r3, r4⟩, -⟩ := own5 brf
    have hbx : ∀ k, X2 k → ¬ (k = w.heap.size ∨ k = w.heap.size + 1 + 1) := fun k hk e => by
      rcases hX1 k hk with h | h
      · have := hXlt k h; omega
      · omega
    exact bodyPost_ret (v := .tuple #[.agg #[.slice A9 q9 c9, .slice A2 s.w.length c2, .slice A3 n3 c3, .int .i64 s.sent, .int .i64 s.lost], .bool true]) (by simp [results, Try.results19, go_sem, *]) rfl ⟨_, ({ s with l := s.l.take k ++ [pkIn a b] ++ s.l.drop k } : NetV), X2, rfl, hB.fr ff hbx, hM.fr ff (fun k e => by rcases e with e | e; exact .inr (.inl e); exact .inr (.inr (.inr e))) (fun _ h => .inl (.inl h)), fW.trans ff fun k hk e => by omega, fun k hk => by rcases hX1 k hk with h | h; exact .inl h; exact .inr (by have := hN.size; omega), ⟨by simp only [hlen]; omega, by simp only; omega, by simp only; omega, by simp only; omega⟩⟩
end Go.Proofs.Ytleagdnlgjpcgaa
