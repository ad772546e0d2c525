/- What happens to a network, and to the model: one is looked at, one is taken. -/
import Derived.Test.YtleagdnlgjpcgaaNetDoB
namespace Go.Proofs.Ytleagdnlgjpcgaa
open Go.RowKit Go.Maps
set_option linter.unusedVariables false
set_option linter.unusedSimpArgs false

set_option maxRecDepth 100000 in
set_option maxHeartbeats 8000000 in
theorem do_peek_in {w : World} {n nl cl : Nat} {X : Nat → Prop} {s : NetV} {mv : Value} {a b : Int} {AL : Option Addr} {j : Nat} (hB : NetB w n X s) (hM : ModB w X mv s) (hj : Bnd s j) (hj2 : j ≤ 150) {k : Nat} (hk : k < s.l.length) :
    Calls Try.prog 19 #[.pointer (some ⟨n, 0, none⟩), mv, .agg #[.int .i64 10, .int .i64 (k : Nat), .int .i64 a, .int .i64 b, .slice AL nl cl]] w (DoOk w n X j) := by
  have hXlt := fun k hk => hB.lt (k := k) hk
  obtain ⟨hj0, hj3, hj4, hj5⟩ := hj
  have hk2 : (k : Int) < (s.l.length : Int) := by omega
  obtain ⟨p, hpi⟩ : ∃ p, s.l[k]? = some p := ⟨s.l[k], List.getElem?_eq_getElem hk⟩
  have HP := Lib.hid hpi
  clear hpi
  obtain ⟨A1, n1, c1, A2, n2, c2, A3, n3, c3, rfl, rfl, rfl⟩ := hM.form
  have HB := Lib.hid (And.intro hB hM)
  clear hB hM
  go_enter Try.func19, Try.ntmps19
  go_wp2_with fail
  refine calls_world (fun W => Own W w.heap.size 43 #[.slice A1 s.l.length c1, .slice A2 s.w.length c2, .slice A3 n3 c3, .int .i64 s.sent, .int .i64 s.lost] ∧ Own W (w.heap.size + 1) 47 #[.int .i64 10, .int .i64 (k : Nat), .int .i64 a, .int .i64 b, .slice AL nl cl] ∧ Own W (w.heap.size + 1 + 1) 43 zMod ∧ New w W) ?_ ?_
  · exact ⟨Own.alloc (Own.alloc (Own.fresh _ _ _) _) _, Own.alloc (Own.new' (by simp)) _, Own.new' (by simp), (((Fr.refl _ _).alloc _).alloc _).alloc _⟩
  rintro W1 ⟨bm, ba, br, hN⟩
  have hB := HB.out.1.new_ hN
  have hM : ModB W1 (fun k => X k ∨ k = w.heap.size ∨ k = w.heap.size + 1 ∨ k = w.heap.size + 1 + 1) (.agg #[.slice A1 s.l.length c1, .slice A2 s.w.length c2, .slice A3 n3 c3, .int .i64 s.sent, .int .i64 s.lost]) s := HB.out.2.fr hN (fun _ g => g.elim) (fun k hk => by rcases hk with h | h | h | h; exact .inl h; exact .inr (by omega); exact .inr (by omega); exact .inr (by omega))
  have hrl := br.lt
  clear HB
  refine (peek_in hB HP.out (by omega)).mono ?_
  rintro e W2 ⟨rfl, g2⟩
  replace bm := bm.new_ g2
  replace ba := ba.new_ g2
  replace br := br.new_ g2
  replace hB := hB.new_ g2
  replace hM := hM.new_ g2
  have hrl2 := br.lt
  have fW : Fr X w W2 := (hN.new_ g2).mono fun _ g => g.elim
  have n0 : W2.cell? ⟨w.heap.size + 1, 0, none⟩ = some (.int .i64 10) := ba.cell 0
  have n1 : W2.cell? ⟨w.heap.size + 1, 1, none⟩ = some (.int .i64 (k : Nat)) := ba.cell 1
  have hX9 : ∀ k, (X k ∨ k = w.heap.size ∨ k = w.heap.size + 1 ∨ k = w.heap.size + 1 + 1 ∨ k = W2.heap.size) → (X k ∨ k = w.heap.size ∨ k = w.heap.size + 1 ∨ k = w.heap.size + 1 + 1) ∨ W2.heap.size ≤ k := fun k hk => by
    rcases hk with h | h | h | h | h
    · exact .inl (.inl h)
    · exact .inl (.inr (.inl h))
    · exact .inl (.inr (.inr (.inl h)))
    · exact .inl (.inr (.inr (.inr h)))
    · exact .inr (by omega)
  have H := Lib.hid (And.intro bm (And.intro ba (And.intro br (And.intro hB (And.intro hM (And.intro fW hX9))))))
  have hb1 : w.heap.size + 1 < W2.heap.size := ba.lt
  clear bm ba br hB hM fW g2 hX9
  go_wp2_with fail
  obtain ⟨bm, ba, br, hB, hM, fW, hX9⟩ := H.out
  clear n0 n1 H
  refine wp_world (fun W => Own W w.heap.size 43 #[.slice A1 s.l.length c1, .slice A2 s.w.length c2, .slice A3 n3 c3, .int .i64 s.sent, .int .i64 s.lost] ∧ Own W (w.heap.size + 1) 47 #[.int .i64 10, .int .i64 (k : Nat), .int .i64 a, .int .i64 b, .slice AL nl cl] ∧ Own W (w.heap.size + 1 + 1) 43 zMod ∧ Own W W2.heap.size 26 #[.int .i64 p.f, .int .i64 p.t, .string p.s] ∧ NetB W n X s ∧ ModB W (fun k => X k ∨ k = w.heap.size ∨ k = w.heap.size + 1 ∨ k = w.heap.size + 1 + 1 ∨ k = W2.heap.size) (.agg #[.slice A1 s.l.length c1, .slice A2 s.w.length c2, .slice A3 n3 c3, .int .i64 s.sent, .int .i64 s.lost]) s ∧ Fr X w W) ⟨bm.alloc _, ba.alloc _, br.alloc _, Own.fresh _ _ _, hB.new_ ((Fr.refl _ _).alloc _), hM.fr ((Fr.refl _ _).alloc _) (F := fun _ => False) (fun _ x => x.elim) hX9, fW.alloc _⟩ ?_
  clear bm ba br hB hM fW hX9
  rintro W3 ⟨bm, ba, br, hp9, hB, hM, fW⟩
  have hX1 : ∀ k, X k → X k ∨ W1.heap.size ≤ k := fun _ h => .inl h
  obtain ⟨⟨m0, m1, m2, m3, m4⟩, -⟩ := own5 bm
  obtain ⟨⟨n0, n1, n2, n3', n4⟩, -⟩ := own5 ba
  obtain ⟨⟨d0, d1, d2⟩, -⟩ := own3c hp9
  obtain ⟨_, _, eL, hsL, -, -⟩ := hM.getL
  injection eL with e1 e2 e3
  subst e1 e3
  obtain ⟨sb, so, hAe, hcc⟩ := hsL.2 k hk
  simp only [HP.out] at hcc
  have a0 := hcc 0 _ rfl
  have a1 := hcc 1 _ rfl
  have a2 := hcc 2 _ rfl
  simp only [Nat.add_zero] at a0
  subst hAe
  have H := Lib.hid (And.intro bm (And.intro ba (And.intro br (And.intro hp9 (And.intro hB (And.intro hM fW))))))
  clear bm ba br hp9 hB hM fW hcc hsL
  go_quiet (fail)
  obtain ⟨⟨r0, r1, r2, r3, r4⟩, y0, y1, y2, y3, y4⟩ := own5 H.out.2.2.1
  go_wp2_with fail
  obtain ⟨bm, ba, br, hp9, hB, hM9, fW⟩ := H.out
  obtain ⟨br3, g2⟩ := (br.drewN nq).put5 (.slice (some ⟨sb, so, none⟩) s.l.length c1) (.slice A2 s.w.length c2) (.slice A3 n3 c3) (.int .i64 s.sent) (.int .i64 s.lost)
  refine post_world (fun Wf => Own Wf (w.heap.size + 1 + 1) 43 #[.slice (some ⟨sb, so, none⟩) s.l.length c1, .slice A2 s.w.length c2, .slice A3 n3 c3, .int .i64 s.sent, .int .i64 s.lost] ∧ Fr (fun k => k = w.heap.size ∨ k = w.heap.size + 1 + 1) W3 Wf) ⟨br3, ((Fr.refl _ _).drewN nq).trans (g2.mono fun _ e => .inr e) fun _ _ e => e⟩ ?_
  have hM := hM9.fr (X' := (fun k => X k ∨ k = w.heap.size ∨ k = w.heap.size + 1 ∨ k = w.heap.size + 1 + 1)) (Fr.refl (fun _ => False) _) (fun _ x => x.elim) (fun k h => .inl (by rcases h with h | h | h | h; exact .inl h; exact .inr (.inl h); exact .inr (.inr (.inl h)); exact .inr (.inr (.inr (.inl h)))))
  clear m0 m1 m2 m3 m4 n0 n1 n2 n3' n4 d0 d1 d2 r0 r1 r2 r3 r4 y0 y1 y2 y3 y4 br3 g2 hM9
  rintro Wf ⟨brf, ff⟩
  obtain ⟨⟨r0, r1, r2, r3, r4⟩, -⟩ := own5 brf
  have hbx : ∀ k, X k → ¬ (k = w.heap.size ∨ k = w.heap.size + 1 + 1) := fun k hk e => by
    rcases hX1 k hk with h | h
    · have := hXlt k h; omega
    · omega
  exact bodyPost_ret (v := .tuple #[.agg #[.slice (some ⟨sb, so, none⟩) s.l.length c1, .slice A2 s.w.length c2, .slice A3 n3 c3, .int .i64 s.sent, .int .i64 s.lost], .bool true]) (by simp [results, Try.results19, go_sem, *]) rfl ⟨_, s, X, rfl, hB.fr ff hbx, hM.fr ff (fun k e => by rcases e with e | e; exact .inr (.inl e); exact .inr (.inr (.inr e))) (fun _ h => .inl (.inl h)), fW.trans ff fun k hk e => by omega, fun k hk => by rcases hX1 k hk with h | h; exact .inl h; exact .inr (by have := hN.size; omega), ⟨by omega, by omega, by omega, by omega⟩⟩
set_option maxRecDepth 100000 in
set_option maxHeartbeats 8000000 in
theorem do_peek_out {w : World} {n nl cl : Nat} {X : Nat → Prop} {s : NetV} {mv : Value} {a b : Int} {AL : Option Addr} {j : Nat} (hB : NetB w n X s) (hM : ModB w X mv s) (hj : Bnd s j) (hj2 : j ≤ 150) {nn : Int} (ho : nn < 0 ∨ (s.l.length : Int) ≤ nn) :
    Calls Try.prog 19 #[.pointer (some ⟨n, 0, none⟩), mv, .agg #[.int .i64 10, .int .i64 nn, .int .i64 a, .int .i64 b, .slice AL nl cl]] w (DoOk w n X j) := by
  have hXlt := fun k hk => hB.lt (k := k) hk
  obtain ⟨hj0, hj3, hj4, hj5⟩ := hj
  have HO := Lib.hid ho
  rcases Int.lt_or_le nn 0 with hr | hr
  all_goals (
    have hr2 : nn < 0 ∨ (s.l.length : Int) ≤ nn := ho
    (try have hr3 : (s.l.length : Int) ≤ nn := by omega)
    (try have hr4 : decide (nn < (s.l.length : Int)) = false := by rw [decide_eq_false_iff_not]; omega)
    clear ho hr2
    obtain ⟨A1, n1, c1, A2, n2, c2, A3, n3, c3, rfl, rfl, rfl⟩ := hM.form
    have HB := Lib.hid (And.intro hB hM)
    clear hB hM
    go_enter Try.func19, Try.ntmps19
    go_wp2_with fail
    refine calls_world (fun W => Own W w.heap.size 43 #[.slice A1 s.l.length c1, .slice A2 s.w.length c2, .slice A3 n3 c3, .int .i64 s.sent, .int .i64 s.lost] ∧ Own W (w.heap.size + 1) 47 #[.int .i64 10, .int .i64 nn, .int .i64 a, .int .i64 b, .slice AL nl cl] ∧ Own W (w.heap.size + 1 + 1) 43 zMod ∧ New w W) ?_ ?_
    · exact ⟨Own.alloc (Own.alloc (Own.fresh _ _ _) _) _, Own.alloc (Own.new' (by simp)) _, Own.new' (by simp), (((Fr.refl _ _).alloc _).alloc _).alloc _⟩
    rintro W1 ⟨bm, ba, br, hN⟩
    have hB := HB.out.1.new_ hN
    have hM : ModB W1 (fun k => X k ∨ k = w.heap.size ∨ k = w.heap.size + 1 ∨ k = w.heap.size + 1 + 1) (.agg #[.slice A1 s.l.length c1, .slice A2 s.w.length c2, .slice A3 n3 c3, .int .i64 s.sent, .int .i64 s.lost]) s := HB.out.2.fr hN (fun _ g => g.elim) (fun k hk => by rcases hk with h | h | h | h; exact .inl h; exact .inr (by omega); exact .inr (by omega); exact .inr (by omega))
    have hrl := br.lt
    clear HB
    refine (peek_out hB HO.out (by omega)).mono ?_
    rintro e W2 ⟨rfl, g2⟩
    replace bm := bm.new_ g2
    replace ba := ba.new_ g2
    replace br := br.new_ g2
    replace hB := hB.new_ g2
    replace hM := hM.new_ g2
    have hrl2 := br.lt
    have fW : Fr X w W2 := (hN.new_ g2).mono fun _ g => g.elim
    have n0 : W2.cell? ⟨w.heap.size + 1, 0, none⟩ = some (.int .i64 10) := ba.cell 0
    have n1 : W2.cell? ⟨w.heap.size + 1, 1, none⟩ = some (.int .i64 nn) := ba.cell 1
    have hX9 : ∀ k, (X k ∨ k = w.heap.size ∨ k = w.heap.size + 1 ∨ k = w.heap.size + 1 + 1 ∨ k = W2.heap.size) → (X k ∨ k = w.heap.size ∨ k = w.heap.size + 1 ∨ k = w.heap.size + 1 + 1) ∨ W2.heap.size ≤ k := fun k hk => by
      rcases hk with h | h | h | h | h
      · exact .inl (.inl h)
      · exact .inl (.inr (.inl h))
      · exact .inl (.inr (.inr (.inl h)))
      · exact .inl (.inr (.inr (.inr h)))
      · exact .inr (by omega)
    have H := Lib.hid (And.intro bm (And.intro ba (And.intro br (And.intro hB (And.intro hM (And.intro fW hX9))))))
    have hb1 : w.heap.size + 1 < W2.heap.size := ba.lt
    clear bm ba br hB hM fW g2 hX9
    go_wp2_with fail
    obtain ⟨bm, ba, br, hB, hM, fW, hX9⟩ := H.out
    clear n0 n1 H
    refine wp_world (fun W => Own W w.heap.size 43 #[.slice A1 s.l.length c1, .slice A2 s.w.length c2, .slice A3 n3 c3, .int .i64 s.sent, .int .i64 s.lost] ∧ Own W (w.heap.size + 1) 47 #[.int .i64 10, .int .i64 nn, .int .i64 a, .int .i64 b, .slice AL nl cl] ∧ Own W (w.heap.size + 1 + 1) 43 zMod ∧ Own W W2.heap.size 26 #[.int .i64 noPkt.f, .int .i64 noPkt.t, .string noPkt.s] ∧ NetB W n X s ∧ ModB W (fun k => X k ∨ k = w.heap.size ∨ k = w.heap.size + 1 ∨ k = w.heap.size + 1 + 1 ∨ k = W2.heap.size) (.agg #[.slice A1 s.l.length c1, .slice A2 s.w.length c2, .slice A3 n3 c3, .int .i64 s.sent, .int .i64 s.lost]) s ∧ Fr X w W) ⟨bm.alloc _, ba.alloc _, br.alloc _, Own.fresh _ _ _, hB.new_ ((Fr.refl _ _).alloc _), hM.fr ((Fr.refl _ _).alloc _) (F := fun _ => False) (fun _ x => x.elim) hX9, fW.alloc _⟩ ?_
    clear bm ba br hB hM fW hX9
    rintro W3 ⟨bm, ba, br, hp9, hB, hM, fW⟩
    have hX1 : ∀ k, X k → X k ∨ W1.heap.size ≤ k := fun _ h => .inl h
    obtain ⟨⟨m0, m1, m2, m3, m4⟩, -⟩ := own5 bm
    obtain ⟨⟨n0, n1, n2, n3', n4⟩, -⟩ := own5 ba
    obtain ⟨⟨d0, d1, d2⟩, -⟩ := own3c hp9
    have H := Lib.hid (And.intro bm (And.intro ba (And.intro br (And.intro hp9 (And.intro hB (And.intro hM fW))))))
    clear bm ba br hp9 hB hM fW
    go_quiet (fail)
    obtain ⟨⟨r0, r1, r2, r3, r4⟩, y0, y1, y2, y3, y4⟩ := own5 H.out.2.2.1
    go_wp2_with fail
    obtain ⟨bm, ba, br, hp9, hB, hM9, fW⟩ := H.out
    obtain ⟨br3, g2⟩ := (br.drewN nq).put5 (.slice A1 s.l.length c1) (.slice A2 s.w.length c2) (.slice A3 n3 c3) (.int .i64 s.sent) (.int .i64 s.lost)
    refine post_world (fun Wf => Own Wf (w.heap.size + 1 + 1) 43 #[.slice A1 s.l.length c1, .slice A2 s.w.length c2, .slice A3 n3 c3, .int .i64 s.sent, .int .i64 s.lost] ∧ Fr (fun k => k = w.heap.size ∨ k = w.heap.size + 1 + 1) W3 Wf) ⟨br3, ((Fr.refl _ _).drewN nq).trans (g2.mono fun _ e => .inr e) fun _ _ e => e⟩ ?_
    have hM := hM9.fr (X' := (fun k => X k ∨ k = w.heap.size ∨ k = w.heap.size + 1 ∨ k = w.heap.size + 1 + 1)) (Fr.refl (fun _ => False) _) (fun _ x => x.elim) (fun k h => .inl (by rcases h with h | h | h | h; exact .inl h; exact .inr (.inl h); exact .inr (.inr (.inl h)); exact .inr (.inr (.inr (.inl h)))))
    clear m0 m1 m2 m3 m4 n0 n1 n2 n3' n4 d0 d1 d2 r0 r1 r2 r3 r4 y0 y1 y2 y3 y4 br3 g2 hM9
    rintro Wf ⟨brf, ff⟩
    obtain ⟨⟨r0, r1, r2, r3, r4⟩, -⟩ := own5 brf
    have hbx : ∀ k, X k → ¬ (k = w.heap.size ∨ k = w.heap.size + 1 + 1) := fun k hk e => by
      rcases hX1 k hk with h | h
      · have := hXlt k h; omega
      · omega
    exact bodyPost_ret (v := .tuple #[.agg #[.slice A1 s.l.length c1, .slice A2 s.w.length c2, .slice A3 n3 c3, .int .i64 s.sent, .int .i64 s.lost], .bool true]) (by simp [results, Try.results19, go_sem, *]) rfl ⟨_, s, X, rfl, hB.fr ff hbx, hM.fr ff (fun k e => by rcases e with e | e; exact .inr (.inl e); exact .inr (.inr (.inr e))) (fun _ h => .inl (.inl h)), fW.trans ff fun k hk e => by omega, fun k hk => by rcases hX1 k hk with h | h; exact .inl h; exact .inr (by have := hN.size; omega), ⟨by omega, by omega, by omega, by omega⟩⟩)
set_option maxRecDepth 100000 in
set_option maxHeartbeats 8000000 in
theorem do_take_in {w : World} {n nl cl : Nat} {X : Nat → Prop} {s : NetV} {mv : Value} {a b : Int} {AL : Option Addr} {j : Nat} (hB : NetB w n X s) (hM : ModB w X mv s) (hj : Bnd s j) (hj2 : j ≤ 150) {k : Nat} (hk : k < s.l.length) :
    Calls Try.prog 19 #[.pointer (some ⟨n, 0, none⟩), mv, .agg #[.int .i64 4, .int .i64 (k : Nat), .int .i64 a, .int .i64 b, .slice AL nl cl]] w (DoOk w n X j) := by
  have hXlt := fun k hk => hB.lt (k := k) hk
  obtain ⟨hj0, hj3, hj4, hj5⟩ := hj
  have hk2 : (k : Int) < (s.l.length : Int) := by omega
  obtain ⟨p, hpi⟩ : ∃ p, s.l[k]? = some p := ⟨s.l[k], List.getElem?_eq_getElem hk⟩
  have HP := Lib.hid hpi
  clear hpi
  obtain ⟨A1, n1, c1, A2, n2, c2, A3, n3, c3, rfl, rfl, rfl⟩ := hM.form
  have HB := Lib.hid (And.intro hB hM)
  clear hB hM
  go_enter Try.func19, Try.ntmps19
  go_wp2_with fail
  refine calls_world (fun W => Own W w.heap.size 43 #[.slice A1 s.l.length c1, .slice A2 s.w.length c2, .slice A3 n3 c3, .int .i64 s.sent, .int .i64 s.lost] ∧ Own W (w.heap.size + 1) 47 #[.int .i64 4, .int .i64 (k : Nat), .int .i64 a, .int .i64 b, .slice AL nl cl] ∧ Own W (w.heap.size + 1 + 1) 43 zMod ∧ New w W) ?_ ?_
  · exact ⟨Own.alloc (Own.alloc (Own.fresh _ _ _) _) _, Own.alloc (Own.new' (by simp)) _, Own.new' (by simp), (((Fr.refl _ _).alloc _).alloc _).alloc _⟩
  rintro W1 ⟨bm, ba, br, hN⟩
  have hB := HB.out.1.new_ hN
  have hM : ModB W1 (fun k => X k ∨ k = w.heap.size ∨ k = w.heap.size + 1 ∨ k = w.heap.size + 1 + 1) (.agg #[.slice A1 s.l.length c1, .slice A2 s.w.length c2, .slice A3 n3 c3, .int .i64 s.sent, .int .i64 s.lost]) s := HB.out.2.fr hN (fun _ g => g.elim) (fun k hk => by rcases hk with h | h | h | h; exact .inl h; exact .inr (by omega); exact .inr (by omega); exact .inr (by omega))
  have hrl := br.lt
  clear HB
  refine (peek_in hB HP.out (by omega)).mono ?_
  rintro e W2 ⟨rfl, g2⟩
  replace bm := bm.new_ g2
  replace ba := ba.new_ g2
  replace br := br.new_ g2
  replace hB := hB.new_ g2
  replace hM := hM.new_ g2
  have hrl2 := br.lt
  have fW : Fr X w W2 := (hN.new_ g2).mono fun _ g => g.elim
  have n0 : W2.cell? ⟨w.heap.size + 1, 0, none⟩ = some (.int .i64 4) := ba.cell 0
  have n1 : W2.cell? ⟨w.heap.size + 1, 1, none⟩ = some (.int .i64 (k : Nat)) := ba.cell 1
  have hX9 : ∀ k, (X k ∨ k = w.heap.size ∨ k = w.heap.size + 1 ∨ k = w.heap.size + 1 + 1 ∨ k = W2.heap.size) → (X k ∨ k = w.heap.size ∨ k = w.heap.size + 1 ∨ k = w.heap.size + 1 + 1) ∨ W2.heap.size ≤ k := fun k hk => by
    rcases hk with h | h | h | h | h
    · exact .inl (.inl h)
    · exact .inl (.inr (.inl h))
    · exact .inl (.inr (.inr (.inl h)))
    · exact .inl (.inr (.inr (.inr h)))
    · exact .inr (by omega)
  have H := Lib.hid (And.intro bm (And.intro ba (And.intro br (And.intro hB (And.intro hM (And.intro fW hX9))))))
  have hb1 : w.heap.size + 1 < W2.heap.size := ba.lt
  clear bm ba br hB hM fW g2 hX9
  go_wp2_with fail
  obtain ⟨bm, ba, br, hB, hM, fW, hX9⟩ := H.out
  clear n0 n1 H
  refine calls_world (fun W => Own W w.heap.size 43 #[.slice A1 s.l.length c1, .slice A2 s.w.length c2, .slice A3 n3 c3, .int .i64 s.sent, .int .i64 s.lost] ∧ Own W (w.heap.size + 1) 47 #[.int .i64 4, .int .i64 (k : Nat), .int .i64 a, .int .i64 b, .slice AL nl cl] ∧ Own W (w.heap.size + 1 + 1) 43 zMod ∧ Own W W2.heap.size 26 #[.int .i64 p.f, .int .i64 p.t, .string p.s] ∧ NetB W n X s ∧ ModB W (fun k => X k ∨ k = w.heap.size ∨ k = w.heap.size + 1 ∨ k = w.heap.size + 1 + 1 ∨ k = W2.heap.size) (.agg #[.slice A1 s.l.length c1, .slice A2 s.w.length c2, .slice A3 n3 c3, .int .i64 s.sent, .int .i64 s.lost]) s ∧ Fr X w W) ⟨bm.alloc _, ba.alloc _, br.alloc _, Own.fresh _ _ _, hB.new_ ((Fr.refl _ _).alloc _), hM.fr ((Fr.refl _ _).alloc _) (F := fun _ => False) (fun _ x => x.elim) hX9, fW.alloc _⟩ ?_
  clear bm ba br hB hM fW hX9
  rintro W3 ⟨bm, ba, br, hp9, hB, hM, fW⟩
  have hX1 : ∀ k, X k → X k ∨ W1.heap.size ≤ k := fun _ h => .inl h
  refine (take_in hB HP.out (by omega)).mono ?_
  rintro e W4 ⟨rfl, hB4, f4⟩
  have hbx2 : ∀ k, w.heap.size ≤ k → ¬ X k := fun k hk hx => by have := hXlt k hx; omega
  replace bm := bm.fr f4 (hbx2 _ (Nat.le_refl _))
  replace ba := ba.fr f4 (hbx2 _ (by omega))
  replace br := br.fr f4 (hbx2 _ (by omega))
  replace hp9 := hp9.fr f4 (hbx2 _ (by omega))
  replace hM := hM.fr (X' := (fun k => X k ∨ k = w.heap.size ∨ k = w.heap.size + 1 ∨ k = w.heap.size + 1 + 1 ∨ k = W2.heap.size)) f4 (fun k h => .inl h) (fun k hk => .inl hk)
  replace fW := fW.trans f4 fun _ _ h => h
  obtain ⟨⟨d0, d1, d2⟩, e0, e1, e2⟩ := own3c hp9
  have H := Lib.hid (And.intro bm (And.intro ba (And.intro br (And.intro hp9 (And.intro hB4 (And.intro hM fW))))))
  clear bm ba br hp9 hB hB4 hM fW f4
  go_wp2_with fail
  obtain ⟨bm, ba, br, hp9, hB, hM, fW⟩ := H.out
  refine wp_world (fun W => Own W w.heap.size 43 #[.slice A1 s.l.length c1, .slice A2 s.w.length c2, .slice A3 n3 c3, .int .i64 s.sent, .int .i64 s.lost] ∧ Own W (w.heap.size + 1) 47 #[.int .i64 4, .int .i64 (k : Nat), .int .i64 a, .int .i64 b, .slice AL nl cl] ∧ Own W (w.heap.size + 1 + 1) 43 zMod ∧ Own W W2.heap.size 26 #[.int .i64 p.f, .int .i64 p.t, .string p.s] ∧ NetB W n X ({ s with l := s.l.take k ++ s.l.drop (k + 1) } : NetV) ∧ ModB W (fun k => X k ∨ k = w.heap.size ∨ k = w.heap.size + 1 ∨ k = w.heap.size + 1 + 1 ∨ k = W2.heap.size) (.agg #[.slice A1 s.l.length c1, .slice A2 s.w.length c2, .slice A3 n3 c3, .int .i64 s.sent, .int .i64 s.lost]) s ∧ Fr X w W) ?_ ?_
  · have f9 : Fr (fun k => k = W2.heap.size) W4 (((W4.setCell ⟨W2.heap.size, 0, none⟩ (.int .i64 p.f)).setCell ⟨W2.heap.size, 1, none⟩ (.int .i64 p.t)).setCell ⟨W2.heap.size, 2, none⟩ (.string p.s)) :=
      Fr.set (Fr.set (Fr.set (F := fun k => k = W2.heap.size) (Fr.refl _ _) (p := ⟨W2.heap.size, 0, none⟩) (fun _ => rfl) _) (p := ⟨W2.heap.size, 1, none⟩) (fun _ => rfl) _) (p := ⟨W2.heap.size, 2, none⟩) (fun _ => rfl) _
    exact ⟨bm.fr f9 (by omega), ba.fr f9 (by omega), br.fr f9 (by omega), ((hp9.put rfl).put rfl).put rfl, hB.fr f9 (fun k hk e => by have := hXlt k hk; omega), hM.fr f9 (fun k e => .inr (.inr (.inr (.inr e)))) (fun k h => .inl h), fW.trans f9 fun k hk e => by omega⟩
  clear d0 d1 d2 e0 e1 e2 H bm ba br hp9 hB hM fW
  rintro W5 ⟨bm, ba, br, hp9, hB, hM, fW⟩
  obtain ⟨⟨m0, m1, m2, m3, m4⟩, -⟩ := own5 bm
  obtain ⟨⟨n0, n1, n2, n3', n4⟩, -⟩ := own5 ba
  obtain ⟨⟨d0, d1, d2⟩, -⟩ := own3c hp9
  obtain ⟨_, _, eL, hsL, -, -⟩ := hM.getL
  injection eL with e1 e2 e3
  subst e1 e3
  obtain ⟨sb, so, hAe, hcc⟩ := hsL.2 k hk
  simp only [HP.out] at hcc
  have a0 := hcc 0 _ rfl
  have a1 := hcc 1 _ rfl
  have a2 := hcc 2 _ rfl
  simp only [Nat.add_zero] at a0
  subst hAe
  have H := Lib.hid (And.intro bm (And.intro ba (And.intro br (And.intro hp9 (And.intro hB (And.intro hM fW))))))
  clear bm ba br hp9 hB hM fW hcc hsL
  go_quiet (fail)
  go_wp2_with fail
  have hM := H.out.2.2.2.2.2.1
  have gq : New W5 (W5.drewN nq) := (Fr.refl _ _).drewN nq
  have hXX : ∀ k, (X k ∨ k = w.heap.size ∨ k = w.heap.size + 1 ∨ k = w.heap.size + 1 + 1 ∨ k = W2.heap.size) → k < W5.heap.size := fun k hk => by
    have h1 := H.out.2.2.2.1.lt
    rcases hk with h | h | h | h | h
    · have := hXlt k h; omega
    · omega
    · omega
    · omega
    · omega
  refine (mwithout_any (hM.new_ gq).getL (fun k hk => Nat.lt_of_lt_of_le (hXX k hk) gq.size) hk (by omega)).mono ?_
  rintro e W6 ⟨v3, rfl, hsl, g3⟩
  obtain ⟨A9, c9, hv9, -⟩ := id hsl
  obtain ⟨q9, hq9⟩ : ∃ q9, q9 = (s.l.take k ++ s.l.drop (k + 1)).length := ⟨_, rfl⟩
  rw [← hq9] at hv9
  subst hv9
  have hlen : (s.l.take k ++ s.l.drop (k + 1)).length = s.l.length - 1 := by simp only [List.length_append, List.length_take, List.length_drop]; omega
  have gg : New W5 W6 := gq.new_ g3
  have hM6 := ((hM.new_ gq).new_ g3).setL hsl
  have hM7 := hM6.fr (X' := (fun k => X k ∨ k = w.heap.size ∨ k = w.heap.size + 1 ∨ k = w.heap.size + 1 + 1)) (Fr.refl (fun _ => False) _) (fun _ x => x.elim) (fun k h => .inl (by rcases h with h | h | h | h; exact .inl h; exact .inr (.inl h); exact .inr (.inr (.inl h)); exact .inr (.inr (.inr (.inl h)))))
  have H3 := Lib.hid (And.intro (H.out.1.new_ gg) (And.intro (H.out.2.2.1.new_ gg) (And.intro (H.out.2.2.2.2.1.new_ gg) (And.intro hM7 (And.intro (H.out.2.2.2.2.2.2.new_ gg) hlen)))))
  clear m0 m1 m2 m3 m4 n0 n1 n2 n3' n4 d0 d1 d2 a0 a1 a2 H hM hM6 hM7 hsl g3 hq9 hlen gg gq hXX
  obtain ⟨⟨m0, m1, m2, m3, m4⟩, f0, f1, f2', f3, f4⟩ := own5 H3.out.1
  obtain ⟨⟨r0, r1, r2, r3, r4⟩, y0, y1, y2, y3, y4⟩ := own5 H3.out.2.1
  have hne1 : ¬ (w.heap.size + 1 + 1 = w.heap.size) := by omega
  have hne2 : ¬ (w.heap.size = w.heap.size + 1 + 1) := by omega
  go_wp2_with fail
  obtain ⟨bm, br, hB, hM, fW, hlen⟩ := H3.out
  have b1 := br.far (p := ⟨w.heap.size, 0, none⟩) (by show ¬ (_ = w.heap.size); omega) (.slice A9 q9 c9)
  have g1 : Fr (fun k => k = w.heap.size) W6 (W6.setCell ⟨w.heap.size, 0, none⟩ (.slice A9 q9 c9)) := Fr.set (F := fun k => k = w.heap.size) (Fr.refl _ _) (p := ⟨w.heap.size, 0, none⟩) (fun _ => rfl) _
  obtain ⟨br3, g2⟩ := b1.put5 (.slice A9 q9 c9) (.slice A2 s.w.length c2) (.slice A3 n3 c3) (.int .i64 s.sent) (.int .i64 s.lost)
  refine post_world (fun Wf => Own Wf (w.heap.size + 1 + 1) 43 #[.slice A9 q9 c9, .slice A2 s.w.length c2, .slice A3 n3 c3, .int .i64 s.sent, .int .i64 s.lost] ∧ Fr (fun k => k = w.heap.size ∨ k = w.heap.size + 1 + 1) W6 Wf) ⟨br3, (g1.mono fun _ e => .inl e).trans g2 fun _ _ e => .inr e⟩ ?_
  clear m0 m1 m2 m3 m4 f0 f1 f2' f3 f4 r0 r1 r2 r3 r4 y0 y1 y2 y3 y4 br3 g1 g2 b1
  rintro Wf ⟨brf, ff⟩
  obtain ⟨⟨r0, r1, r2, r3, r4⟩, -⟩ := own5 brf
  have hbx : ∀ k, X k → ¬ (k = w.heap.size ∨ k = w.heap.size + 1 + 1) := fun k hk e => by
    rcases hX1 k hk with h | h
    · have := hXlt k h; omega
    · omega
  exact bodyPost_ret (v := .tuple #[.agg #[.slice A9 q9 c9, .slice A2 s.w.length c2, .slice A3 n3 c3, .int .i64 s.sent, .int .i64 s.lost], .bool true]) (by simp [results, Try.results19, go_sem, *]) rfl ⟨_, ({ s with l := s.l.take k ++ s.l.drop (k + 1) } : NetV), X, rfl, hB.fr ff hbx, hM.fr ff (fun k e => by rcases e with e | e; exact .inr (.inl e); exact .inr (.inr (.inr e))) (fun _ h => .inl (.inl h)), fW.trans ff fun k hk e => by omega, fun k hk => by rcases hX1 k hk with h | h; exact .inl h; exact .inr (by have := hN.size; omega), ⟨by simp only [hlen]; omega, by simp only; omega, by simp only; omega, by simp only; omega⟩⟩
set_option maxRecDepth 100000 in
set_option maxHeartbeats 8000000 in
theorem do_take_out {w : World} {n nl cl : Nat} {X : Nat → Prop} {s : NetV} {mv : Value} {a b : Int} {AL : Option Addr} {j : Nat} (hB : NetB w n X s) (hM : ModB w X mv s) (hj : Bnd s j) (hj2 : j ≤ 150) {nn : Int} (ho : nn < 0 ∨ (s.l.length : Int) ≤ nn) :
    Calls Try.prog 19 #[.pointer (some ⟨n, 0, none⟩), mv, .agg #[.int .i64 4, .int .i64 nn, .int .i64 a, .int .i64 b, .slice AL nl cl]] w (DoOk w n X j) := by
  have hXlt := fun k hk => hB.lt (k := k) hk
  obtain ⟨hj0, hj3, hj4, hj5⟩ := hj
  have HO := Lib.hid ho
  rcases Int.lt_or_le nn 0 with hr | hr
  all_goals (
    have hr2 : nn < 0 ∨ (s.l.length : Int) ≤ nn := ho
    (try have hr3 : (s.l.length : Int) ≤ nn := by omega)
    (try have hr4 : decide (nn < (s.l.length : Int)) = false := by rw [decide_eq_false_iff_not]; omega)
    clear ho hr2
    obtain ⟨A1, n1, c1, A2, n2, c2, A3, n3, c3, rfl, rfl, rfl⟩ := hM.form
    have HB := Lib.hid (And.intro hB hM)
    clear hB hM
    go_enter Try.func19, Try.ntmps19
    go_wp2_with fail
    refine calls_world (fun W => Own W w.heap.size 43 #[.slice A1 s.l.length c1, .slice A2 s.w.length c2, .slice A3 n3 c3, .int .i64 s.sent, .int .i64 s.lost] ∧ Own W (w.heap.size + 1) 47 #[.int .i64 4, .int .i64 nn, .int .i64 a, .int .i64 b, .slice AL nl cl] ∧ Own W (w.heap.size + 1 + 1) 43 zMod ∧ New w W) ?_ ?_
    · exact ⟨Own.alloc (Own.alloc (Own.fresh _ _ _) _) _, Own.alloc (Own.new' (by simp)) _, Own.new' (by simp), (((Fr.refl _ _).alloc _).alloc _).alloc _⟩
    rintro W1 ⟨bm, ba, br, hN⟩
    have hB := HB.out.1.new_ hN
    have hM : ModB W1 (fun k => X k ∨ k = w.heap.size ∨ k = w.heap.size + 1 ∨ k = w.heap.size + 1 + 1) (.agg #[.slice A1 s.l.length c1, .slice A2 s.w.length c2, .slice A3 n3 c3, .int .i64 s.sent, .int .i64 s.lost]) s := HB.out.2.fr hN (fun _ g => g.elim) (fun k hk => by rcases hk with h | h | h | h; exact .inl h; exact .inr (by omega); exact .inr (by omega); exact .inr (by omega))
    have hrl := br.lt
    clear HB
    refine (peek_out hB HO.out (by omega)).mono ?_
    rintro e W2 ⟨rfl, g2⟩
    replace bm := bm.new_ g2
    replace ba := ba.new_ g2
    replace br := br.new_ g2
    replace hB := hB.new_ g2
    replace hM := hM.new_ g2
    have hrl2 := br.lt
    have fW : Fr X w W2 := (hN.new_ g2).mono fun _ g => g.elim
    have n0 : W2.cell? ⟨w.heap.size + 1, 0, none⟩ = some (.int .i64 4) := ba.cell 0
    have n1 : W2.cell? ⟨w.heap.size + 1, 1, none⟩ = some (.int .i64 nn) := ba.cell 1
    have hX9 : ∀ k, (X k ∨ k = w.heap.size ∨ k = w.heap.size + 1 ∨ k = w.heap.size + 1 + 1 ∨ k = W2.heap.size) → (X k ∨ k = w.heap.size ∨ k = w.heap.size + 1 ∨ k = w.heap.size + 1 + 1) ∨ W2.heap.size ≤ k := fun k hk => by
      rcases hk with h | h | h | h | h
      · exact .inl (.inl h)
      · exact .inl (.inr (.inl h))
      · exact .inl (.inr (.inr (.inl h)))
      · exact .inl (.inr (.inr (.inr h)))
      · exact .inr (by omega)
    have H := Lib.hid (And.intro bm (And.intro ba (And.intro br (And.intro hB (And.intro hM (And.intro fW hX9))))))
    have hb1 : w.heap.size + 1 < W2.heap.size := ba.lt
    clear bm ba br hB hM fW g2 hX9
    go_wp2_with fail
    obtain ⟨bm, ba, br, hB, hM, fW, hX9⟩ := H.out
    clear n0 n1 H
    refine calls_world (fun W => Own W w.heap.size 43 #[.slice A1 s.l.length c1, .slice A2 s.w.length c2, .slice A3 n3 c3, .int .i64 s.sent, .int .i64 s.lost] ∧ Own W (w.heap.size + 1) 47 #[.int .i64 4, .int .i64 nn, .int .i64 a, .int .i64 b, .slice AL nl cl] ∧ Own W (w.heap.size + 1 + 1) 43 zMod ∧ Own W W2.heap.size 26 #[.int .i64 noPkt.f, .int .i64 noPkt.t, .string noPkt.s] ∧ NetB W n X s ∧ ModB W (fun k => X k ∨ k = w.heap.size ∨ k = w.heap.size + 1 ∨ k = w.heap.size + 1 + 1 ∨ k = W2.heap.size) (.agg #[.slice A1 s.l.length c1, .slice A2 s.w.length c2, .slice A3 n3 c3, .int .i64 s.sent, .int .i64 s.lost]) s ∧ Fr X w W) ⟨bm.alloc _, ba.alloc _, br.alloc _, Own.fresh _ _ _, hB.new_ ((Fr.refl _ _).alloc _), hM.fr ((Fr.refl _ _).alloc _) (F := fun _ => False) (fun _ x => x.elim) hX9, fW.alloc _⟩ ?_
    clear bm ba br hB hM fW hX9
    rintro W3 ⟨bm, ba, br, hp9, hB, hM, fW⟩
    have hX1 : ∀ k, X k → X k ∨ W1.heap.size ≤ k := fun _ h => .inl h
    refine (take_out hB HO.out (by omega)).mono ?_
    rintro e W4 ⟨rfl, g4⟩
    have hB4 := hB.new_ g4
    have f4 : Fr X W3 W4 := g4.mono fun _ x => x.elim
    have hbx2 : ∀ k, w.heap.size ≤ k → ¬ X k := fun k hk hx => by have := hXlt k hx; omega
    replace bm := bm.fr f4 (hbx2 _ (Nat.le_refl _))
    replace ba := ba.fr f4 (hbx2 _ (by omega))
    replace br := br.fr f4 (hbx2 _ (by omega))
    replace hp9 := hp9.fr f4 (hbx2 _ (by omega))
    replace hM := hM.fr (X' := (fun k => X k ∨ k = w.heap.size ∨ k = w.heap.size + 1 ∨ k = w.heap.size + 1 + 1 ∨ k = W2.heap.size)) f4 (fun k h => .inl h) (fun k hk => .inl hk)
    replace fW := fW.trans f4 fun _ _ h => h
    obtain ⟨⟨d0, d1, d2⟩, e0, e1, e2⟩ := own3c hp9
    have H := Lib.hid (And.intro bm (And.intro ba (And.intro br (And.intro hp9 (And.intro hB4 (And.intro hM fW))))))
    clear bm ba br hp9 hB hB4 hM fW f4
    go_wp2_with fail
    obtain ⟨bm, ba, br, hp9, hB, hM, fW⟩ := H.out
    refine wp_world (fun W => Own W w.heap.size 43 #[.slice A1 s.l.length c1, .slice A2 s.w.length c2, .slice A3 n3 c3, .int .i64 s.sent, .int .i64 s.lost] ∧ Own W (w.heap.size + 1) 47 #[.int .i64 4, .int .i64 nn, .int .i64 a, .int .i64 b, .slice AL nl cl] ∧ Own W (w.heap.size + 1 + 1) 43 zMod ∧ Own W W2.heap.size 26 #[.int .i64 noPkt.f, .int .i64 noPkt.t, .string noPkt.s] ∧ NetB W n X s ∧ ModB W (fun k => X k ∨ k = w.heap.size ∨ k = w.heap.size + 1 ∨ k = w.heap.size + 1 + 1 ∨ k = W2.heap.size) (.agg #[.slice A1 s.l.length c1, .slice A2 s.w.length c2, .slice A3 n3 c3, .int .i64 s.sent, .int .i64 s.lost]) s ∧ Fr X w W) ?_ ?_
    · have f9 : Fr (fun k => k = W2.heap.size) W4 (((W4.setCell ⟨W2.heap.size, 0, none⟩ (.int .i64 noPkt.f)).setCell ⟨W2.heap.size, 1, none⟩ (.int .i64 noPkt.t)).setCell ⟨W2.heap.size, 2, none⟩ (.string noPkt.s)) :=
        Fr.set (Fr.set (Fr.set (F := fun k => k = W2.heap.size) (Fr.refl _ _) (p := ⟨W2.heap.size, 0, none⟩) (fun _ => rfl) _) (p := ⟨W2.heap.size, 1, none⟩) (fun _ => rfl) _) (p := ⟨W2.heap.size, 2, none⟩) (fun _ => rfl) _
      exact ⟨bm.fr f9 (by omega), ba.fr f9 (by omega), br.fr f9 (by omega), ((hp9.put rfl).put rfl).put rfl, hB.fr f9 (fun k hk e => by have := hXlt k hk; omega), hM.fr f9 (fun k e => .inr (.inr (.inr (.inr e)))) (fun k h => .inl h), fW.trans f9 fun k hk e => by omega⟩
    clear d0 d1 d2 e0 e1 e2 H bm ba br hp9 hB hM fW
    rintro W5 ⟨bm, ba, br, hp9, hB, hM, fW⟩
    obtain ⟨⟨m0, m1, m2, m3, m4⟩, -⟩ := own5 bm
    obtain ⟨⟨n0, n1, n2, n3', n4⟩, -⟩ := own5 ba
    obtain ⟨⟨d0, d1, d2⟩, -⟩ := own3c hp9
    have H := Lib.hid (And.intro bm (And.intro ba (And.intro br (And.intro hp9 (And.intro hB (And.intro hM fW))))))
    clear bm ba br hp9 hB hM fW
    go_quiet (fail)
    obtain ⟨⟨r0, r1, r2, r3, r4⟩, y0, y1, y2, y3, y4⟩ := own5 H.out.2.2.1
    go_wp2_with fail
    obtain ⟨bm, ba, br, hp9, hB, hM9, fW⟩ := H.out
    obtain ⟨br3, g2⟩ := (br.drewN nq).put5 (.slice A1 s.l.length c1) (.slice A2 s.w.length c2) (.slice A3 n3 c3) (.int .i64 s.sent) (.int .i64 s.lost)
    refine post_world (fun Wf => Own Wf (w.heap.size + 1 + 1) 43 #[.slice A1 s.l.length c1, .slice A2 s.w.length c2, .slice A3 n3 c3, .int .i64 s.sent, .int .i64 s.lost] ∧ Fr (fun k => k = w.heap.size ∨ k = w.heap.size + 1 + 1) W5 Wf) ⟨br3, ((Fr.refl _ _).drewN nq).trans (g2.mono fun _ e => .inr e) fun _ _ e => e⟩ ?_
    have hM := hM9.fr (X' := (fun k => X k ∨ k = w.heap.size ∨ k = w.heap.size + 1 ∨ k = w.heap.size + 1 + 1)) (Fr.refl (fun _ => False) _) (fun _ x => x.elim) (fun k h => .inl (by rcases h with h | h | h | h; exact .inl h; exact .inr (.inl h); exact .inr (.inr (.inl h)); exact .inr (.inr (.inr (.inl h)))))
    clear m0 m1 m2 m3 m4 n0 n1 n2 n3' n4 d0 d1 d2 r0 r1 r2 r3 r4 y0 y1 y2 y3 y4 br3 g2 hM9
    rintro Wf ⟨brf, ff⟩
    obtain ⟨⟨r0, r1, r2, r3, r4⟩, -⟩ := own5 brf
    have hbx : ∀ k, X k → ¬ (k = w.heap.size ∨ k = w.heap.size + 1 + 1) := fun k hk e => by
      rcases hX1 k hk with h | h
      · have := hXlt k h; omega
      · omega
    exact bodyPost_ret (v := .tuple #[.agg #[.slice A1 s.l.length c1, .slice A2 s.w.length c2, .slice A3 n3 c3, .int .i64 s.sent, .int .i64 s.lost], .bool true]) (by simp [results, Try.results19, go_sem, *]) rfl ⟨_, s, X, rfl, hB.fr ff hbx, hM.fr ff (fun k e => by rcases e with e | e; exact .inr (.inl e); exact .inr (.inr (.inr e))) (fun _ h => .inl (.inl h)), fW.trans ff fun k hk e => by omega, fun k hk => by rcases hX1 k hk with h | h; exact .inl h; exact .inr (by have := hN.size; omega), ⟨by omega, by omega, by omega, by omega⟩⟩)
end Go.Proofs.Ytleagdnlgjpcgaa
