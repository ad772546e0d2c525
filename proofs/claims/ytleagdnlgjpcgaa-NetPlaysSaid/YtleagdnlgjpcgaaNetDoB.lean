/- What happens to a network, and to the model: one is lost, one comes twice. -/
import Derived.Test.YtleagdnlgjpcgaaNetDoA
import Derived.Test.YtleagdnlgjpcgaaNetFull
namespace Go.Proofs.Ytleagdnlgjpcgaa
open Go.RowKit Go.Maps
set_option linter.unusedVariables false
set_option linter.unusedSimpArgs false

theorem ModB.setLost {W : World} {X : Nat → Prop} {a b c d : Value} {s : NetV} (h : ModB W X (.agg #[a, b, c, d, .int .i64 s.lost]) s) : ModB W X (.agg #[a, b, c, d, .int .i64 ((s.lost : Int) + 1)]) { s with lost := s.lost + 1 } := by
  obtain ⟨lv, wv, cv, C, e, h1, h2, h3, h4⟩ := h
  injection e with e
  simp at e
  obtain ⟨rfl, rfl, rfl, rfl⟩ := e
  exact ⟨_, _, _, C, by simp, h1, h2, h3, h4⟩
set_option maxRecDepth 100000 in
set_option maxHeartbeats 8000000 in
theorem do_drop_out {w : World} {n nl cl : Nat} {X : Nat → Prop} {s : NetV} {mv : Value} {a b : Int} {AL : Option Addr} {j : Nat} (hB : NetB w n X s) (hM : ModB w X mv s) (hj : Bnd s j) (hj2 : j ≤ 150) {nn : Int} (ho : nn < 0 ∨ (s.l.length : Int) ≤ nn) :
    Calls Try.prog 19 #[.pointer (some ⟨n, 0, none⟩), mv, .agg #[.int .i64 5, .int .i64 nn, .int .i64 a, .int .i64 b, .slice AL nl cl]] w (DoOk w n X j) := by
  have hXlt := fun k hk => hB.lt (k := k) hk
  obtain ⟨hj0, hj3, hj4, hj5⟩ := hj
  have HO := Lib.hid ho
  rcases Int.lt_or_le nn 0 with hr | hr
  all_goals (
    have hr2 : nn < 0 ∨ (s.l.length : Int) ≤ nn := ho
    (try have hr3 : (s.l.length : Int) ≤ nn := by omega)
    clear ho hr2
    obtain ⟨A1, n1, c1, A2, n2, c2, A3, n3, c3, rfl, rfl, rfl⟩ := hM.form
    have HB := Lib.hid (And.intro hB hM)
    clear hB hM
    go_enter Try.func19, Try.ntmps19
    go_wp2_with fail
    refine calls_world (fun W => Own W w.heap.size 43 #[.slice A1 s.l.length c1, .slice A2 s.w.length c2, .slice A3 n3 c3, .int .i64 s.sent, .int .i64 s.lost] ∧ Own W (w.heap.size + 1) 47 #[.int .i64 5, .int .i64 nn, .int .i64 a, .int .i64 b, .slice AL nl cl] ∧ Own W (w.heap.size + 1 + 1) 43 zMod ∧ New w W) ?_ ?_
    · exact ⟨Own.alloc (Own.alloc (Own.fresh _ _ _) _) _, Own.alloc (Own.new' (by simp)) _, Own.new' (by simp), (((Fr.refl _ _).alloc _).alloc _).alloc _⟩
    rintro W1 ⟨bm, ba, br, hN⟩
    have hB := HB.out.1.new_ hN
    have hM : ModB W1 (fun k => X k ∨ k = w.heap.size ∨ k = w.heap.size + 1 ∨ k = w.heap.size + 1 + 1) (.agg #[.slice A1 s.l.length c1, .slice A2 s.w.length c2, .slice A3 n3 c3, .int .i64 s.sent, .int .i64 s.lost]) s := HB.out.2.fr hN (fun _ g => g.elim) (fun k hk => by rcases hk with h | h | h | h; exact .inl h; exact .inr (by omega); exact .inr (by omega); exact .inr (by omega))
    have hrl := br.lt
    clear HB
    refine (drop_out hB HO.out (by omega)).mono ?_
    rintro e W2 ⟨rfl, g2⟩
    have hB2 := hB.new_ g2
    have f2 : Fr X W1 W2 := g2.mono fun _ x => x.elim
    have hX1 : ∀ k, X k → X k ∨ W1.heap.size ≤ k := fun _ h => .inl h
    have hbx2 : ∀ k, k = w.heap.size ∨ k = w.heap.size + 1 ∨ k = w.heap.size + 1 + 1 → ¬ X k := fun k hk hx => by have := hXlt k hx; omega
    replace bm := bm.fr f2 (hbx2 _ (.inl rfl))
    replace ba := ba.fr f2 (hbx2 _ (.inr (.inl rfl)))
    replace br := br.fr f2 (hbx2 _ (.inr (.inr rfl)))
    replace hM : ModB W2 (fun k => X k ∨ k = w.heap.size ∨ k = w.heap.size + 1 ∨ k = w.heap.size + 1 + 1) (.agg #[.slice A1 s.l.length c1, .slice A2 s.w.length c2, .slice A3 n3 c3, .int .i64 s.sent, .int .i64 s.lost]) s := hM.fr f2 (fun k h => .inl h) (fun k hk => by
      rcases hk with h | h
      · rcases hX1 k h with h | h
        · exact .inl (.inl h)
        · exact .inr h
      · exact .inl (.inr h))
    have fW : Fr X w W2 := Fr.trans (F := X) (hN.mono fun _ g => g.elim) f2 fun _ _ h => h
    have hXX : ∀ k, (X k ∨ k = w.heap.size ∨ k = w.heap.size + 1 ∨ k = w.heap.size + 1 + 1) → k < W2.heap.size := fun k hk => by
      have h1 := br.lt
      rcases hk with h | h | h | h
      · exact hB2.lt h
      · omega
      · omega
      · omega
    obtain ⟨⟨m0, m1, m2, m3, m4⟩, f0, f1, f2', f3, f4⟩ := own5 bm
    obtain ⟨⟨n0, n1, n2, n3', n4⟩, -⟩ := own5 ba
    obtain ⟨⟨r0, r1, r2, r3, r4⟩, y0, y1, y2, y3, y4⟩ := own5 br
    have H := Lib.hid (And.intro bm (And.intro ba (And.intro br (And.intro hB2 (And.intro hM (And.intro fW hXX))))))
    have hs2 := f2.size
    have hne1 : ¬ (w.heap.size + 1 + 1 = w.heap.size) := by omega
    have hne2 : ¬ (w.heap.size = w.heap.size + 1 + 1) := by omega
    clear bm ba br hB hM hB2 fW f2 hXX
    go_wp2_with fail
    obtain ⟨bm, ba, br, hB, hM, fW, hXX⟩ := H.out
    obtain ⟨br3, g2⟩ := br.put5 (.slice A1 s.l.length c1) (.slice A2 s.w.length c2) (.slice A3 n3 c3) (.int .i64 s.sent) (.int .i64 s.lost)
    refine post_world (fun Wf => Own Wf (w.heap.size + 1 + 1) 43 #[.slice A1 s.l.length c1, .slice A2 s.w.length c2, .slice A3 n3 c3, .int .i64 s.sent, .int .i64 s.lost] ∧ Fr (fun k => k = w.heap.size ∨ k = w.heap.size + 1 + 1) W2 Wf) ⟨br3, g2.mono fun _ e => .inr e⟩ ?_
    clear m0 m1 m2 m3 m4 f0 f1 f2' f3 f4 n0 n1 n2 n3' n4 r0 r1 r2 r3 r4 y0 y1 y2 y3 y4 br3 g2
    rintro Wf ⟨brf, ff⟩
    obtain ⟨⟨r0, r1, r2, r3, r4⟩, -⟩ := own5 brf
    have hbx : ∀ k, X k → ¬ (k = w.heap.size ∨ k = w.heap.size + 1 + 1) := fun k hk e => by
      rcases hX1 k hk with h | h
      · have := hXlt k h; omega
      · omega
    exact bodyPost_ret (v := .tuple #[.agg #[.slice A1 s.l.length c1, .slice A2 s.w.length c2, .slice A3 n3 c3, .int .i64 s.sent, .int .i64 s.lost], .bool true]) (by simp [results, Try.results19, go_sem, *]) rfl ⟨_, s, X, rfl, hB.fr ff hbx, hM.fr ff (fun k e => by rcases e with e | e; exact .inr (.inl e); exact .inr (.inr (.inr e))) (fun _ h => .inl (.inl h)), fW.trans ff fun k hk e => by omega, fun k hk => by rcases hX1 k hk with h | h; exact .inl h; exact .inr (by have := hN.size; omega), ⟨by omega, by omega, by omega, by omega⟩⟩)
set_option maxRecDepth 100000 in
set_option maxHeartbeats 8000000 in
theorem do_double_out {w : World} {n nl cl : Nat} {X : Nat → Prop} {s : NetV} {mv : Value} {a b : Int} {AL : Option Addr} {j : Nat} (hB : NetB w n X s) (hM : ModB w X mv s) (hj : Bnd s j) (hj2 : j ≤ 150) {nn : Int} (ho : nn < 0 ∨ (s.l.length : Int) ≤ nn) :
    Calls Try.prog 19 #[.pointer (some ⟨n, 0, none⟩), mv, .agg #[.int .i64 6, .int .i64 nn, .int .i64 a, .int .i64 b, .slice AL nl cl]] w (DoOk w n X j) := by
  have hXlt := fun k hk => hB.lt (k := k) hk
  obtain ⟨hj0, hj3, hj4, hj5⟩ := hj
  have HO := Lib.hid ho
  rcases Int.lt_or_le nn 0 with hr | hr
  all_goals (
    have hr2 : nn < 0 ∨ (s.l.length : Int) ≤ nn := ho
    (try have hr3 : (s.l.length : Int) ≤ nn := by omega)
    clear ho hr2
    obtain ⟨A1, n1, c1, A2, n2, c2, A3, n3, c3, rfl, rfl, rfl⟩ := hM.form
    have HB := Lib.hid (And.intro hB hM)
    clear hB hM
    go_enter Try.func19, Try.ntmps19
    go_wp2_with fail
    refine calls_world (fun W => Own W w.heap.size 43 #[.slice A1 s.l.length c1, .slice A2 s.w.length c2, .slice A3 n3 c3, .int .i64 s.sent, .int .i64 s.lost] ∧ Own W (w.heap.size + 1) 47 #[.int .i64 6, .int .i64 nn, .int .i64 a, .int .i64 b, .slice AL nl cl] ∧ Own W (w.heap.size + 1 + 1) 43 zMod ∧ New w W) ?_ ?_
    · exact ⟨Own.alloc (Own.alloc (Own.fresh _ _ _) _) _, Own.alloc (Own.new' (by simp)) _, Own.new' (by simp), (((Fr.refl _ _).alloc _).alloc _).alloc _⟩
    rintro W1 ⟨bm, ba, br, hN⟩
    have hB := HB.out.1.new_ hN
    have hM : ModB W1 (fun k => X k ∨ k = w.heap.size ∨ k = w.heap.size + 1 ∨ k = w.heap.size + 1 + 1) (.agg #[.slice A1 s.l.length c1, .slice A2 s.w.length c2, .slice A3 n3 c3, .int .i64 s.sent, .int .i64 s.lost]) s := HB.out.2.fr hN (fun _ g => g.elim) (fun k hk => by rcases hk with h | h | h | h; exact .inl h; exact .inr (by omega); exact .inr (by omega); exact .inr (by omega))
    have hrl := br.lt
    clear HB
    refine (double_out hB HO.out (by omega)).mono ?_
    rintro e W2 ⟨rfl, g2⟩
    have hB2 := hB.new_ g2
    have f2 : Fr X W1 W2 := g2.mono fun _ x => x.elim
    have hX1 : ∀ k, X k → X k ∨ W1.heap.size ≤ k := fun _ h => .inl h
    have hbx2 : ∀ k, k = w.heap.size ∨ k = w.heap.size + 1 ∨ k = w.heap.size + 1 + 1 → ¬ X k := fun k hk hx => by have := hXlt k hx; omega
    replace bm := bm.fr f2 (hbx2 _ (.inl rfl))
    replace ba := ba.fr f2 (hbx2 _ (.inr (.inl rfl)))
    replace br := br.fr f2 (hbx2 _ (.inr (.inr rfl)))
    replace hM : ModB W2 (fun k => X k ∨ k = w.heap.size ∨ k = w.heap.size + 1 ∨ k = w.heap.size + 1 + 1) (.agg #[.slice A1 s.l.length c1, .slice A2 s.w.length c2, .slice A3 n3 c3, .int .i64 s.sent, .int .i64 s.lost]) s := hM.fr f2 (fun k h => .inl h) (fun k hk => by
      rcases hk with h | h
      · rcases hX1 k h with h | h
        · exact .inl (.inl h)
        · exact .inr h
      · exact .inl (.inr h))
    have fW : Fr X w W2 := Fr.trans (F := X) (hN.mono fun _ g => g.elim) f2 fun _ _ h => h
    have hXX : ∀ k, (X k ∨ k = w.heap.size ∨ k = w.heap.size + 1 ∨ k = w.heap.size + 1 + 1) → k < W2.heap.size := fun k hk => by
      have h1 := br.lt
      rcases hk with h | h | h | h
      · exact hB2.lt h
      · omega
      · omega
      · omega
    obtain ⟨⟨m0, m1, m2, m3, m4⟩, f0, f1, f2', f3, f4⟩ := own5 bm
    obtain ⟨⟨n0, n1, n2, n3', n4⟩, -⟩ := own5 ba
    obtain ⟨⟨r0, r1, r2, r3, r4⟩, y0, y1, y2, y3, y4⟩ := own5 br
    have H := Lib.hid (And.intro bm (And.intro ba (And.intro br (And.intro hB2 (And.intro hM (And.intro fW hXX))))))
    have hs2 := f2.size
    have hne1 : ¬ (w.heap.size + 1 + 1 = w.heap.size) := by omega
    have hne2 : ¬ (w.heap.size = w.heap.size + 1 + 1) := by omega
    clear bm ba br hB hM hB2 fW f2 hXX
    go_wp2_with fail
    obtain ⟨bm, ba, br, hB, hM, fW, hXX⟩ := H.out
    obtain ⟨br3, g2⟩ := br.put5 (.slice A1 s.l.length c1) (.slice A2 s.w.length c2) (.slice A3 n3 c3) (.int .i64 s.sent) (.int .i64 s.lost)
    refine post_world (fun Wf => Own Wf (w.heap.size + 1 + 1) 43 #[.slice A1 s.l.length c1, .slice A2 s.w.length c2, .slice A3 n3 c3, .int .i64 s.sent, .int .i64 s.lost] ∧ Fr (fun k => k = w.heap.size ∨ k = w.heap.size + 1 + 1) W2 Wf) ⟨br3, g2.mono fun _ e => .inr e⟩ ?_
    clear m0 m1 m2 m3 m4 f0 f1 f2' f3 f4 n0 n1 n2 n3' n4 r0 r1 r2 r3 r4 y0 y1 y2 y3 y4 br3 g2
    rintro Wf ⟨brf, ff⟩
    obtain ⟨⟨r0, r1, r2, r3, r4⟩, -⟩ := own5 brf
    have hbx : ∀ k, X k → ¬ (k = w.heap.size ∨ k = w.heap.size + 1 + 1) := fun k hk e => by
      rcases hX1 k hk with h | h
      · have := hXlt k h; omega
      · omega
    exact bodyPost_ret (v := .tuple #[.agg #[.slice A1 s.l.length c1, .slice A2 s.w.length c2, .slice A3 n3 c3, .int .i64 s.sent, .int .i64 s.lost], .bool true]) (by simp [results, Try.results19, go_sem, *]) rfl ⟨_, s, X, rfl, hB.fr ff hbx, hM.fr ff (fun k e => by rcases e with e | e; exact .inr (.inl e); exact .inr (.inr (.inr e))) (fun _ h => .inl (.inl h)), fW.trans ff fun k hk e => by omega, fun k hk => by rcases hX1 k hk with h | h; exact .inl h; exact .inr (by have := hN.size; omega), ⟨by omega, by omega, by omega, by omega⟩⟩)
set_option maxRecDepth 100000 in
set_option maxHeartbeats 8000000 in
theorem do_drop_in {w : World} {n nl cl : Nat} {X : Nat → Prop} {s : NetV} {mv : Value} {a b : Int} {AL : Option Addr} {j : Nat} (hB : NetB w n X s) (hM : ModB w X mv s) (hj : Bnd s j) (hj2 : j ≤ 150) {k : Nat} (hk : k < s.l.length) :
    Calls Try.prog 19 #[.pointer (some ⟨n, 0, none⟩), mv, .agg #[.int .i64 5, .int .i64 (k : Nat), .int .i64 a, .int .i64 b, .slice AL nl cl]] w (DoOk w n X j) := by
  have hXlt := fun k hk => hB.lt (k := k) hk
  obtain ⟨hj0, hj3, hj4, hj5⟩ := hj
  have hk2 : (k : Int) < (s.l.length : Int) := by omega
  have hlo2 : (s.lost : Int) ≤ 1000000 := by omega
  obtain ⟨p, hpi⟩ : ∃ p, s.l[k]? = some p := ⟨s.l[k], List.getElem?_eq_getElem hk⟩
  have HP := Lib.hid hpi
  clear hpi
  obtain ⟨A1, n1, c1, A2, n2, c2, A3, n3, c3, rfl, rfl, rfl⟩ := hM.form
  have HB := Lib.hid (And.intro hB hM)
  clear hB hM
  go_enter Try.func19, Try.ntmps19
  go_wp2_with fail
  refine calls_world (fun W => Own W w.heap.size 43 #[.slice A1 s.l.length c1, .slice A2 s.w.length c2, .slice A3 n3 c3, .int .i64 s.sent, .int .i64 s.lost] ∧ Own W (w.heap.size + 1) 47 #[.int .i64 5, .int .i64 (k : Nat), .int .i64 a, .int .i64 b, .slice AL nl cl] ∧ Own W (w.heap.size + 1 + 1) 43 zMod ∧ New w W) ?_ ?_
  · exact ⟨Own.alloc (Own.alloc (Own.fresh _ _ _) _) _, Own.alloc (Own.new' (by simp)) _, Own.new' (by simp), (((Fr.refl _ _).alloc _).alloc _).alloc _⟩
  rintro W1 ⟨bm, ba, br, hN⟩
  have hB := HB.out.1.new_ hN
  have hM : ModB W1 (fun k => X k ∨ k = w.heap.size ∨ k = w.heap.size + 1 ∨ k = w.heap.size + 1 + 1) (.agg #[.slice A1 s.l.length c1, .slice A2 s.w.length c2, .slice A3 n3 c3, .int .i64 s.sent, .int .i64 s.lost]) s := HB.out.2.fr hN (fun _ g => g.elim) (fun k hk => by rcases hk with h | h | h | h; exact .inl h; exact .inr (by omega); exact .inr (by omega); exact .inr (by omega))
  have hrl := br.lt
  clear HB
  refine (drop_in hB HP.out (by omega) (by omega)).mono ?_
  rintro e W2 ⟨rfl, hB2, f2⟩
  have hX1 : ∀ k, X k → X k ∨ W1.heap.size ≤ k := fun _ h => .inl h
  have hbx2 : ∀ k, k = w.heap.size ∨ k = w.heap.size + 1 ∨ k = w.heap.size + 1 + 1 → ¬ X k := fun k hk hx => by have := hXlt k hx; omega
  replace bm := bm.fr f2 (hbx2 _ (.inl rfl))
  replace ba := ba.fr f2 (hbx2 _ (.inr (.inl rfl)))
  replace br := br.fr f2 (hbx2 _ (.inr (.inr rfl)))
  replace hM : ModB W2 (fun k => X k ∨ k = w.heap.size ∨ k = w.heap.size + 1 ∨ k = w.heap.size + 1 + 1) (.agg #[.slice A1 s.l.length c1, .slice A2 s.w.length c2, .slice A3 n3 c3, .int .i64 s.sent, .int .i64 s.lost]) s := hM.fr f2 (fun k h => .inl h) (fun k hk => by
    rcases hk with h | h
    · rcases hX1 k h with h | h
      · exact .inl (.inl h)
      · exact .inr h
    · exact .inl (.inr h))
  have fW : Fr X w W2 := Fr.trans (F := X) (hN.mono fun _ g => g.elim) f2 fun _ _ h => h
  have hXX : ∀ k, (X k ∨ k = w.heap.size ∨ k = w.heap.size + 1 ∨ k = w.heap.size + 1 + 1) → k < W2.heap.size := fun k hk => by
    have h1 := br.lt
    rcases hk with h | h | h | h
    · exact hB2.lt h
    · omega
    · omega
    · omega
  obtain ⟨⟨m0, m1, m2, m3, m4⟩, f0, f1, f2', f3, f4⟩ := own5 bm
  obtain ⟨⟨n0, n1, n2, n3', n4⟩, -⟩ := own5 ba
  obtain ⟨⟨r0, r1, r2, r3, r4⟩, y0, y1, y2, y3, y4⟩ := own5 br
  have H := Lib.hid (And.intro bm (And.intro ba (And.intro br (And.intro hB2 (And.intro hM (And.intro fW hXX))))))
  have hs2 := f2.size
  have hne1 : ¬ (w.heap.size + 1 + 1 = w.heap.size) := by omega
  have hne2 : ¬ (w.heap.size = w.heap.size + 1 + 1) := by omega
  clear bm ba br hB hM hB2 fW f2 hXX
  go_wp2_with fail
  have hM := H.out.2.2.2.2.1
  refine (mwithout_any hM.getL H.out.2.2.2.2.2.2 hk (by omega)).mono ?_
  rintro e W3 ⟨v3, rfl, hsl, g3⟩
  obtain ⟨A9, c9, hv9, -⟩ := id hsl
  obtain ⟨q9, hq9⟩ : ∃ q9, q9 = (s.l.take k ++ s.l.drop (k + 1)).length := ⟨_, rfl⟩
  rw [← hq9] at hv9
  subst hv9
  have hlen : (s.l.take k ++ s.l.drop (k + 1)).length = s.l.length - 1 := by simp only [List.length_append, List.length_take, List.length_drop]; omega
  have H3 := Lib.hid (And.intro (H.out.1.new_ g3) (And.intro (H.out.2.2.1.new_ g3) (And.intro (H.out.2.2.2.1.new_ g3) (And.intro (ModB.setLost (s := { s with l := s.l.take k ++ s.l.drop (k + 1) }) ((hM.new_ g3).setL hsl)) (And.intro (H.out.2.2.2.2.2.1.new_ g3) hlen)))))
  clear m0 m1 m2 m3 m4 f0 f1 f2' f3 f4 n0 n1 n2 n3' n4 r0 r1 r2 r3 r4 y0 y1 y2 y3 y4 H hM hsl g3 hq9 hlen
  obtain ⟨⟨m0, m1, m2, m3, m4⟩, f0, f1, f2', f3, f4⟩ := own5 H3.out.1
  obtain ⟨⟨r0, r1, r2, r3, r4⟩, y0, y1, y2, y3, y4⟩ := own5 H3.out.2.1
  go_wp2_with fail
  obtain ⟨bm, br, hB, hM, fW, hlen⟩ := H3.out
  have bm1 : Own (W3.setCell ⟨w.heap.size, 0, none⟩ (.slice A9 q9 c9)) w.heap.size 43 #[.slice A9 q9 c9, .slice A2 s.w.length c2, .slice A3 n3 c3, .int .i64 s.sent, .int .i64 s.lost] := bm.put rfl
  have b1 := br.far (p := ⟨w.heap.size, 0, none⟩) (by show ¬ (_ = w.heap.size); omega) (.slice A9 q9 c9)
  have b2 := b1.far (p := ⟨w.heap.size, 4, none⟩) (by show ¬ (_ = w.heap.size); omega) (.int .i64 ((s.lost : Int) + 1))
  have g1 : Fr (fun k => k = w.heap.size) W3 ((W3.setCell ⟨w.heap.size, 0, none⟩ (.slice A9 q9 c9)).setCell ⟨w.heap.size, 4, none⟩ (.int .i64 ((s.lost : Int) + 1))) := Fr.set (Fr.set (F := fun k => k = w.heap.size) (Fr.refl _ _) (p := ⟨w.heap.size, 0, none⟩) (fun _ => rfl) _) (p := ⟨w.heap.size, 4, none⟩) (fun _ => rfl) _
  obtain ⟨br3, g2⟩ := b2.put5 (.slice A9 q9 c9) (.slice A2 s.w.length c2) (.slice A3 n3 c3) (.int .i64 s.sent) (.int .i64 ((s.lost : Int) + 1))
  refine post_world (fun Wf => Own Wf (w.heap.size + 1 + 1) 43 #[.slice A9 q9 c9, .slice A2 s.w.length c2, .slice A3 n3 c3, .int .i64 s.sent, .int .i64 ((s.lost : Int) + 1)] ∧ Fr (fun k => k = w.heap.size ∨ k = w.heap.size + 1 + 1) W3 Wf) ⟨br3, (g1.mono fun _ e => .inl e).trans g2 fun _ _ e => .inr e⟩ ?_
  clear m0 m1 m2 m3 m4 f0 f1 f2' f3 f4 r0 r1 r2 r3 r4 y0 y1 y2 y3 y4 br3 g1 g2 bm1 b1 b2
  rintro Wf ⟨brf, ff⟩
  obtain ⟨⟨r0, r1, r2, r3, r4⟩, -⟩ := own5 brf
  have hbx : ∀ k, X k → ¬ (k = w.heap.size ∨ k = w.heap.size + 1 + 1) := fun k hk e => by
    rcases hX1 k hk with h | h
    · have := hXlt k h; omega
    · omega
  exact bodyPost_ret (v := .tuple #[.agg #[.slice A9 q9 c9, .slice A2 s.w.length c2, .slice A3 n3 c3, .int .i64 s.sent, .int .i64 ((s.lost : Int) + 1)], .bool true]) (by simp [results, Try.results19, go_sem, *]) rfl ⟨_, ({ s with l := s.l.take k ++ s.l.drop (k + 1), lost := s.lost + 1 } : NetV), X, rfl, hB.fr ff hbx, hM.fr ff (fun k e => by rcases e with e | e; exact .inr (.inl e); exact .inr (.inr (.inr e))) (fun _ h => .inl (.inl h)), fW.trans ff fun k hk e => by omega, fun k hk => by rcases hX1 k hk with h | h; exact .inl h; exact .inr (by have := hN.size; omega), ⟨by simp only [hlen]; omega, by simp only; omega, by simp only; omega, by simp only; omega⟩⟩
set_option maxRecDepth 100000 in
set_option maxHeartbeats 8000000 in
theorem do_double_in {w : World} {n nl cl : Nat} {X : Nat → Prop} {s : NetV} {mv : Value} {a b : Int} {AL : Option Addr} {j : Nat} (hB : NetB w n X s) (hM : ModB w X mv s) (hj : Bnd s j) (hj2 : j ≤ 150) {k : Nat} (hk : k < s.l.length) :
    Calls Try.prog 19 #[.pointer (some ⟨n, 0, none⟩), mv, .agg #[.int .i64 6, .int .i64 (k : Nat), .int .i64 a, .int .i64 b, .slice AL nl cl]] w (DoOk w n X j) := by
  have hXlt := fun k hk => hB.lt (k := k) hk
  obtain ⟨hj0, hj3, hj4, hj5⟩ := hj
  have hk2 : (k : Int) < (s.l.length : Int) := by omega
  obtain ⟨p, hpi⟩ : ∃ p, s.l[k]? = some p := ⟨s.l[k], List.getElem?_eq_getElem hk⟩
  have HP := Lib.hid hpi
  clear hpi
  obtain ⟨A1, n1, c1, A2, n2, c2, A3, n3, c3, rfl, rfl, rfl⟩ := hM.form
  have HB := Lib.hid (And.intro hB hM)
  clear hB hM
  go_enter Try.func19, Try.ntmps19
  go_wp2_with fail
  refine calls_world (fun W => Own W w.heap.size 43 #[.slice A1 s.l.length c1, .slice A2 s.w.length c2, .slice A3 n3 c3, .int .i64 s.sent, .int .i64 s.lost] ∧ Own W (w.heap.size + 1) 47 #[.int .i64 6, .int .i64 (k : Nat), .int .i64 a, .int .i64 b, .slice AL nl cl] ∧ Own W (w.heap.size + 1 + 1) 43 zMod ∧ New w W) ?_ ?_
  · exact ⟨Own.alloc (Own.alloc (Own.fresh _ _ _) _) _, Own.alloc (Own.new' (by simp)) _, Own.new' (by simp), (((Fr.refl _ _).alloc _).alloc _).alloc _⟩
  rintro W1 ⟨bm, ba, br, hN⟩
  have hB := HB.out.1.new_ hN
  have hM : ModB W1 (fun k => X k ∨ k = w.heap.size ∨ k = w.heap.size + 1 ∨ k = w.heap.size + 1 + 1) (.agg #[.slice A1 s.l.length c1, .slice A2 s.w.length c2, .slice A3 n3 c3, .int .i64 s.sent, .int .i64 s.lost]) s := HB.out.2.fr hN (fun _ g => g.elim) (fun k hk => by rcases hk with h | h | h | h; exact .inl h; exact .inr (by omega); exact .inr (by omega); exact .inr (by omega))
  have hrl := br.lt
  clear HB
  refine (double_in hB HP.out (by omega) (by omega)).mono ?_
  rintro e W2 ⟨rfl, X2, hB2, f2, hX1⟩
  have hbx2 : ∀ k, k = w.heap.size ∨ k = w.heap.size + 1 ∨ k = w.heap.size + 1 + 1 → ¬ X k := fun k hk hx => by have := hXlt k hx; omega
  replace bm := bm.fr f2 (hbx2 _ (.inl rfl))
  replace ba := ba.fr f2 (hbx2 _ (.inr (.inl rfl)))
  replace br := br.fr f2 (hbx2 _ (.inr (.inr rfl)))
  replace hM : ModB W2 (fun k => X2 k ∨ k = w.heap.size ∨ k = w.heap.size + 1 ∨ k = w.heap.size + 1 + 1) (.agg #[.slice A1 s.l.length c1, .slice A2 s.w.length c2, .slice A3 n3 c3, .int .i64 s.sent, .int .i64 s.lost]) s := hM.fr f2 (fun k h => .inl h) (fun k hk => by
    rcases hk with h | h
    · rcases hX1 k h with h | h
      · exact .inl (.inl h)
      · exact .inr h
    · exact .inl (.inr h))
  have fW : Fr X w W2 := Fr.trans (F := X) (hN.mono fun _ g => g.elim) f2 fun _ _ h => h
  have hXX : ∀ k, (X2 k ∨ k = w.heap.size ∨ k = w.heap.size + 1 ∨ k = w.heap.size + 1 + 1) → k < W2.heap.size := fun k hk => by
    have h1 := br.lt
    rcases hk with h | h | h | h
    · exact hB2.lt h
    · omega
    · omega
    · omega
  obtain ⟨⟨m0, m1, m2, m3, m4⟩, f0, f1, f2', f3, f4⟩ := own5 bm
  obtain ⟨⟨n0, n1, n2, n3', n4⟩, -⟩ := own5 ba
  obtain ⟨⟨r0, r1, r2, r3, r4⟩, y0, y1, y2, y3, y4⟩ := own5 br
  have H := Lib.hid (And.intro bm (And.intro ba (And.intro br (And.intro hB2 (And.intro hM (And.intro fW hXX))))))
  have hs2 := f2.size
  have hne1 : ¬ (w.heap.size + 1 + 1 = w.heap.size) := by omega
  have hne2 : ¬ (w.heap.size = w.heap.size + 1 + 1) := by omega
  clear bm ba br hB hM hB2 fW f2 hXX
  go_wp2_with fail
  clear m0 m1 m2 m3 m4 f0 f1 f2' f3 f4 n0 n1 n2 n3' n4 r0 r1 r2 r3 r4 y0 y1 y2 y3 y4
  obtain ⟨bm, ba, br, hB, hM, fW, hXX⟩ := H.out
  obtain ⟨_, _, eL, hsL, -, -⟩ := hM.getL
  injection eL with e1 e2 e3
  subst e1 e3
  obtain ⟨sb, so, hAe, -⟩ := hsL.2 k hk
  subst hAe
  have hpc : ∀ W', New W2 W' → W'.cell? ⟨sb, so + k * 3, none⟩ = some (.int .i64 p.f) ∧ W'.cell? ⟨sb, so + k * 3 + 1, none⟩ = some (.int .i64 p.t) ∧ W'.cell? ⟨sb, so + k * 3 + 2, none⟩ = some (.string p.s) := fun W' g => by
    obtain ⟨sb', so', hAe', hcc⟩ := (hsL.fr g fun _ _ x => x).2 k hk
    cases hAe'
    simp only [HP.out] at hcc
    exact ⟨hcc 0 _ rfl, hcc 1 _ rfl, hcc 2 _ rfl⟩
  have hS0 : New W2 W2.drew := (Fr.refl _ _).drew
  apply wp_region_partsH 8 (fun W' => New W2 W')
  case hp => simp only [List.take_succ_cons, List.take_zero]; exact rfl
  case hd => simp only [List.drop_succ_cons, List.drop_zero]; exact rfl
  case hm => kernel_rfl
  case hB => kernel_rfl
  case hT => kernel_rfl
  refine wpAnyH_take (i := 0) (v := .agg #[.slice (some ⟨sb, so, none⟩) s.l.length c1, .slice A2 s.w.length c2, .slice A3 n3 c3, .int .i64 s.sent, .int .i64 s.lost]) rfl (by kernel_rfl) (by kernel_rfl) (by kernel_rfl) (fun _ _ _ h => h) (.inl ⟨rfl, fun w' hS => ?t0⟩) hS0 ?_
  case t0 =>
    obtain ⟨⟨m0, m1, m2, m3, m4⟩, -⟩ := own5 (bm.new_ hS)
    go_simp
  refine wpAnyH_take (i := 1) (v := .pointer (some ⟨w.heap.size, 0, none⟩)) rfl (by kernel_rfl) (by kernel_rfl) (by kernel_rfl) (fun _ _ _ h => h) (.inl ⟨rfl, fun w' hS => ?t1⟩) hS0 ?_
  case t1 =>
    go_simp
  refine wpAnyH_take (i := 2) (v := .slice (some ⟨sb, so, none⟩) s.l.length c1) rfl (by kernel_rfl) (by kernel_rfl) (by kernel_rfl) (fun _ _ _ h => h) (.inl ⟨rfl, fun w' hS => ?t2⟩) hS0 ?_
  case t2 =>
    have m0 : w'.cell? ⟨w.heap.size, 0, none⟩ = some (.slice (some ⟨sb, so, none⟩) s.l.length c1) := (bm.new_ hS).cell 0
    go_simp
  refine wpAnyH_take (i := 3) (v := .pointer (some ⟨w.heap.size + 1, 1, none⟩)) rfl (by kernel_rfl) (by kernel_rfl) (by kernel_rfl) (fun _ _ _ h => h) (.inl ⟨rfl, fun w' hS => ?t3⟩) hS0 ?_
  case t3 =>
    go_simp
  refine wpAnyH_take (i := 4) (v := .int .i64 (k : Nat)) rfl (by kernel_rfl) (by kernel_rfl) (by kernel_rfl) (fun _ _ _ h => h) (.inl ⟨rfl, fun w' hS => ?t4⟩) hS0 ?_
  case t4 =>
    have n1 : w'.cell? ⟨w.heap.size + 1, 1, none⟩ = some (.int .i64 (k : Nat)) := (ba.new_ hS).cell 1
    go_simp
  refine wpAnyH_take (i := 5) (v := .pointer (some ⟨sb, so + k * 3, none⟩)) rfl (by kernel_rfl) (by kernel_rfl) (by kernel_rfl) (fun _ _ _ h => h) (.inl ⟨rfl, fun w' hS => ?t5⟩) hS0 ?_
  case t5 =>
    go_simp
  refine wpAnyH_take (i := 6) (v := p.v) rfl (by kernel_rfl) (by kernel_rfl) (by kernel_rfl) (fun _ _ _ h => h) (.inl ⟨rfl, fun w' hS => ?t6⟩) hS0 ?_
  case t6 =>
    obtain ⟨a0, a1, a2⟩ := hpc w' hS
    go_simp
  simp only [Act.put, List.setIfInBounds_toArray, List.set_cons_zero, List.set_cons_succ]
  refine wpAnyH_all (rs := [7]) (by kernel_rfl) (by simp) (fun j' hj' => ?_)
  rw [List.mem_singleton] at hj'
  subst hj'
  refine wpOp_step rfl (fun K hK => ?_)
  go_simp
  refine (mpush_any (p := p) (hM.new_ hS0) (fun k hk => hXX k hk) (by omega) (by omega)).mono ?_
  rintro e W3 ⟨mv3, rfl, hM3, g3⟩
  obtain ⟨F1, q1, z1, F2, q2, z2, F3, q3, z3, hcs3, -, -⟩ := hM3.form
  subst hcs3
  refine hK _ _ ⟨hS0.new_ g3, ?_⟩
  clear hK K
  refine wpAnyH_done (by kernel_rfl) ?_ _
  have hpu : s.push p = { s with l := s.l ++ [p] } := if_pos (by omega)
  have hbd : Bnd (s.push p) (j + 1) := by
    rw [hpu]
    refine ⟨?_, ?_, ?_, ?_⟩ <;> simp only [List.length_append, List.length_cons, List.length_nil] <;> omega
  obtain ⟨Sh, hSh⟩ : ∃ Sh, Sh = s.push p := ⟨_, rfl⟩
  have gg := hS0.new_ g3
  have H3 := Lib.hid (And.intro (bm.new_ gg) (And.intro (br.new_ gg) (And.intro (hB.new_ gg) (And.intro hM3 (And.intro (fW.new_ gg) hbd)))))
  rw [← hSh] at H3 ⊢
  clear bm ba br hB hM hM3 fW hXX hbd hpu hSh H hsL hpc hS0 gg g3
  obtain ⟨⟨m0, m1, m2, m3, m4⟩, f0, f1, f2', f3, f4⟩ := own5 H3.out.1
  obtain ⟨⟨r0, r1, r2, r3, r4⟩, y0, y1, y2, y3, y4⟩ := own5 H3.out.2.1
  unfold restQ
  go_simp
  go_wp2_with fail
  obtain ⟨bm, br, hB, hM, fW, hbd⟩ := H3.out
  obtain ⟨bm3, g1⟩ := bm.put5 (.slice F1 q1 z1) (.slice F2 q2 z2) (.slice F3 q3 z3) (.int .i64 Sh.sent) (.int .i64 Sh.lost)
  obtain ⟨br3, g2⟩ := (br.fr g1 (by omega)).put5 (.slice F1 q1 z1) (.slice F2 q2 z2) (.slice F3 q3 z3) (.int .i64 Sh.sent) (.int .i64 Sh.lost)
  refine post_world (fun Wf => Own Wf (w.heap.size + 1 + 1) 43 #[.slice F1 q1 z1, .slice F2 q2 z2, .slice F3 q3 z3, .int .i64 Sh.sent, .int .i64 Sh.lost] ∧ Fr (fun k => k = w.heap.size ∨ k = w.heap.size + 1 + 1) W3 Wf) ⟨br3, (g1.mono fun _ e => .inl e).trans g2 fun _ _ e => .inr e⟩ ?_
  clear m0 m1 m2 m3 m4 f0 f1 f2' f3 f4 r0 r1 r2 r3 r4 y0 y1 y2 y3 y4 bm3 br3 g1 g2
  rintro Wf ⟨brf, ff⟩
  obtain ⟨⟨r0, r1, r2, r3, r4⟩, -⟩ := own5 brf
  have hbx : ∀ k, X2 k → ¬ (k = w.heap.size ∨ k = w.heap.size + 1 + 1) := fun k hk e => by
    rcases hX1 k hk with h | h
    · have := hXlt k h; omega
    · omega
  exact bodyPost_ret (v := .tuple #[.agg #[.slice F1 q1 z1, .slice F2 q2 z2, .slice F3 q3 z3, .int .i64 Sh.sent, .int .i64 Sh.lost], .bool true]) (by simp [results, Try.results19, go_sem, *]) rfl ⟨_, Sh, X2, rfl, hB.fr ff hbx, hM.fr ff (fun k e => by rcases e with e | e; exact .inr (.inl e); exact .inr (.inr (.inr e))) (fun _ h => .inl (.inl h)), fW.trans ff fun k hk e => by omega, fun k hk => by rcases hX1 k hk with h | h; exact .inl h; exact .inr (by have := hN.size; omega), hbd⟩
end Go.Proofs.Ytleagdnlgjpcgaa
