/- What happens to a network, and to the model: the ways mended. -/
import Derived.Test.YtleagdnlgjpcgaaNetOps
namespace Go.Proofs.Ytleagdnlgjpcgaa
open Go.RowKit Go.Maps
set_option linter.unusedVariables false
set_option linter.unusedSimpArgs false

def Bnd (s : NetV) (j : Nat) : Prop := s.l.length + s.w.length ≤ 5 * j ∧ s.lost ≤ 5 * j ∧ s.sent ≤ 5 * j ∧ s.c.length ≤ j
def DoOk (w : World) (n : Nat) (X : Nat → Prop) (j : Nat) : Ending → World → Prop := fun e W => ∃ mv' s' X', e = .returned (.tuple #[mv', .bool true]) ∧ NetB W n X' s' ∧ ModB W X' mv' s' ∧ Fr X w W ∧ (∀ k, X' k → X k ∨ w.heap.size ≤ k) ∧ Bnd s' (j + 1)
set_option maxRecDepth 100000 in
set_option maxHeartbeats 8000000 in
theorem do_heal {w : World} {n nl cl : Nat} {X : Nat → Prop} {s : NetV} {mv : Value} {a b : Int} {AL : Option Addr} {j : Nat} (hB : NetB w n X s) (hM : ModB w X mv s) (hj : Bnd s j) (hj2 : j ≤ 150) {nn : Int} :
    Calls Try.prog 19 #[.pointer (some ⟨n, 0, none⟩), mv, .agg #[.int .i64 9, .int .i64 nn, .int .i64 a, .int .i64 b, .slice AL nl cl]] w (DoOk w n X j) := by
  have hXlt := fun k hk => hB.lt (k := k) hk
  obtain ⟨hj0, hj3, hj4, hj5⟩ := hj
  rcases Int.lt_or_le nn 0 with hr | hr
  all_goals (
    obtain ⟨A1, n1, c1, A2, n2, c2, A3, n3, c3, rfl, rfl, rfl⟩ := hM.form
    have HB := Lib.hid (And.intro hB hM)
    clear hB hM
    go_enter Try.func19, Try.ntmps19
    go_wp2_with fail
    refine calls_world (fun W => Own W w.heap.size 43 #[.slice A1 s.l.length c1, .slice A2 s.w.length c2, .slice A3 n3 c3, .int .i64 s.sent, .int .i64 s.lost] ∧ Own W (w.heap.size + 1) 47 #[.int .i64 9, .int .i64 nn, .int .i64 a, .int .i64 b, .slice AL nl cl] ∧ Own W (w.heap.size + 1 + 1) 43 zMod ∧ New w W) ?_ ?_
    · exact ⟨Own.alloc (Own.alloc (Own.fresh _ _ _) _) _, Own.alloc (Own.new' (by simp)) _, Own.new' (by simp), (((Fr.refl _ _).alloc _).alloc _).alloc _⟩
    rintro W1 ⟨bm, ba, br, hN⟩
    have hB := HB.out.1.new_ hN
    have hM : ModB W1 (fun k => X k ∨ k = w.heap.size ∨ k = w.heap.size + 1 ∨ k = w.heap.size + 1 + 1) (.agg #[.slice A1 s.l.length c1, .slice A2 s.w.length c2, .slice A3 n3 c3, .int .i64 s.sent, .int .i64 s.lost]) s := HB.out.2.fr hN (fun _ g => g.elim) (fun k hk => by rcases hk with h | h | h | h; exact .inl h; exact .inr (by omega); exact .inr (by omega); exact .inr (by omega))
    have hrl := br.lt
    clear HB
    refine (heal_any hB (by omega) (by omega) (by omega)).mono ?_
    rintro e W2 ⟨rfl, X2, hB2, f2, hX1⟩
    have hbx2 : ∀ k, k = w.heap.size ∨ k = w.heap.size + 1 ∨ k = w.heap.size + 1 + 1 → ¬ X k := fun k hk hx => by have := hXlt k hx; omega
    replace bm := bm.fr f2 (hbx2 _ (.inl rfl))
    replace br := br.fr f2 (hbx2 _ (.inr (.inr rfl)))
    have hM2 : ModB W2 (fun k => X2 k ∨ k = w.heap.size ∨ k = w.heap.size + 1 ∨ k = w.heap.size + 1 + 1) (.agg #[.slice A1 s.l.length c1, .slice A2 s.w.length c2, .slice A3 n3 c3, .int .i64 s.sent, .int .i64 s.lost]) s := hM.fr f2 (fun k h => .inl h) (fun k hk => by
      rcases hk with h | h
      · rcases hX1 k h with h | h
        · exact .inl (.inl h)
        · exact .inr h
      · exact .inl (.inr h))
    have fW : Fr X w W2 := Fr.trans (F := X) (hN.mono fun _ g => g.elim) f2 fun _ _ h => h
    obtain ⟨⟨m0, m1, m2, m3, m4⟩, f0, f1, f2', f3, f4⟩ := own5 bm
    have H := Lib.hid (And.intro bm (And.intro br (And.intro hB2 (And.intro hM2 fW))))
    have hs2 := f2.size
    clear bm br hB hM hB2 hM2 fW f2
    go_wp2_with fail
    obtain ⟨bm, br, hB, hM, fW⟩ := H.out
    have hB2lt := fun k hk => hB.lt (k := k) hk
    have hrl2 := br.lt
    have hwW := fW.size
    refine (mheal_any hM (fun k hk => by rcases hk with h | h | h | h; exact hB2lt k h; omega; omega; omega) (by omega) (by omega) (by omega)).mono ?_
    rintro e W3 ⟨mv3, rfl, hM3, g3⟩
    obtain ⟨F1, q1, z1, F2, q2, z2, F3, q3, z3, hcs3, -, -⟩ := hM3.form
    subst hcs3
    replace bm := bm.new_ g3
    replace br := br.new_ g3
    replace hB := hB.new_ g3
    replace fW := fW.new_ g3
    clear m0 m1 m2 m3 m4 f0 f1 f2' f3 f4 hM
    obtain ⟨⟨m0, m1, m2, m3, m4⟩, f0, f1, f2, f3, f4⟩ := own5 bm
    obtain ⟨⟨r0, r1, r2, r3, r4⟩, y0, y1, y2, y3, y4⟩ := own5 br
    have hbd : Bnd s.heal (j + 1) := by
      have e := pushes_all ({ s with w := [], c := [] } : NetV) s.w (by simp only; omega)
      unfold NetV.heal
      rw [e]
      refine ⟨?_, ?_, ?_, ?_⟩ <;> simp only [List.length_append, List.length_nil] <;> omega
    obtain ⟨Sh, hSh⟩ : ∃ Sh, Sh = s.heal := ⟨_, rfl⟩
    rw [← hSh] at hB hM3 hbd ⊢
    have H := Lib.hid (And.intro bm (And.intro br (And.intro hB (And.intro hM3 (And.intro fW hbd)))))
    clear bm br hB hM3 fW hSh hbd
    go_wp2_with fail
    obtain ⟨bm, br, hB, hM, fW, hbd⟩ := H.out
    obtain ⟨bm3, g1⟩ := bm.put5 (.slice F1 q1 z1) (.slice F2 q2 z2) (.slice F3 q3 z3) (.int .i64 Sh.sent) (.int .i64 Sh.lost)
    obtain ⟨br3, g2⟩ := (br.fr g1 (by omega)).put5 (.slice F1 q1 z1) (.slice F2 q2 z2) (.slice F3 q3 z3) (.int .i64 Sh.sent) (.int .i64 Sh.lost)
    refine post_world (fun Wf => Own Wf (w.heap.size + 1 + 1) 43 #[.slice F1 q1 z1, .slice F2 q2 z2, .slice F3 q3 z3, .int .i64 Sh.sent, .int .i64 Sh.lost] ∧ Fr (fun k => k = w.heap.size ∨ k = w.heap.size + 1 + 1) W3 Wf) ⟨br3, (g1.mono fun _ e => .inl e).trans g2 fun _ _ e => .inr e⟩ ?_
    clear m0 m1 m2 m3 m4 f0 f1 f2 f3 f4 r0 r1 r2 r3 r4 y0 y1 y2 y3 y4 bm3 br3 g1 g2
    rintro Wf ⟨brf, ff⟩
    obtain ⟨⟨r0, r1, r2, r3, r4⟩, -⟩ := own5 brf
    have hbx : ∀ k, X2 k → ¬ (k = w.heap.size ∨ k = w.heap.size + 1 + 1) := fun k hk e => by
      rcases hX1 k hk with h | h
      · have := hXlt k h; omega
      · omega
    exact bodyPost_ret (v := .tuple #[.agg #[.slice F1 q1 z1, .slice F2 q2 z2, .slice F3 q3 z3, .int .i64 Sh.sent, .int .i64 Sh.lost], .bool true]) (by simp [results, Try.results19, go_sem, *]) rfl ⟨_, Sh, X2, rfl, hB.fr ff hbx, hM.fr ff (fun k e => by rcases e with e | e; exact .inr (.inl e); exact .inr (.inr (.inr e))) (fun _ h => .inl (.inl h)), fW.trans ff fun k hk e => by omega, fun k hk => by rcases hX1 k hk with h | h; exact .inl h; exact .inr (by have := hN.size; omega), hbd⟩)
end Go.Proofs.Ytleagdnlgjpcgaa
