/- What happens to a network, and to the model: a way is cut. -/
import Derived.Test.YtleagdnlgjpcgaaNetDoC
namespace Go.Proofs.Ytleagdnlgjpcgaa
open Go.RowKit Go.Maps
set_option linter.unusedVariables false
set_option linter.unusedSimpArgs false

theorem wp_region_heldD {P : Program} {id : Nat} {ops : Array Oper} {Q : Exit → Act → World → Prop} {a : Act} {w : World} (S : World → Prop) (hm : P.follows .mixedOrders = true)
    (h : wpAnyH P .any ops Q S ops.size (Array.replicate ops.size false) a w.drew) : (Code.region id ops true).wp P Q a w := wp_region_held hm h
theorem filt_len (q : Pkt → Bool) : ∀ l : List Pkt, (l.filter fun p => !q p).length + (l.filter q).length = l.length
  | [] => rfl
  | p :: l => by
    have := filt_len q l
    cases hq : q p <;> simp [List.filter_cons, hq] <;> omega
set_option maxRecDepth 100000 in
set_option maxHeartbeats 8000000 in
theorem do_cut {w : World} {n nl cl : Nat} {X : Nat → Prop} {s : NetV} {mv : Value} {a b : Int} {AL : Option Addr} {j : Nat} (hB : NetB w n X s) (hM : ModB w X mv s) (hj : Bnd s j) (hj2 : j ≤ 150) {nn : Int} (ha : (Lit.int .i64 a).wf = true) (hb : (Lit.int .i64 b).wf = true) :
    Calls Try.prog 19 #[.pointer (some ⟨n, 0, none⟩), mv, .agg #[.int .i64 8, .int .i64 nn, .int .i64 a, .int .i64 b, .slice AL nl cl]] w (DoOk w n X j) := by
  have hXlt := fun k hk => hB.lt (k := k) hk
  obtain ⟨hj0, hj3, hj4, hj5⟩ := hj
  rcases Int.lt_or_le nn 0 with hr | hr
  all_goals (
    obtain ⟨A1, n1, c1, A2, n2, c2, A3, n3, c3, rfl, rfl, rfl⟩ := hM.form
    have HB := Lib.hid (And.intro hB hM)
    clear hB hM
    go_enter Try.func19, Try.ntmps19
    go_wp2_with fail
    refine calls_world (fun W => Own W w.heap.size 43 #[.slice A1 s.l.length c1, .slice A2 s.w.length c2, .slice A3 n3 c3, .int .i64 s.sent, .int .i64 s.lost] ∧ Own W (w.heap.size + 1) 47 #[.int .i64 8, .int .i64 nn, .int .i64 a, .int .i64 b, .slice AL nl cl] ∧ Own W (w.heap.size + 1 + 1) 43 zMod ∧ New w W) ?_ ?_
    · exact ⟨Own.alloc (Own.alloc (Own.fresh _ _ _) _) _, Own.alloc (Own.new' (by simp)) _, Own.new' (by simp), (((Fr.refl _ _).alloc _).alloc _).alloc _⟩
    rintro W1 ⟨bm, ba, br, hN⟩
    have hB := HB.out.1.new_ hN
    have hM : ModB W1 (fun k => X k ∨ k = w.heap.size ∨ k = w.heap.size + 1 ∨ k = w.heap.size + 1 + 1) (.agg #[.slice A1 s.l.length c1, .slice A2 s.w.length c2, .slice A3 n3 c3, .int .i64 s.sent, .int .i64 s.lost]) s := HB.out.2.fr hN (fun _ g => g.elim) (fun k hk => by rcases hk with h | h | h | h; exact .inl h; exact .inr (by omega); exact .inr (by omega); exact .inr (by omega))
    have hrl := br.lt
    clear HB
    have hXX : ∀ k, (X k ∨ k = w.heap.size ∨ k = w.heap.size + 1 ∨ k = w.heap.size + 1 + 1) → k < W1.heap.size := fun k hk => by
      rcases hk with h | h | h | h
      · exact hB.lt h
      · omega
      · omega
      · omega
    refine (mpart_any (a := a) (b := b) hM hXX (by omega) (by omega) (by omega)).mono ?_
    rintro e W2 ⟨mv2, rfl, hM2, g2⟩
    obtain ⟨F1, q1, z1, F2, q2, z2, F3, q3, z3, hcs2, -, -⟩ := hM2.form
    subst hcs2
    rw [show (s.part a b).sent = s.sent from rfl, show (s.part a b).lost = s.lost from rfl] at hM2 ⊢
    replace bm := bm.new_ g2
    replace ba := ba.new_ g2
    replace br := br.new_ g2
    replace hB := hB.new_ g2
    have hrl2 := br.lt
    have hg2s := g2.size
    have fW : Fr X w W2 := (hN.new_ g2).mono fun _ g => g.elim
    obtain ⟨CN, hCN⟩ : ∃ CN : Nat, CN = (s.l.filter (onWay a b)).length := ⟨_, rfl⟩
    rw [← hCN]
    have H := Lib.hid (And.intro bm (And.intro ba (And.intro br (And.intro hB (And.intro hM2 (And.intro fW hCN))))))
    clear bm ba br hB hM hM2 fW g2 hCN hXX
    go_wp2_with fail
    obtain ⟨bm, ba, br, hB, hM, fW, hCN⟩ := H.out
    refine wp_world (fun W => Own W (w.heap.size + 1) 47 #[.int .i64 8, .int .i64 nn, .int .i64 a, .int .i64 b, .slice AL nl cl] ∧ Own W (w.heap.size + 1 + 1) 43 zMod ∧ Own W W2.heap.size 43 #[.slice F1 q1 z1, .slice F2 q2 z2, .slice F3 q3 z3, .int .i64 s.sent, .int .i64 s.lost] ∧ NetB W n X s ∧ ModB W (fun k => X k ∨ k = w.heap.size ∨ k = w.heap.size + 1 ∨ k = w.heap.size + 1 + 1) (.agg #[.slice F1 q1 z1, .slice F2 q2 z2, .slice F3 q3 z3, .int .i64 s.sent, .int .i64 s.lost]) (s.part a b) ∧ Fr X w W) ⟨ba.alloc _, br.alloc _, Own.fresh _ _ _, hB.new_ ((Fr.refl _ _).alloc _), hM.new_ ((Fr.refl _ _).alloc _), fW.alloc _⟩ ?_
    clear bm ba br hB hM fW H
    rintro W3 ⟨ba, br, b9, hB, hM, fW⟩
    have hS0 : Own W3.drew W2.heap.size 43 #[.slice F1 q1 z1, .slice F2 q2 z2, .slice F3 q3 z3, .int .i64 s.sent, .int .i64 s.lost] ∧ Own W3.drew (w.heap.size + 1) 47 #[.int .i64 8, .int .i64 nn, .int .i64 a, .int .i64 b, .slice AL nl cl] := ⟨b9.drew, ba.drew⟩
    refine wp_region_heldD (fun W' => Own W' W2.heap.size 43 #[.slice F1 q1 z1, .slice F2 q2 z2, .slice F3 q3 z3, .int .i64 s.sent, .int .i64 s.lost] ∧ Own W' (w.heap.size + 1) 47 #[.int .i64 8, .int .i64 nn, .int .i64 a, .int .i64 b, .slice AL nl cl]) (by kernel_rfl) ?_
    refine wpAnyH_take (i := 0) (v := .agg #[.slice F1 q1 z1, .slice F2 q2 z2, .slice F3 q3 z3, .int .i64 s.sent, .int .i64 s.lost]) rfl (by kernel_rfl) (by kernel_rfl) (by kernel_rfl) (fun _ _ _ h => h) (.inl ⟨rfl, fun w' hS => ?t0⟩) hS0 ?_
    case t0 =>
      obtain ⟨⟨m0, m1, m2, m3, m4⟩, -⟩ := own5 hS.1
      go_simp
    refine wpAnyH_take (i := 1) (v := .pointer (some ⟨n, 0, none⟩)) rfl (by kernel_rfl) (by kernel_rfl) (by kernel_rfl) (fun _ _ _ h => h) (.inl ⟨rfl, fun w' hS => ?t1⟩) hS0 ?_
    case t1 =>
      go_simp
    refine wpAnyH_take (i := 2) (v := .pointer (some ⟨w.heap.size + 1, 2, none⟩)) rfl (by kernel_rfl) (by kernel_rfl) (by kernel_rfl) (fun _ _ _ h => h) (.inl ⟨rfl, fun w' hS => ?t2⟩) hS0 ?_
    case t2 =>
      go_simp
    refine wpAnyH_take (i := 3) (v := .int .i64 a) rfl (by kernel_rfl) (by kernel_rfl) (by kernel_rfl) (fun _ _ _ h => h) (.inl ⟨rfl, fun w' hS => ?t3⟩) hS0 ?_
    case t3 =>
      have n2 : w'.cell? ⟨w.heap.size + 1, 2, none⟩ = some (.int .i64 a) := hS.2.cell 2
      go_simp
    refine wpAnyH_take (i := 4) (v := .pointer (some ⟨w.heap.size + 1, 3, none⟩)) rfl (by kernel_rfl) (by kernel_rfl) (by kernel_rfl) (fun _ _ _ h => h) (.inl ⟨rfl, fun w' hS => ?t4⟩) hS0 ?_
    case t4 =>
      go_simp
    refine wpAnyH_take (i := 5) (v := .int .i64 b) rfl (by kernel_rfl) (by kernel_rfl) (by kernel_rfl) (fun _ _ _ h => h) (.inl ⟨rfl, fun w' hS => ?t5⟩) hS0 ?_
    case t5 =>
      have n3 : w'.cell? ⟨w.heap.size + 1, 3, none⟩ = some (.int .i64 b) := hS.2.cell 3
      go_simp
    refine wpAnyH_take (i := 7) (v := .int .i64 CN) rfl (by kernel_rfl) (by kernel_rfl) (by kernel_rfl) (fun _ _ _ h => h) (.inl ⟨rfl, fun w' hS => ?t7⟩) hS0 ?_
    case t7 =>
      go_simp
    simp only [Act.put, List.setIfInBounds_toArray, List.set_cons_zero, List.set_cons_succ]
    refine wpAnyH_all (rs := [6]) (by kernel_rfl) (by simp) (fun j' hj' => ?_)
    rw [List.mem_singleton] at hj'
    subst hj'
    refine wpOp_step rfl (fun K hK => ?_)
    go_simp
    refine (cut_any ha hb (hB.new_ (Fr.refl _ _).drew) (by omega) (by omega)).mono ?_
    rintro e W4 ⟨rfl, X2, hB4, f4, hX4⟩
    rw [← hCN]
    have hbx2 : ∀ k, w.heap.size ≤ k → ¬ X k := fun k hk hx => by have := hXlt k hx; omega
    have hW3s := fW.size
    have b9' := hS0.1.fr f4 (hbx2 _ (by omega))
    have ba' := hS0.2.fr f4 (hbx2 _ (by omega))
    have br' := br.drew.fr f4 (hbx2 _ (by omega))
    have hM4 : ModB W4 (fun k => X2 k ∨ k = w.heap.size ∨ k = w.heap.size + 1 ∨ k = w.heap.size + 1 + 1) (.agg #[.slice F1 q1 z1, .slice F2 q2 z2, .slice F3 q3 z3, .int .i64 s.sent, .int .i64 s.lost]) (s.part a b) := (hM.new_ (Fr.refl _ _).drew).fr f4 (fun k h => .inl h) (fun k hk => by
      rcases hk with h | h
      · rcases hX4 k h with h | h
        · exact .inl (.inl h)
        · exact .inr h
      · exact .inl (.inr h))
    have fW4 : Fr X w W4 := (fW.drew).trans f4 fun _ _ h => h
    have hX1 : ∀ k, X2 k → X k ∨ W1.heap.size ≤ k := fun k hk => by
      rcases hX4 k hk with h | h
      · exact .inl h
      · have h2 : W3.heap.size ≤ k := h
        have := b9.lt
        exact .inr (by omega)
    refine hK _ _ ⟨⟨b9', ba'⟩, ?_⟩
    clear hK K
    have H3 := Lib.hid (And.intro br' (And.intro hB4 (And.intro hM4 fW4)))
    clear ba br b9 hB hM fW hS0 br' hB4 hM4 fW4 f4 hCN
    have hS1 : Own W4 W2.heap.size 43 #[.slice F1 q1 z1, .slice F2 q2 z2, .slice F3 q3 z3, .int .i64 s.sent, .int .i64 s.lost] ∧ Own W4 (w.heap.size + 1) 47 #[.int .i64 8, .int .i64 nn, .int .i64 a, .int .i64 b, .slice AL nl cl] := ⟨b9', ba'⟩
    refine wpAnyH_take (i := 8) (v := .bool true) rfl (by kernel_rfl) (by kernel_rfl) (by kernel_rfl) (fun _ _ _ h => h) (.inl ⟨rfl, fun w' hS => ?t8⟩) hS1 ?_
    case t8 => go_simp
    refine wpAnyH_all (rs := [9]) (by kernel_rfl) (by simp) (fun j' hj' => ?_)
    rw [List.mem_singleton] at hj'
    subst hj'
    refine wpOp_step rfl (fun K hK => ?_)
    obtain ⟨⟨r0, r1, r2, r3, r4⟩, y0, y1, y2, y3, y4⟩ := own5 H3.out.1
    obtain ⟨br3, g2⟩ := H3.out.1.put5 (.slice F1 q1 z1) (.slice F2 q2 z2) (.slice F3 q3 z3) (.int .i64 s.sent) (.int .i64 s.lost)
    have hS2 := And.intro (b9'.fr g2 (by omega)) (ba'.fr g2 (by omega))
    have HS2 := Lib.hid hS2
    have HBR := Lib.hid (And.intro br3 g2)
    clear br3 g2 hS2 b9' ba' hS1
    go_simp
    refine hK _ _ ⟨HS2.out, ?_⟩
    clear hK K
    refine wpAnyH_take (i := 10) (v := .bool true) rfl (by kernel_rfl) (by kernel_rfl) (by kernel_rfl) (fun _ _ _ h => h) (.inl ⟨rfl, fun w' hS => ?t10⟩) HS2.out ?_
    case t10 => go_simp
    refine wpAnyH_done (by kernel_rfl) ?_ _
    clear r0 r1 r2 r3 r4 y0 y1 y2 y3 y4 HS2
    obtain ⟨br3, g2⟩ := HBR.out
    generalize hW6 : World.setCell _ _ _ = W6 at br3 g2 ⊢
    clear hW6 HBR
    go_wp2_with fail
    obtain ⟨br, hB, hM, fW⟩ := H3.out
    refine post_world (fun Wf => Own Wf (w.heap.size + 1 + 1) 43 #[.slice F1 q1 z1, .slice F2 q2 z2, .slice F3 q3 z3, .int .i64 s.sent, .int .i64 s.lost] ∧ Fr (fun k => k = w.heap.size ∨ k = w.heap.size + 1 + 1) W4 Wf) ⟨br3, g2.mono fun _ e => .inr e⟩ ?_
    have hbd : Bnd (s.part a b) (j + 1) := by
      have e1 : (s.l.filter fun p => !onWay a b p).length + (s.l.filter (onWay a b)).length = s.l.length := by
        exact filt_len _ _
      refine ⟨?_, ?_, ?_, ?_⟩ <;> simp only [NetV.part, List.length_append, List.length_cons] <;> omega
    clear br3 g2
    rintro Wf ⟨brf, ff⟩
    obtain ⟨⟨r0, r1, r2, r3, r4⟩, -⟩ := own5 brf
    have hbx : ∀ k, X2 k → ¬ (k = w.heap.size ∨ k = w.heap.size + 1 + 1) := fun k hk e => by
      rcases hX1 k hk with h | h
      · have := hXlt k h; omega
      · omega
    exact bodyPost_ret (v := .tuple #[.agg #[.slice F1 q1 z1, .slice F2 q2 z2, .slice F3 q3 z3, .int .i64 s.sent, .int .i64 s.lost], .bool true]) (by simp [results, Try.results19, go_sem, *]) rfl ⟨_, (s.part a b), X2, rfl, hB.fr ff hbx, hM.fr ff (fun k e => by rcases e with e | e; exact .inr (.inl e); exact .inr (.inr (.inr e))) (fun _ h => .inl (.inl h)), fW.trans ff fun k hk e => by omega, fun k hk => by rcases hX1 k hk with h | h; exact .inl h; exact .inr (by have := hN.size; omega), hbd⟩)
end Go.Proofs.Ytleagdnlgjpcgaa
