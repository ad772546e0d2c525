/- What happens to a network, and to the model: some are sent. -/
import Derived.Test.YtleagdnlgjpcgaaNetNil
namespace Go.Proofs.Ytleagdnlgjpcgaa
open Go.RowKit Go.Maps
set_option linter.unusedVariables false
set_option linter.unusedSimpArgs false

theorem send_bd : ∀ (l : List Pkt) (s : NetV), s.l.length + s.w.length + l.length ≤ 4000 → (s.send l).1.l.length + (s.send l).1.w.length ≤ s.l.length + s.w.length + l.length ∧ (s.send l).1.lost = s.lost ∧ (s.send l).1.sent = s.sent + l.length ∧ (s.send l).1.c = s.c
  | [], s, h => by simp [NetV.send]
  | p :: l, s, h => by
    simp only [List.length_cons] at h
    have ho : (s.one p).l.length + (s.one p).w.length = s.l.length + s.w.length + 1 ∧ (s.one p).lost = s.lost ∧ (s.one p).sent = s.sent + 1 ∧ (s.one p).c = s.c := by
      by_cases hc : p.w ∈ s.c
      · have e : s.one p = { s with sent := s.sent + 1, w := s.w ++ [p] } := if_pos hc
        rw [e]
        simp only [List.length_append, List.length_cons, List.length_nil, true_and, and_true]
        omega
      · have e : s.one p = ({ s with sent := s.sent + 1 } : NetV).push p := if_neg hc
        have e2 : ({ s with sent := s.sent + 1 } : NetV).push p = { s with sent := s.sent + 1, l := s.l ++ [p] } := if_pos (by simp only; omega)
        rw [e, e2]
        simp only [List.length_append, List.length_cons, List.length_nil, true_and, and_true]
        omega
    have ih := send_bd l (s.one p) (by omega)
    show ((s.one p).send l).1.l.length + ((s.one p).send l).1.w.length ≤ _ ∧ ((s.one p).send l).1.lost = _ ∧ ((s.one p).send l).1.sent = _ ∧ ((s.one p).send l).1.c = _
    simp only [List.length_cons]
    refine ⟨by omega, ih.2.1.trans ho.2.1, by omega, ih.2.2.2.trans ho.2.2.2⟩
set_option maxRecDepth 100000 in
set_option maxHeartbeats 8000000 in
theorem do_send {w : World} {n nl cl : Nat} {X : Nat → Prop} {s : NetV} {mv : Value} {a b : Int} {AL : Option Addr} {j : Nat} (hB : NetB w n X s) (hM : ModB w X mv s) (hj : Bnd s j) (hj2 : j ≤ 150) {kd nn : Int} {L : List Pkt} (hL : PkS w AL L) (hnl : nl = L.length) (hnc : nl ≤ cl) (hAL : ∀ ad, AL = some ad → 0 < nl → ¬ X ad.block ∧ ad.block < w.heap.size) (hwf : ∀ p ∈ L, p.wf) (k1 : ¬ kd = 4) (k2 : ¬ kd = 10) (k3 : ¬ kd = 5) (k4 : ¬ kd = 6) (k5 : ¬ kd = 7) (k6 : ¬ kd = 8) (k7 : ¬ kd = 9) :
    Calls Try.prog 19 #[.pointer (some ⟨n, 0, none⟩), mv, .agg #[.int .i64 kd, .int .i64 nn, .int .i64 a, .int .i64 b, .slice AL nl cl]] w (DoOk w n X j) := by
  have hXlt := fun k hk => hB.lt (k := k) hk
  obtain ⟨hj0, hj3, hj4, hj5⟩ := hj
  have hL5 : PkS w AL (L.take 5) := PkS.take hL 5
  have h5l : (L.take 5).length ≤ 5 := by rw [List.length_take]; omega
  have hwf5 : ∀ p ∈ L.take 5, p.wf := fun p hp => hwf p (List.mem_of_mem_take hp)
  obtain ⟨M5, hM5⟩ : ∃ M5, M5 = L.take 5 := ⟨_, rfl⟩
  have hml : M5.length = min 5 nl := by rw [hM5, List.length_take, hnl]
  rw [← hM5] at hL5 h5l hwf5
  obtain ⟨m5, hm5⟩ : ∃ m5, m5 = M5.length := ⟨_, rfl⟩
  have hmx : nl ≤ 9223372036854775807 := by have := hL.1; simp only [maxLen] at this; omega
  have HM := Lib.hid (And.intro hL5 (And.intro h5l (And.intro hwf5 (And.intro hAL (And.intro hm5 hml)))))
  clear hL hL5 h5l hwf5 hM5 hwf hAL hml hnl
  have hcase : (nl ≤ 5 ∧ m5 = nl) ∨ (5 < nl ∧ m5 = 5) := by have := HM.out.2.2.2.2.1; have := HM.out.2.2.2.2.2; omega
  clear hm5
  rcases Int.lt_or_le nn 0 with hr | hr
  all_goals rcases hcase with ⟨c1', c2'⟩ | ⟨c1', c2'⟩
  all_goals (
    subst m5
    (try have u3 : ¬ (5 : Int) < (nl : Int) := by omega)
    (try have u4 : (5 : Int) < (nl : Int) := by omega)
    obtain ⟨A1, n1, c1, A2, n2, c2, A3, n3, c3, rfl, rfl, rfl⟩ := hM.form
    have HB := Lib.hid (And.intro hB hM)
    clear hB hM
    go_enter Try.func19, Try.ntmps19
    go_wp2_with fail
    refine calls_world (fun W => Own W w.heap.size 43 #[.slice A1 s.l.length c1, .slice A2 s.w.length c2, .slice A3 n3 c3, .int .i64 s.sent, .int .i64 s.lost] ∧ Own W (w.heap.size + 1) 47 #[.int .i64 kd, .int .i64 nn, .int .i64 a, .int .i64 b, .slice AL nl cl] ∧ Own W (w.heap.size + 1 + 1) 43 zMod ∧ New w W) ?_ ?_
    · exact ⟨Own.alloc (Own.alloc (Own.fresh _ _ _) _) _, Own.alloc (Own.new' (by simp)) _, Own.new' (by simp), (((Fr.refl _ _).alloc _).alloc _).alloc _⟩
    rintro W1 ⟨bm, ba, br, hN⟩
    have hB := HB.out.1.new_ hN
    have hM : ModB W1 (fun k => X k ∨ k = w.heap.size ∨ k = w.heap.size + 1 ∨ k = w.heap.size + 1 + 1) (.agg #[.slice A1 s.l.length c1, .slice A2 s.w.length c2, .slice A3 n3 c3, .int .i64 s.sent, .int .i64 s.lost]) s := HB.out.2.fr hN (fun _ g => g.elim) (fun k hk => by rcases hk with h | h | h | h; exact .inl h; exact .inr (by omega); exact .inr (by omega); exact .inr (by omega))
    have hrl := br.lt
    clear HB
    have hXX : ∀ k, (X k ∨ k = w.heap.size ∨ k = w.heap.size + 1 ∨ k = w.heap.size + 1 + 1) → k < W1.heap.size := fun k hk => by
      rcases hk with h | h | h | h
      · exact hB.lt h
      · omega
      · omega
      · omega
    obtain ⟨hL5, h5l, hwf5, hAL, hm5, -⟩ := HM.out
    have hms := msend_some (l := M5) (cap := cl) hM hXX (hL5.new_ hN) (fun ad e hz => Nat.lt_of_lt_of_le (hAL ad e (by omega)).2 hN.size) (by omega) (by omega) (by omega) (by omega)
    rw [← hm5] at hms
    refine hms.mono ?_
    clear hms
    rintro e W2 ⟨mv2, rfl, hM2, g2⟩
    obtain ⟨F1, q1, z1, F2, q2, z2, F3, q3, z3, hcs2, -, -⟩ := hM2.form
    subst hcs2
    obtain ⟨SN, hSN⟩ : ∃ SN : Nat, SN = (s.send M5).1.sent := ⟨_, rfl⟩
    obtain ⟨LO, hLO⟩ : ∃ LO : Nat, LO = (s.send M5).1.lost := ⟨_, rfl⟩
    rw [← hSN, ← hLO] at hM2 ⊢
    replace bm := bm.new_ g2
    replace ba := ba.new_ g2
    replace br := br.new_ g2
    replace hB := hB.new_ g2
    have hrl2 := br.lt
    have hg2s := g2.size
    have fW : Fr X w W2 := (hN.new_ g2).mono fun _ g => g.elim
    obtain ⟨CN, hCN⟩ : ∃ CN : Nat, CN = (s.send M5).2 := ⟨_, rfl⟩
    rw [← hCN]
    have hLL := (hL5.new_ hN).new_ g2
    have H := Lib.hid (And.intro bm (And.intro ba (And.intro br (And.intro hB (And.intro hM2 (And.intro fW (And.intro hCN hLL)))))))
    clear bm ba br hB hM hM2 fW g2 hCN hXX hSN hLO hL5 h5l hwf5 hAL hLL hm5
    go_wp2_with fail
    obtain ⟨bm, ba, br, hB, hM, fW, hCN, hLL⟩ := H.out
    refine wp_world (fun W => Own W (w.heap.size + 1 + 1) 43 zMod ∧ Own W W2.heap.size 43 #[.slice F1 q1 z1, .slice F2 q2 z2, .slice F3 q3 z3, .int .i64 SN, .int .i64 LO] ∧ NetB W n X s ∧ ModB W (fun k => X k ∨ k = w.heap.size ∨ k = w.heap.size + 1 ∨ k = w.heap.size + 1 + 1) (.agg #[.slice F1 q1 z1, .slice F2 q2 z2, .slice F3 q3 z3, .int .i64 SN, .int .i64 LO]) (s.send M5).1 ∧ Fr X w W ∧ PkS W AL M5) ⟨br.alloc _, Own.fresh _ _ _, hB.new_ ((Fr.refl _ _).alloc _), hM.new_ ((Fr.refl _ _).alloc _), fW.alloc _, hLL.fr ((Fr.refl _ _).alloc _) (F := fun _ => False) (fun _ _ x => x)⟩ ?_
    clear bm ba br hB hM fW H hLL
    rintro W3 ⟨br, b9, hB, hM, fW, hLL⟩
    have hS0 : Own W3.drew W2.heap.size 43 #[.slice F1 q1 z1, .slice F2 q2 z2, .slice F3 q3 z3, .int .i64 SN, .int .i64 LO] := b9.drew
    refine wp_region_heldD (fun W' => Own W' W2.heap.size 43 #[.slice F1 q1 z1, .slice F2 q2 z2, .slice F3 q3 z3, .int .i64 SN, .int .i64 LO]) (by kernel_rfl) ?_
    refine wpAnyH_take (i := 0) (v := .agg #[.slice F1 q1 z1, .slice F2 q2 z2, .slice F3 q3 z3, .int .i64 SN, .int .i64 LO]) rfl (by kernel_rfl) (by kernel_rfl) (by kernel_rfl) (fun _ _ _ h => h) (.inl ⟨rfl, fun w' hS => ?t0⟩) hS0 ?_
    case t0 =>
      obtain ⟨⟨m0, m1, m2, m3, m4⟩, -⟩ := own5 hS
      go_simp
    refine wpAnyH_take (i := 1) (v := .pointer (some ⟨n, 0, none⟩)) rfl (by kernel_rfl) (by kernel_rfl) (by kernel_rfl) (fun _ _ _ h => h) (.inl ⟨rfl, fun w' hS => ?t1⟩) hS0 ?_
    case t1 =>
      go_simp
    refine wpAnyH_take (i := 2) (v := .slice AL M5.length cl) rfl (by kernel_rfl) (by kernel_rfl) (by kernel_rfl) (fun _ _ _ h => h) (.inl ⟨rfl, fun w' hS => ?t2⟩) hS0 ?_
    case t2 =>
      go_simp
      have hm6 := HM.out.2.2.2.2.1
      first | exact hm6 | exact hm6.symm | (rw [← hm6])
    refine wpAnyH_take (i := 4) (v := .int .i64 CN) rfl (by kernel_rfl) (by kernel_rfl) (by kernel_rfl) (fun _ _ _ h => h) (.inl ⟨rfl, fun w' hS => ?t4⟩) hS0 ?_
    case t4 =>
      go_simp
    simp only [Act.put, List.setIfInBounds_toArray, List.set_cons_zero, List.set_cons_succ]
    refine wpAnyH_all (rs := [3]) (by kernel_rfl) (by simp) (fun j' hj' => ?_)
    rw [List.mem_singleton] at hj'
    subst hj'
    refine wpOp_step rfl (fun K hK => ?_)
    go_simp
    have hAL := HM.out.2.2.2.1
    have h5l := HM.out.2.1
    have hm7 := HM.out.2.2.2.2.1
    have hAX : ∀ ad, AL = some ad → 0 < M5.length → ¬ X ad.block ∧ ad.block < W3.drew.heap.size := fun ad e hz => ⟨(hAL ad e (by omega)).1, Nat.lt_of_lt_of_le (hAL ad e (by omega)).2 fW.size⟩
    refine (send_some (l := M5) (cap := cl) (hB.new_ (Fr.refl _ _).drew) (hLL.fr ((Fr.refl _ _).drew) (F := fun _ => False) (fun _ _ x => x)) hAX (by omega) (by omega) (by omega) (by omega) HM.out.2.2.1).mono ?_
    rintro e W4 ⟨rfl, X2, hB4, f4, hX4⟩
    rw [← hCN]
    have hbx2 : ∀ k, w.heap.size ≤ k → ¬ X k := fun k hk hx => by have := hXlt k hx; omega
    have hW3s := fW.size
    have b9' := hS0.fr f4 (hbx2 _ (by omega))
    have br' := br.drew.fr f4 (hbx2 _ (by omega))
    have hM4 : ModB W4 (fun k => X2 k ∨ k = w.heap.size ∨ k = w.heap.size + 1 ∨ k = w.heap.size + 1 + 1) (.agg #[.slice F1 q1 z1, .slice F2 q2 z2, .slice F3 q3 z3, .int .i64 SN, .int .i64 LO]) (s.send M5).1 := (hM.new_ (Fr.refl _ _).drew).fr f4 (fun k h => .inl h) (fun k hk => by
      rcases hk with h | h
      · rcases hX4 k h with h | h
        · exact .inl (.inl h)
        · exact .inr h
      · exact .inl (.inr h))
    have fW4 : Fr X w W4 := (fW.drew).trans f4 fun _ _ h => h
    have hX1 : ∀ k, X2 k → X k ∨ W1.heap.size ≤ k := fun k hk => by
      rcases hX4 k hk with h | h
      · exact .inl h
      · have h2 : W3.heap.size ≤ k := h
        have := b9.lt
        exact .inr (by omega)
    refine hK _ _ ⟨b9', ?_⟩
    clear hK K
    have H3 := Lib.hid (And.intro br' (And.intro hB4 (And.intro hM4 fW4)))
    clear br b9 hB hM fW hS0 br' hB4 hM4 fW4 f4 hCN hLL hAX hAL h5l hm7
    refine wpAnyH_take (i := 5) (v := .bool true) rfl (by kernel_rfl) (by kernel_rfl) (by kernel_rfl) (fun _ _ _ h => h) (.inl ⟨rfl, fun w' hS => ?t5⟩) b9' ?_
    case t5 => go_simp
    refine wpAnyH_all (rs := [6]) (by kernel_rfl) (by simp) (fun j' hj' => ?_)
    rw [List.mem_singleton] at hj'
    subst hj'
    refine wpOp_step rfl (fun K hK => ?_)
    obtain ⟨⟨r0, r1, r2, r3, r4⟩, y0, y1, y2, y3, y4⟩ := own5 H3.out.1
    obtain ⟨br3, g2⟩ := H3.out.1.put5 (.slice F1 q1 z1) (.slice F2 q2 z2) (.slice F3 q3 z3) (.int .i64 SN) (.int .i64 LO)
    have HS2 := Lib.hid (b9'.fr g2 (by omega))
    have HBR := Lib.hid (And.intro br3 g2)
    clear br3 g2 b9'
    go_simp
    refine hK _ _ ⟨HS2.out, ?_⟩
    clear hK K
    refine wpAnyH_take (i := 7) (v := .bool true) rfl (by kernel_rfl) (by kernel_rfl) (by kernel_rfl) (fun _ _ _ h => h) (.inl ⟨rfl, fun w' hS => ?t7⟩) HS2.out ?_
    case t7 => go_simp
    refine wpAnyH_done (by kernel_rfl) ?_ _
    clear r0 r1 r2 r3 r4 y0 y1 y2 y3 y4 HS2
    obtain ⟨br3, g2⟩ := HBR.out
    generalize hW6 : World.setCell _ _ _ = W6 at br3 g2 ⊢
    clear hW6 HBR
    go_wp2_with fail
    obtain ⟨br, hB, hM, fW⟩ := H3.out
    refine post_world (fun Wf => Own Wf (w.heap.size + 1 + 1) 43 #[.slice F1 q1 z1, .slice F2 q2 z2, .slice F3 q3 z3, .int .i64 SN, .int .i64 LO] ∧ Fr (fun k => k = w.heap.size ∨ k = w.heap.size + 1 + 1) W4 Wf) ⟨br3, g2.mono fun _ e => .inr e⟩ ?_
    have hbd : Bnd (s.send M5).1 (j + 1) := by
      have h5l := HM.out.2.1
      obtain ⟨e1, e2, e3, e4⟩ := send_bd M5 s (by omega)
      refine ⟨by omega, by omega, by omega, by rw [e4]; omega⟩
    clear br3 g2
    rintro Wf ⟨brf, ff⟩
    obtain ⟨⟨r0, r1, r2, r3, r4⟩, -⟩ := own5 brf
    have hbx : ∀ k, X2 k → ¬ (k = w.heap.size ∨ k = w.heap.size + 1 + 1) := fun k hk e => by
      rcases hX1 k hk with h | h
      · have := hXlt k h; omega
      · omega
    exact bodyPost_ret (v := .tuple #[.agg #[.slice F1 q1 z1, .slice F2 q2 z2, .slice F3 q3 z3, .int .i64 SN, .int .i64 LO], .bool true]) (by simp [results, Try.results19, go_sem, *]) rfl ⟨_, (s.send M5).1, X2, rfl, hB.fr ff hbx, hM.fr ff (fun k e => by rcases e with e | e; exact .inr (.inl e); exact .inr (.inr (.inr e))) (fun _ h => .inl (.inl h)), fW.trans ff fun k hk e => by omega, fun k hk => by rcases hX1 k hk with h | h; exact .inl h; exact .inr (by have := hN.size; omega), hbd⟩)
end Go.Proofs.Ytleagdnlgjpcgaa
