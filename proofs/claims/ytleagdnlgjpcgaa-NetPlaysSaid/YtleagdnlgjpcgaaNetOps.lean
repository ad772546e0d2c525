/- Packets are lost, doubled, put in. -/
import Derived.Test.YtleagdnlgjpcgaaNetIns
namespace Go.Proofs.Ytleagdnlgjpcgaa
open Go.RowKit Go.Maps
set_option linter.unusedVariables false
set_option linter.unusedSimpArgs false

theorem NetB.setLost {w : World} {n : Nat} {X : Nat → Prop} {s : NetV} (h : NetB w n X s) : NetB (w.setCell ⟨n, 4, none⟩ (.int .i64 ((s.lost : Int) + 1))) n X { s with lost := s.lost + 1 } ∧ Fr X w (w.setCell ⟨n, 4, none⟩ (.int .i64 ((s.lost : Int) + 1))) := by
  obtain ⟨lv, wv, m, z, h1, h2, h3, h4, h5, h6⟩ := h
  have f : Fr (fun k => k = n) w (w.setCell ⟨n, 4, none⟩ (.int .i64 ((s.lost : Int) + 1))) := Fr.set (F := fun k => k = n) (Fr.refl _ _) (p := ⟨n, 4, none⟩) (fun _ => rfl) _
  have hnm : m ≠ n := fun e => by subst e; obtain ⟨es, ck, hb, _⟩ := h4; rw [show w.heap[m]? = _ from h1] at hb; cases hb
  have hnl : ∀ k, lv.ownBlock = some k → k ≠ n := fun k hk e => by subst e; obtain ⟨cur, hb⟩ := h2.row hk; rw [show w.heap[k]? = _ from h1] at hb; cases hb
  have hnw : ∀ k, wv.ownBlock = some k → k ≠ n := fun k hk e => by subst e; obtain ⟨cur, hb⟩ := h3.row hk; rw [show w.heap[k]? = _ from h1] at hb; cases hb
  refine ⟨⟨lv, wv, m, z, ?_, h2.fr f hnl, h3.fr f hnw, h4.fr f hnm, h5, h6⟩, f.mono fun k e => (h6 k).2 (.inl e)⟩
  have := h1.put (i := 4) (u := .int .i64 ((s.lost : Int) + 1)) rfl
  simpa using this
set_option maxHeartbeats 4000000 in
theorem take_out {w : World} {n : Nat} {X : Nat → Prop} {s : NetV} {i : Int} (h : NetB w n X s) (hi : i < 0 ∨ (s.l.length : Int) ≤ i) (hl : s.l.length ≤ 4096) :
    Calls Try.prog 14 #[.pointer (some ⟨n, 0, none⟩), .int .i64 i] w fun e W => e = .returned (.tuple #[noPkt.v, .bool false]) ∧ New w W := by
  go_enter Try.func14, Try.ntmps14
  go_wp2_with fail
  refine calls_world (fun W => NetB W n X s ∧ Own W w.heap.size 26 #[.int .i64 0, .int .i64 0, .string ⟨#[]⟩] ∧ New w W) ⟨h.new_ ((Fr.refl _ _).alloc _), Own.fresh _ _ _, (Fr.refl _ _).alloc _⟩ ?_
  rintro W1 ⟨h, hz, hN⟩
  refine (peek_out h hi hl).mono ?_
  rintro e W2 ⟨rfl, g2⟩
  replace hz := hz.new_ g2
  replace hN := hN.new_ g2
  obtain ⟨⟨d0, d1, d2⟩, e0, e1, e2⟩ := own3c hz
  have hlt := hz.lt
  have HZ := Lib.hid (And.intro hz hN)
  clear hz hN g2 h
  go_wp2_with fail
  refine post_world (fun W => Own W w.heap.size 26 #[.int .i64 0, .int .i64 0, .string ⟨#[]⟩] ∧ New w W) ?_ ?_
  · exact ⟨(Own.put (Own.put (Own.put HZ.out.1 rfl) rfl) rfl).alloc _, (((HZ.out.2.set (fun g => absurd g (Nat.lt_irrefl _)) _).set (fun g => absurd g (Nat.lt_irrefl _)) _).set (fun g => absurd g (Nat.lt_irrefl _)) _).alloc _⟩
  clear d0 d1 d2 e0 e1 e2 HZ
  rintro W' ⟨zf, nf⟩
  obtain ⟨⟨d0, d1, d2⟩, -⟩ := own3c zf
  exact bodyPost_ret (v := .tuple #[noPkt.v, .bool false]) (by simp [results, Try.results14, go_sem, *]) rfl ⟨rfl, nf⟩
set_option maxHeartbeats 4000000 in
theorem drop_in {w : World} {n : Nat} {X : Nat → Prop} {s : NetV} {i : Nat} {p : Pkt} (h : NetB w n X s) (hi : s.l[i]? = some p) (hl : s.l.length ≤ 4096) (hlo : s.lost ≤ 1000000) :
    Calls Try.prog 22 #[.pointer (some ⟨n, 0, none⟩), .int .i64 (i : Nat)] w fun e W => e = .returned (.bool true) ∧ NetB W n X { s with l := s.l.take i ++ s.l.drop (i + 1), lost := s.lost + 1 } ∧ Fr X w W := by
  go_enter Try.func22, Try.ntmps22
  go_wp2_with fail
  refine (take_in h hi hl).mono ?_
  rintro e W1 ⟨rfl, h1, f1⟩
  have hlo2 : (s.lost : Int) ≤ 1000000 := by omega
  obtain ⟨S1, hS1⟩ : ∃ S1 : NetV, S1 = { s with l := s.l.take i ++ s.l.drop (i + 1) } := ⟨_, rfl⟩
  rw [← hS1] at h1
  have hsl : S1.lost = s.lost := by rw [hS1]
  have HP := Lib.hid (And.intro hS1 hsl)
  clear hS1
  have HL := Lib.hid (And.intro (NetB.setLost (h1.new_ ((Fr.refl _ _).alloc (.cells #[.int .i64 p.f, .int .i64 p.t, .string p.s] 26)))) f1)
  obtain ⟨lv, wv, m, z, q1, -⟩ := h1.new_ ((Fr.refl _ _).alloc (.cells #[.int .i64 p.f, .int .i64 p.t, .string p.s] 26))
  rw [hsl] at q1
  obtain ⟨⟨c0, c1, c2, c3, c4⟩, f0, f1', f2, f3, f4⟩ := own5 q1
  clear q1 h1 h f1 hsl
  go_wp2_with fail
  rw [HP.out.2] at HL
  refine bodyPost_ret (v := .bool true) (by simp [results, Try.results22, go_sem, *]) rfl ⟨rfl, ?_, ?_⟩
  · have := HL.out.1.1
    rw [HP.out.1] at this
    exact this
  · exact ((HL.out.2.alloc _).trans HL.out.1.2 fun _ _ x => x)
set_option maxHeartbeats 4000000 in
theorem drop_out {w : World} {n : Nat} {X : Nat → Prop} {s : NetV} {i : Int} (h : NetB w n X s) (hi : i < 0 ∨ (s.l.length : Int) ≤ i) (hl : s.l.length ≤ 4096) :
    Calls Try.prog 22 #[.pointer (some ⟨n, 0, none⟩), .int .i64 i] w fun e W => e = .returned (.bool false) ∧ New w W := by
  go_enter Try.func22, Try.ntmps22
  go_wp2_with fail
  refine (take_out h hi hl).mono ?_
  rintro e W2 ⟨rfl, g2⟩
  go_wp2_with fail
  go_ret
  exact ⟨rfl, g2.alloc _⟩
set_option maxHeartbeats 4000000 in
theorem double_out {w : World} {n : Nat} {X : Nat → Prop} {s : NetV} {i : Int} (h : NetB w n X s) (hi : i < 0 ∨ (s.l.length : Int) ≤ i) (hl : s.l.length ≤ 4096) :
    Calls Try.prog 18 #[.pointer (some ⟨n, 0, none⟩), .int .i64 i] w fun e W => e = .returned (.bool false) ∧ New w W := by
  go_enter Try.func18, Try.ntmps18
  go_wp2_with fail
  refine (peek_out h hi hl).mono ?_
  rintro e W2 ⟨rfl, g2⟩
  go_wp2_with fail
  go_ret
  exact ⟨rfl, g2.alloc _⟩
set_option maxHeartbeats 4000000 in
theorem insert_out {w : World} {n : Nat} {X : Nat → Prop} {s : NetV} {i : Int} {p : Pkt} (h : NetB w n X s) (hi : i < 0 ∨ (s.l.length : Int) < i ∨ (4096 : Int) ≤ s.l.length) :
    Calls Try.prog 17 #[.pointer (some ⟨n, 0, none⟩), .int .i64 i, p.v] w fun e W => e = .returned (.bool false) ∧ New w W := by
  obtain ⟨lv, wv, m, z, h1, h2, h3, h4, h5, h6⟩ := h
  obtain ⟨A, cap, rfl⟩ := h2.form
  obtain ⟨⟨c0, c1, c2, c3, c4⟩, f0, f1, f2, f3, f4⟩ := own5 h1
  have hlt := h1.lt
  clear h1 h2 h3 h4 h5 h6
  by_cases a1 : i < 0
  · go_enter Try.func17, Try.ntmps17
    go_wp2_with fail
    go_ret
    exact ⟨rfl, (Fr.refl _ _).alloc _⟩
  · have a1' : (0 : Int) ≤ i := by omega
    by_cases a2 : (s.l.length : Int) < i
    · go_enter Try.func17, Try.ntmps17
      go_wp2_with fail
      go_ret
      exact ⟨rfl, (Fr.refl _ _).alloc _⟩
    · have a2' : i ≤ (s.l.length : Int) := by omega
      have a3 : (4096 : Int) ≤ s.l.length := by omega
      go_enter Try.func17, Try.ntmps17
      go_wp2_with fail
      go_ret
      exact ⟨rfl, (Fr.refl _ _).alloc _⟩
set_option maxRecDepth 100000 in
set_option maxHeartbeats 8000000 in
theorem insert_in {w : World} {n : Nat} {X : Nat → Prop} {s : NetV} {i : Nat} {p : Pkt} (h : NetB w n X s) (hi : i ≤ s.l.length) (hl : s.l.length < 4096) :
    Calls Try.prog 17 #[.pointer (some ⟨n, 0, none⟩), .int .i64 (i : Nat), p.v] w fun e W => e = .returned (.bool true) ∧ NetTo w X n W { s with l := s.l.take i ++ [p] ++ s.l.drop i } := by
  have hXlt := fun k hk => h.lt (k := k) hk
  go_enter Try.func17, Try.ntmps17
  have hi1 : (i : Int) ≤ (s.l.length : Int) := by omega
  have hl1 : (s.l.length : Int) < 4096 := by omega
  obtain ⟨lv, wv, m, z, h1, h2, h3, h4, h5, h6⟩ := h
  obtain ⟨A, cap, rfl⟩ := h2.form
  obtain ⟨⟨c0, c1, c2, c3, c4⟩, f0, f1, f2, f3, f4⟩ := own5 h1
  have hlt := h1.lt
  have H := Lib.hid (And.intro h1 (And.intro h2 (And.intro h3 (And.intro h4 (And.intro h5 h6)))))
  clear h1 h2 h3 h4 h5 h6
  go_wp2_with fail
  obtain ⟨h1, h2, h3, h4, h5, h6⟩ := H.out
  refine wp_world (fun W => Own W n 55 #[.slice A s.l.length cap, wv, .map (some m), .int .i64 s.sent, .int .i64 s.lost] ∧ PkL W (.slice A s.l.length cap) s.l ∧ PkL W wv s.w ∧ MapF Try.prog 57 W m z (wayM s.c) ∧ Own W w.heap.size 26 #[.int .i64 p.f, .int .i64 p.t, .string p.s] ∧ New w W)
    ⟨h1.alloc _, h2.fr ((Fr.refl _ _).alloc _) (G := fun _ => False) (fun _ _ g => g), h3.fr ((Fr.refl _ _).alloc _) (G := fun _ => False) (fun _ _ g => g), h4.fr ((Fr.refl _ _).alloc _) (G := fun _ => False) (fun g => g), Own.fresh _ _ _, (Fr.refl _ _).alloc _⟩ ?_
  clear h1 h2 h3 h4 H c0 c1 c2 c3 c4 f0 f1 f2 f3 f4
  rintro W1 ⟨h1, h2, h3, h4, hp, hN⟩
  have hnl : ∀ k, (Value.slice A s.l.length cap).ownBlock = some k → k ≠ n := fun k hk e => by subst e; obtain ⟨cur, hb⟩ := h2.row hk; rw [show W1.heap[k]? = _ from h1] at hb; cases hb
  have hnw : ∀ k, wv.ownBlock = some k → k ≠ n := fun k hk e => by subst e; obtain ⟨cur, hb⟩ := h3.row hk; rw [show W1.heap[k]? = _ from h1] at hb; cases hb
  have hnm : m ≠ n := fun e => by subst e; obtain ⟨es, ck, hb, _⟩ := h4; rw [show W1.heap[m]? = _ from h1] at hb; cases hb
  have hml : ∀ k, (Value.slice A s.l.length cap).ownBlock = some k → k ≠ m := fun k hk e => by subst e; obtain ⟨cur, hb⟩ := h2.row hk; obtain ⟨es, ck, hb2, _⟩ := h4; rw [hb] at hb2; cases hb2
  have hlX : ∀ k, (Value.slice A s.l.length cap).ownBlock = some k → k < w.heap.size := fun k hk => hXlt k ((h6 k).2 (.inr (.inr (.inl hk))))
  have hwX : ∀ k, wv.ownBlock = some k → k < w.heap.size := fun k hk => hXlt k ((h6 k).2 (.inr (.inr (.inr hk))))
  have hS0 : Own W1.drew n 55 #[.slice A s.l.length cap, wv, .map (some m), .int .i64 s.sent, .int .i64 s.lost] ∧ Own W1.drew w.heap.size 26 #[.int .i64 p.f, .int .i64 p.t, .string p.s] := ⟨h1.drew, hp.drew⟩
  apply wp_region_partsH 9 (fun W' => Own W' n 55 #[.slice A s.l.length cap, wv, .map (some m), .int .i64 s.sent, .int .i64 s.lost] ∧ Own W' w.heap.size 26 #[.int .i64 p.f, .int .i64 p.t, .string p.s])
  case hp => simp only [List.take_succ_cons, List.take_zero]; exact rfl
  case hd => simp only [List.drop_succ_cons, List.drop_zero]; exact rfl
  case hm => kernel_rfl
  case hB => kernel_rfl
  case hT => kernel_rfl
  refine wpAnyH_take (i := 0) (v := .pointer (some ⟨n, 0, none⟩)) rfl (by kernel_rfl) (by kernel_rfl) (by kernel_rfl) (fun _ _ _ h => h) (.inl ⟨rfl, fun w' hS => ?t0⟩) hS0 ?_
  case t0 =>
    go_simp
  refine wpAnyH_take (i := 1) (v := .pointer (some ⟨n, 0, none⟩)) rfl (by kernel_rfl) (by kernel_rfl) (by kernel_rfl) (fun _ _ _ h => h) (.inl ⟨rfl, fun w' hS => ?t1⟩) hS0 ?_
  case t1 =>
    go_simp
  refine wpAnyH_take (i := 2) (v := .pointer (some ⟨n, 0, none⟩)) rfl (by kernel_rfl) (by kernel_rfl) (by kernel_rfl) (fun _ _ _ h => h) (.inl ⟨rfl, fun w' hS => ?t2⟩) hS0 ?_
  case t2 =>
    go_simp
  refine wpAnyH_take (i := 3) (v := .pointer (some ⟨n, 0, none⟩)) rfl (by kernel_rfl) (by kernel_rfl) (by kernel_rfl) (fun _ _ _ h => h) (.inl ⟨rfl, fun w' hS => ?t3⟩) hS0 ?_
  case t3 =>
    go_simp
  refine wpAnyH_take (i := 4) (v := .slice A s.l.length cap) rfl (by kernel_rfl) (by kernel_rfl) (by kernel_rfl) (fun _ _ _ h => h) (.inl ⟨rfl, fun w' hS => ?t4⟩) hS0 ?_
  case t4 =>
    have c0 : w'.cell? ⟨n, 0, none⟩ = some (.slice A s.l.length cap) := hS.1.cell 0
    go_simp
  refine wpAnyH_take (i := 5) (v := .int .i64 (i : Nat)) rfl (by kernel_rfl) (by kernel_rfl) (by kernel_rfl) (fun _ _ _ h => h) (.inl ⟨rfl, fun w' hS => ?t5⟩) hS0 ?_
  case t5 =>
    go_simp
  refine wpAnyH_take (i := 6) (v := p.v) rfl (by kernel_rfl) (by kernel_rfl) (by kernel_rfl) (fun _ _ _ h => h) (.inl ⟨rfl, fun w' hS => ?t6⟩) hS0 ?_
  case t6 =>
    obtain ⟨⟨d0, d1, d2⟩, -⟩ := own3c hS.2
    go_simp
  simp only [Act.put, List.setIfInBounds_toArray, List.set_cons_zero, List.set_cons_succ]
  refine wpAnyH_all (rs := [7]) (by kernel_rfl) (by simp) (fun j hj => ?_)
  rw [List.mem_singleton] at hj
  subst hj
  refine wpOp_step rfl (fun K hK => ?_)
  go_simp
  refine hK _ _ ⟨⟨hS0.1.alloc _, hS0.2.alloc _⟩, ?_⟩
  clear hK K
  refine wpAnyH_all (rs := [8]) (by kernel_rfl) (by simp) (fun j hj => ?_)
  rw [List.mem_singleton] at hj
  subst hj
  refine wpOp_step rfl (fun K hK => ?_)
  go_simp
  have g1 : New W1 (W1.drew.alloc (.cells #[.int .i64 p.f, .int .i64 p.t, .string p.s] 26)) := ((Fr.refl _ _).drew).alloc _
  refine (ins_any (p := p) (blk := W1.heap.size) (h2.fr g1 fun _ _ x => x) hi (by omega) (Own.fresh W1.drew _ _) (fun e => by have := hlX _ e; have := hN.size; omega)).mono ?_
  rintro e W2 ⟨v', rfl, hp2, f2, ho⟩
  have hlp := hp.lt
  have fL : Fr (fun k => (Value.slice A s.l.length cap).ownBlock = some k) W1 W2 := Fr.trans (g1.mono fun _ x => x.elim) f2 fun _ _ x => x
  have q1 := h1.fr fL fun e => hnl _ e rfl
  have q2 := hp.fr fL fun e => by have := hlX _ e; omega
  refine hK _ _ ⟨⟨q1, q2⟩, ?_⟩
  clear hK K
  refine wpAnyH_done (by kernel_rfl) ?_ _
  obtain ⟨A2, cap2, hv2⟩ := hp2.form
  obtain ⟨L2, hL2⟩ : ∃ L2, L2 = (s.l.take i ++ [p] ++ s.l.drop i).length := ⟨_, rfl⟩
  rw [← hL2] at hv2
  subst hv2
  obtain ⟨⟨c0, c1, c2, c3, c4⟩, f0, f1, f2', f3, f4⟩ := own5 q1
  have H := Lib.hid (And.intro q1 (And.intro hp2 (And.intro fL (And.intro ho (And.intro h3 (And.intro h4 (And.intro h5 (And.intro h6 hN))))))))
  clear q1 q2 hp2 fL ho h1 h2 h3 h4 h5 h6 hN f2 g1 hp hS0 hL2
  unfold restQ
  go_simp
  go_wp2_with fail
  obtain ⟨q1, hp2, fL, ho, h3, h4, h5, h6, hN⟩ := H.out
  clear c0 c1 c2 c3 c4 f0 f1 f2' f3 f4
  have gn : Fr (fun k => k = n) W2 (W2.setCell ⟨n, 0, none⟩ (.slice A2 L2 cap2)) := Fr.set (F := fun k => k = n) (Fr.refl _ _) (p := ⟨n, 0, none⟩) (fun _ => rfl) _
  have ho2 : ∀ k, (Value.slice A2 L2 cap2).ownBlock = some k → k ≠ n ∧ wv.ownBlock ≠ some k ∧ (X k ∨ w.heap.size ≤ k) := fun k hk => by
    rcases ho with e | ⟨k', e, hk'⟩
    · exact ⟨hnl k (e ▸ hk), h5 k (e ▸ hk), .inl ((h6 k).2 (.inr (.inr (.inl (e ▸ hk)))))⟩
    · rw [hk] at e
      cases e
      have hs1 := hN.size
      have : W1.heap.size ≤ k := by simp at hk'; omega
      exact ⟨by omega, fun e => by have := hwX _ e; omega, .inr (by omega)⟩
  refine bodyPost_ret (v := .bool true) (by simp [results, Try.results17, go_sem, *]) rfl ⟨rfl, ?_⟩
  refine netB_of (z := z) (m := m) (w := w) (s := { s with l := s.l.take i ++ [p] ++ s.l.drop i }) (v' := .slice A2 L2 cap2) (wv' := wv) (q1.put rfl) (hp2.fr gn fun k hk => (ho2 k hk).1) ?_ ?_ h5 h6 hXlt (fun k hk => (ho2 k hk).2.1) (fun k hk => (ho2 k hk).2.2) (fun k hk => .inl ((h6 k).2 (.inr (.inr (.inr hk))))) ?_
  · exact (h3.fr fL fun k hk e => h5 k e hk).fr gn hnw
  · exact (h4.fr fL fun e => hml _ e rfl).fr gn hnm
  · exact Fr.trans (F := X) (Fr.trans (F := X) (hN.mono fun _ x => x.elim) fL fun k hk e => (h6 k).2 (.inr (.inr (.inl e)))) gn fun k hk e => (h6 k).2 (.inl e)
end Go.Proofs.Ytleagdnlgjpcgaa
