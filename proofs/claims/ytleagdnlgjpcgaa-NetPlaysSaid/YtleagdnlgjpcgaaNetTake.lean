/- Packets are looked at, and taken; ways are mended. -/
import Derived.Test.YtleagdnlgjpcgaaNetSend
namespace Go.Proofs.Ytleagdnlgjpcgaa
open Go.RowKit Go.Maps
set_option linter.unusedVariables false
set_option linter.unusedSimpArgs false

theorem PkL.cells {W : World} {A : Option Addr} {n cap : Nat} {l : List Pkt} (h : PkL W (.slice A n cap) l) : PkS W A l := by
  have hmx : l.length ≤ maxLen := by
    rcases h.2 with ⟨e, h0⟩ | ⟨g, cap', cur, e, hB, hg, h1, h2, h3, h4⟩
    · rw [h0]; exact Nat.zero_le _
    · omega
  rcases h.2 with ⟨e, h0⟩ | ⟨g, cap', cur, e, hB, hg, h1, h2, h3, h4⟩
  · refine ⟨hmx, fun i hi => ?_⟩
    omega
  · injection e with e1 e2 e3
    subst e1
    refine ⟨hmx, fun i hi => ⟨g, 0, rfl, fun j u hu => ?_⟩⟩
    obtain ⟨p0, p1, p2⟩ := pkCells_at l i hi
    simp only [List.getElem?_eq_getElem hi] at hu
    have hj : j < 3 := by
      have := (List.getElem?_eq_some_iff.1 hu).1
      simpa [Pkt.cs] using this
    have hx : (pkCells l)[i * 3 + j]? = some u := by
      rcases j with _ | _ | _ | j
      · simp at hu; subst hu; exact p0
      · simp at hu; subst hu; exact p1
      · simp at hu; subst hu; exact p2
      · omega
    rw [show W.cell? ⟨g, 0 + i * 3 + j, none⟩ = cur[i * 3 + j]? by
      rw [show 0 + i * 3 + j = i * 3 + j by omega]
      exact Own.cell (w := W) (b := g) (t := 26) (cs := cur) hg _]
    rw [← h4, List.getElem?_take] at hx
    split at hx
    · simpa using hx
    · cases hx
theorem calls_world {P : Program} {f : FuncId} {args : Array Value} {Q : Ending → World → Prop} {W : World} (F : World → Prop) (h : F W) (k : ∀ W', F W' → Calls P f args W' Q) : Calls P f args W Q := k W h
theorem post_world {P : Program} {fn : Func} {Q : Ending → World → Prop} {x : Exit} {a : Act} {W : World} (F : World → Prop) (h : F W) (k : ∀ W', F W' → bodyPost P fn Q x a W') : bodyPost P fn Q x a W := k W h
abbrev noPkt : Pkt := ⟨0, 0, ⟨#[]⟩⟩
set_option maxHeartbeats 4000000 in
theorem peek_in {w : World} {n : Nat} {X : Nat → Prop} {s : NetV} {i : Nat} {p : Pkt} (h : NetB w n X s) (hi : s.l[i]? = some p) (hl : s.l.length ≤ 4096) :
    Calls Try.prog 15 #[.pointer (some ⟨n, 0, none⟩), .int .i64 (i : Nat)] w fun e W => e = .returned (.tuple #[p.v, .bool true]) ∧ New w W := by
  have HL := Lib.hid (fun ww (g : NetB ww n X s) => len_any g)
  have hlt : i < s.l.length := (List.getElem?_eq_some_iff.1 hi).1
  have hlt2 : (i : Int) < (s.l.length : Int) := by omega
  have hge : ¬ ((s.l.length : Int) ≤ (i : Int)) := by omega
  go_enter Try.func15, Try.ntmps15
  go_wp2_with fail
  refine calls_world (fun W => NetB W n X s ∧ Own W w.heap.size 26 #[.int .i64 0, .int .i64 0, .string ⟨#[]⟩] ∧ New w W) ⟨h.new_ ((Fr.refl _ _).alloc _), Own.fresh _ _ _, (Fr.refl _ _).alloc _⟩ ?_
  clear h
  rintro W1 ⟨h, hz, hN⟩
  refine (HL.out _ h).mono ?_
  rintro e w' ⟨rfl, rfl⟩
  obtain ⟨lv, wv, m, z, h1, h2, h3, h4, h5, h6⟩ := h
  obtain ⟨⟨c0, c1, c2, c3, c4⟩, f0, f1, f2, f3, f4⟩ := own5 h1
  obtain ⟨⟨d0, d1, d2⟩, e0, e1, e2⟩ := own3c hz
  have hnlt := h1.lt
  have hzlt := hz.lt
  obtain ⟨A, cap, rfl⟩ := h2.form
  obtain ⟨sb, so, hAe, hc⟩ := h2.cells.2 i hlt
  simp only [hi] at hc
  have a0 := hc 0 _ rfl
  have a1 := hc 1 _ rfl
  have a2 := hc 2 _ rfl
  simp only [Nat.add_zero] at a0
  subst hAe
  have HN := Lib.hid (And.intro hN hz)
  clear h1 h2 h3 h4 h5 h6 HL hN hz hc
  go_wp2_with fail
  refine post_world (fun W => Own W w.heap.size 26 #[.int .i64 p.f, .int .i64 p.t, .string p.s] ∧ New w W) ⟨((HN.out.2.put rfl).put rfl).put rfl, ((HN.out.1.set (fun g => absurd g (Nat.lt_irrefl _)) _).set (fun g => absurd g (Nat.lt_irrefl _)) _).set (fun g => absurd g (Nat.lt_irrefl _)) _⟩ ?_
  clear c0 c1 c2 c3 c4 f0 f1 f2 f3 f4 d0 d1 d2 e0 e1 e2 a0 a1 a2 HN
  rintro W' ⟨zf, nf⟩
  obtain ⟨⟨d0, d1, d2⟩, -⟩ := own3c zf
  exact bodyPost_ret (v := .tuple #[p.v, .bool true]) (by simp [results, Try.results15, go_sem, *]) rfl ⟨rfl, nf⟩
set_option maxHeartbeats 4000000 in
theorem peek_out {w : World} {n : Nat} {X : Nat → Prop} {s : NetV} {i : Int} (h : NetB w n X s) (hi : i < 0 ∨ (s.l.length : Int) ≤ i) (hl : s.l.length ≤ 4096) :
    Calls Try.prog 15 #[.pointer (some ⟨n, 0, none⟩), .int .i64 i] w fun e W => e = .returned (.tuple #[noPkt.v, .bool false]) ∧ New w W := by
  have HL := Lib.hid (fun ww (g : NetB ww n X s) => len_any g)
  have hz := Own.fresh w 26 #[.int .i64 0, .int .i64 0, .string ⟨#[]⟩]
  obtain ⟨⟨d0, d1, d2⟩, e0, e1, e2⟩ := own3c hz
  by_cases hneg : i < 0
  · go_enter Try.func15, Try.ntmps15
    go_wp2_with fail
    exact bodyPost_ret (v := .tuple #[noPkt.v, .bool false]) (by simp [results, Try.results15, go_sem, *]) rfl ⟨rfl, (Fr.refl _ _).alloc _⟩
  · have hge : (s.l.length : Int) ≤ i := by omega
    go_enter Try.func15, Try.ntmps15
    go_wp2_with fail
    refine (HL.out _ (h.new_ ((Fr.refl _ _).alloc _))).mono ?_
    rintro e w' ⟨rfl, rfl⟩
    go_wp2_with fail
    exact bodyPost_ret (v := .tuple #[noPkt.v, .bool false]) (by simp [results, Try.results15, go_sem, *]) rfl ⟨rfl, (Fr.refl _ _).alloc _⟩
theorem peek_none {w : World} {i : Int} : Calls Try.prog 15 #[.pointer none, .int .i64 i] w fun e W => e = .returned (.tuple #[noPkt.v, .bool false]) ∧ New w W := by
  have hz := Own.fresh w 26 #[.int .i64 0, .int .i64 0, .string ⟨#[]⟩]
  obtain ⟨⟨d0, d1, d2⟩, e0, e1, e2⟩ := own3c hz
  by_cases hneg : i < 0
  · go_enter Try.func15, Try.ntmps15
    go_wp2_with fail
    exact bodyPost_ret (v := .tuple #[noPkt.v, .bool false]) (by simp [results, Try.results15, go_sem, *]) rfl ⟨rfl, (Fr.refl _ _).alloc _⟩
  · have hge : (0 : Int) ≤ i := by omega
    go_enter Try.func15, Try.ntmps15
    go_wp2_with fail
    refine len_none.mono ?_
    rintro e w' ⟨rfl, rfl⟩
    go_wp2_with fail
    exact bodyPost_ret (v := .tuple #[noPkt.v, .bool false]) (by simp [results, Try.results15, go_sem, *]) rfl ⟨rfl, (Fr.refl _ _).alloc _⟩
theorem NetB.setL {w W : World} {n m z : Nat} {X : Nat → Prop} {s : NetV} {lv wv v' : Value} {l' : List Pkt}
    (h1 : Own w n 55 #[lv, wv, .map (some m), .int .i64 s.sent, .int .i64 s.lost]) (h2 : PkL w lv s.l) (h3 : PkL w wv s.w) (h4 : MapF Try.prog 57 w m z (wayM s.c))
    (h5 : ∀ k, lv.ownBlock = some k → wv.ownBlock ≠ some k) (h6 : ∀ k, X k ↔ k = n ∨ k = m ∨ lv.ownBlock = some k ∨ wv.ownBlock = some k)
    (p : PkL W v' l') (e : v'.ownBlock = lv.ownBlock) (f : Fr (fun k => lv.ownBlock = some k) w W) :
    (Own W n 55 #[lv, wv, .map (some m), .int .i64 s.sent, .int .i64 s.lost]) ∧ NetB (W.setCell ⟨n, 0, none⟩ v') n X { s with l := l' } ∧ Fr X w (W.setCell ⟨n, 0, none⟩ v') := by
  have hnm : n ≠ m := fun e => by subst e; obtain ⟨es, ck, hb, _⟩ := h4; rw [show w.heap[n]? = _ from h1] at hb; cases hb
  have hnl : ∀ k, lv.ownBlock = some k → k ≠ n := fun k hk e => by subst e; obtain ⟨cur, hb⟩ := h2.row hk; rw [show w.heap[k]? = _ from h1] at hb; cases hb
  have hnw : ∀ k, wv.ownBlock = some k → k ≠ n := fun k hk e => by subst e; obtain ⟨cur, hb⟩ := h3.row hk; rw [show w.heap[k]? = _ from h1] at hb; cases hb
  have hml : ∀ k, lv.ownBlock = some k → k ≠ m := fun k hk e => by subst e; obtain ⟨cur, hb⟩ := h2.row hk; obtain ⟨es, ck, hb2, _⟩ := h4; rw [hb] at hb2; cases hb2
  have k1 := h1.fr f fun e => hnl n e rfl
  have g : Fr (fun k => k = n) W (W.setCell ⟨n, 0, none⟩ v') := Fr.set (F := fun k => k = n) (Fr.refl _ _) (p := ⟨n, 0, none⟩) (fun _ => rfl) _
  refine ⟨k1, ⟨v', wv, m, z, k1.put rfl, p.fr g ?_, (h3.fr f fun k hk e2 => h5 k e2 hk).fr g hnw, (h4.fr f fun e => hml m e rfl).fr g fun e => hnm e.symm, ?_, ?_⟩, ?_⟩
  · intro k hk; exact hnl k (e ▸ hk)
  · intro k hk; exact h5 k (e ▸ hk)
  · intro k; rw [h6, e]
  · refine Fr.trans (F := X) (f.mono fun k hk => (h6 k).2 (.inr (.inr (.inl hk)))) g fun k _ hk => (h6 k).2 (.inl hk)
set_option maxHeartbeats 4000000 in
theorem take_in {w : World} {n : Nat} {X : Nat → Prop} {s : NetV} {i : Nat} {p : Pkt} (h : NetB w n X s) (hi : s.l[i]? = some p) (hl : s.l.length ≤ 4096) :
    Calls Try.prog 14 #[.pointer (some ⟨n, 0, none⟩), .int .i64 (i : Nat)] w fun e W => e = .returned (.tuple #[p.v, .bool true]) ∧ NetB W n X { s with l := s.l.take i ++ s.l.drop (i + 1) } ∧ Fr X w W := by
  have HP := Lib.hid (fun ww (g : NetB ww n X s) => peek_in g hi hl)
  have hlt : i < s.l.length := (List.getElem?_eq_some_iff.1 hi).1
  have hXlt := fun k hk => h.lt (k := k) hk
  go_enter Try.func14, Try.ntmps14
  go_wp2_with fail
  refine calls_world (fun W => NetB W n X s ∧ Own W w.heap.size 26 #[.int .i64 0, .int .i64 0, .string ⟨#[]⟩] ∧ New w W) ⟨h.new_ ((Fr.refl _ _).alloc _), Own.fresh _ _ _, (Fr.refl _ _).alloc _⟩ ?_
  clear h
  rintro W1 ⟨h, hz, hN⟩
  refine (HP.out _ h).mono ?_
  rintro e W2 ⟨rfl, g2⟩
  replace h := h.new_ g2
  replace hz := hz.new_ g2
  replace hN := hN.new_ g2
  obtain ⟨lv, wv, m, z, h1, h2, h3, h4, h5, h6⟩ := h
  obtain ⟨⟨c0, c1, c2, c3, c4⟩, f0, f1, f2, f3, f4⟩ := own5 h1
  have hnlt := h1.lt
  have hzlt := hz.lt
  have H := Lib.hid (And.intro h1 (And.intro h2 (And.intro h3 (And.intro h4 (And.intro h5 (And.intro h6 (And.intro hz (And.intro hN g2))))))))
  clear h1 h2 h3 h4 h5 h6 hz hN g2
  go_wp2_with fail
  obtain ⟨h1, h2, h3, h4, h5, h6, hz, hN, g2⟩ := H.out
  clear H c0 c1 c2 c3 c4 f0 f1 f2 f3 f4
  refine calls_world (fun W => (Own W n 55 #[lv, wv, .map (some m), .int .i64 s.sent, .int .i64 s.lost] ∧ PkL W lv s.l ∧ PkL W wv s.w ∧ MapF Try.prog 57 W m z (wayM s.c)) ∧ Own W w.heap.size 26 #[.int .i64 0, .int .i64 0, .string ⟨#[]⟩] ∧ New w W ∧ Own W W2.heap.size 26 #[.int .i64 p.f, .int .i64 p.t, .string p.s])
    ⟨⟨h1.alloc _, h2.fr ((Fr.refl _ _).alloc _) (G := fun _ => False) (fun _ _ g => g), h3.fr ((Fr.refl _ _).alloc _) (G := fun _ => False) (fun _ _ g => g), h4.fr ((Fr.refl _ _).alloc _) (G := fun _ => False) (fun g => g)⟩, hz.alloc _, hN.alloc _, Own.fresh _ _ _⟩ ?_
  have hLx : ∀ k, lv.ownBlock = some k → k < w.heap.size := fun k hk => hXlt k ((h6 k).2 (.inr (.inr (.inl hk))))
  have hnx : n < w.heap.size := hXlt n ((h6 n).2 (.inl rfl))
  clear h1 h2 h3 h4 hz hN g2
  rintro W3 ⟨⟨h1, h2, h3, h4⟩, hz, hN, hp⟩
  refine (del_any h2 hlt (by omega)).mono ?_
  rintro e W4 ⟨v5, rfl, r2, r3, r4⟩
  obtain ⟨A5, cap5, rfl⟩ := r2.form
  obtain ⟨k1, k2, k3⟩ := NetB.setL h1 h2 h3 h4 h5 h6 r2 r3 r4
  have hz4 := hz.fr r4 fun e => absurd (hLx _ e) (Nat.lt_irrefl _)
  have hp4 := hp.fr r4 fun e => by have := hLx _ e; omega
  obtain ⟨⟨c0, c1, c2, c3, c4⟩, f0, f1, f2, f3, f4⟩ := own5 k1
  obtain ⟨⟨d0, d1, d2⟩, e0, e1, e2⟩ := own3c hz4
  obtain ⟨⟨b0, b1, b2⟩, -⟩ := own3c hp4
  have hne1 : ¬ n = w.heap.size := by omega
  have hne2 : ¬ W2.heap.size = n := by omega
  have hne3 : ¬ W2.heap.size = w.heap.size := by omega
  have hne4 : ¬ w.heap.size = n := by omega
  have H := Lib.hid (And.intro k2 (And.intro k3 (And.intro hz4 (And.intro hp4 (And.intro hN hLx)))))
  clear h1 h2 h3 h4 h5 h6 hz hN hp r2 r3 r4 k1 k2 k3 hz4 hp4 hLx
  generalize (List.take i s.l ++ List.drop (i + 1) s.l).length = q at H ⊢
  go_wp2_with fail
  refine post_world (fun W => NetB W n X { s with l := s.l.take i ++ s.l.drop (i + 1) } ∧ Fr X w W ∧ Own W w.heap.size 26 #[.int .i64 p.f, .int .i64 p.t, .string p.s]) ?_ ?_
  · obtain ⟨k2, k3, hz4, hp4, hN, hLx⟩ := H.out
    have g7 : ∀ W5, Fr (fun k => k = w.heap.size) W5 (((W5.setCell ⟨w.heap.size, 0, none⟩ (.int .i64 p.f)).setCell ⟨w.heap.size, 1, none⟩ (.int .i64 p.t)).setCell ⟨w.heap.size, 2, none⟩ (.string p.s)) := fun W5 =>
      Fr.set (F := fun k => k = w.heap.size) (Fr.set (F := fun k => k = w.heap.size) (Fr.set (F := fun k => k = w.heap.size) (Fr.refl _ _) (p := ⟨w.heap.size, 0, none⟩) (fun _ => rfl) _) (p := ⟨w.heap.size, 1, none⟩) (fun _ => rfl) _) (p := ⟨w.heap.size, 2, none⟩) (fun _ => rfl) _
    refine ⟨?_, ?_, ?_⟩
    · exact k2.fr (g7 _) fun k hk e => by have := hXlt k hk; omega
    · refine Fr.trans (F := X) (Fr.trans (F := X) (hN.mono fun _ g => g.elim) k3 fun _ _ h => h) (g7 _) fun k hk e => absurd hk (by omega)
    · refine Own.put (Own.put (Own.put (Own.far hz4 (p := ⟨n, 0, none⟩) hne4 _) rfl) rfl) rfl
  clear c0 c1 c2 c3 c4 f0 f1 f2 f3 f4 d0 d1 d2 e0 e1 e2 b0 b1 b2 H
  rintro W' ⟨k2, k3, zf⟩
  obtain ⟨⟨d0, d1, d2⟩, -⟩ := own3c zf
  exact bodyPost_ret (v := .tuple #[p.v, .bool true]) (by simp [results, Try.results14, go_sem, *]) rfl ⟨rfl, k2, k3⟩
end Go.Proofs.Ytleagdnlgjpcgaa
