/- Packets are sent. -/
import Derived.Test.YtleagdnlgjpcgaaNetB
namespace Go.Proofs.Ytleagdnlgjpcgaa
open Go.RowKit Go.Maps
set_option linter.unusedVariables false
set_option linter.unusedSimpArgs false

/-- From the network s0 with the blocks X, in w, to s, in W. -/
def NetTo (w : World) (X : Nat → Prop) (n : Nat) (W : World) (s : NetV) : Prop := ∃ X', NetB W n X' s ∧ Fr X w W ∧ ∀ k, X' k → X k ∨ w.heap.size ≤ k
theorem NetTo.of {w W W2 : World} {X X' : Nat → Prop} {n : Nat} {s2 : NetV} (f : Fr X w W) (hX : ∀ k, X' k → X k ∨ w.heap.size ≤ k) (h : ∃ X2, NetB W2 n X2 s2 ∧ Fr X' W W2 ∧ ∀ k, X2 k → X' k ∨ W.heap.size ≤ k) : NetTo w X n W2 s2 := by
  obtain ⟨X2, h1, h2, h3⟩ := h
  refine ⟨X2, h1, f.trans h2 fun k hk hx => ?_, fun k hk => ?_⟩
  · rcases hX k hx with e | e
    · exact e
    · omega
  · rcases h3 k hk with e | e
    · exact hX k e
    · exact .inr (Nat.le_trans f.size e)
theorem NetTo.refl {w : World} {X : Nat → Prop} {n : Nat} {s : NetV} (h : NetB w n X s) : NetTo w X n w s := ⟨X, h, Fr.refl _ _, fun _ h => .inl h⟩
theorem NetTo.new_ {w W W2 : World} {X : Nat → Prop} {n : Nat} {s : NetV} (h : NetTo w X n W s) (g : New W W2) : NetTo w X n W2 s := by
  obtain ⟨X', h1, h2, h3⟩ := h
  exact ⟨X', h1.new_ g, h2.new_ g, h3⟩
/-- A number of a network is stored. -/
theorem NetB.setSent {w : World} {n : Nat} {X : Nat → Prop} {s : NetV} (h : NetB w n X s) : NetB (w.setCell ⟨n, 3, none⟩ (.int .i64 ((s.sent : Int) + 1))) n X { s with sent := s.sent + 1 } ∧ Fr (fun k => k = n) w (w.setCell ⟨n, 3, none⟩ (.int .i64 ((s.sent : Int) + 1))) ∧ X n := by
  obtain ⟨lv, wv, m, z, h1, h2, h3, h4, h5, h6⟩ := h
  have hnm : n ≠ m := fun e => by subst e; obtain ⟨es, ck, hb, _⟩ := h4; rw [show w.heap[n]? = _ from h1] at hb; cases hb
  have hnl : ∀ k, lv.ownBlock = some k → k ≠ n := fun k hk e => by subst e; obtain ⟨cur, hb⟩ := h2.row hk; rw [show w.heap[k]? = _ from h1] at hb; cases hb
  have hnw : ∀ k, wv.ownBlock = some k → k ≠ n := fun k hk e => by subst e; obtain ⟨cur, hb⟩ := h3.row hk; rw [show w.heap[k]? = _ from h1] at hb; cases hb
  have f : Fr (fun k => k = n) w (w.setCell ⟨n, 3, none⟩ (.int .i64 ((s.sent : Int) + 1))) := Fr.set (F := fun k => k = n) (Fr.refl _ _) (p := ⟨n, 3, none⟩) (fun _ => rfl) _
  exact ⟨⟨lv, wv, m, z, h1.put rfl, h2.fr f hnl, h3.fr f hnw, h4.fr f fun e => hnm e.symm, h5, h6⟩, f, (h6 n).2 (.inl rfl)⟩
def Pkt.w (p : Pkt) : Int × Int := (min p.f p.t, max p.f p.t)
def NetV.one (s : NetV) (p : Pkt) : NetV := if p.w ∈ s.c then { s with sent := s.sent + 1, w := s.w ++ [p] } else ({ s with sent := s.sent + 1 } : NetV).push p
def NetV.oneN (s : NetV) (p : Pkt) : Nat := if p.w ∈ s.c then 0 else 1
def NetV.send (s : NetV) : List Pkt → NetV × Nat
  | [] => (s, 0)
  | p :: l => (((s.one p).send l).1, s.oneN p + ((s.one p).send l).2)
theorem NetV.push_le (s : NetV) (p : Pkt) (h : s.l.length ≤ 4096) : (s.push p).l.length ≤ 4096 ∧ (s.push p).w = s.w ∧ (s.push p).c = s.c ∧ (s.push p).sent = s.sent ∧ (s.push p).lost ≤ s.lost + 1 := by
  unfold NetV.push
  split
  · refine ⟨by simp; omega, rfl, rfl, rfl, by simp⟩
  · refine ⟨by simp; omega, rfl, rfl, rfl, by simp⟩
theorem NetV.one_le (s : NetV) (p : Pkt) (h : s.l.length ≤ 4096) : (s.one p).l.length ≤ 4096 ∧ (s.one p).w.length ≤ s.w.length + 1 ∧ (s.one p).c = s.c ∧ (s.one p).sent = s.sent + 1 ∧ (s.one p).lost ≤ s.lost + 1 := by
  unfold NetV.one
  split
  · exact ⟨h, by simp, rfl, rfl, by simp⟩
  · obtain ⟨a, b, c, d, e⟩ := NetV.push_le ({ s with sent := s.sent + 1 } : NetV) p h
    exact ⟨a, by rw [b]; simp, c, d, e⟩
/-- Packets that lie in a row of somebody else's. -/
def PkS (w : World) (A : Option Addr) (l : List Pkt) : Prop := Sl w 3 A l.length fun i => match l[i]? with | some p => p.cs | none => []
theorem send_none {w : World} {v : Value} : Calls Try.prog 9 #[.pointer none, v] w fun e W => e = .returned (.int .i64 0) ∧ W = w := by
  go_enter Try.func9, Try.ntmps9
  go_wp2
  go_ret
  exact ⟨rfl, rfl⟩
set_option maxHeartbeats 8000000 in
set_option maxRecDepth 1000000 in
theorem send_any {w : World} {n cap : Nat} {X : Nat → Prop} {s : NetV} {A : Option Addr} {l : List Pkt} (h : NetB w n X s) (hA : PkS w A l) (hAX : ∀ a, A = some a → ¬ X a.block ∧ a.block < w.heap.size)
    (hl : s.l.length ≤ 4096) (hw : s.w.length + l.length ≤ 100000) (hs : s.lost + l.length ≤ 1000000) (ht : s.sent + l.length ≤ 1000000) (hp : ∀ p ∈ l, p.wf) :
    Calls Try.prog 9 #[.pointer (some ⟨n, 0, none⟩), .slice A l.length cap] w fun e W => e = .returned (.int .i64 (s.send l).2) ∧ NetTo w X n W (s.send l).1 := by
  go_enter Try.func9, Try.ntmps9
  go_wp2_with fail
  go_loopw [5, 12] (fun kv iv wr => ∃ (i k : Nat) (si : NetV), kv = .int .i64 k ∧ iv = .int .i64 i ∧ i ≤ l.length ∧ k ≤ i ∧ NetTo w X n wr si ∧ si.l.length ≤ 4096 ∧ si.w.length ≤ s.w.length + i ∧ si.lost ≤ s.lost + i ∧ si.sent = s.sent + i ∧ Hid (s.send l = ((si.send (l.drop i)).1, k + (si.send (l.drop i)).2))) (fun _ iv _ => l.length - (intOf iv).toNat)
  case atStart => exact ⟨0, 0, s, rfl, rfl, Nat.zero_le _, Nat.le_refl _, NetTo.refl h, hl, by omega, by omega, by omega, by show _ = _; simp⟩
  case round =>
    clear h
    obtain ⟨i, k, si, rfl, rfl, hi, hk, ⟨X', h, hf, hX⟩, hl', hw', hs', ht', HS⟩ := hrel
    by_cases hlt : i < l.length
    · have hlt2 : (i : Int) < (l.length : Int) := by omega
      obtain ⟨p, hpi⟩ : ∃ p, l[i]? = some p := ⟨l[i], List.getElem?_eq_getElem hlt⟩
      have hpw := hp p (List.mem_of_getElem? hpi)
      have hA' : PkS _ A l := hA.fr hf fun a e => (hAX a e).1
      obtain ⟨sb, so, hAe, hc⟩ := hA'.2 i hlt
      simp only [hpi] at hc
      have a0 := hc 0 _ rfl
      have a1 := hc 1 _ rfl
      have a2 := hc 2 _ rfl
      simp only [Nat.add_zero] at a0
      have HAe := Lib.hid hAe
      have hdrop : l.drop i = p :: l.drop (i + 1) := by
        have := List.drop_eq_getElem_cons hlt
        rw [this]
        congr 1
        have e2 := List.getElem?_eq_getElem hlt
        rw [hpi] at e2
        exact (Option.some.inj e2).symm
      have HD := Lib.hid hdrop
      clear hdrop hc hA'
      subst hAe
      have hXlt := fun k hk => h.lt (k := k) hk
      obtain ⟨lv, wv, m, z, h1, h2, h3, h4, h5, h6⟩ := h
      obtain ⟨⟨c0, c1, c2, c3, c4⟩, f0, f1, f2, f3, f4⟩ := own5 h1
      have hnlt := h1.lt
      have hsb : (si.sent : Int) ≤ 1000000 := by omega
      have HB := Lib.hid (show NetB wr n X' si from ⟨lv, wv, m, z, h1, h2, h3, h4, h5, h6⟩)
      have HT := Lib.hid ht'
      clear h1 h2 h3 h4 h5 h6 ht'
      go_wp2_with fail
      refine wp_world (fun W1 => NetB W1 n X' { si with sent := si.sent + 1 } ∧ Own W1 wr.heap.size 26 #[.int .i64 p.f, .int .i64 p.t, .string p.s] ∧ Fr X' wr W1) ?_ ?_
      · obtain ⟨q1, q2, q3⟩ := HB.out.setSent
        exact ⟨q1.new_ ((Fr.refl _ _).alloc _), Own.new' (by simp), (q2.mono (G := X') fun k e => e ▸ q3).alloc _⟩
      clear c0 c1 c2 c3 c4 f0 f1 f2 f3 f4 a0 a1 a2 hnlt HB lv wv m z
      rintro W1 ⟨h, hb, hfW⟩
      clear HAe
      have hNB := h
      obtain ⟨lv, wv, m, z, h1, h2, h3, h4, h5, h6⟩ := h
      obtain ⟨z1, hz1⟩ := way_key (a := min p.f p.t) (b := max p.f p.t) (by rcases Int.le_total p.f p.t with e | e <;> simp [Int.min_eq_left, Int.min_eq_right, e, hpw.1, hpw.2.1]) (by rcases Int.le_total p.f p.t with e | e <;> simp [Int.max_eq_left, Int.max_eq_right, e, hpw.1, hpw.2.1])
      have LK : ∀ x, (Instr.lookup 53 (.map (some m)) (wayV (min p.f p.t) (max p.f p.t)) false).run Try.prog (nw W1 x) = .ok (.bool (decide (p.w ∈ si.c))) (nw W1 x) := fun x => by
        have := MapF.look (t := 53) (e := 4) (h4.fr (nw_new W1 x) fun g => g) way_keyed Try.underlying53 (d := .bool false) (by kernel_rfl) hz1 false
        rw [wayM_get] at this
        exact this
      have N2 : ∀ x, (nw W1 x).cell? ⟨n, 2, none⟩ = some (.map (some m)) := h1.nw 2
      obtain ⟨M0, M1, M2⟩ := hb.nw3
      have B1 := fun (x : Nx W1) => Calls.nw_of (between_any (w := nw W1 x) (a := p.f) (b := p.t))
      have H := Lib.hid (And.intro h1 (And.intro h2 (And.intro h3 (And.intro h4 (And.intro h5 (And.intro h6 (And.intro hNB hb)))))))
      clear h1 h2 h3 h4 h5 h6 hNB hb
      obtain ⟨cw, hcw⟩ : ∃ c, decide (p.w ∈ si.c) = c := ⟨_, rfl⟩
      rw [hcw] at LK
      have HCW := Lib.hid hcw
      clear hcw
      refine wp_region_new_lit (by kernel_rfl) (by kernel_rfl) ?_; (repeat (any_goals (first | go_big_quiet_step ((go_at_call 23; with_reducible exact B1 _)) | quiet_step ((go_at_call 23; with_reducible exact B1 _)) | (refine wpQuiet_step (fun K hK => ?_); go_simp; split <;> (refine hK _ ?_; clear hK K))))); all_goals (refine wpQuiet_nil ?_; intro _ hw'; obtain ⟨xq, hw''⟩ := hw'; subst hw''; have hnq := nw_new _ xq)
      clear N2 M0 M1 M2 B1 LK
      obtain ⟨h1, h2, h3, h4, h5, h6, hNB, hb⟩ := H.out
      clear H
      obtain ⟨W2, hW2⟩ : ∃ W2, W2 = nw W1 xq := ⟨_, rfl⟩
      rw [← hW2] at hnq ⊢
      clear hW2 xq hz1 z1
      rename_i ha
      refine ha _ _ ?_
      clear ha
      replace h1 := h1.new_ hnq
      replace h2 := h2.fr hnq fun _ _ g => g
      replace h3 := h3.fr hnq fun _ _ g => g
      replace h4 := h4.fr hnq fun g => g
      replace hNB := hNB.new_ hnq
      replace hb := hb.new_ hnq
      replace hfW := hfW.new_ hnq
      clear hnq
      obtain ⟨⟨c0, c1, c2, c3, c4⟩, f0, f1, f2, f3, f4⟩ := own5 h1
      obtain ⟨⟨d0, d1, d2⟩, -⟩ := own3c hb
      have hX2 : ∀ k, X' k → X k ∨ w.heap.size ≤ k := hX
      have hf2 : Fr X w W2 := hf.trans hfW fun k hk hx => by
        rcases hX k hx with e | e
        · exact e
        · omega
      have hxlt : ∀ k, X' k → k < W2.heap.size := fun k hk => hNB.lt hk
      cases cw with
      | true =>
        have hone : si.one p = { si with sent := si.sent + 1, w := si.w ++ [p] } := if_pos (of_decide_eq_true HCW.out)
        have honeN : si.oneN p = 0 := if_pos (of_decide_eq_true HCW.out)
        have HONE := Lib.hid (And.intro hone honeN)
        clear hone honeN hX hf
        have hnm : n ≠ m := fun e => by subst e; obtain ⟨es, ck, hb, _⟩ := h4; rw [show W2.heap[n]? = _ from h1] at hb; cases hb
        have hnl : ∀ k, lv.ownBlock = some k → k ≠ n := fun k hk e => by subst e; obtain ⟨cur, hb⟩ := h2.row hk; rw [show W2.heap[k]? = _ from h1] at hb; cases hb
        have hnw : ∀ k, wv.ownBlock = some k → k ≠ n := fun k hk e => by subst e; obtain ⟨cur, hb⟩ := h3.row hk; rw [show W2.heap[k]? = _ from h1] at hb; cases hb
        have hmw : ∀ k, wv.ownBlock = some k → k ≠ m := fun k hk e => by subst e; obtain ⟨cur, hb⟩ := h3.row hk; obtain ⟨es, ck, hb2, _⟩ := h4; rw [hb] at hb2; cases hb2
        obtain ⟨A, cap, hwv⟩ := h3.form
        have hwl : si.w.length ≤ 100000 := by omega
        obtain ⟨v', W3, hr, p3, g3, o3⟩ := append_pk (W := W2.drew.alloc (.cells #[.int .i64 p.f, .int .i64 p.t, .string p.s] 26)) (blk := W2.heap.size) (v := wv) (l := si.w) (p := p)
          (h3.fr (((Fr.refl _ _).drew).alloc _) (G := fun _ => False) (fun _ _ g => g)) hwl (Own.new' (by simp))
        obtain ⟨A', cap', hv'⟩ := p3.form
        rw [show (si.w ++ [p]).length = si.w.length + 1 by simp] at hv'
        subst hv'
        have g3' : Fr (fun k => wv.ownBlock = some k) W2 W3 := (((Fr.refl _ _).drew).alloc _).trans g3 fun _ _ h => h
        have k1 := h1.fr g3' (fun e => hnw _ e rfl)
        obtain ⟨⟨x0, x1, x2, x3, x4⟩, y0, y1, y2, y3, y4⟩ := own5 k1
        have hlt0 := h1.lt
        have hlb := hb.lt
        subst hwv
        have H := Lib.hid (And.intro h1 (And.intro h2 (And.intro h3 (And.intro h4 (And.intro h5 (And.intro h6 (And.intro hnl (And.intro hnw (And.intro hmw (And.intro o3 (And.intro p3 (And.intro k1 g3'))))))))))))
        clear h1 h2 h3 h4 h5 h6 hnl hnw hmw o3 p3 k1 g3' g3 hNB hb
        go_wp2_with fail
        go_region_law (first | (refine step_append_run rfl (.tmp 37) (.tmp 39) 22 rfl ?ev1 ?ev2 hr ?_; (case ev1 => simp [Act.eval, Act.put]); (case ev2 => simp [Act.eval, Act.put])))
        all_goals (
          obtain ⟨h1, h2, h3, h4, h5, h6, hnl, hnw, hmw, o3, p3, k1, g3'⟩ := H.out
          clear H
          rename_i ha
          refine ha _ _ ?_
          clear ha
          refine wp_world (fun W4 => ∃ X2, NetB W4 n X2 (si.one p) ∧ Fr X' W2 W4 ∧ ∀ k, X2 k → X' k ∨ W2.heap.size ≤ k) ?_ ?_
          · rw [HONE.out.1]
            refine netB_of (z := z) (w := W2) (s := { si with sent := si.sent + 1, w := si.w ++ [p] }) (k1.put rfl) ?_ ?_ ?_ h5 h6 hxlt ?_ (fun k hk => .inl ((h6 k).2 (.inr (.inr (.inl hk))))) ?_ ?_
            · refine h2.fr ((g3'.mono (G := fun k => k = n ∨ (Value.slice A si.w.length cap).ownBlock = some k) fun _ h => .inr h).set (fun _ => .inl rfl) _) ?_
              rintro k hk (e | e)
              · exact hnl k hk e
              · exact h5 k hk e
            · refine p3.fr (Fr.set (F := fun k => k = n) (Fr.refl _ _) (p := ⟨n, 1, none⟩) (fun _ => rfl) _) ?_
              intro k hk e
              subst e
              obtain ⟨cur, hb⟩ := p3.row hk
              rw [show W3.heap[k]? = _ from k1] at hb
              cases hb
            · refine h4.fr ((g3'.mono (G := fun k => k = n ∨ (Value.slice A si.w.length cap).ownBlock = some k) fun _ h => .inr h).set (fun _ => .inl rfl) _) ?_
              rintro (e | e)
              · exact hnm e.symm
              · exact hmw m e rfl
            · intro k hk e
              rcases o3 with e2 | ⟨k2, e2, hk2⟩
              · exact h5 k hk (e2 ▸ e)
              · rw [e] at e2
                have := hxlt k ((h6 k).2 (.inr (.inr (.inl hk))))
                cases e2
                have h9 : W2.heap.size ≤ k := Nat.le_trans (by simp) hk2
                omega
            · intro k hk
              rcases o3 with e2 | ⟨k2, e2, hk2⟩
              · exact .inl ((h6 k).2 (.inr (.inr (.inr (e2 ▸ hk)))))
              · rw [hk] at e2
                cases e2
                exact .inr (Nat.le_trans (by simp) hk2)
            · have g6 : Fr (fun k => k = n ∨ (Value.slice A si.w.length cap).ownBlock = some k) W2 (W3.setCell ⟨n, 1, none⟩ (.slice A' (si.w.length + 1) cap')) := (g3'.mono (G := fun k => k = n ∨ (Value.slice A si.w.length cap).ownBlock = some k) fun _ h => .inr h).set (fun _ => .inl rfl) _
              refine g6.mono ?_
              rintro k (e | e)
              · exact (h6 k).2 (.inl e)
              · exact (h6 k).2 (.inr (.inr (.inr e)))
          clear x0 x1 x2 x3 x4 y0 y1 y2 y3 y4 k1 g3' p3 hr c0 c1 c2 c3 c4 f0 f1 f2 f3 f4 h2 h3 h4 o3 h1
          rintro W4 hst
          go_wp2_with fail
          obtain ⟨hone, honeN⟩ := HONE.out
          have hle := si.one_le p hl'
          refine ⟨⟨i + 1, k, si.one p, by simp, by simp, by omega, by omega, NetTo.of hf2 hX2 hst, hle.1, by omega, by omega, by rw [hle.2.2.2.1, HT.out]; omega, ?_⟩, by simp [intOf]; omega⟩
          show _ = _
          rw [HS.out, HD.out]
          simp only [NetV.send, honeN]
          rw [Nat.zero_add])
      | false =>
        have hone : si.one p = ({ si with sent := si.sent + 1 } : NetV).push p := if_neg (of_decide_eq_false HCW.out)
        have honeN : si.oneN p = 1 := if_neg (of_decide_eq_false HCW.out)
        have HP := Lib.hid (push_any (p := p) hNB hl' (by show si.lost ≤ _; omega))
        have HONE := Lib.hid (And.intro hone honeN)
        clear h1 h2 h3 h4 h5 h6 hNB hone honeN
        go_wp2_with fail
        refine HP.out.mono ?_
        rintro e W3 ⟨rfl, hst⟩
        go_wp2_with fail
        obtain ⟨hone, honeN⟩ := HONE.out
        rw [← hone] at hst
        have hle := si.one_le p hl'
        refine ⟨⟨i + 1, k + 1, si.one p, by simp, by simp, by omega, by omega, NetTo.of hf2 hX2 hst, hle.1, by omega, by omega, by rw [hle.2.2.2.1, HT.out]; omega, ?_⟩, by simp [intOf]; omega⟩
        show _ = _
        rw [HS.out, HD.out]
        simp only [NetV.send, honeN]
        rw [Nat.add_assoc]
    · have hil : i = l.length := by omega
      subst hil
      have hge : ¬ ((l.length : Int) < (l.length : Int)) := by omega
      have hS : s.send l = (si, k) := by rw [HS.out]; simp [NetV.send]
      have HN := Lib.hid (show NetTo w X n _ si from ⟨X', h, hf, hX⟩)
      have HS' := Lib.hid hS
      clear h hf hX hS HS
      go_wp2
      go_ret
      rw [HS'.out]
      exact ⟨rfl, HN.out⟩
end Go.Proofs.Ytleagdnlgjpcgaa
