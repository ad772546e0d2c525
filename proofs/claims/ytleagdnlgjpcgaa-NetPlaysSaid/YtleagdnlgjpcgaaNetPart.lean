/- A way is cut, whatever is under way. -/
import Derived.Test.YtleagdnlgjpcgaaNetAwake
import Derived.Test.YtleagdnlgjpcgaaRounds
namespace Go.Proofs.Ytleagdnlgjpcgaa
open Go.RowKit Go.Maps Go.Shelf
set_option linter.unusedVariables false
set_option linter.unusedSimpArgs false
attribute [local go_sem] Oper.semAt_some

/-- Is a packet on the way between two? -/
def onWay (a b : Int) (p : Pkt) : Bool := decide (min p.f p.t = min a b ∧ max p.f p.t = max a b)
def NetV.part (s : NetV) (a b : Int) : NetV := { s with l := s.l.filter fun p => !onWay a b p, w := s.w ++ s.l.filter (onWay a b), c := (min a b, max a b) :: s.c }
def mvs (a b : Int) (pre : List (Nat × Pkt)) : List Pkt := (pre.map Prod.snd).filter (onWay a b)
def kps (a b : Int) (pre : List (Nat × Pkt)) : List Pkt := (pre.map Prod.snd).filter fun p => !onWay a b p
theorem pairs_all (l : List Pkt) : (pairs l l.length).map Prod.snd = l := by
  unfold pairs
  rw [List.map_map]
  apply List.ext_getElem
  · simp
  · intro i h1 h2
    simp [List.getElem?_eq_getElem h2]
theorem KeepC.of_fr {RS : Addr → Prop} {G : Nat → Prop} {W W' : World} (f : Fr G W W') (h : ∀ a, RS a → ¬ G a.block) : KeepC RS W W' := fun a v r e =>
  (World.cell?_of_block (f.block a.block (World.block_lt_of_cell? W a e) (h a r))).trans e
theorem keepsFrom_fr {B : Nat} {G : Nat → Prop} {W W' : World} (f : Fr G W W') (h : ∀ k o, B ≤ k → G k → W.heap[k]? = some o → o.isCells = true) : KeepsFrom B W W' :=
  ⟨f.size, fun k o hB hk ho => (f.block k (Array.getElem?_eq_some_iff.1 hk).1 (fun g => by rw [h k o hB g hk] at ho; cases ho)).trans hk⟩
/-- What the loop of Cut keeps. -/
def CutI (w : World) (X : Nat → Prop) (n m z bB bW bL : Nat) (C : List (Int × Int)) (lv : Value) (s : NetV) (a b : Int) (pre : List (Nat × Pkt)) (W : World) : Prop :=
  ∃ lw wv, Own W n 55 #[lv, wv, .map (some m), .int .i64 s.sent, .int .i64 s.lost] ∧ PkL W lv s.l ∧ PkL W wv (s.w ++ mvs a b pre) ∧ MapF Try.prog 57 W m z (wayM C) ∧
    Own W bB 23 #[.pointer (some ⟨n, 0, none⟩)] ∧ Own W bW 57 #[.int .i64 (min a b), .int .i64 (max a b)] ∧ Own W bL 22 #[lw] ∧ PkL W lw (kps a b pre) ∧
    (∀ k, lv.ownBlock = some k → wv.ownBlock ≠ some k) ∧ (∀ k, lw.ownBlock = some k → bL + 1 < k ∧ wv.ownBlock ≠ some k) ∧ (∀ k, wv.ownBlock = some k → X k ∨ bL + 1 < k) ∧ bL + 1 < W.heap.size ∧ Fr X w W
theorem wpIn_act {c : Code} {F : Fence} {n : Nat} {P : Program} {Q : Exit → Act → World → Prop} {a : Act} {w : World} (k : ∀ a', a' = a → c.wpIn F n P Q a' w) : c.wpIn F n P Q a w := k a rfl
theorem cells_not {W : World} {k : Nat} {cur : Array Value} {t : TypeId} {z : Nat × Nat} (h : W.heap[k]? = some (.cells cur t z)) (h2 : ∃ o : Obj, W.heap[k]? = some o ∧ o.isCells = false) : False := by
  obtain ⟨o, ho, hc⟩ := h2
  rw [h] at ho
  cases ho
  cases hc
theorem CutI.grown {w : World} {X : Nat → Prop} {n m z bB bW bL B : Nat} {C : List (Int × Int)} {lv : Value} {s : NetV} {a b : Int} (hB : w.heap.size ≤ B) (hm : m < B) : OwnFrom B (CutI w X n m z bB bW bL C lv s a b) := by
  intro pre W W' row h hg hr
  obtain ⟨lw, wv, h1, h2, h3, h4, h5, h6, h7, h8, h9, h10, h11, h13, h12⟩ := h
  have f := fr_of_grown' hg
  have hn : ∀ {k : Nat} {cur : Array Value} {t : TypeId} {z : Nat × Nat}, W.heap[k]? = some (.cells cur t z) → ¬ row = some k := fun hk e => cells_not hk (hr _ e).2
  exact ⟨lw, wv, h1.fr f (hn h1), h2.fr f (fun k hk => by obtain ⟨cur, hh⟩ := h2.row hk; exact hn hh), h3.fr f (fun k hk => by obtain ⟨cur, hh⟩ := h3.row hk; exact hn hh), h4.fr f (fun e => by have := (hr _ e).1; omega),
    h5.fr f (hn h5), h6.fr f (hn h6), h7.fr f (hn h7), h8.fr f (fun k hk => by obtain ⟨cur, hh⟩ := h8.row hk; exact hn hh), h9, h10, h11, Nat.lt_of_lt_of_le h13 f.size, h12.trans f fun i hi e => by have := (hr _ e).1; omega⟩
set_option maxRecDepth 100000 in
set_option maxHeartbeats 4000000 in
theorem cut_any {w : World} {n : Nat} {X : Nat → Prop} {s : NetV} {a b : Int} (ha : (Lit.int .i64 a).wf = true) (hb : (Lit.int .i64 b).wf = true) (h : NetB w n X s) (hl : s.l.length ≤ 4096) (hw : s.w.length + s.l.length ≤ 100000) :
    Calls Try.prog 8 #[.pointer (some ⟨n, 0, none⟩), .int .i64 a, .int .i64 b] w fun e W => e = .returned (.int .i64 ((s.l.filter (onWay a b)).length : Nat)) ∧ NetTo w X n W (s.part a b) := by
  obtain ⟨z1, hz1⟩ := way_key (a := min a b) (b := max a b) (by rcases Int.le_total a b with e | e <;> simp [Int.min_eq_left, Int.min_eq_right, e, ha, hb]) (by rcases Int.le_total a b with e | e <;> simp [Int.max_eq_left, Int.max_eq_right, e, ha, hb])
  refine (callsIn_wide (n := 4)).1 ?_
  refine callsIn_of_wp_marks Try.func8 rfl trivial ?_
  simp only [Try.ntmps8, List.size_toArray, List.length_cons, List.length_nil, Nat.reduceAdd, Nat.reduceSub, Array.replicate_succ, Array.replicate_zero, List.push_toArray, List.append_toArray, List.nil_append, List.cons_append]
  refine wpIn_wide.2 ?_
  go_wp2_with fail
  refine calls_world (fun W => NetB W n X s ∧ Own W w.heap.size 23 #[.pointer (some ⟨n, 0, none⟩)] ∧ New w W) ⟨h.new_ ((Fr.refl _ _).alloc _), Own.fresh _ _ _, (Fr.refl _ _).alloc _⟩ ?_
  have hXlt := fun k hk => h.lt (k := k) hk
  clear h
  rintro W1 ⟨h, ob, hN⟩
  refine between_any.mono ?_
  rintro e W2 ⟨rfl, g2⟩
  replace h := h.new_ g2
  replace ob := ob.new_ g2
  replace hN := hN.new_ g2
  go_wp2_with fail
  refine wp_world (fun W => NetB W n X s ∧ Own W w.heap.size 23 #[.pointer (some ⟨n, 0, none⟩)] ∧ Own W W2.heap.size 57 #[.int .i64 (min a b), .int .i64 (max a b)] ∧ New w W) ⟨h.new_ ((Fr.refl _ _).alloc _), ob.alloc _, Own.fresh _ _ _, hN.alloc _⟩ ?_
  have hbw : w.heap.size < W2.heap.size := ob.lt
  clear h ob hN g2
  rintro W3 ⟨h, ob, ow, hN⟩
  obtain ⟨lv, wv, m, z, h1, h2, h3, h4, h5, h6⟩ := h
  have hnm : n ≠ m := fun e => by subst e; obtain ⟨es, ck, hb, _⟩ := h4; rw [show W3.heap[n]? = _ from h1] at hb; cases hb
  have hml : ∀ k, lv.ownBlock = some k → k ≠ m := fun k hk e => by subst e; obtain ⟨cur, hb⟩ := h2.row hk; obtain ⟨es, ck, hb2, _⟩ := h4; rw [hb] at hb2; cases hb2
  have hmw : ∀ k, wv.ownBlock = some k → k ≠ m := fun k hk e => by subst e; obtain ⟨cur, hb⟩ := h3.row hk; obtain ⟨es, ck, hb2, _⟩ := h4; rw [hb] at hb2; cases hb2
  have hmx : m < w.heap.size := hXlt m ((h6 m).2 (.inr (.inl rfl)))
  obtain ⟨⟨c0, c1, c2, c3, c4⟩, f0, f1, f2, f3, f4⟩ := own5 h1
  have d0 : W3.cell? ⟨w.heap.size, 0, none⟩ = some (.pointer (some ⟨n, 0, none⟩)) := ob.cell 0
  have e0 : W3.cell? ⟨W2.heap.size, 0, none⟩ = some (.int .i64 (min a b)) := ow.cell 0
  have e1 : W3.cell? ⟨W2.heap.size, 1, none⟩ = some (.int .i64 (max a b)) := ow.cell 1
  have H := Lib.hid (And.intro h1 (And.intro h2 (And.intro h3 (And.intro h4 (And.intro h5 (And.intro h6 (And.intro hml (And.intro hmw (And.intro ob (And.intro ow (And.intro hN hz1)))))))))))
  clear h1 h2 h3 h4 h5 h6 hN ob ow hml hmw hz1
  go_wp2_with fail
  apply wp_region_cut 5; (focus (simp only [List.take_succ_cons, List.take_zero]; exact rfl)); (focus (simp only [List.drop_succ_cons, List.drop_zero]; exact rfl)); (focus kernel_rfl); (focus kernel_rfl); (focus kernel_rfl); (focus kernel_rfl); (focus kernel_rfl); (focus kernel_rfl); (repeat (first | go_big_quiet_step (fail) | quiet_step (fail))); refine wpQuiet_nil ?_; rintro _ ⟨nq, rfl⟩ _ _
  obtain ⟨h1, h2, h3, h4, h5, h6, hml, hmw, ob, ow, hN, hz1⟩ := H.out
  obtain ⟨W4, hput, m4, g4⟩ := (h4.fr (((Fr.refl _ _).drewN nq)) (G := fun _ => False) (fun g => g)).put (x := wayV (min a b) (max a b)) (v := .bool true) way_keyed Try.underlying53 hz1
  replace g4 : Fr (fun k => k = m) W3 W4 := (((Fr.refl _ _).drewN nq).trans (fr_of_grown' g4) fun k _ e => by injection e with e; exact e.symm)
  replace m4 := m4.congr (wayM_upd s.c (min a b) (max a b))
  have k1 := h1.fr g4 hnm
  have k2 := h2.fr g4 hml
  have k3 := h3.fr g4 hmw
  have kb := ob.fr g4 (by omega)
  have kw := ow.fr g4 (by omega)
  clear H h1 h2 h3 h4 ob ow c0 c1 c2 c3 c4 f0 f1 f2 f3 f4 d0 e0 e1
  refine oper_mapUpdate_run (.tmp 20) (.tmp 21) (.const (.bool true)) 53 rfl ?em ?ex ?ev hput ?_
  case em => simp [Act.eval]
  case ex => simp [Act.eval]
  case ev => simp [Act.eval]
  rename_i ha2
  refine ha2 _ _ ?_
  clear ha2
  obtain ⟨A, cap, hwv⟩ := k3.form
  subst hwv
  obtain ⟨⟨c0, c1, c2, c3, c4⟩, f0, f1, f2, f3, f4⟩ := own5 k1
  have d0 : W4.cell? ⟨w.heap.size, 0, none⟩ = some (.pointer (some ⟨n, 0, none⟩)) := kb.cell 0
  have n1 := k1.lt
  have n2 := kb.lt
  have H := Lib.hid (And.intro h5 (And.intro h6 (And.intro hml (And.intro hmw (And.intro hN (And.intro g4 (And.intro m4 (And.intro k1 (And.intro k2 (And.intro k3 (And.intro kb kw)))))))))))
  clear h5 h6 hml hmw hN g4 m4 k1 k2 k3 kb kw hput hz1
  go_wp2_with fail
  obtain ⟨h5, h6, hml, hmw, hN, g4, m4, k1, k2, k3, kb, kw⟩ := H.out
  clear H c0 c1 c2 c3 c4 f0 f1 f2 f3 f4 d0
  have hW34 := hN.size
  have hxn : X n := (h6 n).2 (.inl rfl)
  have hxm : X m := (h6 m).2 (.inr (.inl rfl))
  have gX : Fr X w W4 := Fr.trans (F := X) (hN.mono fun _ g => g.elim) g4 fun k _ e => e ▸ hxm
  have hBW : W2.heap.size < W4.heap.size := kw.lt
  obtain ⟨C, hC⟩ : ∃ C, C = (min a b, max a b) :: s.c := ⟨_, rfl⟩
  rw [← hC] at m4
  generalize (if (wayM s.c (wayV (min a b) (max a b))).isSome = true then z else z + 1) = z2 at m4
  refine calls_world (fun W => W.heap.size = W4.heap.size + 1 ∧ Own W n 55 #[lv, .slice A s.w.length cap, .map (some m), .int .i64 s.sent, .int .i64 s.lost] ∧ PkL W lv s.l ∧ PkL W (.slice A s.w.length cap) s.w ∧ MapF Try.prog 57 W m z2 (wayM C) ∧
      Own W w.heap.size 23 #[.pointer (some ⟨n, 0, none⟩)] ∧ Own W W2.heap.size 57 #[.int .i64 (min a b), .int .i64 (max a b)] ∧ Own W W4.heap.size 22 #[.slice none 0 0] ∧ Fr X w W)
    ⟨by simp, k1.alloc _, k2.fr ((Fr.refl _ _).alloc _) (G := fun _ => False) (fun _ _ g => g), k3.fr ((Fr.refl _ _).alloc _) (G := fun _ => False) (fun _ _ g => g), m4.fr ((Fr.refl _ _).alloc _) (G := fun _ => False) (fun g => g), kb.alloc _, kw.alloc _, Own.fresh _ _ _, gX.alloc _⟩ ?_
  clear k1 k2 k3 m4 kb kw gX g4 hN
  rintro W5 ⟨hsz5, k1, k2, k3, m4, kb, kw, kl, gX⟩
  refine all_fn.mono ?_
  rintro e W6 ⟨rfl, hW6⟩
  replace k1 : Own W6 _ _ _ := hW6 ▸ k1.alloc _
  replace k2 : PkL W6 _ _ := hW6 ▸ k2.fr ((Fr.refl _ _).alloc _) (G := fun _ => False) (fun _ _ g => g)
  replace k3 : PkL W6 _ _ := hW6 ▸ k3.fr ((Fr.refl _ _).alloc _) (G := fun _ => False) (fun _ _ g => g)
  replace m4 : MapF _ _ W6 _ _ _ := hW6 ▸ m4.fr ((Fr.refl _ _).alloc _) (G := fun _ => False) (fun g => g)
  replace kb : Own W6 _ _ _ := hW6 ▸ kb.alloc _
  replace kw : Own W6 _ _ _ := hW6 ▸ kw.alloc _
  replace kl : Own W6 _ _ _ := hW6 ▸ kl.alloc _
  have ks : Own W6 W5.heap.size 23 #[.pointer (some ⟨n, 0, none⟩)] := hW6 ▸ Own.fresh _ _ _
  replace gX : Fr X w W6 := hW6 ▸ gX.alloc _
  have hsz6 : W6.heap.size = W4.heap.size + 2 := by rw [hW6]; simp [hsz5]
  rw [hsz5] at ks ⊢
  clear hW6 hsz5 W5
  have H := Lib.hid (And.intro h5 (And.intro h6 (And.intro hml (And.intro hmw (And.intro k1 (And.intro k2 (And.intro k3 (And.intro m4 (And.intro kb (And.intro kw (And.intro kl (And.intro ks gX))))))))))))
  clear h5 h6 hml hmw k1 k2 k3 m4 kb kw kl ks gX
  go_wp2_with fail
  refine (wpIn_wide (n := 4)).1 ?_
  obtain ⟨h5, h6, hml, hmw, k1, k2, k3, m4, kb, kw, kl, ks, gX⟩ := H.out
  clear H
  obtain ⟨A1, cap1, hlv⟩ := k2.form
  subst hlv
  have hnx : n < w.heap.size := hXlt n hxn
  have hlx : ∀ k, (Value.slice A1 s.l.length cap1).ownBlock = some k → k < w.heap.size := fun k hk => hXlt k ((h6 k).2 (.inr (.inr (.inl hk))))
  obtain ⟨RS, hRS⟩ : ∃ RS : Addr → Prop, RS = fun ad => ad = ⟨W4.heap.size + 1, 0, none⟩ ∨ ad = ⟨n, 0, none⟩ ∨ ∃ k i, (Value.slice A1 s.l.length cap1).ownBlock = some k ∧ ad = ⟨k, i, none⟩ := ⟨_, rfl⟩
  have hRSlt : ∀ ad, RS ad → ad.block < W6.heap.size := by
    intro ad h
    rw [hRS] at h
    rcases h with e | e | ⟨k, i, hk, e⟩
    · rw [e]; show W4.heap.size + 1 < _; omega
    · rw [e]; show n < _; omega
    · rw [e]; have := hlx k hk; show k < _; omega
  have hseq := all_stops (W4.heap.size + 1) n cap1 A1 s.l RS hl W6 (by rw [hRS]; exact .inl rfl) (by rw [hRS]; exact .inr (.inl rfl)) (fun sb so e i => by rw [hRS]; exact .inr (.inr ⟨sb, i, by rw [e]; rfl, rfl⟩)) (by omega) (by omega)
    (fun ad e => by have := hlx ad.block (by rw [e]; rfl); omega) (ks.cell 0) (k1.cell 0) k2.cells 3 (by omega)
  have hI0 : CutI w X n m z2 w.heap.size W2.heap.size W4.heap.size C (.slice A1 s.l.length cap1) s a b [] W6 :=
    ⟨.slice none 0 0, .slice A s.w.length cap, k1, k2, by simpa [mvs] using k3, m4, kb, kw, kl, PkL.nil _, h5, (fun k hk => by cases hk), (fun k hk => .inl ((h6 k).2 (.inr (.inr (.inr hk))))), (by omega), gX⟩
  have hmB : m < W6.heap.size := by omega
  have hwB : w.heap.size ≤ W6.heap.size := gX.size
  refine wpIn_act fun aa haa => ?_
  clear k1 k2 k3 m4 kb kw kl ks gX
  refine wpIn_rangeFunc_ownH (w0 := W6) rfl (by omega) (by rw [haa]; rfl) trivial (enters_of Try.func32 (by kernel_rfl) rfl) hseq (fun h k => h.trans k)
    (fun W l o o' hl ho _ _ => KeepC.of_fr (fr_of_grown' (grownBy_putObj' W l o')) fun ad h e => by have := hRSlt ad h; injection e with e; omega) (Below.refl _ _) (fun _ => rfl)
    (CutI w X n m z2 w.heap.size W2.heap.size W4.heap.size C (.slice A1 s.l.length cap1) s a b) (fun _ _ _ => False) (CutI.grown hwB hmB) (fun _ _ _ _ _ h _ _ => h) hI0
    (fun x a' W => ∃ Bx, W4.heap.size < Bx ∧ Own W Bx 26 #[.int .i64 x.2.f, .int .i64 x.2.t, .string x.2.s] ∧ a' = { tmps := ((aa.tmps.setIfInBounds 29 (.int .i64 (x.1 : Int))).setIfInBounds 30 x.2.v).setIfInBounds 11 (.pointer (some ⟨Bx, 0, none⟩)), defers := [] })
    (fun x a' _ W W' row h hg hr => ?ax) ?assign ?body ?done (fun _ _ _ _ _ _ h _ => h.elim)
  case ax =>
    obtain ⟨Bx, e1, e2, e3⟩ := h
    exact ⟨Bx, e1, e2.fr (fr_of_grown' hg) (fun e => cells_not e2 (hr _ e).2), e3⟩
  case assign =>
    rintro l pre x W K hI hK
    subst haa
    gi_wp2
    have hsz : W4.heap.size < W.heap.size := by
      obtain ⟨lw, wv, q1, q2, q3, q4, q5, q6, q7, _⟩ := hI
      exact q7.lt
    exact hK _ _ ((KeepsOthers.alloc _ _).from _) (KeepC.of_fr ((Fr.refl _ _).alloc _) (G := fun _ => False) fun _ _ h => h) ((CutI.grown hwB hmB).alloc _ hI) ⟨W.heap.size, hsz, Own.fresh _ _ _, by simp⟩
  case body =>
    rintro l pre x a' W hl hloop hI ⟨Bx, hBx, bX, rfl⟩ hlen
    subst haa
    obtain ⟨lw, wv, k1, k2, k3, k4, k5, k6, k7, k8, k9, k10, k11, k13, k12⟩ := hI
    obtain ⟨A2, cap2, hwv⟩ := k3.form
    obtain ⟨A3, cap3, hlw⟩ := k8.form
    subst hwv
    subst hlw
    simp only [List.setIfInBounds_toArray, List.set_cons_zero, List.set_cons_succ]
    obtain ⟨M0, M1, M2⟩ := bX.nw3
    obtain ⟨w0, w1⟩ := k6.nw2
    have B1 := fun (y : Nx W) => Calls.nw_of (between_any (w := nw W y) (a := x.2.f) (b := x.2.t))
    have H := Lib.hid (And.intro k1 (And.intro k2 (And.intro k3 (And.intro k4 (And.intro k5 (And.intro k6 (And.intro k7 (And.intro k8 (And.intro k9 (And.intro k10 (And.intro k11 (And.intro k12 bX))))))))))))
    clear k1 k2 k3 k4 k5 k6 k7 k8 k9 k10 k11 k12 bX
    gi_wp2
    refine wpIn_region_new_lit (by kernel_rfl) (by kernel_rfl) (by kernel_rfl) (fun ⟨_, _, h⟩ => h) ?_
    repeat (any_goals (first | go_big_quiet_step ((go_at_call 23; with_reducible exact B1 _)) | quiet_step ((go_at_call 23; with_reducible exact B1 _))))
    refine wpQuiet_step (fun K hK => ?_)
    go_simp
    refine ⟨.bool (onWay a b x.2), fun y => ?_, ?_⟩
    · unfold onWay
      by_cases e1 : min x.2.f x.2.t = min a b
      · by_cases e2 : max x.2.f x.2.t = max a b
        · simp [e1, e2]
        · simp [e1, e2]
      · simp [e1]
    refine hK _ ?_
    clear hK K
    refine wpQuiet_nil ?_
    rintro _ ⟨xq, rfl⟩
    have hnq := nw_new _ xq
    obtain ⟨Wq, hWq⟩ : ∃ W', W' = nw W xq := ⟨_, rfl⟩
    rw [← hWq] at hnq ⊢
    clear hWq xq M0 M1 M2 w0 w1 B1
    rename_i ha
    refine ha _ _ ?_
    clear ha
    obtain ⟨k1, k2, k3, k4, k5, k6, k7, k8, k9, k10, k11, k12, bX⟩ := H.out
    clear H
    have K1 := k1
    have K3 := k3
    have K8 := k8
    have hnqs := hnq.size
    replace k1 := k1.new_ hnq
    replace k2 := k2.fr hnq fun _ _ g => g
    replace k3 := k3.fr hnq fun _ _ g => g
    replace k4 := k4.fr hnq fun g => g
    replace k5 := k5.new_ hnq
    replace k6 := k6.new_ hnq
    replace k7 := k7.new_ hnq
    replace k8 := k8.fr hnq fun _ _ g => g
    replace k12 := k12.new_ hnq
    replace bX := bX.new_ hnq
    cases hw1 : onWay a b x.2
    · refine wpIn_cond (t := false) (by simp [Act.eval]) ?_
      rw [if_neg (by simp)]
      refine wpIn_region_plain (by kernel_rfl) (fun ⟨_, _, h⟩ => h) ?_
      have hkl : (kps a b pre).length ≤ 100000 := by
        have := List.length_filter_le (fun p => !onWay a b p) (pre.map Prod.snd)
        simp only [List.length_map] at this
        unfold kps
        omega
      obtain ⟨v7, W7, hr, p7, g7, o7⟩ := append_pk (W := Wq.alloc (.cells #[.int .i64 x.2.f, .int .i64 x.2.t, .string x.2.s] 26)) (blk := Wq.heap.size) (l := kps a b pre) (p := x.2) (k8.fr ((Fr.refl _ _).alloc _) (G := fun _ => False) (fun _ _ g => g)) hkl (Own.new' (by simp))
      have g7' : Fr (fun k => (Value.slice A3 (kps a b pre).length cap3).ownBlock = some k) Wq W7 := ((Fr.refl _ _).alloc _).trans g7 fun _ _ h => h
      have b7 := k7.fr g7' fun e => by have := (k10 _ e).1; omega
      have c7 : Wq.cell? ⟨W4.heap.size, 0, none⟩ = some (.slice A3 (kps a b pre).length cap3) := k7.cell 0
      have f7 : W7.frozen? ⟨W4.heap.size, 0, none⟩ = false := b7.free 0
      obtain ⟨A7, cap7, hv7⟩ := p7.form
      rw [show (kps a b pre ++ [x.2]).length = (kps a b pre).length + 1 by simp] at hv7
      subst hv7
      have d7 : W7.cell? ⟨W4.heap.size, 0, none⟩ = some (.slice A3 (kps a b pre).length cap3) := b7.cell 0
      obtain ⟨⟨x0, x1, x2⟩, -⟩ := own3c bX
      go_wp2_with (at_builtin; refine wpList_append_run rfl (.tmp 48) (.tmp 50) 22 rfl rfl rfl hr ?_)
      clear x0 x1 x2 c7 f7 d7 hr
      obtain ⟨W8, hW8⟩ : ∃ W8, W8 = W7.setCell ⟨W4.heap.size, 0, none⟩ (.slice A7 ((kps a b pre).length + 1) cap7) := ⟨_, rfl⟩
      rw [← hW8]
      have f8 : Fr (fun k => k = W4.heap.size) W7 W8 := by rw [hW8]; exact Fr.set (F := fun k => k = W4.heap.size) (Fr.refl _ _) (p := ⟨W4.heap.size, 0, none⟩) (fun _ => rfl) _
      have b8 : Own W8 _ _ _ := hW8 ▸ b7.put rfl
      have fQ : Fr (fun k => k = W4.heap.size ∨ (Value.slice A3 (kps a b pre).length cap3).ownBlock = some k) Wq W8 := (g7'.mono fun _ h => .inr h).trans f8 fun _ _ h => .inl h
      have fG : Fr (fun k => k = W4.heap.size ∨ (Value.slice A3 (kps a b pre).length cap3).ownBlock = some k) W W8 := (hnq.mono fun _ h => h.elim).trans fQ fun _ _ h => h
      have e1 : kps a b (pre ++ [x]) = kps a b pre ++ [x.2] := by simp [kps, List.filter_cons, hw1]
      have e2 : mvs a b (pre ++ [x]) = mvs a b pre := by simp [mvs, List.filter_cons, hw1]
      have o8 : ∀ k, (Value.slice A7 ((kps a b pre).length + 1) cap7).ownBlock = some k → W4.heap.size + 1 < k ∧ (Value.slice A2 (s.w ++ mvs a b pre).length cap2).ownBlock ≠ some k := by
        intro k hk
        rcases o7 with e | ⟨k', e, hk'⟩
        · exact k10 k (e ▸ hk)
        · rw [hk] at e
          cases e
          have h1 : Wq.heap.size ≤ k := by simp at hk'; omega
          exact ⟨by omega, fun e => by have := k3.lt e; omega⟩
      refine ⟨keepsFrom_fr fG ?_, KeepC.of_fr fG ?_, _, _, k1.fr fQ ?_, k2.fr fQ ?_, (e2 ▸ k3.fr fQ ?_), k4.fr fQ ?_, k5.fr fQ ?_, k6.fr fQ ?_, b8, (e1 ▸ p7.fr f8 ?_), k9, o8, k11, by have := fG.size; omega, k12.trans fQ ?_⟩
      · rintro k o hB (e | e) ho
        · omega
        · obtain ⟨cur, hh⟩ := K8.row e
          rw [hh] at ho
          cases ho
          rfl
      · intro ad hR
        rw [hRS] at hR
        rintro (e | e)
        · rcases hR with e2 | e2 | ⟨k, i, hk, e2⟩
          · rw [e2] at e; exact absurd e (by show ¬ W4.heap.size + 1 = W4.heap.size; omega)
          · rw [e2] at e; exact absurd e (by show ¬ n = W4.heap.size; omega)
          · rw [e2] at e; have := hlx k hk; exact absurd e (by show ¬ k = W4.heap.size; omega)
        · have := (k10 _ e).1
          rcases hR with e2 | e2 | ⟨k, i, hk, e2⟩
          · rw [e2] at this; exact absurd this (by show ¬ W4.heap.size + 1 < W4.heap.size + 1; omega)
          · rw [e2] at this; exact absurd this (by show ¬ W4.heap.size + 1 < n; omega)
          · rw [e2] at this; have := hlx k hk; exact absurd ‹W4.heap.size + 1 < _› (by show ¬ W4.heap.size + 1 < k; omega)
      · rintro (e | e)
        · omega
        · have := (k10 _ e).1; omega
      · rintro k hk (e | e)
        · have := hlx k hk; omega
        · have := (k10 _ e).1; have := hlx k hk; omega
      · rintro k hk (e | e)
        · rcases k11 k hk with h | h
          · have := hXlt k h; omega
          · omega
        · exact (k10 _ e).2 hk
      · rintro (e | e)
        · omega
        · have := (k10 _ e).1; omega
      · rintro (e | e)
        · omega
        · have := (k10 _ e).1; omega
      · rintro (e | e)
        · omega
        · have := (k10 _ e).1; omega
      · intro k hk e
        have := (o8 k hk).1
        omega
      · rintro k hk (e | e)
        · omega
        · have := (k10 _ e).1; omega
    · refine wpIn_cond (t := true) (by simp [Act.eval]) ?_
      rw [if_pos (by simp)]
      obtain ⟨⟨x0, x1, x2⟩, -⟩ := own3c bX
      have cb : Wq.cell? ⟨w.heap.size, 0, none⟩ = some (.pointer (some ⟨n, 0, none⟩)) := k5.cell 0
      have cn : Wq.cell? ⟨n, 1, none⟩ = some (.slice A2 (s.w ++ mvs a b pre).length cap2) := k1.cell 1
      apply wpIn_region_partsH 8 (fun W' => W'.cell? ⟨w.heap.size, 0, none⟩ = some (.pointer (some ⟨n, 0, none⟩)) ∧ W'.cell? ⟨n, 1, none⟩ = some (.slice A2 (s.w ++ mvs a b pre).length cap2))
      case hp => simp only [List.take_succ_cons, List.take_zero]; exact rfl
      case hd => simp only [List.drop_succ_cons, List.drop_zero]; exact rfl
      case hm => kernel_rfl
      case hB => kernel_rfl
      case hT => kernel_rfl
      case hnd => kernel_rfl
      case hQ => exact fun ⟨_, _, h⟩ => h
      have hS0 : (Wq.drew.cell? ⟨w.heap.size, 0, none⟩ = some (.pointer (some ⟨n, 0, none⟩)) ∧ Wq.drew.cell? ⟨n, 1, none⟩ = some (.slice A2 (s.w ++ mvs a b pre).length cap2)) := ⟨cb, cn⟩
      refine wpAnyH_take (i := 0) (v := .pointer (some ⟨n, 0, none⟩)) rfl (by kernel_rfl) (by kernel_rfl) (by kernel_rfl) (fun _ _ _ h => h.elim) (.inl ⟨rfl, fun w' hS => ?t0⟩) hS0 ?_
      case t0 =>
        obtain ⟨s0, s1⟩ := hS
        go_simp
      refine wpAnyH_take (i := 1) (v := .pointer (some ⟨n, 0, none⟩)) rfl (by kernel_rfl) (by kernel_rfl) (by kernel_rfl) (fun _ _ _ h => h.elim) (.inl ⟨rfl, fun w' hS => ?t1⟩) hS0 ?_
      case t1 =>
        obtain ⟨s0, s1⟩ := hS
        go_simp
      refine wpAnyH_take (i := 2) (v := .pointer (some ⟨n, 0, none⟩)) rfl (by kernel_rfl) (by kernel_rfl) (by kernel_rfl) (fun _ _ _ h => h.elim) (.inl ⟨rfl, fun w' hS => ?t2⟩) hS0 ?_
      case t2 =>
        obtain ⟨s0, s1⟩ := hS
        go_simp
      refine wpAnyH_take (i := 3) (v := .pointer (some ⟨n, 1, none⟩)) rfl (by kernel_rfl) (by kernel_rfl) (by kernel_rfl) (fun _ _ _ h => h.elim) (.inl ⟨rfl, fun w' hS => ?t3⟩) hS0 ?_
      case t3 =>
        obtain ⟨s0, s1⟩ := hS
        go_simp
      refine wpAnyH_take (i := 4) (v := .slice A2 (s.w ++ mvs a b pre).length cap2) rfl (by kernel_rfl) (by kernel_rfl) (by kernel_rfl) (fun _ _ _ h => h.elim) (.inl ⟨rfl, fun w' hS => ?t4⟩) hS0 ?_
      case t4 =>
        obtain ⟨s0, s1⟩ := hS
        go_simp
      simp only [Act.put, List.setIfInBounds_toArray, List.set_cons_zero, List.set_cons_succ]
      refine wpAnyH_all (rs := [5]) (by kernel_rfl) (by simp) (fun i hi => ?_)
      rw [List.mem_singleton] at hi
      subst hi
      refine wpOp_step rfl (fun K hK => ?_)
      go_simp
      refine hK _ _ ⟨hS0, ?_⟩
      clear hK K
      refine wpAnyH_all (rs := [6]) (by kernel_rfl) (by simp) (fun i hi => ?_)
      rw [List.mem_singleton] at hi
      subst hi
      refine wpOp_step rfl (fun K hK => ?_)
      go_simp
      refine hK _ _ ⟨⟨((k5.drew).alloc _).cell 0, ((k1.drew).alloc _).cell 1⟩, ?_⟩
      clear hK K
      have hml : (s.w ++ mvs a b pre).length ≤ 100000 := by
        have := List.length_filter_le (onWay a b) (pre.map Prod.snd)
        simp only [List.length_map] at this
        unfold mvs
        rw [List.length_append]
        omega
      obtain ⟨v7, W7, hr, p7, g7, o7⟩ := append_pk (W := Wq.drew.alloc (.cells #[.int .i64 x.2.f, .int .i64 x.2.t, .string x.2.s] 26)) (blk := Wq.heap.size) (l := s.w ++ mvs a b pre) (p := x.2) (k3.fr (((Fr.refl _ _).drew).alloc _) (G := fun _ => False) (fun _ _ g => g)) hml (Own.new' (by simp))
      have g7' : Fr (fun k => (Value.slice A2 (s.w ++ mvs a b pre).length cap2).ownBlock = some k) Wq W7 := (((Fr.refl _ _).drew).alloc _).trans g7 fun _ _ h => h
      have hnn : ∀ k, (Value.slice A2 (s.w ++ mvs a b pre).length cap2).ownBlock = some k → k ≠ n ∧ k ≠ w.heap.size ∧ k ≠ W2.heap.size ∧ k ≠ W4.heap.size ∧ k ≠ W4.heap.size + 1 ∧ k ≠ m := fun k hk => by
        have h1 : k ≠ n := fun e => by
          obtain ⟨cur, hh⟩ := k3.row hk
          rw [e, show Wq.heap[n]? = _ from k1] at hh
          cases hh
        have h2 : k ≠ m := fun e => by
          obtain ⟨cur, hh⟩ := k3.row hk
          obtain ⟨es, ck, hb2, _⟩ := k4
          rw [e, hb2] at hh
          cases hh
        refine ⟨h1, ?_, ?_, ?_, ?_, h2⟩ <;> (rcases k11 k hk with h | h; (have := hXlt k h; omega); omega)
      have b7 := k5.fr g7' fun e => (hnn _ e).2.1 rfl
      have n7 := k1.fr g7' fun e => (hnn _ e).1 rfl
      obtain ⟨A7, cap7, hv7⟩ := p7.form
      rw [show (s.w ++ mvs a b pre ++ [x.2]).length = s.w.length + ((mvs a b pre).length + 1) by simp [Nat.add_assoc]] at hv7
      subst hv7
      refine wpAnyH_all (rs := [7]) (by kernel_rfl) (by simp) (fun i hi => ?_)
      rw [List.mem_singleton] at hi
      subst hi
      refine wpOp_step rfl (fun K hK => ?_)
      refine step_append_run rfl (.tmp 42) (.tmp 44) 22 rfl ?ev1 ?ev2 hr ?_
      case ev1 => simp [Act.eval]
      case ev2 => simp [Act.eval]
      refine hK _ _ ⟨⟨b7.cell 0, n7.cell 1⟩, ?_⟩
      clear hK K
      refine wpAnyH_done (by kernel_rfl) ?_ _
      obtain ⟨⟨c0, c1, c2, c3, c4⟩, f0, f1, f2, f3, f4⟩ := own5 n7
      have H := Lib.hid (And.intro g7' (And.intro o7 (And.intro hnn (And.intro n7 p7))))
      clear g7 g7' o7 hnn n7 p7 b7 hr
      unfold restQ
      go_simp
      go_wp2_with fail
      obtain ⟨g7, o7, hnn, n7, p7⟩ := H.out
      clear H c0 c1 c2 c3 c4 f0 f1 f2 f3 f4
      obtain ⟨W8, hW8⟩ : ∃ W8, W8 = W7.setCell ⟨n, 1, none⟩ (.slice A7 (s.w.length + ((mvs a b pre).length + 1)) cap7) := ⟨_, rfl⟩
      rw [← hW8]
      have f8 : Fr (fun k => k = n) W7 W8 := by rw [hW8]; exact Fr.set (F := fun k => k = n) (Fr.refl _ _) (p := ⟨n, 1, none⟩) (fun _ => rfl) _
      have n8 : Own W8 _ _ _ := hW8 ▸ n7.put rfl
      have fQ : Fr (fun k => k = n ∨ (Value.slice A2 (s.w ++ mvs a b pre).length cap2).ownBlock = some k) Wq W8 := (g7.mono fun _ h => .inr h).trans f8 fun _ _ h => .inl h
      have fG : Fr (fun k => k = n ∨ (Value.slice A2 (s.w ++ mvs a b pre).length cap2).ownBlock = some k) W W8 := (hnq.mono fun _ h => h.elim).trans fQ fun _ _ h => h
      have e1 : kps a b (pre ++ [x]) = kps a b pre := by simp [kps, List.filter_cons, hw1]
      have e2 : s.w ++ mvs a b (pre ++ [x]) = s.w ++ mvs a b pre ++ [x.2] := by simp [mvs, List.filter_cons, hw1]
      have o8 : ∀ k, (Value.slice A7 (s.w.length + ((mvs a b pre).length + 1)) cap7).ownBlock = some k → (X k ∨ W4.heap.size + 1 < k) ∧ k ≠ n ∧ (Value.slice A1 s.l.length cap1).ownBlock ≠ some k ∧ (Value.slice A3 (kps a b pre).length cap3).ownBlock ≠ some k := by
        intro k hk
        rcases o7 with e | ⟨k', e, hk'⟩
        · exact ⟨k11 k (e ▸ hk), (hnn k (e ▸ hk)).1, fun e3 => k9 k e3 (e ▸ hk), fun e3 => (k10 k e3).2 (e ▸ hk)⟩
        · rw [hk] at e
          cases e
          have h1 : Wq.heap.size ≤ k := by simp at hk'; omega
          exact ⟨.inr (by omega), by omega, fun e3 => by have := hlx k e3; omega, fun e3 => by have := k8.lt e3; omega⟩
      have hnl : ∀ k, (Value.slice A1 s.l.length cap1).ownBlock = some k → k ≠ n := fun k hk e => by
        obtain ⟨cur, hh⟩ := k2.row hk
        rw [e, show Wq.heap[n]? = _ from k1] at hh
        cases hh
      refine ⟨keepsFrom_fr fG ?_, ?_, _, _, n8, k2.fr fQ ?_, (by rw [e2]; exact p7.fr f8 fun k hk => (o8 k hk).2.1), k4.fr fQ ?_, k5.fr fQ ?_, k6.fr fQ ?_, k7.fr fQ ?_, (e1 ▸ k8.fr fQ ?_), fun k hk e => (o8 k e).2.2.1 hk, fun k hk => ⟨(k10 k hk).1, fun e => (o8 k e).2.2.2 hk⟩, fun k hk => (o8 k hk).1, by have := fG.size; omega, k12.trans fQ ?_⟩
      · rintro k o hB (e | e) ho
        · omega
        · obtain ⟨cur, hh⟩ := K3.row e
          rw [hh] at ho
          cases ho
          rfl
      · intro ad v hR hv
        by_cases hn0 : ad = ⟨n, 0, none⟩
        · subst hn0
          have e3 := K1.cell 0
          rw [show W.cell? ⟨n, 0, none⟩ = _ from e3] at hv
          rw [show W8.cell? ⟨n, 0, none⟩ = _ from n8.cell 0]
          simpa using hv
        · refine KeepC.of_fr (RS := fun a' => a' = ad) fG ?_ ad v rfl hv
          rintro _ rfl
          rw [hRS] at hR
          rcases hR with e2 | e2 | ⟨k, i, hk, e2⟩
          · rw [e2]
            rintro (e | e)
            · exact absurd e (by show ¬ W4.heap.size + 1 = n; omega)
            · exact (hnn _ e).2.2.2.2.1 rfl
          · exact absurd e2 hn0
          · rw [e2]
            rintro (e | e)
            · exact hnl k hk e
            · exact k9 k hk e
      · rintro k hk (e | e)
        · exact hnl k hk e
        · exact k9 k hk e
      · rintro (e | e)
        · exact hnm e.symm
        · exact (hnn _ e).2.2.2.2.2 rfl
      · rintro (e | e)
        · omega
        · exact (hnn _ e).2.1 rfl
      · rintro (e | e)
        · omega
        · exact (hnn _ e).2.2.1 rfl
      · rintro (e | e)
        · omega
        · exact (hnn _ e).2.2.2.1 rfl
      · rintro k hk (e | e)
        · have := (k10 k hk).1; omega
        · exact (k10 k hk).2 e
      · rintro k hk (e | e)
        · exact e ▸ hxn
        · rcases k11 k e with h | h
          · exact h
          · omega
  case done =>
    intro D xs W hD hxs hI hK
    subst haa
    subst hxs
    obtain ⟨lw, wv, k1, k2, k3, k4, k5, k6, k7, k8, k9, k10, k11, k13, k12⟩ := hI
    rw [show mvs a b (pairs s.l s.l.length) = s.l.filter (onWay a b) by unfold mvs; rw [pairs_all]] at k3
    rw [show kps a b (pairs s.l s.l.length) = s.l.filter (fun p => !onWay a b p) by unfold kps; rw [pairs_all]] at k8
    obtain ⟨A2, cap2, hwv⟩ := k3.form
    obtain ⟨A3, cap3, hlw⟩ := k8.form
    subst hwv
    subst hlw
    have qb : W.cell? ⟨w.heap.size, 0, none⟩ = some (.pointer (some ⟨n, 0, none⟩)) := k5.cell 0
    have ql : W.cell? ⟨W4.heap.size, 0, none⟩ = some (.slice A3 (s.l.filter (fun p => !onWay a b p)).length cap3) := k7.cell 0
    obtain ⟨⟨c0, c1, c2, c3, c4⟩, f0, f1, f2, f3, f4⟩ := own5 k1
    have hne1 : ¬ n = w.heap.size := by omega
    have hne2 : ¬ w.heap.size = n := by omega
    have hin : (s.w.length : Int) + ((s.l.filter (onWay a b)).length : Int) - (s.w.length : Int) = ((s.l.filter (onWay a b)).length : Int) := by omega
    have hfl : ((s.l.filter (onWay a b)).length : Int) ≤ 4096 := by have := List.length_filter_le (onWay a b) s.l; omega
    have H := Lib.hid (And.intro k1 (And.intro k2 (And.intro k3 (And.intro k4 (And.intro k5 (And.intro k6 (And.intro k7 (And.intro k8 (And.intro k9 (And.intro k10 (And.intro k11 (And.intro k13 k12))))))))))))
    clear k1 k2 k3 k4 k5 k6 k7 k8 k9 k10 k11 k12 k13
    go_wp2_with fail
    obtain ⟨k1, k2, k3, k4, k5, k6, k7, k8, k9, k10, k11, k13, k12⟩ := H.out
    clear H c0 c1 c2 c3 c4 f0 f1 f2 f3 f4 qb ql
    refine ⟨by simp, .inl ⟨_, _, rfl, run_takeDeferred ((KeepsOthers.setCell _ _ _).same D _ hK rfl), ?_⟩⟩
    refine ⟨_, results_tmp rfl _ _ _, by simp, ?_⟩
    have hD2 : w.heap.size ≤ D := by omega
    have gD : ∀ (Ws : World) o, Fr (fun k => k = D) Ws (Ws.putObj D o) := fun Ws o => (fr_of_grown' (grownBy_putObj' Ws D o)).mono fun k e => by injection e with e; exact e.symm
    have gn : Fr (fun k => k = n) W (W.setCell ⟨n, 0, none⟩ (.slice A3 (s.l.filter fun p => !onWay a b p).length cap3)) := Fr.set (F := fun k => k = n) (Fr.refl _ _) (p := ⟨n, 0, none⟩) (fun _ => rfl) _
    have hcD : ∀ k (cur : Array Value) (t : TypeId) (z : Nat × Nat), W.heap[k]? = some (.cells cur t z) → k ≠ D := fun k cur t z h e => by rw [e, hK] at h; cases h
    have hnw : ∀ k, (Value.slice A2 (s.w ++ s.l.filter (onWay a b)).length cap2).ownBlock = some k → k ≠ n ∧ k ≠ D := fun k hk => by
      obtain ⟨cur, hb⟩ := k3.row hk
      exact ⟨fun e => (by rw [e, show W.heap[n]? = _ from k1] at hb; cases hb), hcD _ _ _ _ hb⟩
    have hnv : ∀ k, (Value.slice A3 (s.l.filter fun p => !onWay a b p).length cap3).ownBlock = some k → k ≠ n ∧ k ≠ D := fun k hk => by
      obtain ⟨cur, hb⟩ := k8.row hk
      exact ⟨fun e => (by rw [e, show W.heap[n]? = _ from k1] at hb; cases hb), hcD _ _ _ _ hb⟩
    refine netB_of (z := z2) (m := m) (w := w) (s := s.part a b) (v' := .slice A3 (s.l.filter fun p => !onWay a b p).length cap3) (wv' := .slice A2 (s.w ++ s.l.filter (onWay a b)).length cap2) ?_ ?_ ?_ ?_ h5 h6 hXlt (fun k hk => (k10 k hk).2) (fun k hk => .inr (by have := (k10 k hk).1; omega)) (fun k hk => ?_) ?_
    · exact Own.fr (k1.put rfl) (gD _ _) (by omega)
    · exact (k8.fr gn fun k hk => (hnv k hk).1).fr (gD _ _) fun k hk => (hnv k hk).2
    · exact (k3.fr gn fun k hk => (hnw k hk).1).fr (gD _ _) fun k hk => (hnw k hk).2
    · show MapF _ _ _ _ _ (wayM ((min a b, max a b) :: s.c))
      rw [← hC]
      exact (k4.fr gn fun e => hnm e.symm).fr (gD _ _) (by omega)
    · rcases k11 k hk with h | h
      · exact .inl h
      · exact .inr (by omega)
    · refine Fr.trans (F := X) (Fr.trans (F := X) k12 gn fun k _ e => e ▸ hxn) (gD _ _) fun k hk e => by omega
end Go.Proofs.Ytleagdnlgjpcgaa
