/- A way is cut. -/
import Derived.Test.YtleagdnlgjpcgaaNetAll
import Derived.Test.YtleagdnlgjpcgaaSplit
import Derived.Maps.OwnIn
namespace Go.Proofs.Ytleagdnlgjpcgaa
open Go.RowKit Go.Maps Go.Shelf
set_option linter.unusedVariables false
set_option linter.unusedSimpArgs false
attribute [local go_sem] Oper.semAt_some

/-- A store into a map whose run is known. -/
theorem oper_mapUpdate_run {P : Program} {w : World} {o : Oper} {a : Act} {K : Act → World → Prop} {Q : Exit → Act → World → Prop} (m x v : Operand) (t : TypeId)
    (ho : o.op = .mapUpdate t m x v) {mv xv vv : Value} {w' : World} (hm : a.eval m = mv) (hx : a.eval x = xv) (hv : a.eval v = vv)
    (hr : (Instr.mapUpdate t mv xv vv).run P w = .ok () w') (k : K (a.put o.dst undef) w') : Oper.wp P o a w K Q := by
  unfold Oper.wp
  simp [execOp, ho, hm, hx, hv, hr, Result.andThen]
  exact k
theorem cut_none {w : World} {a b : Int} : Calls Try.prog 8 #[.pointer none, .int .i64 a, .int .i64 b] w fun e W => e = .returned (.int .i64 0) ∧ New w W := by
  refine (callsIn_wide (n := 4)).1 ?_
  refine callsIn_of_wp_marks Try.func8 rfl trivial ?_
  simp only [Try.ntmps8, List.size_toArray, List.length_cons, List.length_nil, Nat.reduceAdd, Nat.reduceSub, Array.replicate_succ, Array.replicate_zero, List.push_toArray, List.append_toArray, List.nil_append, List.cons_append]
  refine wpIn_wide.2 ?_
  go_wp2
  exact ⟨_, by simp [results, Try.results8, go_sem, *], rfl, (Fr.refl _ _).alloc _⟩
set_option maxRecDepth 100000 in
set_option maxHeartbeats 4000000 in
theorem cut_empty {w : World} {n : Nat} {X : Nat → Prop} {s : NetV} {a b : Int} (ha : (Lit.int .i64 a).wf = true) (hb : (Lit.int .i64 b).wf = true) (h : NetB w n X s) (hl : s.l = []) (hw : s.w.length ≤ 100000) :
    Calls Try.prog 8 #[.pointer (some ⟨n, 0, none⟩), .int .i64 a, .int .i64 b] w fun e W => e = .returned (.int .i64 0) ∧ NetTo w X n W { s with c := (min a b, max a b) :: s.c } := by
  obtain ⟨z1, hz1⟩ := way_key (a := min a b) (b := max a b) (by rcases Int.le_total a b with e | e <;> simp [Int.min_eq_left, Int.min_eq_right, e, ha, hb]) (by rcases Int.le_total a b with e | e <;> simp [Int.max_eq_left, Int.max_eq_right, e, ha, hb])
  refine (callsIn_wide (n := 4)).1 ?_
  refine callsIn_of_wp_marks Try.func8 rfl trivial ?_
  simp only [Try.ntmps8, List.size_toArray, List.length_cons, List.length_nil, Nat.reduceAdd, Nat.reduceSub, Array.replicate_succ, Array.replicate_zero, List.push_toArray, List.append_toArray, List.nil_append, List.cons_append]
  refine wpIn_wide.2 ?_
  go_wp2_with fail
  refine calls_world (fun W => NetB W n X s ∧ Own W w.heap.size 23 #[.pointer (some ⟨n, 0, none⟩)] ∧ New w W) ⟨h.new_ ((Fr.refl _ _).alloc _), Own.fresh _ _ _, (Fr.refl _ _).alloc _⟩ ?_
  have hXlt := fun k hk => h.lt (k := k) hk
  clear h
  rintro W1 ⟨h, ob, hN⟩
  refine between_any.mono ?_
  rintro e W2 ⟨rfl, g2⟩
  replace h := h.new_ g2
  replace ob := ob.new_ g2
  replace hN := hN.new_ g2
  go_wp2_with fail
  refine wp_world (fun W => NetB W n X s ∧ Own W w.heap.size 23 #[.pointer (some ⟨n, 0, none⟩)] ∧ Own W W2.heap.size 57 #[.int .i64 (min a b), .int .i64 (max a b)] ∧ New w W) ⟨h.new_ ((Fr.refl _ _).alloc _), ob.alloc _, Own.fresh _ _ _, hN.alloc _⟩ ?_
  have hbw : w.heap.size < W2.heap.size := ob.lt
  clear h ob hN g2
  rintro W3 ⟨h, ob, ow, hN⟩
  obtain ⟨lv, wv, m, z, h1, h2, h3, h4, h5, h6⟩ := h
  have hnm : n ≠ m := fun e => by subst e; obtain ⟨es, ck, hb, _⟩ := h4; rw [show W3.heap[n]? = _ from h1] at hb; cases hb
  have hml : ∀ k, lv.ownBlock = some k → k ≠ m := fun k hk e => by subst e; obtain ⟨cur, hb⟩ := h2.row hk; obtain ⟨es, ck, hb2, _⟩ := h4; rw [hb] at hb2; cases hb2
  have hmw : ∀ k, wv.ownBlock = some k → k ≠ m := fun k hk e => by subst e; obtain ⟨cur, hb⟩ := h3.row hk; obtain ⟨es, ck, hb2, _⟩ := h4; rw [hb] at hb2; cases hb2
  have hmx : m < w.heap.size := hXlt m ((h6 m).2 (.inr (.inl rfl)))
  obtain ⟨⟨c0, c1, c2, c3, c4⟩, f0, f1, f2, f3, f4⟩ := own5 h1
  have d0 : W3.cell? ⟨w.heap.size, 0, none⟩ = some (.pointer (some ⟨n, 0, none⟩)) := ob.cell 0
  have e0 : W3.cell? ⟨W2.heap.size, 0, none⟩ = some (.int .i64 (min a b)) := ow.cell 0
  have e1 : W3.cell? ⟨W2.heap.size, 1, none⟩ = some (.int .i64 (max a b)) := ow.cell 1
  have H := Lib.hid (And.intro h1 (And.intro h2 (And.intro h3 (And.intro h4 (And.intro h5 (And.intro h6 (And.intro hml (And.intro hmw (And.intro ob (And.intro ow (And.intro hN hz1)))))))))))
  clear h1 h2 h3 h4 h5 h6 hN ob ow hml hmw hz1
  go_wp2_with fail
  apply wp_region_cut 5; (focus (simp only [List.take_succ_cons, List.take_zero]; exact rfl)); (focus (simp only [List.drop_succ_cons, List.drop_zero]; exact rfl)); (focus kernel_rfl); (focus kernel_rfl); (focus kernel_rfl); (focus kernel_rfl); (focus kernel_rfl); (focus kernel_rfl); (repeat (first | go_big_quiet_step (fail) | quiet_step (fail))); refine wpQuiet_nil ?_; rintro _ ⟨nq, rfl⟩ _ _
  obtain ⟨h1, h2, h3, h4, h5, h6, hml, hmw, ob, ow, hN, hz1⟩ := H.out
  obtain ⟨W4, hput, m4, g4⟩ := (h4.fr (((Fr.refl _ _).drewN nq)) (G := fun _ => False) (fun g => g)).put (x := wayV (min a b) (max a b)) (v := .bool true) way_keyed Try.underlying53 hz1
  replace g4 : Fr (fun k => k = m) W3 W4 := (((Fr.refl _ _).drewN nq).trans (fr_of_grown' g4) fun k _ e => by injection e with e; exact e.symm)
  replace m4 := m4.congr (wayM_upd s.c (min a b) (max a b))
  have k1 := h1.fr g4 hnm
  have k2 := h2.fr g4 hml
  have k3 := h3.fr g4 hmw
  have kb := ob.fr g4 (by omega)
  have kw := ow.fr g4 (by omega)
  clear H h1 h2 h3 h4 ob ow c0 c1 c2 c3 c4 f0 f1 f2 f3 f4 d0 e0 e1
  refine oper_mapUpdate_run (.tmp 20) (.tmp 21) (.const (.bool true)) 53 rfl ?em ?ex ?ev hput ?_
  case em => simp [Act.eval]
  case ex => simp [Act.eval]
  case ev => simp [Act.eval]
  rename_i ha2
  refine ha2 _ _ ?_
  clear ha2
  obtain ⟨A, cap, hwv⟩ := k3.form
  subst hwv
  obtain ⟨⟨c0, c1, c2, c3, c4⟩, f0, f1, f2, f3, f4⟩ := own5 k1
  have d0 : W4.cell? ⟨w.heap.size, 0, none⟩ = some (.pointer (some ⟨n, 0, none⟩)) := kb.cell 0
  have n1 := k1.lt
  have n2 := kb.lt
  have H := Lib.hid (And.intro h5 (And.intro h6 (And.intro hml (And.intro hmw (And.intro hN (And.intro g4 (And.intro m4 (And.intro k1 (And.intro k2 (And.intro k3 (And.intro kb kw)))))))))))
  clear h5 h6 hml hmw hN g4 m4 k1 k2 k3 kb kw hput hz1
  go_wp2_with fail
  obtain ⟨h5, h6, hml, hmw, hN, g4, m4, k1, k2, k3, kb, kw⟩ := H.out
  clear H c0 c1 c2 c3 c4 f0 f1 f2 f3 f4 d0
  have hW34 := hN.size
  have hxn : X n := (h6 n).2 (.inl rfl)
  have hxm : X m := (h6 m).2 (.inr (.inl rfl))
  have gX : Fr X w W4 := Fr.trans (F := X) (hN.mono fun _ g => g.elim) g4 fun k _ e => e ▸ hxm
  have hBW : W2.heap.size < W4.heap.size := kw.lt
  obtain ⟨C, hC⟩ : ∃ C, C = (min a b, max a b) :: s.c := ⟨_, rfl⟩
  rw [← hC] at m4
  generalize (if (wayM s.c (wayV (min a b) (max a b))).isSome = true then z else z + 1) = z2 at m4
  refine calls_world (fun W => W.heap.size = W4.heap.size + 1 ∧ Own W n 55 #[lv, .slice A s.w.length cap, .map (some m), .int .i64 s.sent, .int .i64 s.lost] ∧ PkL W lv s.l ∧ PkL W (.slice A s.w.length cap) s.w ∧ MapF Try.prog 57 W m z2 (wayM C) ∧
      Own W w.heap.size 23 #[.pointer (some ⟨n, 0, none⟩)] ∧ Own W W2.heap.size 57 #[.int .i64 (min a b), .int .i64 (max a b)] ∧ Own W W4.heap.size 22 #[.slice none 0 0] ∧ Fr X w W)
    ⟨by simp, k1.alloc _, k2.fr ((Fr.refl _ _).alloc _) (G := fun _ => False) (fun _ _ g => g), k3.fr ((Fr.refl _ _).alloc _) (G := fun _ => False) (fun _ _ g => g), m4.fr ((Fr.refl _ _).alloc _) (G := fun _ => False) (fun g => g), kb.alloc _, kw.alloc _, Own.fresh _ _ _, gX.alloc _⟩ ?_
  clear k1 k2 k3 m4 kb kw gX g4 hN
  rintro W5 ⟨hsz5, k1, k2, k3, m4, kb, kw, kl, gX⟩
  refine all_fn.mono ?_
  rintro e W6 ⟨rfl, hW6⟩
  replace k1 : Own W6 _ _ _ := hW6 ▸ k1.alloc _
  replace k2 : PkL W6 _ _ := hW6 ▸ k2.fr ((Fr.refl _ _).alloc _) (G := fun _ => False) (fun _ _ g => g)
  replace k3 : PkL W6 _ _ := hW6 ▸ k3.fr ((Fr.refl _ _).alloc _) (G := fun _ => False) (fun _ _ g => g)
  replace m4 : MapF _ _ W6 _ _ _ := hW6 ▸ m4.fr ((Fr.refl _ _).alloc _) (G := fun _ => False) (fun g => g)
  replace kb : Own W6 _ _ _ := hW6 ▸ kb.alloc _
  replace kw : Own W6 _ _ _ := hW6 ▸ kw.alloc _
  replace kl : Own W6 _ _ _ := hW6 ▸ kl.alloc _
  have ks : Own W6 W5.heap.size 23 #[.pointer (some ⟨n, 0, none⟩)] := hW6 ▸ Own.fresh _ _ _
  replace gX : Fr X w W6 := hW6 ▸ gX.alloc _
  have hsz6 : W6.heap.size = W4.heap.size + 2 := by rw [hW6]; simp [hsz5]
  rw [hsz5] at ks ⊢
  clear hW6 hsz5 W5
  have H := Lib.hid (And.intro h5 (And.intro h6 (And.intro hml (And.intro hmw (And.intro k1 (And.intro k2 (And.intro k3 (And.intro m4 (And.intro kb (And.intro kw (And.intro kl (And.intro ks gX))))))))))))
  clear h5 h6 hml hmw k1 k2 k3 m4 kb kw kl ks gX
  go_wp2_with fail
  refine (wpIn_wide (n := 4)).1 ?_
  obtain ⟨h5, h6, hml, hmw, k1, k2, k3, m4, kb, kw, kl, ks, gX⟩ := H.out
  obtain ⟨A1, cap1, hlv⟩ := k2.form
  rw [hl] at hlv
  refine wpIn_rangeFunc_ownF (w0 := W6) (α := Empty) (encs := fun x => x.elim) (Kp := fun _ _ => True) (S := fun xs => xs = []) (Sp := fun _ => False) (N := 0) (gf := 32) (lb := #[.pointer (some ⟨W4.heap.size + 1, 0, none⟩)]) rfl (by omega) rfl trivial (enters_of Try.func32 (by kernel_rfl) rfl)
    ?seq (fun _ _ => trivial) (fun _ _ _ _ _ _ _ _ => trivial) (Below.refl _ _) (fun x => x.elim) (fun _ W => New W6 W) (fun _ _ _ => False) ?own (fun _ _ _ _ _ h _ _ => h) (Fr.refl _ _) (fun x => x.elim) (fun _ x => x.elim) (fun _ _ x => x.elim) ?done (fun _ _ _ _ _ h => h.elim)
  case seq =>
    intro l J Jx W hW _ _ hY h0
    refine (all1_nil_in (α := Empty) Fence.wide 3 trivial trivial (by omega) rfl l (W4.heap.size + 1) (some ⟨n, 0, none⟩) (fun W1 _ h2 => ?_) J W ((hW.cell (p := ⟨W4.heap.size + 1, 0, none⟩) ks.lt).trans (ks.cell 0)) (fun x hx => ?_) h0).mono fun e W' ⟨he, hj⟩ => ⟨he, .inl ⟨_, rfl, hj⟩⟩
    · obtain ⟨A', cap', _, h2⟩ := h2 _ rfl
      exact callsIn_wide.2 (len_cell (k := 0) h2)
    · cases hx
      exact ⟨A1, cap1, rfl, (hW.cell (p := ⟨n, 0, none⟩) k1.lt).trans ((k1.cell 0).trans (by rw [hlv]; rfl))⟩
  case own =>
    intro s0 W W' row hs hg hr
    exact hs.trans (fr_of_grown' hg) fun i hi e => by have := (hr i e).1; omega
  case done =>
    intro D xs W hD _ hN2 hK
    have q1 := k1.new_ hN2
    have qb : W.cell? ⟨w.heap.size, 0, none⟩ = some (.pointer (some ⟨n, 0, none⟩)) := (kb.new_ hN2).cell 0
    have ql : W.cell? ⟨W4.heap.size, 0, none⟩ = some (.slice none 0 0) := (kl.new_ hN2).cell 0
    obtain ⟨⟨c0, c1, c2, c3, c4⟩, f0, f1, f2, f3, f4⟩ := own5 q1
    have hnx : n < w.heap.size := hXlt n hxn
    have hne1 : ¬ n = w.heap.size := by omega
    have hne2 : ¬ w.heap.size = n := by omega
    clear k1 k2 k3 m4 kb kw kl ks gX h5 h6 hml hmw q1
    go_wp2_with fail
    refine ⟨by simp, .inl ⟨_, _, rfl, run_takeDeferred ((KeepsOthers.setCell _ _ _).same D _ hK rfl), ?_⟩⟩
    obtain ⟨h5, h6, hml, hmw, k1, k2, k3, m4, kb, kw, kl, ks, gX⟩ := H.out
    refine ⟨_, results_tmp rfl _ _ _, by simp, ?_⟩
    have hD2 : w.heap.size ≤ D := by have := gX.size; omega
    have gD : ∀ (Ws : World) o, Fr (fun k => k = D) Ws (Ws.putObj D o) := fun Ws o => (fr_of_grown' (grownBy_putObj' Ws D o)).mono fun k e => by injection e with e; exact e.symm
    have gn : Fr (fun k => k = n) W (W.setCell ⟨n, 0, none⟩ (.slice none 0 0)) := Fr.set (F := fun k => k = n) (Fr.refl _ _) (p := ⟨n, 0, none⟩) (fun _ => rfl) _
    have hnw : ∀ k, (Value.slice A s.w.length cap).ownBlock = some k → k ≠ n := fun k hk e => by subst e; obtain ⟨cur, hb⟩ := k3.row hk; rw [show W6.heap[k]? = _ from k1] at hb; cases hb
    have hwD : ∀ k, (Value.slice A s.w.length cap).ownBlock = some k → k ≠ D := fun k hk e => by
      have := hXlt k ((h6 k).2 (.inr (.inr (.inr hk)))); omega
    refine netB_of (z := z2) (m := m) (w := w) (s := { s with c := (min a b, max a b) :: s.c }) (v' := .slice none 0 0) (wv' := .slice A s.w.length cap) ?_ ?_ ?_ ?_ h5 h6 hXlt (fun k hk => by cases hk) (fun k hk => by cases hk) (fun k hk => .inl ((h6 k).2 (.inr (.inr (.inr hk))))) ?_
    · exact Own.fr ((k1.new_ hN2).put rfl) (gD _ _) (by omega)
    · rw [hl]; exact PkL.nil _
    · exact ((k3.fr hN2 fun _ _ g => g).fr gn hnw).fr (gD _ _) hwD
    · rw [← hC]; exact ((m4.fr hN2 fun g => g).fr gn fun e => hnm e.symm).fr (gD _ _) (by omega)
    · refine Fr.trans (F := X) (Fr.trans (F := X) (gX.new_ hN2) gn fun k _ e => e ▸ hxn) (gD _ _) fun k hk e => by omega
end Go.Proofs.Ytleagdnlgjpcgaa
