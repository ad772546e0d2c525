/- A nil network. -/
import Derived.Test.YtleagdnlgjpcgaaNetAwake
namespace Go.Proofs.Ytleagdnlgjpcgaa
open Go.RowKit Go.Maps
set_option linter.unusedVariables false
set_option linter.unusedSimpArgs false

set_option maxHeartbeats 4000000 in
theorem take_none {w : World} {i : Int} : Calls Try.prog 14 #[.pointer none, .int .i64 i] w fun e W => e = .returned (.tuple #[noPkt.v, .bool false]) ∧ New w W := by
  go_enter Try.func14, Try.ntmps14
  go_wp2_with fail
  refine calls_world (fun W => Own W w.heap.size 26 #[.int .i64 0, .int .i64 0, .string ⟨#[]⟩] ∧ New w W) ⟨Own.fresh _ _ _, (Fr.refl _ _).alloc _⟩ ?_
  rintro W1 ⟨hz, hN⟩
  refine peek_none.mono ?_
  rintro e W2 ⟨rfl, g2⟩
  replace hz := hz.new_ g2
  replace hN := hN.new_ g2
  obtain ⟨⟨d0, d1, d2⟩, e0, e1, e2⟩ := own3c hz
  have hlt := hz.lt
  have HZ := Lib.hid (And.intro hz hN)
  clear hz hN g2
  go_wp2_with fail
  refine post_world (fun W => Own W w.heap.size 26 #[.int .i64 0, .int .i64 0, .string ⟨#[]⟩] ∧ New w W) ?_ ?_
  · exact ⟨(Own.put (Own.put (Own.put HZ.out.1 rfl) rfl) rfl).alloc _, (((HZ.out.2.set (fun g => absurd g (Nat.lt_irrefl _)) _).set (fun g => absurd g (Nat.lt_irrefl _)) _).set (fun g => absurd g (Nat.lt_irrefl _)) _).alloc _⟩
  clear d0 d1 d2 e0 e1 e2 HZ
  rintro W' ⟨zf, nf⟩
  obtain ⟨⟨d0, d1, d2⟩, -⟩ := own3c zf
  exact bodyPost_ret (v := .tuple #[noPkt.v, .bool false]) (by simp [results, Try.results14, go_sem, *]) rfl ⟨rfl, nf⟩
set_option maxHeartbeats 4000000 in
theorem drop_none {w : World} {i : Int} : Calls Try.prog 22 #[.pointer none, .int .i64 i] w fun e W => e = .returned (.bool false) ∧ New w W := by
  go_enter Try.func22, Try.ntmps22
  go_wp2_with fail
  refine take_none.mono ?_
  rintro e W2 ⟨rfl, g2⟩
  go_wp2_with fail
  go_ret
  exact ⟨rfl, g2.alloc _⟩
set_option maxHeartbeats 4000000 in
theorem double_none {w : World} {i : Int} : Calls Try.prog 18 #[.pointer none, .int .i64 i] w fun e W => e = .returned (.bool false) ∧ New w W := by
  go_enter Try.func18, Try.ntmps18
  go_wp2_with fail
  refine peek_none.mono ?_
  rintro e W2 ⟨rfl, g2⟩
  go_wp2_with fail
  go_ret
  exact ⟨rfl, g2.alloc _⟩
set_option maxHeartbeats 4000000 in
theorem insert_none {w : World} {i : Int} {p : Pkt} : Calls Try.prog 17 #[.pointer none, .int .i64 i, p.v] w fun e W => e = .returned (.bool false) ∧ New w W := by
  go_enter Try.func17, Try.ntmps17
  go_wp2
  go_ret
  exact ⟨rfl, (Fr.refl _ _).alloc _⟩
set_option maxRecDepth 100000 in
set_option maxHeartbeats 8000000 in
theorem netNobody_core {w : World} {i : Int} (hi : (Lit.int .i64 i).wf = true) {p : Pkt} : Calls Try.prog 6 #[.int .i64 i, p.v] w fun e W => e = .returned (.bool true) ∧ New w W := by
  refine (callsIn_wide (n := 4)).1 ?_
  refine callsIn_of_wp_marks Try.func6 rfl trivial ?_
  simp only [Try.ntmps6, List.size_toArray, List.length_cons, List.length_nil, Nat.reduceAdd, Nat.reduceSub, Array.replicate_succ, Array.replicate_zero, List.push_toArray, List.append_toArray, List.nil_append, List.cons_append]
  refine wpIn_wide.2 ?_
  go_wp2_with fail
  refine calls_world (fun W => Own W w.heap.size 26 #[.int .i64 p.f, .int .i64 p.t, .string p.s] ∧ New w W) ⟨Own.fresh _ _ _, (Fr.refl _ _).alloc _⟩ ?_
  rintro W1 ⟨hp, hN⟩
  refine awake_any.mono ?_
  rintro e W2 ⟨rfl, g2⟩
  replace hp := hp.new_ g2
  replace hN := hN.new_ g2
  clear g2
  go_wp2_with fail
  refine heal_none.mono ?_
  rintro e w' ⟨rfl, rfl⟩
  go_wp2_with fail
  refine take_none.mono ?_
  rintro e W3 ⟨rfl, g2⟩
  replace hp := hp.new_ g2
  replace hN := hN.new_ g2
  clear g2
  go_wp2_with fail
  refine calls_world (fun W => Own W w.heap.size 26 #[.int .i64 p.f, .int .i64 p.t, .string p.s] ∧ New w W) ⟨hp.alloc _, hN.alloc _⟩ ?_
  clear hp hN
  rintro W4 ⟨hp, hN⟩
  refine peek_none.mono ?_
  rintro e W5 ⟨rfl, g2⟩
  replace hp := hp.new_ g2
  replace hN := hN.new_ g2
  clear g2
  go_wp2_with fail
  refine calls_world (fun W => Own W w.heap.size 26 #[.int .i64 p.f, .int .i64 p.t, .string p.s] ∧ New w W) ⟨hp.alloc _, hN.alloc _⟩ ?_
  clear hp hN
  rintro W6 ⟨hp, hN⟩
  refine counts_none.mono ?_
  rintro e W7 ⟨rfl, g2⟩
  replace hp := hp.new_ g2
  replace hN := hN.new_ g2
  clear g2
  go_wp2_with fail
  refine calls_world (fun W => Own W w.heap.size 26 #[.int .i64 p.f, .int .i64 p.t, .string p.s] ∧ New w W ∧ Own W W7.heap.size 3 #[.int .i64 0]) ⟨hp.alloc _, hN.alloc _, Own.fresh _ _ _⟩ ?_
  clear hp hN
  rintro W8 ⟨hp, hN, hk⟩
  refine all_fn.mono ?_
  rintro e W9 ⟨rfl, hW9⟩
  replace hp : Own W9 _ _ _ := hW9 ▸ hp.alloc _
  replace hN : New w W9 := hW9 ▸ hN.alloc _
  replace hk : Own W9 _ _ _ := hW9 ▸ hk.alloc _
  have ks : Own W9 W8.heap.size 23 #[.pointer none] := hW9 ▸ Own.fresh _ _ _
  clear hW9
  go_wp2_with fail
  refine (wpIn_wide (n := 4)).1 ?_
  refine wpIn_rangeFunc_ownF (w0 := W9) (α := Empty) (encs := fun x => x.elim) (Kp := fun _ _ => True) (S := fun xs => xs = []) (Sp := fun _ => False) (N := 0) (gf := 32) (lb := #[.pointer (some ⟨W8.heap.size, 0, none⟩)]) rfl (by omega) rfl trivial (enters_of Try.func32 (by kernel_rfl) rfl)
    ?seq (fun _ _ => trivial) (fun _ _ _ _ _ _ _ _ => trivial) (Below.refl _ _) (fun x => x.elim) (fun _ W => New W9 W) (fun _ _ _ => False) ?own (fun _ _ _ _ _ h _ _ => h) (Fr.refl _ _) (fun x => x.elim) (fun _ x => x.elim) (fun _ _ x => x.elim) ?done (fun _ _ _ _ _ h => h.elim)
  case seq =>
    intro l J Jx W hW _ _ hY h0
    exact (all1_nil_in (α := Empty) Fence.wide 3 trivial trivial (by omega) rfl l W8.heap.size none (fun W1 _ _ => callsIn_wide.2 len_none) J W ((hW.cell (p := ⟨W8.heap.size, 0, none⟩) ks.lt).trans (ks.cell 0)) (fun x hx => by cases hx) h0).mono fun e W' ⟨he, hj⟩ => ⟨he, .inl ⟨_, rfl, hj⟩⟩
  case own =>
    intro s0 W W' row hs hg hr
    exact hs.trans (fr_of_grown' hg) fun i hi e => by have := (hr i e).1; omega
  case done =>
    intro D xs W hD _ hN2 hK
    replace hp := hp.new_ hN2
    replace hk := hk.new_ hN2
    have hDn := hN.size
    replace hN := hN.new_ hN2
    clear hN2 ks
    obtain ⟨⟨d0, d1, d2⟩, -⟩ := own3c hp
    go_wp2_with fail
    refine calls_world (fun W10 => Own W10 w.heap.size 26 #[.int .i64 p.f, .int .i64 p.t, .string p.s] ∧ Own W10 W7.heap.size 3 #[.int .i64 0] ∧ New w W10 ∧ W10.heap[D]? = some (.deferred (some []))) ⟨hp.alloc _, hk.alloc _, hN.alloc _, (Below.heap_alloc _ _ _ (Array.getElem?_eq_some_iff.1 hK).1).trans hK⟩ ?_
    clear hp hk hN hK d0 d1 d2
    rintro W10 ⟨hp, hk, hN, hK⟩
    refine send_none.mono ?_
    rintro e w' ⟨rfl, rfl⟩
    go_wp2_with fail
    refine len_none.mono ?_
    rintro e w' ⟨rfl, rfl⟩
    go_wp2_with fail
    refine waits_none.mono ?_
    rintro e w' ⟨rfl, rfl⟩
    go_wp2_with fail
    refine drop_none.mono ?_
    rintro e W12 ⟨rfl, g2⟩
    replace hp := hp.new_ g2
    replace hk := hk.new_ g2
    replace hN := hN.new_ g2
    replace hK := (g2.block D (Array.getElem?_eq_some_iff.1 hK).1 (fun h => h)).trans hK
    clear g2
    have y0 : W12.cell? ⟨w.heap.size, 0, none⟩ = some (.int .i64 p.f) := hp.cell 0
    have y1 : W12.cell? ⟨w.heap.size, 1, none⟩ = some (.int .i64 p.t) := hp.cell 1
    have y2 : W12.cell? ⟨w.heap.size, 2, none⟩ = some (.string p.s) := hp.cell 2
    have y3 : W12.cell? ⟨W7.heap.size, 0, none⟩ = some (.int .i64 0) := hk.cell 0
    go_wp2_with fail
    clear y0 y1 y2 y3
    refine double_none.mono ?_
    rintro e W12 ⟨rfl, g2⟩
    replace hp := hp.new_ g2
    replace hk := hk.new_ g2
    replace hN := hN.new_ g2
    replace hK := (g2.block D (Array.getElem?_eq_some_iff.1 hK).1 (fun h => h)).trans hK
    clear g2
    have y0 : W12.cell? ⟨w.heap.size, 0, none⟩ = some (.int .i64 p.f) := hp.cell 0
    have y1 : W12.cell? ⟨w.heap.size, 1, none⟩ = some (.int .i64 p.t) := hp.cell 1
    have y2 : W12.cell? ⟨w.heap.size, 2, none⟩ = some (.string p.s) := hp.cell 2
    have y3 : W12.cell? ⟨W7.heap.size, 0, none⟩ = some (.int .i64 0) := hk.cell 0
    go_wp2_with fail
    clear y0 y1 y2 y3
    refine (insert_none (p := p)).mono ?_
    rintro e W12 ⟨rfl, g2⟩
    replace hp := hp.new_ g2
    replace hk := hk.new_ g2
    replace hN := hN.new_ g2
    replace hK := (g2.block D (Array.getElem?_eq_some_iff.1 hK).1 (fun h => h)).trans hK
    clear g2
    have y0 : W12.cell? ⟨w.heap.size, 0, none⟩ = some (.int .i64 p.f) := hp.cell 0
    have y1 : W12.cell? ⟨w.heap.size, 1, none⟩ = some (.int .i64 p.t) := hp.cell 1
    have y2 : W12.cell? ⟨w.heap.size, 2, none⟩ = some (.string p.s) := hp.cell 2
    have y3 : W12.cell? ⟨W7.heap.size, 0, none⟩ = some (.int .i64 0) := hk.cell 0
    go_wp2_with fail
    clear y0 y1 y2 y3
    refine cut_none.mono ?_
    rintro e W12 ⟨rfl, g2⟩
    replace hp := hp.new_ g2
    replace hk := hk.new_ g2
    replace hN := hN.new_ g2
    replace hK := (g2.block D (Array.getElem?_eq_some_iff.1 hK).1 (fun h => h)).trans hK
    clear g2
    have y0 : W12.cell? ⟨w.heap.size, 0, none⟩ = some (.int .i64 p.f) := hp.cell 0
    have y1 : W12.cell? ⟨w.heap.size, 1, none⟩ = some (.int .i64 p.t) := hp.cell 1
    have y2 : W12.cell? ⟨w.heap.size, 2, none⟩ = some (.string p.s) := hp.cell 2
    have y3 : W12.cell? ⟨W7.heap.size, 0, none⟩ = some (.int .i64 0) := hk.cell 0
    go_wp2_with fail
    clear y0 y1 y2 y3
    refine ⟨by simp, .inl ⟨_, _, rfl, run_takeDeferred hK, ?_⟩⟩
    refine ⟨_, results_tmp rfl _ _ _, rfl, ?_⟩
    exact hN.trans ((fr_of_grown' (grownBy_putObj' _ D (.deferred none))).mono (G := fun k => k = D) fun k e => by injection e with e; exact e.symm) fun k hk e => by omega
theorem netNobody_walk (i : Int) (hi : (Lit.int .i64 i).wf = true) (x : EPacket) {w : World} (hx : x.facts w) :
    Calls Try.prog 6 #[.int .i64 i, .agg x.cells.toArray] w fun e W => e = .returned (.bool true) ∧ New w W := by
  obtain ⟨f, t, s⟩ := x
  exact netNobody_core (p := ⟨f, t, s⟩) hi
end Go.Proofs.Ytleagdnlgjpcgaa
