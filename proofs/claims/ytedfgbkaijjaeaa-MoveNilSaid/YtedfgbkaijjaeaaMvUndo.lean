/- An operation taken back. -/
import Derived.Test.YtedfgbkaijjaeaaMvDoH
namespace Go.Proofs.Ytedfgbkaijjaeaa
open Go.RowKit Go.Maps
set_option linter.unusedVariables false
set_option linter.unusedSimpArgs false

theorem TrB.set_u {W : World} {t u : Nat} {X : Nat → Prop} {l : List DoV} {s : TkV} (h : TrB W t X l s u) : TrB (W.setCell ⟨t, 3, none⟩ (.int .i64 ((u : Int) + 1))) t X l s (u + 1) ∧ Fr X W (W.setCell ⟨t, 3, none⟩ (.int .i64 ((u : Int) + 1))) := by
  obtain ⟨lv, mt, mk, n1, n2, V, h1, h2, h3, h4, h5, h6, hX⟩ := h
  have f : Fr (fun k => k = t) W (W.setCell ⟨t, 3, none⟩ (.int .i64 ((u : Int) + 1))) := Fr.set (F := fun k => k = t) (p := ⟨t, 3, none⟩) (Fr.refl _ W) (fun _ => rfl) _
  refine ⟨⟨lv, mt, mk, n1, n2, V, h1.put rfl, h2.fr f (fun k e e2 => h2.notOwn h1 (e2 ▸ e)), h3.fr f (fun e => h3.notOwn h1 e.symm), h4.fr f (fun e => h4.notOwn h1 e.symm), ⟨fun p v e => (h5.row p v e).fr f (fun k e1 e2 => (h5.row p v e).notOwn h1 (e2 ▸ e1)), h5.none_, h5.apart⟩, h6, hX⟩, f.mono fun k e => (hX k).2 (.inl e)⟩
set_option maxRecDepth 100000 in
set_option maxHeartbeats 8000000 in
theorem undo_any {w : World} {t u N : Nat} {X : Nat → Prop} {l : List DoV} {s : TkV} (h : TrB w t X l s u) (hI : Inv s N) (hN : N ≤ 900) (hu : u ≤ 1000000) {d : DoV} (ht : d.e.op.thing < 18446744073709551616) (hw : d.there = true → d.was.id < 18446744073709551616 ∧ d.was.parent < 18446744073709551616) :
    Calls Try.prog 50 #[.pointer (some ⟨t, 0, none⟩), d.val] w fun e W => e = .returned (.tuple #[]) ∧ TrTo w X t W l (undoF s d) (u + 1) := by
  have hXlt := fun k hk => h.lt (k := k) hk
  obtain ⟨s', hs'⟩ : ∃ s', s' = undoF s d := ⟨_, rfl⟩
  rw [← hs']
  obtain ⟨⟨⟨kd, ct, wh, th, pa, nm, dr, dg, sz⟩, hs⟩, y, th0, di⟩ := d
  have ht : th < 18446744073709551616 := ht
  have hw : th0 = true → y.id < 18446744073709551616 ∧ y.parent < 18446744073709551616 := hw
  have hdv : DoV.val ⟨⟨⟨kd, ct, wh, th, pa, nm, dr, dg, sz⟩, hs⟩, y, th0, di⟩ = .agg #[.int .i64 kd, .int .u64 (ct : Int), .int .i64 wh, .int .u64 (th : Int), .int .u64 (pa : Int), .string nm, .bool dr, .string dg, .int .i64 sz, .string hs, .int .u64 (y.id : Int), .int .u64 (y.parent : Int), .string y.name, .bool y.dir, .string y.dg, .int .i64 y.size, .bool th0, .bool di] := rfl
  rw [hdv]
  obtain ⟨W1, hW1⟩ : ∃ W1, W1 = w.alloc (.cells #[.int .i64 kd, .int .u64 (ct : Int), .int .i64 wh, .int .u64 (th : Int), .int .u64 (pa : Int), .string nm, .bool dr, .string dg, .int .i64 sz, .string hs, .int .u64 (y.id : Int), .int .u64 (y.parent : Int), .string y.name, .bool y.dir, .string y.dg, .int .i64 y.size, .bool th0, .bool di] 108) := ⟨_, rfl⟩
  have oD : Own W1 w.heap.size 108 #[.int .i64 kd, .int .u64 (ct : Int), .int .i64 wh, .int .u64 (th : Int), .int .u64 (pa : Int), .string nm, .bool dr, .string dg, .int .i64 sz, .string hs, .int .u64 (y.id : Int), .int .u64 (y.parent : Int), .string y.name, .bool y.dir, .string y.dg, .int .i64 y.size, .bool th0, .bool di] := hW1 ▸ Own.fresh _ _ _
  have hN1 : New w W1 := hW1 ▸ (Fr.refl _ _).alloc _
  have hs1 : W1.heap.size = w.heap.size + 1 := by rw [hW1]; simp
  have h1 := h.new_ hN1
  have H := Lib.hid (And.intro h1 (And.intro oD (And.intro hN1 (And.intro hs1 (And.intro hXlt (And.intro hI (And.intro ht hw)))))))
  have HS := Lib.hid hs'
  have huI : (u : Int) ≤ 1000000 := by omega
  clear oD hN1 h hXlt hI ht hw hdv hs' hs1
  obtain ⟨lv, mt, mk, n1, n2, V, hC⟩ := h1
  replace hC : TrC W1 t X l s u lv mt mk n1 n2 V := hC
  have x3 := hC.1.cell 3
  have f3 := hC.1.free 3
  have l3 := hC.1.lt
  simp only [List.getElem?_toArray, List.getElem?_cons_zero, List.getElem?_cons_succ] at x3
  cases di with
  | false =>
    have HW := Lib.hid hW1
    clear hC
    subst hW1
    go_enter Try.func50, Try.ntmps50
    go_wp2_with fail
    go_end0
    obtain ⟨h1, oD, hN1, hs1, hXlt, hI, ht, hw⟩ := H.out
    refine ⟨rfl, ?_⟩
    have es : s' = s := HS.out
    rw [es]
    exact ⟨X, h1.set_u.1, (hN1.mono fun _ g => g.elim).trans h1.set_u.2 fun _ _ e => e, fun k e => .inl e⟩
  | true =>
    cases th0 with
    | true =>
      have LA := Lib.hid (lay_any H.out.1 H.out.2.2.2.2.2.1 hN (x := y) (H.out.2.2.2.2.2.2.2 rfl).1 (H.out.2.2.2.2.2.2.2 rfl).2)
      clear x3 f3 l3 hC
      subst hW1
      go_enter Try.func50, Try.ntmps50
      go_wp2_with fail
      refine LA.out.mono ?_
      rintro e W5 ⟨rfl, ⟨X5, t5, f5, hX5⟩, -⟩
      have HT5 := Lib.hid (And.intro t5 (And.intro f5 hX5))
      obtain ⟨lv, mt, mk, n1, n2, V, hC, -⟩ := t5
      have x3 := hC.cell 3
      have f3 := hC.free 3
      simp only [List.getElem?_toArray, List.getElem?_cons_zero, List.getElem?_cons_succ] at x3
      clear hC f5 hX5
      go_wp2_with fail
      go_end0
      obtain ⟨h1, oD, hN1, hs1, hXlt, hI, ht, hw⟩ := H.out
      obtain ⟨t5, f5, hX5⟩ := HT5.out
      refine ⟨rfl, ?_⟩
      have es : s' = layF s y := HS.out
      rw [es]
      have hz := hN1.size
      exact ⟨X5, t5.set_u.1, ((hN1.mono fun _ g => g.elim).trans f5 fun _ _ e => e).trans t5.set_u.2 fun k hk e => (hX5 k e).elim id fun h => by omega, fun k e => (hX5 k e).elim .inl fun h => .inr (Nat.le_trans hz h)⟩
    | false =>
      obtain ⟨g, hg⟩ : ∃ g, g = (s.th th).getD zeroT := ⟨_, rfl⟩
      have es : s' = ⟨updF s.th th none, outF s.ks g⟩ := by rw [hg]; exact HS.out
      have HES := Lib.hid es
      have hgb : g.id < 18446744073709551616 ∧ g.parent < 18446744073709551616 := by
        rw [hg]
        cases hth : s.th th with
        | none => exact ⟨by decide, by decide⟩
        | some old => exact ⟨by show old.id < _; rw [H.out.2.2.2.2.2.1.ids _ _ hth]; exact H.out.2.2.2.2.2.2.1, (H.out.2.2.2.2.2.1.bnd _ _ hth).2⟩
      have N1 : ∀ x, (nw W1 x).cell? ⟨t, 1, none⟩ = some (.map (some mt)) := hC.1.nw 1
      have M3 : ∀ x, (nw W1 x).cell? ⟨w.heap.size, 3, none⟩ = some (.int .u64 (th : Int)) := H.out.2.1.nw 3
      have LK : ∀ x, (Instr.lookup 100 (.map (some mt)) (.int .u64 (th : Int)) false).run Try.prog (nw W1 x) = .ok (.agg #[.int .u64 (g.id : Int), .int .u64 (g.parent : Int), .string g.name, .bool g.dir, .string g.dg, .int .i64 g.size]) (nw W1 x) := fun x => by
        have := look_thing (hC.2.2.1.fr (nw_new W1 x) fun g => g) H.out.2.2.2.2.2.2.1 false
        rw [if_neg (by simp), ← hg] at this
        exact this
      have hthU := Lib.hid H.out.2.2.2.2.2.2.1
      have OA := Lib.hid (fun (W : World) (hh : TrB W t X l s u) => out_any hh (x := g) ((H.out.2.2.2.2.2.1.kids _).1) (Nat.le_trans (H.out.2.2.2.2.2.1.kids_len _) (by omega)) hgb.1 hgb.2)
      clear x3 f3 l3 hC es hgb hg
      go_enter Try.func50, Try.ntmps50
      go_wp2_with fail
      rw [← hW1]
      clear hW1
      apply wp_region_new_parts 10; (case hp => simp only [List.take_succ_cons, List.take_zero]; exact rfl); (case hd => simp only [List.drop_succ_cons, List.drop_zero]; exact rfl); (case hm => kernel_rfl); (case hB => kernel_rfl); (case hT => kernel_rfl); (case hL => kernel_rfl); (repeat (any_goals (first | go_big_quiet_step (fail) | quiet_step (fail) | (refine wpQuiet_step (fun K hK => ?_); go_simp; split <;> (refine hK _ ?_; clear hK K))))); all_goals (refine wpQuiet_nil ?_; intro _ hw'; obtain ⟨xq, hw''⟩ := hw'; subst hw''; have hnq := nw_new _ xq)
      clear N1 M3 LK
      obtain ⟨W2, hW2⟩ : ∃ W2, W2 = nw W1 xq := ⟨_, rfl⟩
      rw [← hW2] at hnq ⊢
      clear hW2 xq
      have HQ := Lib.hid hnq
      clear hnq
      go_wp2_with fail
      refine (OA.out _ (H.out.1.new_ HQ.out)).mono ?_
      rintro e W5 ⟨rfl, ⟨X5, t5, f5, hX5⟩, -⟩
      obtain ⟨-, oD, hN1, hs1, hXlt, -⟩ := H.out
      have hz := HQ.out.size
      have hnD : ¬ X5 w.heap.size := fun e => by
        rcases hX5 _ e with e | e
        · have := hXlt _ e; omega
        · omega
      have g5 : Fr X w W5 := ((hN1.new_ HQ.out).mono fun _ g => g.elim).trans f5 fun _ _ e => e
      have hX5' : ∀ k, X5 k → X k ∨ w.heap.size ≤ k := fun k e => (hX5 k e).elim .inl fun h => .inr (by omega)
      have o5 := (oD.new_ HQ.out).fr f5 fun e => by have := hXlt _ e; omega
      obtain ⟨lv, mt, mk, n1, n2, V, hC⟩ := t5
      replace hC : TrC W5 t X5 l ⟨s.th, outF s.ks g⟩ u lv mt mk n1 n2 V := hC
      have N1 : ∀ x, (nw W5 x).cell? ⟨t, 1, none⟩ = some (.map (some mt)) := hC.1.nw 1
      have M3 : ∀ x, (nw W5 x).cell? ⟨w.heap.size, 3, none⟩ = some (.int .u64 (th : Int)) := o5.nw 3
      have H5 := Lib.hid (And.intro hC (And.intro g5 (And.intro hX5' hnD)))
      clear hC g5 hX5' hnD o5 oD hN1 hs1 hXlt hz f5 hX5 OA
      go_wp2_with fail
      apply wp_region_new_parts 8; (case hp => simp only [List.take_succ_cons, List.take_zero]; exact rfl); (case hd => simp only [List.drop_succ_cons, List.drop_zero]; exact rfl); (case hm => kernel_rfl); (case hB => kernel_rfl); (case hT => kernel_rfl); (case hL => kernel_rfl); (repeat (any_goals (first | go_big_quiet_step (fail) | quiet_step (fail) | (refine wpQuiet_step (fun K hK => ?_); go_simp; split <;> (refine hK _ ?_; clear hK K))))); all_goals (refine wpQuiet_nil ?_; intro _ hw'; obtain ⟨xq, hw''⟩ := hw'; subst hw''; have hnq := nw_new _ xq)
      clear N1 M3
      obtain ⟨W6, hW6⟩ : ∃ W6, W6 = nw W5 xq := ⟨_, rfl⟩
      rw [← hW6] at hnq ⊢
      clear hW6 xq
      obtain ⟨hC, g5, hX5, hnD⟩ := H5.out
      obtain ⟨W7, n3, hdel, C7, f7⟩ := (hC.new_ hnq).del_thing hthU.out 0
      have g7 : Fr X w W7 := (g5.new_ hnq).trans f7 fun k hk e => (hX5 k e).elim id fun h => by omega
      have x3 := C7.1.cell 3
      have f3 := C7.1.free 3
      simp only [List.getElem?_toArray, List.getElem?_cons_zero, List.getElem?_cons_succ] at x3
      have H7 := Lib.hid (And.intro C7.of (And.intro g7 hX5))
      clear hC g5 hX5 hnD hnq C7 f7 g7 H5 hthU
      refine wpList_delete_run rfl (.tmp 18) (.tmp 22) 100 22 rfl ?em ?ex hdel ?_
      case em => simp [Act.eval]
      case ex => simp [Act.eval]
      clear hdel
      go_wp2_with fail
      go_end0
      obtain ⟨t7, g7, hX7⟩ := H7.out
      refine ⟨rfl, ?_⟩
      rw [HES.out]
      exact ⟨X5, t7.set_u.1, g7.trans t7.set_u.2 fun k hk e => (hX7 k e).elim id fun h => by omega, hX7⟩
end Go.Proofs.Ytedfgbkaijjaeaa
