/- An operation that changes something, done. -/
import Derived.Test.YtedfgbkaijjaeaaMvDoH
namespace Go.Proofs.Ytedfgbkaijjaeaa
open Go.RowKit Go.Maps
set_option linter.unusedVariables false
set_option linter.unusedSimpArgs false

set_option maxRecDepth 100000 in
set_option maxHeartbeats 8000000 in
theorem do_true {w : World} {t u N : Nat} {X : Nat → Prop} {l : List DoV} {s : TkV} (h : TrB w t X l s u) (hI : Inv s N) (hN : N ≤ 900) {e : EnV} (ht : e.op.thing < 18446744073709551616) (hp : e.op.parent < 18446744073709551616) (hFT : (nextF s.th e.op).2 = true) :
    Calls Try.prog 52 #[.pointer (some ⟨t, 0, none⟩), e.val] w fun r W => r = .returned (doD s e).val ∧ TrTo w X t W l (doS s e) u ∧ W.heap[t]? = w.heap[t]? := by
  have HT := Lib.hid h
  have hup := fun k => hI.chain hN k
  have hbd := hI.bnd
  obtain ⟨r, hr⟩ : ∃ r, r = (nextF s.th e.op).1 := ⟨_, rfl⟩
  obtain ⟨c, hc⟩ : ∃ c, c = (nextF s.th e.op).2 := ⟨_, rfl⟩
  have HC := Lib.hid (hc.trans hFT)
  have hb := fun (hd : c = true) => next_bnd hI ht hp (hc ▸ hd)
  rw [← hr] at hb
  have HNX := Lib.hid (fun (W : World) (hh : TrB W t X l s u) => next_any (o := e.op) hh hup hbd ht hp)
  rw [← hr, ← hc] at HNX
  have HS : Hid (doS s e = if c = true then layF s r else s) := Lib.hid (by unfold doS; rw [hc, hr])
  obtain ⟨y, hy⟩ : ∃ y, y = (s.th e.op.thing).getD zeroT := ⟨_, rfl⟩
  obtain ⟨b, hbb⟩ : ∃ b, b = (s.th e.op.thing).isSome := ⟨_, rfl⟩
  have HD : Hid ((doD s e).val = (DoV.mk e y b c).val) := Lib.hid (by unfold doD; rw [hc, hy, hbb])
  have HLT := Lib.hid (fun k hk => h.lt (k := k) hk)
  rw [HD.out]
  clear HD
  obtain ⟨⟨kd, ct, wh, th, pa, nm, dr, dg, sz⟩, hs⟩ := e
  have ht : th < 18446744073709551616 := ht
  have hp : pa < 18446744073709551616 := hp
  have hev : EnV.val ⟨⟨kd, ct, wh, th, pa, nm, dr, dg, sz⟩, hs⟩ = .agg #[.int .i64 kd, .int .u64 (ct : Int), .int .i64 wh, .int .u64 (th : Int), .int .u64 (pa : Int), .string nm, .bool dr, .string dg, .int .i64 sz, .string hs] := rfl
  have hdv : DoV.val ⟨⟨⟨kd, ct, wh, th, pa, nm, dr, dg, sz⟩, hs⟩, y, b, c⟩ = .agg #[.int .i64 kd, .int .u64 (ct : Int), .int .i64 wh, .int .u64 (th : Int), .int .u64 (pa : Int), .string nm, .bool dr, .string dg, .int .i64 sz, .string hs, .int .u64 (y.id : Int), .int .u64 (y.parent : Int), .string y.name, .bool y.dir, .string y.dg, .int .i64 y.size, .bool b, .bool c] := rfl
  rw [hev, hdv]
  simp only at hy hbb
  obtain ⟨W1, hW1⟩ : ∃ W1, W1 = (w.alloc (.cells #[.int .i64 kd, .int .u64 (ct : Int), .int .i64 wh, .int .u64 (th : Int), .int .u64 (pa : Int), .string nm, .bool dr, .string dg, .int .i64 sz, .string hs] 31)).alloc (.cells #[.int .i64 0, .int .u64 0, .int .i64 0, .int .u64 0, .int .u64 0, .string ⟨#[]⟩, .bool false, .string ⟨#[]⟩, .int .i64 0, .string ⟨#[]⟩, .int .u64 0, .int .u64 0, .string ⟨#[]⟩, .bool false, .string ⟨#[]⟩, .int .i64 0, .bool false, .bool false] 108) := ⟨_, rfl⟩
  have oE : Own W1 w.heap.size 31 #[.int .i64 kd, .int .u64 (ct : Int), .int .i64 wh, .int .u64 (th : Int), .int .u64 (pa : Int), .string nm, .bool dr, .string dg, .int .i64 sz, .string hs] := hW1 ▸ (Own.fresh _ _ _).alloc _
  have oD : ∃ cs, cs.size = 18 ∧ Own W1 (w.heap.size + 1) 108 cs := ⟨_, rfl, hW1 ▸ Own.new' (by simp)⟩
  have oD' : Own W1 (w.heap.size + 1) 108 #[.int .i64 0, .int .u64 0, .int .i64 0, .int .u64 0, .int .u64 0, .string ⟨#[]⟩, .bool false, .string ⟨#[]⟩, .int .i64 0, .string ⟨#[]⟩, .int .u64 0, .int .u64 0, .string ⟨#[]⟩, .bool false, .string ⟨#[]⟩, .int .i64 0, .bool false, .bool false] := hW1 ▸ Own.new' (by simp)
  clear oD
  have hN1 : New w W1 := hW1 ▸ ((Fr.refl _ _).alloc _).alloc _
  have hs1 : W1.heap.size = w.heap.size + 2 := by rw [hW1]; simp
  obtain ⟨lv, mt, mk, n1, n2, V, hC⟩ := h
  replace hC : TrC w t X l s u lv mt mk n1 n2 V := hC
  have HTB := Lib.hid hC.1.lt
  have hC1 := hC.new_ hN1
  have HM : ∀ w', New W1 w' → w'.cell? ⟨t, 1, none⟩ = some (.map (some mt)) ∧ w'.cell? ⟨w.heap.size, 3, none⟩ = some (.int .u64 (th : Int)) ∧
      (Instr.lookup 100 (.map (some mt)) (.int .u64 (th : Int)) true).run Try.prog w' = .ok (.tuple #[.agg #[.int .u64 (y.id : Int), .int .u64 (y.parent : Int), .string y.name, .bool y.dir, .string y.dg, .int .i64 y.size], .bool b]) w' := fun w' g => by
    refine ⟨(hC1.1.new_ g).cell 1, (oE.new_ g).cell 3, ?_⟩
    have := look_thing (hC1.2.2.1.fr g fun g => g) ht true
    rw [if_pos rfl, ← hy, ← hbb] at this
    exact this
  have H := Lib.hid (And.intro hC1 (And.intro oE (And.intro oD' (And.intro hN1 (And.intro hup (And.intro hbd (And.intro hI hb)))))))
  clear hC1 hC oE oD' hN1 hup hbd hI hb hy hbb hr hc hev hdv
  go_enter Try.func52, Try.ntmps52
  go_wp2_with fail
  rw [← hW1]
  clear hW1
  refine wp_region_heldE (fun W' => New W1 W') (by kernel_rfl) ?_
  have hS0 : New W1 W1.drew := (Fr.refl _ _).drew
  refine wpAnyH_take (i := 0) (v := .pointer (some ⟨t, 0, none⟩)) rfl (by kernel_rfl) (by kernel_rfl) (by kernel_rfl) (fun _ _ _ h => h) (.inl ⟨rfl, fun w' hS => ?t0⟩) hS0 ?_
  case t0 =>
    obtain ⟨m1, m2, m3⟩ := HM w' hS
    go_simp
  refine wpAnyH_take (i := 1) (v := .pointer (some ⟨t, 0, none⟩)) rfl (by kernel_rfl) (by kernel_rfl) (by kernel_rfl) (fun _ _ _ h => h) (.inl ⟨rfl, fun w' hS => ?t1⟩) hS0 ?_
  case t1 =>
    obtain ⟨m1, m2, m3⟩ := HM w' hS
    go_simp
  refine wpAnyH_take (i := 2) (v := .pointer (some ⟨t, 1, none⟩)) rfl (by kernel_rfl) (by kernel_rfl) (by kernel_rfl) (fun _ _ _ h => h) (.inl ⟨rfl, fun w' hS => ?t2⟩) hS0 ?_
  case t2 =>
    obtain ⟨m1, m2, m3⟩ := HM w' hS
    go_simp
  refine wpAnyH_take (i := 3) (v := .map (some mt)) rfl (by kernel_rfl) (by kernel_rfl) (by kernel_rfl) (fun _ _ _ h => h) (.inl ⟨rfl, fun w' hS => ?t3⟩) hS0 ?_
  case t3 =>
    obtain ⟨m1, m2, m3⟩ := HM w' hS
    go_simp
  refine wpAnyH_take (i := 4) (v := .pointer (some ⟨w.heap.size, 0, none⟩)) rfl (by kernel_rfl) (by kernel_rfl) (by kernel_rfl) (fun _ _ _ h => h) (.inl ⟨rfl, fun w' hS => ?t4⟩) hS0 ?_
  case t4 =>
    obtain ⟨m1, m2, m3⟩ := HM w' hS
    go_simp
  refine wpAnyH_take (i := 5) (v := .pointer (some ⟨w.heap.size, 3, none⟩)) rfl (by kernel_rfl) (by kernel_rfl) (by kernel_rfl) (fun _ _ _ h => h) (.inl ⟨rfl, fun w' hS => ?t5⟩) hS0 ?_
  case t5 =>
    obtain ⟨m1, m2, m3⟩ := HM w' hS
    go_simp
  refine wpAnyH_take (i := 6) (v := .int .u64 (th : Int)) rfl (by kernel_rfl) (by kernel_rfl) (by kernel_rfl) (fun _ _ _ h => h) (.inl ⟨rfl, fun w' hS => ?t6⟩) hS0 ?_
  case t6 =>
    obtain ⟨m1, m2, m3⟩ := HM w' hS
    go_simp
  refine wpAnyH_take (i := 7) (v := .tuple #[.agg #[.int .u64 (y.id : Int), .int .u64 (y.parent : Int), .string y.name, .bool y.dir, .string y.dg, .int .i64 y.size], .bool b]) rfl (by kernel_rfl) (by kernel_rfl) (by kernel_rfl) (fun _ _ _ h => h) (.inl ⟨rfl, fun w' hS => ?t7⟩) hS0 ?_
  case t7 =>
    obtain ⟨m1, m2, m3⟩ := HM w' hS
    go_simp
  refine wpAnyH_take (i := 8) (v := .tuple #[.agg #[.int .u64 (y.id : Int), .int .u64 (y.parent : Int), .string y.name, .bool y.dir, .string y.dg, .int .i64 y.size], .bool b]) rfl (by kernel_rfl) (by kernel_rfl) (by kernel_rfl) (fun _ _ _ h => h) (.inl ⟨rfl, fun w' hS => ?t8⟩) hS0 ?_
  case t8 =>
    obtain ⟨m1, m2, m3⟩ := HM w' hS
    go_simp
  refine wpAnyH_take (i := 9) (v := .agg #[.int .u64 (y.id : Int), .int .u64 (y.parent : Int), .string y.name, .bool y.dir, .string y.dg, .int .i64 y.size]) rfl (by kernel_rfl) (by kernel_rfl) (by kernel_rfl) (fun _ _ _ h => h) (.inl ⟨rfl, fun w' hS => ?t9⟩) hS0 ?_
  case t9 =>
    obtain ⟨m1, m2, m3⟩ := HM w' hS
    go_simp
  refine wpAnyH_take (i := 10) (v := .bool b) rfl (by kernel_rfl) (by kernel_rfl) (by kernel_rfl) (fun _ _ _ h => h) (.inl ⟨rfl, fun w' hS => ?t10⟩) hS0 ?_
  case t10 =>
    obtain ⟨m1, m2, m3⟩ := HM w' hS
    go_simp
  try simp only [Act.put, List.setIfInBounds_toArray, List.set_cons_zero, List.set_cons_succ]
  refine wpAnyH_all (rs := [11]) (by kernel_rfl) (by simp) (fun j hj => ?_)
  rw [List.mem_singleton] at hj
  subst hj
  refine wpOp_step rfl (fun K hK => ?_)
  go_simp
  refine hK _ _ ⟨hS0.alloc _, ?_⟩
  clear hK K
  try simp only [Act.put, List.setIfInBounds_toArray, List.set_cons_zero, List.set_cons_succ]
  refine wpAnyH_all (rs := [12]) (by kernel_rfl) (by simp) (fun j hj => ?_)
  rw [List.mem_singleton] at hj
  subst hj
  refine wpOp_step rfl (fun K hK => ?_)
  go_simp
  have hS3 : New W1 (W1.alloc (.cells #[.int .u64 (y.id : Int), .int .u64 (y.parent : Int), .string y.name, .bool y.dir, .string y.dg, .int .i64 y.size] 48)).drew := ((Fr.refl _ _).alloc _).drew
  have hO3 : Own (W1.alloc (.cells #[.int .u64 (y.id : Int), .int .u64 (y.parent : Int), .string y.name, .bool y.dir, .string y.dg, .int .i64 y.size] 48)).drew (w.heap.size + 2) 48 #[.int .u64 (y.id : Int), .int .u64 (y.parent : Int), .string y.name, .bool y.dir, .string y.dg, .int .i64 y.size] := Own.drew (Own.new' hs1)
  refine hK _ _ ⟨hS3, ?_⟩
  clear hK K
  try simp only [Act.put, List.setIfInBounds_toArray, List.set_cons_zero, List.set_cons_succ]
  refine wpAnyH_all (rs := [13]) (by kernel_rfl) (by simp) (fun j hj => ?_)
  rw [List.mem_singleton] at hj
  subst hj
  refine wpOp_step rfl (fun K hK => ?_)
  go_simp
  obtain ⟨W3, hW3⟩ : ∃ W3, W3 = (W1.alloc (.cells #[.int .u64 (y.id : Int), .int .u64 (y.parent : Int), .string y.name, .bool y.dir, .string y.dg, .int .i64 y.size] 48)).drew := ⟨_, rfl⟩
  rw [← hW3] at hS3 hO3 ⊢
  clear hW3
  refine hK _ _ ⟨hS3, ?_⟩
  clear hK K
  try simp only [Act.put, List.setIfInBounds_toArray, List.set_cons_zero, List.set_cons_succ]
  refine wpAnyH_done (by kernel_rfl) ?_ _
  rename_i ha
  refine ha _ _ ?_
  clear ha
  obtain ⟨hC1, oE, oD, hN1, hup, hbd, hI, hb⟩ := H.out
  have T3 := hC1.of.new_ hS3
  have o3 := oE.new_ hS3
  have d3 := oD.new_ hS3
  have f3 := hN1.new_ hS3
  have H3 := Lib.hid (And.intro T3 (And.intro o3 (And.intro d3 (And.intro hO3 f3))))
  have a0 := o3.cell 0
  have a1 := o3.cell 1
  have a2 := o3.cell 2
  have a3 := o3.cell 3
  have a4 := o3.cell 4
  have a5 := o3.cell 5
  have a6 := o3.cell 6
  have a7 := o3.cell 7
  have a8 := o3.cell 8
  simp only [List.getElem?_toArray, List.getElem?_cons_zero, List.getElem?_cons_succ] at a0 a1 a2 a3 a4 a5 a6 a7 a8
  clear hC1 oE oD hN1 hup hbd hI hb T3 o3 d3 f3 hO3 hS0 hS3 HM hs1
  go_wp2_with fail
  refine (HNX.out _ H3.out.1).mono ?_
  rintro e W4 ⟨rfl, n4⟩
  have H4 := Lib.hid (And.intro (H3.out.1.new_ n4) (And.intro (H3.out.2.1.new_ n4) (And.intro (H3.out.2.2.1.new_ n4) (And.intro (H3.out.2.2.2.1.new_ n4) (H3.out.2.2.2.2.new_ n4)))))
  clear H3 n4 a0 a1 a2 a3 a4 a5 a6 a7 a8 HNX
  obtain ⟨t4, o4, d4, y4, f4⟩ := H4.out
  rename_i K1 hk1 K0 hk0
  have HK1 := Lib.hid hk1
  clear hk1
  have HY4 := Lib.hid (And.intro t4 (And.intro o4 (And.intro d4 (And.intro y4 f4))))
  have hz4 := y4.lt
  clear t4 o4 d4 y4 f4
  go_wp2_with fail
  refine HK1.out _ _ ?_
  clear HK1
  try clear K1
  try clear K0
  go_step
  rename_i K5 hk5
  have HK5 := Lib.hid hk5
  clear hk5
  obtain ⟨t4, o4, d4, y4, f4⟩ := HY4.out
  have ff4 : New w (W4.alloc (.cells #[.int .u64 (r.id : Int), .int .u64 (r.parent : Int), .string r.name, .bool r.dir, .string r.dg, .int .i64 r.size] 48)) := f4.alloc _
  cases c with
  | false => exact absurd HC.out (by decide)
  | true =>
    have LA := lay_any (t4.new_ ((Fr.refl _ _).alloc (.cells #[.int .u64 (r.id : Int), .int .u64 (r.parent : Int), .string r.name, .bool r.dir, .string r.dg, .int .i64 r.size] 48))) H.out.2.2.2.2.2.2.1 hN (x := r) ((H.out.2.2.2.2.2.2.2 rfl).1) ((H.out.2.2.2.2.2.2.2 rfl).2)
    have HX := Lib.hid (And.intro LA (And.intro ff4 (And.intro (o4.alloc (.cells #[.int .u64 (r.id : Int), .int .u64 (r.parent : Int), .string r.name, .bool r.dir, .string r.dg, .int .i64 r.size] 48)) (And.intro (d4.alloc (.cells #[.int .u64 (r.id : Int), .int .u64 (r.parent : Int), .string r.name, .bool r.dir, .string r.dg, .int .i64 r.size] 48)) (y4.alloc (.cells #[.int .u64 (r.id : Int), .int .u64 (r.parent : Int), .string r.name, .bool r.dir, .string r.dg, .int .i64 r.size] 48))))))
    clear LA ff4 t4 o4 d4 y4 f4
    go_wp2_with fail
    refine HX.out.1.mono ?_
    rintro e W5 ⟨rfl, ⟨X5, t5, f5, hX5⟩, e5⟩
    obtain ⟨-, ff4, o4, d4, y4⟩ := HX.out
    have hXl := HLT.out
    have hz := ff4.size
    replace o4 := o4.fr f5 fun e => by have := hXl _ e; omega
    replace d4 := d4.fr f5 fun e => by have := hXl _ e; omega
    replace y4 := y4.fr f5 fun e => by have := hXl _ e; omega
    have hnd : ¬ X5 (w.heap.size + 1) := fun e => by
      rcases hX5 _ e with e | e
      · have := hXl _ e; omega
      · simp at e
        omega
    have HF := Lib.hid (And.intro (show ∃ X5, TrB W5 t X5 l (layF s r) u ∧ Fr X w W5 ∧ (∀ k, X5 k → X k ∨ w.heap.size ≤ k) ∧ ¬ X5 (w.heap.size + 1) ∧ W5.heap[t]? = w.heap[t]? from ⟨X5, t5, (ff4.mono fun _ g => g.elim).trans f5 fun _ _ e => e, fun k e => (hX5 k e).elim .inl fun h => .inr (Nat.le_trans ff4.size h), hnd, e5.trans (ff4.block t HTB.out (fun g => g))⟩) (And.intro o4 (And.intro d4 y4)))
    clear e5 t5 f5 hX5 hnd ff4 hXl hz o4 d4 y4 HX HY4 H4 hz4
    go_wp2_with fail
    refine HK5.out _ _ ?_
    clear HK5 K5
    have a0 := HF.out.2.1.cell 0
    have a1 := HF.out.2.1.cell 1
    have a2 := HF.out.2.1.cell 2
    have a3 := HF.out.2.1.cell 3
    have a4 := HF.out.2.1.cell 4
    have a5 := HF.out.2.1.cell 5
    have a6 := HF.out.2.1.cell 6
    have a7 := HF.out.2.1.cell 7
    have a8 := HF.out.2.1.cell 8
    have a9 := HF.out.2.1.cell 9
    have b0 := HF.out.2.2.2.cell 0
    have b1 := HF.out.2.2.2.cell 1
    have b2 := HF.out.2.2.2.cell 2
    have b3 := HF.out.2.2.2.cell 3
    have b4 := HF.out.2.2.2.cell 4
    have b5 := HF.out.2.2.2.cell 5
    simp only [List.getElem?_toArray, List.getElem?_cons_zero, List.getElem?_cons_succ] at a0 a1 a2 a3 a4 a5 a6 a7 a8 a9 b0 b1 b2 b3 b4 b5
    iterate 17 go_step
    refine wpList_store_whole rfl 108 (.tmp 4) (.tmp 35) rfl (b := w.heap.size + 1) (by simp [Act.eval]) (by simp [Act.eval]; exact rfl) HF.out.2.2.1 (by simp) (by kernel_rfl) (by simp [Value.oneCell']) ?_
    clear a0 a1 a2 a3 a4 a5 a6 a7 a8 a9 b0 b1 b2 b3 b4 b5
    rintro W6 q6 f6
    have c0 := q6.cell 0
    have c1 := q6.cell 1
    have c2 := q6.cell 2
    have c3 := q6.cell 3
    have c4 := q6.cell 4
    have c5 := q6.cell 5
    have c6 := q6.cell 6
    have c7 := q6.cell 7
    have c8 := q6.cell 8
    have c9 := q6.cell 9
    have c10 := q6.cell 10
    have c11 := q6.cell 11
    have c12 := q6.cell 12
    have c13 := q6.cell 13
    have c14 := q6.cell 14
    have c15 := q6.cell 15
    have c16 := q6.cell 16
    have c17 := q6.cell 17
    simp only [List.getElem?_toArray, List.getElem?_cons_zero, List.getElem?_cons_succ] at c0 c1 c2 c3 c4 c5 c6 c7 c8 c9 c10 c11 c12 c13 c14 c15 c16 c17
    go_wp2_with fail
    refine bodyPost_ret (v := .agg #[.int .i64 kd, .int .u64 (ct : Int), .int .i64 wh, .int .u64 (th : Int), .int .u64 (pa : Int), .string nm, .bool dr, .string dg, .int .i64 sz, .string hs, .int .u64 (y.id : Int), .int .u64 (y.parent : Int), .string y.name, .bool y.dir, .string y.dg, .int .i64 y.size, .bool b, .bool true]) (by simp [results, Try.results52, go_sem, *]) rfl ⟨rfl, ?_⟩
    rw [HS.out, if_pos trivial]
    obtain ⟨⟨X5, t5, g5, hX5, hn5, e5⟩, -⟩ := HF.out
    have htl := HTB.out
    exact ⟨⟨X5, t5.fr f6 (fun k hk e => hn5 (e ▸ hk)), g5.trans f6 fun k hk e => by omega, hX5⟩, (f6.block t (Nat.lt_of_lt_of_le htl g5.size) (by omega)).trans e5⟩
end Go.Proofs.Ytedfgbkaijjaeaa
