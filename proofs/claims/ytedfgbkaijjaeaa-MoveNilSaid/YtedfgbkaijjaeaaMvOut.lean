/- A thing taken out of the kids of its parent. -/
import Derived.Test.YtedfgbkaijjaeaaMvPut
import Derived.Test.YtedfgbkaijjaeaaMvKids
import Derived.Test.YtedfgbkaijjaeaaParts
namespace Go.Proofs.Ytedfgbkaijjaeaa
open Go.RowKit Go.Maps
set_option linter.unusedVariables false
set_option linter.unusedSimpArgs false

theorem oper_mapUpdate_run {P : Program} {w : World} {o : Oper} {a : Act} {K : Act → World → Prop} {Q : Exit → Act → World → Prop} (m x v : Operand) (t : TypeId)
    (ho : o.op = .mapUpdate t m x v) {mv xv vv : Value} {w' : World} (hm : a.eval m = mv) (hx : a.eval x = xv) (hv : a.eval v = vv)
    (hr : (Instr.mapUpdate t mv xv vv).run P w = .ok () w') (k : K (a.put o.dst undef) w') : Oper.wp P o a w K Q := by
  unfold Oper.wp
  simp [execOp, ho, hm, hx, hv, hr, Result.andThen]
  exact k
theorem wpList_mapUpdate_run {P : Program} {w : World} {ops : Array Oper} {rest : List Oper} {o : Oper} {a : Act} {Q : Exit → Act → World → Prop} (hgd : o.guard = none) (m x v : Operand) (t : TypeId)
    (ho : o.op = .mapUpdate t m x v) {mv xv vv : Value} {w' : World} (hm : a.eval m = mv) (hx : a.eval x = xv) (hv : a.eval v = vv)
    (hr : (Instr.mapUpdate t mv xv vv).run P w = .ok () w') (k : wpList P ops Q rest (a.put o.dst undef) w') : wpList P ops Q (o :: rest) a w :=
  wpList_plain hgd fun K hK => oper_mapUpdate_run m x v t ho hm hx hv hr (hK _ _ k)
theorem oper_delete_run {P : Program} {w : World} {o : Oper} {a : Act} {K : Act → World → Prop} {Q : Exit → Act → World → Prop} (m x : Operand) (t t' : TypeId)
    (ho : o.op = .call { callee := .builtin .delete, args := #[m, x], argTypes := #[t, t'] }) {mv xv v' : Value} {w' : World} (hm : a.eval m = mv) (hx : a.eval x = xv)
    (hr : (Builtin.delete_ #[t, t'] o.type #[mv, xv]).run P w = .ok v' w') (k : K (a.put o.dst v') w') : Oper.wp P o a w K Q := by
  unfold Oper.wp execOp
  simp only [ho, resolve, invoke, builtin, Sem.run_bind, Sem.run_pure, Result.andThen_ok, List.map_toArray, List.map_cons, List.map_nil, hm, hx, hr]
  exact k
theorem wpList_delete_run {P : Program} {w : World} {ops : Array Oper} {rest : List Oper} {o : Oper} {a : Act} {Q : Exit → Act → World → Prop} (hgd : o.guard = none) (m x : Operand) (t t' : TypeId)
    (ho : o.op = .call { callee := .builtin .delete, args := #[m, x], argTypes := #[t, t'] }) {mv xv v' : Value} {w' : World} (hm : a.eval m = mv) (hx : a.eval x = xv)
    (hr : (Builtin.delete_ #[t, t'] o.type #[mv, xv]).run P w = .ok v' w') (k : wpList P ops Q rest (a.put o.dst v') w') : wpList P ops Q (o :: rest) a w :=
  wpList_plain hgd fun K hK => oper_delete_run m x t t' ho hm hx hr (hK _ _ k)
theorem Own.same {W w : World} {b : Nat} {t : TypeId} {cs : Array Value} (h : Own W b t cs) (h' : Own w b t cs) : W.heap[b]? = w.heap[b]? := Eq.trans h (Eq.symm h')
/-- What out does to a tree. -/
theorem TrC.refl_to {w W : World} {t u : Nat} {X X' : Nat → Prop} {l : List DoV} {s : TkV} (h : TrB W t X' l s u) (f : Fr X w W) (hX : ∀ k, X' k → X k ∨ w.heap.size ≤ k) : TrTo w X t W l s u := ⟨X', h, f, hX⟩
set_option maxRecDepth 100000 in
set_option maxHeartbeats 8000000 in
theorem out_any {w : World} {t u : Nat} {X : Nat → Prop} {l : List DoV} {s : TkV} (h : TrB w t X l s u) {x : ThV} (hu : Up (s.ks x.parent)) (hn : (s.ks x.parent).length ≤ 100000) (hi : x.id < 18446744073709551616) (hp : x.parent < 18446744073709551616) :
    Calls Try.prog 77 #[.pointer (some ⟨t, 0, none⟩), x.val] w fun e W => e = .returned (.tuple #[]) ∧ TrTo w X t W l ⟨s.th, outF s.ks x⟩ u ∧ W.heap[t]? = w.heap[t]? := by
  obtain ⟨xi, p, xn, xd, xg, xs⟩ := x
  have hi : xi < 18446744073709551616 := hi
  have hp : p < 18446744073709551616 := hp
  have hu : Up (s.ks p) := hu
  have hn : (s.ks p).length ≤ 100000 := hn
  have hxv : ThV.val ⟨xi, p, xn, xd, xg, xs⟩ = .agg #[.int .u64 (xi : Int), .int .u64 (p : Int), .string xn, .bool xd, .string xg, .int .i64 xs] := rfl
  rw [hxv]
  have hXlt := fun k hk => h.lt (k := k) hk
  obtain ⟨W1, hW1⟩ : ∃ W1, W1 = w.alloc (.cells #[.int .u64 (xi : Int), .int .u64 (p : Int), .string xn, .bool xd, .string xg, .int .i64 xs] 48) := ⟨_, rfl⟩
  have oX : Own W1 w.heap.size 48 #[.int .u64 (xi : Int), .int .u64 (p : Int), .string xn, .bool xd, .string xg, .int .i64 xs] := hW1 ▸ Own.fresh _ _ _
  have hN1 : New w W1 := hW1 ▸ (Fr.refl _ _).alloc _
  obtain ⟨lv, mt, mk, n1, n2, V, hC⟩ := h
  replace hC : TrC w t X l s u lv mt mk n1 n2 V := hC
  have HTB := Lib.hid (And.intro hC.1 hC.1.lt)
  have hC1 := hC.new_ hN1
  have hown := hC1.ks_own p
  obtain ⟨v, hv⟩ : ∃ v, v = (V p).getD (.slice none 0 0) := ⟨_, rfl⟩
  obtain ⟨row, hrow⟩ : ∃ row, row = s.ks p := ⟨_, rfl⟩
  have hUL : UL W1 v row := by rw [hv, hrow]; exact hC1.2.2.2.2.1.at_ p
  obtain ⟨A, cap, hvf⟩ := hUL.form
  obtain ⟨n, hnn⟩ : ∃ n, n = row.length := ⟨_, rfl⟩
  rw [← hnn] at hvf
  subst hvf
  have hrl : n ≤ 100000 := by rw [hnn, hrow]; exact hn
  rw [← hrow] at hu
  have N2 : ∀ x, (nw W1 x).cell? ⟨t, 2, none⟩ = some (.map (some mk)) := hC1.1.nw 2
  have M0 : ∀ x, (nw W1 x).cell? ⟨w.heap.size, 0, none⟩ = some (.int .u64 (xi : Int)) := oX.nw 0
  have M1 : ∀ x, (nw W1 x).cell? ⟨w.heap.size, 1, none⟩ = some (.int .u64 (p : Int)) := oX.nw 1
  have LK : ∀ x, (Instr.lookup 101 (.map (some mk)) (.int .u64 (p : Int)) false).run Try.prog (nw W1 x) = .ok (.slice A n cap) (nw W1 x) := fun x => by
    rw [hv]
    exact look_kids (hC1.2.2.2.1.fr (nw_new W1 x) fun g => g) hp
  obtain ⟨lo, hlo⟩ : ∃ lo, lo = lowB row xi := ⟨_, rfl⟩
  obtain ⟨f, hf⟩ : ∃ f, f = decide (xi ∈ row) := ⟨_, rfl⟩
  have B0 : ∀ x, Calls Try.prog 102 #[.slice A n cap, .int .u64 (xi : Int)] (nw W1 x) fun e W' => e = .returned (.tuple #[.int .i64 (lo : Nat), .bool f]) ∧ New (nw W1 x) W' := fun x =>
    (bs_any (hUL.new_ (nw_new W1 x)) hnn hrl hu xi).mono (by rintro e W' ⟨h1, rfl⟩; exact ⟨by rw [h1, hlo, hf], Fr.refl _ _⟩)
  have B1 := fun (x : Nx W1) => Calls.nw_of (B0 x)
  have hlol : lo ≤ n := by rw [hlo, hnn]; exact lowB_le _ _
  have H := Lib.hid (And.intro hC1 (And.intro hUL (And.intro hv (And.intro hrow (And.intro hlo (And.intro hf (And.intro oX (And.intro hN1 (And.intro hXlt (And.intro hown (And.intro hu (And.intro hn hnn))))))))))))
  clear hC1 hC hUL hv hrow hlo hf oX hN1 hXlt hown hu hn hnn
  go_enter Try.func77, Try.ntmps77
  go_wp2_with fail
  rw [← hW1]
  clear hW1
  refine wp_region_new_lit (by kernel_rfl) (by kernel_rfl) ?_; (repeat (any_goals (first | go_big_quiet_step ((go_at_call 102; with_reducible exact B1 _)) | quiet_step ((go_at_call 102; with_reducible exact B1 _)) | (refine wpQuiet_step (fun K hK => ?_); go_simp; split <;> (refine hK _ ?_; clear hK K))))); all_goals (refine wpQuiet_nil ?_; intro _ hw'; obtain ⟨xq, hw''⟩ := hw'; subst hw''; have hnq := nw_new _ xq)
  rename_i ha
  obtain ⟨W2, hW2⟩ : ∃ W2, W2 = nw W1 xq := ⟨_, rfl⟩
  rw [← hW2] at hnq ⊢
  clear hW2 xq N2 M0 M1 LK B1 B0
  refine ha _ _ ?_
  clear ha
  obtain ⟨hC1, hUL, hv, hrow, hlo, hf, oX, hN1, hXlt, hown, hu, hn, hnn⟩ := H.out
  cases f with
  | false =>
    have hnot : outF s.ks ⟨xi, p, xn, xd, xg, xs⟩ = s.ks := by
      unfold outF
      rw [if_neg]
      intro h
      rw [← hrow] at h
      exact of_decide_eq_false hf.symm ((at_low hu).1 h)
    have HE := Lib.hid (And.intro hnot hnq)
    clear hC1 hUL hv hrow hlo hf oX hN1 hXlt hown hu hn hnn hnot hnq
    go_wp2_with fail
    refine bodyPost_ret (results_none rfl _ _ _) rfl ?_
    rw [HE.out.1]
    exact ⟨rfl, ⟨X, (H.out.1.of).new_ HE.out.2, (H.out.2.2.2.2.2.2.2.1.mono fun _ g => g.elim).new_ HE.out.2, fun k hk => .inl hk⟩, (H.out.2.2.2.2.2.2.2.1.new_ HE.out.2).block t HTB.out.2 (fun g => g)⟩
  | true =>
    have hmem : xi ∈ row := of_decide_eq_true hf.symm
    have hout : outF s.ks ⟨xi, p, xn, xd, xg, xs⟩ = updF s.ks p (cutK row xi) := by
      unfold outF
      rw [if_pos (by rw [← hrow]; exact (at_low hu).2 hmem), ← hrow]
    have hcut : row.take lo ++ row.drop (lo + 1) = cutK row xi := by rw [hlo]; rfl
    have hlt : lo < n := by
      have := (at_low hu).2 hmem
      rw [← hlo] at this
      rw [hnn]
      exact (List.getElem?_eq_some_iff.1 this).1
    have hlen : (cutK row xi).length = n - 1 := by rw [← hcut, List.length_append, List.length_take, List.length_drop]; omega
    have C2 := hC1.new_ hnq
    have U2 := hUL.new_ hnq
    have o2 := oX.new_ hnq
    have hn2 := hN1.new_ hnq
    have hcap := U2.cap
    have hlt2 : (lo : Int) < 100000 := by omega
    have hlo0 : (0 : Int) ≤ (lo : Int) := by omega
    have hlw : IntKind.i64.wrap ((lo : Int) + 1) = (lo : Int) + 1 := by rw [IntKind.wrap_i64]; omega
    have HM : ∀ w', Fr (fun k => (Value.slice A n cap).ownBlock = some k) W2 w' → w'.cell? ⟨t, 2, none⟩ = some (.map (some mk)) ∧ w'.cell? ⟨w.heap.size, 1, none⟩ = some (.int .u64 (p : Int)) ∧
        (Instr.lookup 101 (.map (some mk)) (.int .u64 (p : Int)) false).run Try.prog w' = .ok (.slice A n cap) w' := fun w' g => by
      refine ⟨(C2.1.fr g (U2.notOwn C2.1)).cell 2, (o2.fr g fun e => ?_).cell 1, ?_⟩
      · have := hXlt _ (hown _ (hv ▸ e))
        omega
      · rw [hv]
        exact look_kids (C2.2.2.2.1.fr g (U2.notMap C2.2.2.2.1)) hp
    have HB := Lib.hid (And.intro hout (And.intro hcut (And.intro hlen (And.intro C2 (And.intro U2 (And.intro o2 (And.intro hn2 (And.intro hlt HM))))))))
    clear hC1 hUL hv hrow hlo hf oX hN1 hown hu hn hnn hnq hmem hout hcut hlen C2 U2 o2 hn2 hXlt
    go_wp2_with fail
    apply wp_region_partsK 17 (fun W' => Fr (fun k => (Value.slice A n cap).ownBlock = some k) W2 W')
    case hp => simp only [List.take_succ_cons, List.take_zero]; exact rfl
    case hd => simp only [List.drop_succ_cons, List.drop_zero]; exact rfl
    case hm => kernel_rfl
    case hB => kernel_rfl
    case hT => kernel_rfl
    have hS0 : Fr (fun k => (Value.slice A n cap).ownBlock = some k) W2 W2.drew := (Fr.refl _ _).drew
    refine wpAnyH_take (i := 0) (v := .pointer (some ⟨t, 0, none⟩)) rfl (by kernel_rfl) (by kernel_rfl) (by kernel_rfl) (fun _ _ _ h => h) (.inl ⟨rfl, fun w' hS => ?t0⟩) hS0 ?_
    case t0 =>
      obtain ⟨m1, m2, m3⟩ := HM w' hS
      go_simp
    refine wpAnyH_take (i := 1) (v := .pointer (some ⟨t, 0, none⟩)) rfl (by kernel_rfl) (by kernel_rfl) (by kernel_rfl) (fun _ _ _ h => h) (.inl ⟨rfl, fun w' hS => ?t1⟩) hS0 ?_
    case t1 =>
      obtain ⟨m1, m2, m3⟩ := HM w' hS
      go_simp
    refine wpAnyH_take (i := 2) (v := .pointer (some ⟨t, 2, none⟩)) rfl (by kernel_rfl) (by kernel_rfl) (by kernel_rfl) (fun _ _ _ h => h) (.inl ⟨rfl, fun w' hS => ?t2⟩) hS0 ?_
    case t2 =>
      obtain ⟨m1, m2, m3⟩ := HM w' hS
      go_simp
    refine wpAnyH_take (i := 3) (v := .map (some mk)) rfl (by kernel_rfl) (by kernel_rfl) (by kernel_rfl) (fun _ _ _ h => h) (.inl ⟨rfl, fun w' hS => ?t3⟩) hS0 ?_
    case t3 =>
      obtain ⟨m1, m2, m3⟩ := HM w' hS
      go_simp
    refine wpAnyH_take (i := 4) (v := .pointer (some ⟨w.heap.size, 1, none⟩)) rfl (by kernel_rfl) (by kernel_rfl) (by kernel_rfl) (fun _ _ _ h => h) (.inl ⟨rfl, fun w' hS => ?t4⟩) hS0 ?_
    case t4 =>
      obtain ⟨m1, m2, m3⟩ := HM w' hS
      go_simp
    refine wpAnyH_take (i := 5) (v := .int .u64 (p : Int)) rfl (by kernel_rfl) (by kernel_rfl) (by kernel_rfl) (fun _ _ _ h => h) (.inl ⟨rfl, fun w' hS => ?t5⟩) hS0 ?_
    case t5 =>
      obtain ⟨m1, m2, m3⟩ := HM w' hS
      go_simp
    refine wpAnyH_take (i := 6) (v := .pointer (some ⟨t, 0, none⟩)) rfl (by kernel_rfl) (by kernel_rfl) (by kernel_rfl) (fun _ _ _ h => h) (.inl ⟨rfl, fun w' hS => ?t6⟩) hS0 ?_
    case t6 =>
      obtain ⟨m1, m2, m3⟩ := HM w' hS
      go_simp
    refine wpAnyH_take (i := 7) (v := .pointer (some ⟨t, 0, none⟩)) rfl (by kernel_rfl) (by kernel_rfl) (by kernel_rfl) (fun _ _ _ h => h) (.inl ⟨rfl, fun w' hS => ?t7⟩) hS0 ?_
    case t7 =>
      obtain ⟨m1, m2, m3⟩ := HM w' hS
      go_simp
    refine wpAnyH_take (i := 8) (v := .pointer (some ⟨t, 2, none⟩)) rfl (by kernel_rfl) (by kernel_rfl) (by kernel_rfl) (fun _ _ _ h => h) (.inl ⟨rfl, fun w' hS => ?t8⟩) hS0 ?_
    case t8 =>
      obtain ⟨m1, m2, m3⟩ := HM w' hS
      go_simp
    refine wpAnyH_take (i := 9) (v := .map (some mk)) rfl (by kernel_rfl) (by kernel_rfl) (by kernel_rfl) (fun _ _ _ h => h) (.inl ⟨rfl, fun w' hS => ?t9⟩) hS0 ?_
    case t9 =>
      obtain ⟨m1, m2, m3⟩ := HM w' hS
      go_simp
    refine wpAnyH_take (i := 10) (v := .pointer (some ⟨w.heap.size, 1, none⟩)) rfl (by kernel_rfl) (by kernel_rfl) (by kernel_rfl) (fun _ _ _ h => h) (.inl ⟨rfl, fun w' hS => ?t10⟩) hS0 ?_
    case t10 =>
      obtain ⟨m1, m2, m3⟩ := HM w' hS
      go_simp
    refine wpAnyH_take (i := 11) (v := .int .u64 (p : Int)) rfl (by kernel_rfl) (by kernel_rfl) (by kernel_rfl) (fun _ _ _ h => h) (.inl ⟨rfl, fun w' hS => ?t11⟩) hS0 ?_
    case t11 =>
      obtain ⟨m1, m2, m3⟩ := HM w' hS
      go_simp
    refine wpAnyH_take (i := 12) (v := .slice A n cap) rfl (by kernel_rfl) (by kernel_rfl) (by kernel_rfl) (fun _ _ _ h => h) (.inl ⟨rfl, fun w' hS => ?t12⟩) hS0 ?_
    case t12 =>
      obtain ⟨m1, m2, m3⟩ := HM w' hS
      go_simp
    refine wpAnyH_take (i := 13) (v := .int .i64 (lo : Nat)) rfl (by kernel_rfl) (by kernel_rfl) (by kernel_rfl) (fun _ _ _ h => h) (.inl ⟨rfl, fun w' hS => ?t13⟩) hS0 ?_
    case t13 =>
      obtain ⟨m1, m2, m3⟩ := HM w' hS
      go_simp
    refine wpAnyH_take (i := 14) (v := .int .i64 (lo : Nat)) rfl (by kernel_rfl) (by kernel_rfl) (by kernel_rfl) (fun _ _ _ h => h) (.inl ⟨rfl, fun w' hS => ?t14⟩) hS0 ?_
    case t14 =>
      obtain ⟨m1, m2, m3⟩ := HM w' hS
      go_simp
    refine wpAnyH_take (i := 15) (v := .int .i64 ((lo : Int) + 1)) rfl (by kernel_rfl) (by kernel_rfl) (by kernel_rfl) (fun _ _ _ h => h) (.inl ⟨rfl, fun w' hS => ?t15⟩) hS0 ?_
    case t15 =>
      obtain ⟨m1, m2, m3⟩ := HM w' hS
      go_simp
    try simp only [Act.put, List.setIfInBounds_toArray, List.set_cons_zero, List.set_cons_succ]
    refine wpAnyH_all (rs := [16]) (by kernel_rfl) (by simp) (fun j hj => ?_)
    rw [List.mem_singleton] at hj
    subst hj
    refine wpOp_step rfl (fun K hK => ?_)
    go_simp
    obtain ⟨hout, hcut, hlen, C2, U2, o2, hn2, hlt, HM'⟩ := HB.out
    obtain ⟨hC1, hUL, hv, hrow, hlo, hf, oX, hN1, hXlt, hown, hu, hn, hnn⟩ := H.out
    refine (del_u (i := lo) (U2.new_ ((Fr.refl _ _).drew)) (by omega) (by omega)).mono ?_
    rintro e W5 ⟨v', rfl, h5, ho5, f5⟩
    have f5' : Fr (fun k => (Value.slice A n cap).ownBlock = some k) W2 W5 := hS0.trans f5 fun _ _ e => e
    rw [hcut] at h5
    obtain ⟨W6, n2', X', hput, C6, f6, hX6⟩ := C2.put_kids (W := W5) hp (v' := v') (row' := cutK row xi) (by rw [← hv]; exact f5') h5 (.inl (by rw [← hv]; exact ho5))
    have o6 : Own W6 w.heap.size 48 #[.int .u64 (xi : Int), .int .u64 (p : Int), .string xn, .bool xd, .string xg, .int .i64 xs] := o2.fr f6 fun e => by have := hXlt _ e; omega
    have hW2 := hn2.size
    have HE6 := Lib.hid (And.intro (C6.1.same HTB.out.1) C6.1.lt)
    have HT6 := Lib.hid (show TrB W6 t X' l ⟨s.th, updF s.ks p (cutK row xi)⟩ u ∧ Fr X w W6 ∧ (∀ k, X' k → X k ∨ w.heap.size ≤ k) from ⟨C6.of, (hn2.mono fun _ g => g.elim).trans f6 fun _ _ g => g, fun k e => (hX6 k e).elim .inl fun h => .inr (by omega)⟩)
    have H6 := Lib.hid (And.intro C6 (And.intro o6 hout))
    obtain ⟨A', cap', hvf⟩ := h5.form
    rw [hlen] at hvf
    have HV := Lib.hid hvf
    refine hK _ _ ⟨f5', ?_⟩
    clear hK K C6 o6 hout hcut hlen C2 U2 o2 hn2 hlt HM' hC1 hUL hv hrow hlo hf oX hN1 hXlt hown hu hn hnn h5 ho5 f5 f5' f6 hX6 hvf HM
    try simp only [Act.put, List.setIfInBounds_toArray, List.set_cons_zero, List.set_cons_succ]
    refine wpAnyH_done (by kernel_rfl) ?_ _
    unfold restQ
    go_simp
    refine wpList_mapUpdate_run rfl (.tmp 24) (.tmp 26) (.tmp 37) 101 rfl ?em ?ex ?ev hput ?_
    case em => simp [Act.eval]
    case ex => simp [Act.eval]
    case ev => simp [Act.eval]
    go_wp2_with fail
    obtain ⟨C6, o6, hout⟩ := H6.out
    have N2 : ∀ x, (nw W6 x).cell? ⟨t, 2, none⟩ = some (.map (some mk)) := C6.1.nw 2
    have M1 : ∀ x, (nw W6 x).cell? ⟨w.heap.size, 1, none⟩ = some (.int .u64 (p : Int)) := o6.nw 1
    have LK : ∀ x, (Instr.lookup 101 (.map (some mk)) (.int .u64 (p : Int)) false).run Try.prog (nw W6 x) = .ok (.slice A' (n - 1) cap') (nw W6 x) := fun x => by
      have := look_kids (C6.2.2.2.1.fr (nw_new W6 x) fun g => g) hp
      rw [updF_same] at this
      rw [← HV.out]
      exact this
    clear C6 o6 hout
    obtain ⟨n', hn'⟩ : ∃ n', n' = n - 1 := ⟨_, rfl⟩
    rw [← hn'] at LK
    have HN' := Lib.hid hn'
    clear hn'
    refine wp_region_new_lit (by kernel_rfl) (by kernel_rfl) ?_; (repeat (any_goals (first | go_big_quiet_step (fail) | quiet_step (fail) | (refine wpQuiet_step (fun K hK => ?_); go_simp; split <;> (refine hK _ ?_; clear hK K))))); all_goals (refine wpQuiet_nil ?_; intro _ hw'; obtain ⟨xq, hw''⟩ := hw'; subst hw''; have hnq := nw_new _ xq)
    rename_i ha
    obtain ⟨W7, hW7⟩ : ∃ W7, W7 = nw W6 xq := ⟨_, rfl⟩
    rw [← hW7] at hnq ⊢
    clear hW7 xq N2 M1 LK
    refine ha _ _ ?_
    clear ha hput hcap hlt2 hlo0 hlw hS0
    by_cases h0 : n' = 0
    · subst h0
      have C7 := H6.out.1.new_ hnq
      have o7 := H6.out.2.1.new_ hnq
      have N2 : ∀ x, (nw W7 x).cell? ⟨t, 2, none⟩ = some (.map (some mk)) := C7.1.nw 2
      have M1 : ∀ x, (nw W7 x).cell? ⟨w.heap.size, 1, none⟩ = some (.int .u64 (p : Int)) := o7.nw 1
      have H7 := Lib.hid (And.intro C7 (And.intro o7 (hnq)))
      clear C7 o7 hnq
      go_wp2_with fail
      apply wp_region_new_parts 6; (case hp => simp only [List.take_succ_cons, List.take_zero]; exact rfl); (case hd => simp only [List.drop_succ_cons, List.drop_zero]; exact rfl); (case hm => kernel_rfl); (case hB => kernel_rfl); (case hT => kernel_rfl); (case hL => kernel_rfl); (repeat (any_goals (first | go_big_quiet_step (fail) | quiet_step (fail) | (refine wpQuiet_step (fun K hK => ?_); go_simp; split <;> (refine hK _ ?_; clear hK K))))); all_goals (refine wpQuiet_nil ?_; intro _ hw'; obtain ⟨xq, hw''⟩ := hw'; subst hw''; have hnq := nw_new _ xq)
      have hks : (updF s.ks p (cutK row xi)) p = [] := by
        rw [updF_same]
        exact List.eq_nil_of_length_eq_zero (by rw [HB.out.2.2.1, ← HN'.out])
      obtain ⟨W8, n3, X8, hdel, C8, f8, hX8⟩ := (H7.out.1.new_ hnq).del_kids hp hks 0
      have HE8 := Lib.hid (C8.1.same HTB.out.1)
      have HT8 := Lib.hid (show TrB W8 t X8 l ⟨s.th, updF s.ks p (cutK row xi)⟩ u ∧ Fr X' W7 W8 ∧ (∀ k, X8 k → X' k) from ⟨C8.of, (hnq.mono fun _ g => g.elim).trans f8 fun _ _ g => g, hX8⟩)
      clear C8 f8 hX8 hks N2 M1
      refine wpList_delete_run rfl (.tmp 50) (.tmp 52) 101 22 rfl ?em ?ex hdel ?_
      case em => simp [Act.eval]
      case ex => simp [Act.eval]
      clear hdel
      go_wp2_with fail
      go_end0
      obtain ⟨T6, f6, hX6⟩ := HT6.out
      obtain ⟨T8, f8, hX8⟩ := HT8.out
      rw [HB.out.1]
      refine ⟨rfl, ⟨X8, T8, (f6.new_ H7.out.2.2).trans f8 fun k hk e => ?_, fun k e => hX6 k (hX8 k e)⟩, HE8.out⟩
      rcases hX6 k e with e | e
      · exact e
      · omega
    · have h0' : ((n' : Int) == 0) = false := by simp; omega
      have HQ := Lib.hid hnq
      clear hnq
      go_wp2_with fail
      go_end0
      obtain ⟨T6, f6, hX6⟩ := HT6.out
      rw [HB.out.1]
      exact ⟨rfl, ⟨X', T6.new_ HQ.out, f6.new_ HQ.out, hX6⟩, (HQ.out.block t HE6.out.2 (fun g => g)).trans HE6.out.1⟩
end Go.Proofs.Ytedfgbkaijjaeaa
