/- Whether any share shows its chunk: the program's answer. -/
import Derived.Test.YtjcpdpdhegcgoaaGreatDoorMkRefVer
import Derived.Test.YtjcpdpdhegcgoaaGreatDoorMkShownUp
import Derived.Test.YtjcpdpdhegcgoaaGreatDoorMkAs
namespace Go.Proofs.YtjcpdpdhegcgoaaGreatDoor
open Go.RowKit Go.Extern.Stop Go.Stop Go.Extern
set_option linter.unusedVariables false
set_option linter.unusedSimpArgs false

/-- A fault of number 1. -/
def ShBad (w : World) (e : Ending) (W : World) : Prop := ∃ b t, e = .returned (.iface 96 (.pointer (some ⟨b, 0, none⟩))) ∧ Own W b 98 #[.string t, .int .i64 1] ∧ New w W
set_option maxRecDepth 100000 in
set_option maxHeartbeats 4000000 in
theorem shown_bad {D c : ByteArray} {z n i : Int} {P : Option Addr} {q cap : Nat} {p : List ByteArray} {w : World} (hcs : c.size ≤ maxLen) (hg : n < 1 ∨ 256 < n ∨ i < 0 ∨ n ≤ i ∨ z < n ∨ 512 * n < z ∨ 8192 < z ∨ c.size = 0 ∨ 512 < c.size) :
    Calls Tryz.prog 41 #[.agg #[.string D, .int .i64 z, .int .i64 n, .int .i64 i, .string c, .slice P q cap]] w (ShBad w) := by
  have hmx : c.size ≤ 9223372036854775807 := hcs
  clear hcs
  by_cases g0 : n < 1
  · clear hg
    have hb : verB D z n i c p = 1 := by unfold verB; rw [if_pos (.inl g0)]
    clear hb
    go_enter Tryz.func41, Tryz.ntmps41
    go_wp2_with fail
    go_ret
    exact ⟨_, _, rfl, Own.new' (by simp), ((Fr.refl _ _).alloc _).alloc _⟩
  by_cases g1 : 256 < n
  · clear hg
    have hb : verB D z n i c p = 1 := by unfold verB; rw [if_pos (.inr (.inl g1))]
    clear hb
    go_enter Tryz.func41, Tryz.ntmps41
    go_wp2_with fail
    go_ret
    exact ⟨_, _, rfl, Own.new' (by simp), ((Fr.refl _ _).alloc _).alloc _⟩
  by_cases g2 : i < 0
  · clear hg
    have hb : verB D z n i c p = 1 := by unfold verB; rw [if_pos (.inr (.inr (.inl g2)))]
    clear hb
    go_enter Tryz.func41, Tryz.ntmps41
    go_wp2_with fail
    go_ret
    exact ⟨_, _, rfl, Own.new' (by simp), ((Fr.refl _ _).alloc _).alloc _⟩
  by_cases g3 : n ≤ i
  · clear hg
    have hb : verB D z n i c p = 1 := by unfold verB; rw [if_pos (.inr (.inr (.inr (.inl g3))))]
    clear hb
    go_enter Tryz.func41, Tryz.ntmps41
    go_wp2_with fail
    go_ret
    exact ⟨_, _, rfl, Own.new' (by simp), ((Fr.refl _ _).alloc _).alloc _⟩
  by_cases g4 : z < n
  · clear hg
    have hb : verB D z n i c p = 1 := by unfold verB; rw [if_pos (.inr (.inr (.inr (.inr (.inl g4)))))]
    clear hb
    go_enter Tryz.func41, Tryz.ntmps41
    go_wp2_with fail
    go_ret
    exact ⟨_, _, rfl, Own.new' (by simp), ((Fr.refl _ _).alloc _).alloc _⟩
  by_cases g5 : 512 * n < z
  · clear hg
    have hb : verB D z n i c p = 1 := by unfold verB; rw [if_pos (.inr (.inr (.inr (.inr (.inr (.inl g5))))))]
    have e5 : n * 512 < z := by omega
    clear hb
    go_enter Tryz.func41, Tryz.ntmps41
    go_wp2_with fail
    go_ret
    exact ⟨_, _, rfl, Own.new' (by simp), ((Fr.refl _ _).alloc _).alloc _⟩
  have e5 : ¬ n * 512 < z := by omega
  by_cases g6 : 8192 < z
  · clear hg
    have hb : verB D z n i c p = 1 := by unfold verB; rw [if_pos (.inr (.inr (.inr (.inr (.inr (.inr (.inl g6)))))))]
    clear hb
    go_enter Tryz.func41, Tryz.ntmps41
    go_wp2_with fail
    go_ret
    exact ⟨_, _, rfl, Own.new' (by simp), ((Fr.refl _ _).alloc _).alloc _⟩
  by_cases g7 : c.size = 0
  · clear hg
    have hb : verB D z n i c p = 1 := by unfold verB; rw [if_pos (.inr (.inr (.inr (.inr (.inr (.inr (.inr (.inl g7))))))))]
    have e7 : (c.size : Int) < 1 := by omega
    have f7 : c.toList = [] := by rw [txt_none g7]; exact txt_nil
    clear hb
    go_enter Tryz.func41, Tryz.ntmps41
    go_wp2_with fail
    go_ret
    exact ⟨_, _, rfl, Own.new' (by simp), ((Fr.refl _ _).alloc _).alloc _⟩
  have e7 : ¬ (c.size : Int) < 1 := by omega
  have k7 : c.toList.isEmpty = false := by rw [txt_empty]; exact decide_eq_false g7
  have f7 : ¬ c.toList = [] := fun e => g7 (by rw [txt_inj (e.trans txt_nil.symm)]; rfl)
  by_cases g8 : 512 < c.size
  · clear hg
    have hb : verB D z n i c p = 1 := by unfold verB; rw [if_pos (.inr (.inr (.inr (.inr (.inr (.inr (.inr (.inr (g8)))))))))]
    have e8 : (512 : Int) < (c.size : Int) := by omega
    clear hb
    go_enter Tryz.func41, Tryz.ntmps41
    go_wp2_with fail
    go_ret
    exact ⟨_, _, rfl, Own.new' (by simp), ((Fr.refl _ _).alloc _).alloc _⟩
  have e8 : ¬ (512 : Int) < (c.size : Int) := by omega
  exfalso
  omega
set_option maxRecDepth 100000 in
set_option maxHeartbeats 4000000 in
theorem shown_none {D c : ByteArray} {z' n' i' : Nat} {P : Option Addr} {q cap : Nat} {p : List ByteArray} {w : World} (hn1 : 1 ≤ n') (hn2 : n' ≤ 256) (hat : i' < n') (hz1 : n' ≤ z') (hz2 : z' ≤ 512 * n') (hz3 : z' ≤ 8192) (hc1 : 1 ≤ c.size) (hc2 : c.size ≤ 512) (hl : SlT w P q p) (hqc : q ≤ cap) (hcm : cap ≤ maxLen) (hu : upB (digB c) i' n' p = none) :
    Calls Tryz.prog 41 #[.agg #[.string D, .int .i64 z', .int .i64 n', .int .i64 i', .string c, .slice P q cap]] w fun e W => ∃ d v, e = .returned v ∧ ErrT W d v ∧ New w W := by
  have z0 : (1 : Int) ≤ (n' : Int) := by omega
  have z00 : (n' : Int) ≤ 256 := by omega
  have z01 : (i' : Int) < (n' : Int) := by omega
  have z1 : (n' : Int) ≤ (z' : Int) := by omega
  have z2 : (z' : Int) ≤ (n' : Int) * 512 := by omega
  have z3 : (z' : Int) ≤ 8192 := by omega
  have c1 : (1 : Int) ≤ (c.size : Int) := by omega
  have c2 : (c.size : Int) ≤ 512 := by omega
  have CL := Lib.hid fun (w : World) (f : SlT w P q p) => climb_bad n' (digB c) i' n' P q cap p w (Nat.le_refl _) hn1 (by omega) (by omega) f hqc hcm hu
  have MD := Lib.hid fun (w : World) => mk_digest (s := c) (by omega) (w := w)
  obtain ⟨dg, hdg⟩ : ∃ dg, dg = digB c := ⟨_, rfl⟩
  rw [← hdg] at CL MD
  have HL := Lib.hid hl
  clear hu hl hdg
  have ho := Own.fresh w 27 #[.string D, .int .i64 z', .int .i64 n', .int .i64 i', .string c, .slice P q cap]
  have hN : New w (w.alloc (.cells #[.string D, .int .i64 z', .int .i64 n', .int .i64 i', .string c, .slice P q cap] 27)) := (Fr.refl _ _).alloc _
  go_enter Tryz.func41, Tryz.ntmps41
  go_wp2_with fail
  obtain ⟨W, hW⟩ : ∃ W, W = w.alloc (.cells #[.string D, .int .i64 z', .int .i64 n', .int .i64 i', .string c, .slice P q cap] 27) := ⟨_, rfl⟩
  rw [← hW] at ho hN ⊢
  obtain ⟨bx, hbx⟩ : ∃ bx, bx = w.heap.size := ⟨_, rfl⟩
  rw [← hbx] at ho ⊢
  clear hW hbx
  have hS0 : New W W.drew := (Fr.refl _ _).drew
  refine wp_region_heldE (fun W' => New W W') (by kernel_rfl) ?_
  refine wpAnyH_takeD (i := 0) (d := some 66) (v := .pointer (some ⟨bx, 4, none⟩)) rfl rfl (by kernel_rfl) (by kernel_rfl) (by kernel_rfl) (fun _ _ _ h => h) (.inl ⟨by kernel_rfl, fun w' hS => ?t0⟩) hS0 ?_
  case t0 =>
    go_simp
  refine wpAnyH_takeD (i := 1) (d := some 67) (v := .string c) rfl rfl (by kernel_rfl) (by kernel_rfl) (by kernel_rfl) (fun _ _ _ h => h) (.inl ⟨by kernel_rfl, fun w' hS => ?t1⟩) hS0 ?_
  case t1 =>
    obtain ⟨⟨x0, x1, x2, x3, x4, x5⟩, -⟩ := own6s (ho.new_ hS)
    go_simp
  refine wpAnyH_takeD (i := 3) (d := some 69) (v := .pointer (some ⟨bx, 3, none⟩)) rfl rfl (by kernel_rfl) (by kernel_rfl) (by kernel_rfl) (fun _ _ _ h => h) (.inl ⟨by kernel_rfl, fun w' hS => ?t3⟩) hS0 ?_
  case t3 =>
    go_simp
  refine wpAnyH_takeD (i := 4) (d := some 70) (v := .int .i64 i') rfl rfl (by kernel_rfl) (by kernel_rfl) (by kernel_rfl) (fun _ _ _ h => h) (.inl ⟨by kernel_rfl, fun w' hS => ?t4⟩) hS0 ?_
  case t4 =>
    obtain ⟨⟨x0, x1, x2, x3, x4, x5⟩, -⟩ := own6s (ho.new_ hS)
    go_simp
  refine wpAnyH_takeD (i := 5) (d := some 71) (v := .pointer (some ⟨bx, 2, none⟩)) rfl rfl (by kernel_rfl) (by kernel_rfl) (by kernel_rfl) (fun _ _ _ h => h) (.inl ⟨by kernel_rfl, fun w' hS => ?t5⟩) hS0 ?_
  case t5 =>
    go_simp
  refine wpAnyH_takeD (i := 6) (d := some 72) (v := .int .i64 n') rfl rfl (by kernel_rfl) (by kernel_rfl) (by kernel_rfl) (fun _ _ _ h => h) (.inl ⟨by kernel_rfl, fun w' hS => ?t6⟩) hS0 ?_
  case t6 =>
    obtain ⟨⟨x0, x1, x2, x3, x4, x5⟩, -⟩ := own6s (ho.new_ hS)
    go_simp
  refine wpAnyH_takeD (i := 7) (d := some 73) (v := .pointer (some ⟨bx, 5, none⟩)) rfl rfl (by kernel_rfl) (by kernel_rfl) (by kernel_rfl) (fun _ _ _ h => h) (.inl ⟨by kernel_rfl, fun w' hS => ?t7⟩) hS0 ?_
  case t7 =>
    go_simp
  refine wpAnyH_takeD (i := 8) (d := some 74) (v := .slice P q cap) rfl rfl (by kernel_rfl) (by kernel_rfl) (by kernel_rfl) (fun _ _ _ h => h) (.inl ⟨by kernel_rfl, fun w' hS => ?t8⟩) hS0 ?_
  case t8 =>
    obtain ⟨⟨x0, x1, x2, x3, x4, x5⟩, -⟩ := own6s (ho.new_ hS)
    go_simp
  try simp only [Act.put, List.setIfInBounds_toArray, List.set_cons_zero, List.set_cons_succ]
  refine wpAnyH_all (rs := [2]) (by kernel_rfl) (by simp) (fun j hj => ?_)
  rw [List.mem_singleton] at hj
  subst hj
  refine wpOp_step rfl (fun K hK => ?_)
  go_simp
  refine (MD.out _).mono ?_
  rintro e W2 ⟨rfl, n2⟩
  have hS2 := hS0.new_ n2
  clear n2 hS0
  refine hK _ _ ⟨hS2, ?_⟩
  clear hK K
  try simp only [List.getElem_toArray, List.getElem_cons_succ, List.getElem_cons_zero]
  try simp only [Act.put, List.setIfInBounds_toArray, List.set_cons_zero, List.set_cons_succ]
  refine wpAnyH_all (rs := [9]) (by kernel_rfl) (by simp) (fun j hj => ?_)
  rw [List.mem_singleton] at hj
  subst hj
  refine wpOp_step rfl (fun K hK => ?_)
  go_simp
  refine (CL.out _ ((HL.out.new_ hN).new_ hS2)).mono ?_
  rintro e W3 ⟨d, v, rfl, t3, n3⟩
  have hS3 := hS2.new_ n3
  clear n3 hS2
  obtain ⟨ty, u, rfl⟩ := t3.form
  refine hK _ _ ⟨hS3, ?_⟩
  clear hK K
  try simp only [List.getElem_toArray, List.getElem_cons_succ, List.getElem_cons_zero]
  refine wpAnyH_takeD (i := 10) (d := some 65) (v := .tuple #[.string ⟨#[]⟩, .iface ty u]) rfl rfl (by kernel_rfl) (by kernel_rfl) (by kernel_rfl) (fun _ _ _ h => h) (.inl ⟨by kernel_rfl, fun w' hS => ?t10⟩) hS3 ?_
  case t10 =>
    go_simp
  refine wpAnyH_takeD (i := 11) (d := some 76) (v := .string ⟨#[]⟩) rfl rfl (by kernel_rfl) (by kernel_rfl) (by kernel_rfl) (fun _ _ _ h => h) (.inl ⟨by kernel_rfl, fun w' hS => ?t11⟩) hS3 ?_
  case t11 =>
    go_simp
  refine wpAnyH_takeD (i := 12) (d := some 77) (v := .iface ty u) rfl rfl (by kernel_rfl) (by kernel_rfl) (by kernel_rfl) (fun _ _ _ h => h) (.inl ⟨by kernel_rfl, fun w' hS => ?t12⟩) hS3 ?_
  case t12 =>
    go_simp
  refine wpAnyH_takeD (i := 13) (d := some 3) (v := .string ⟨#[]⟩) rfl rfl (by kernel_rfl) (by kernel_rfl) (by kernel_rfl) (fun _ _ _ h => h) (.inl ⟨by kernel_rfl, fun w' hS => ?t13⟩) hS3 ?_
  case t13 =>
    go_simp
  refine wpAnyH_takeD (i := 14) (d := some 4) (v := .iface ty u) rfl rfl (by kernel_rfl) (by kernel_rfl) (by kernel_rfl) (fun _ _ _ h => h) (.inl ⟨by kernel_rfl, fun w' hS => ?t14⟩) hS3 ?_
  case t14 =>
    go_simp
  refine wpAnyH_done (by kernel_rfl) ?_ _
  try simp only [Act.put, List.setIfInBounds_toArray, List.set_cons_zero, List.set_cons_succ]
  have H3 := Lib.hid (And.intro t3 (hN.new_ hS3))
  clear hS3 t3 ho hN
  go_wp2_with fail
  go_ret
  exact ⟨d, _, rfl, H3.out.1, H3.out.2⟩
theorem mk_noIsE (v : Value) (xT : TypeId) (w : World) : (Instr.typeAssert (.iface 28 v) xT 122 true).run Tryz.prog w = .ok (.tuple #[.nilIface, .bool false]) w := run_typeAssert_lacksB Tryz.underlying122 (by kernel_rfl) (by kernel_rfl) v xT w
theorem mk_noUnwrapE (v : Value) (xT : TypeId) (w : World) : (Instr.typeAssert (.iface 28 v) xT 125 true).run Tryz.prog w = .ok (.tuple #[.nilIface, .bool false]) w := run_typeAssert_lacksB Tryz.underlying125 (by kernel_rfl) (by kernel_rfl) v xT w
theorem mk_noUnwrapsE (v : Value) (xT : TypeId) (w : World) : (Instr.typeAssert (.iface 28 v) xT 127 true).run Tryz.prog w = .ok (.tuple #[.nilIface, .bool false]) w := run_typeAssert_lacksB Tryz.underlying127 (by kernel_rfl) (by kernel_rfl) v xT w
set_option maxRecDepth 100000 in
set_option maxHeartbeats 4000000 in
/-- errors.Is(a fault of number 1, 90). -/
theorem is_other (pb : Nat) (w : World) (h1 : w.cell? ⟨pb, 1, none⟩ = some (.int .i64 1)) :
    Calls Tryz.prog 42 #[.iface 96 (.pointer (some ⟨pb, 0, none⟩)), .iface 28 (.int .i64 90)] w fun e w' => e = .returned (.bool false) ∧ w' = w := by
  obtain ⟨i, hi, hcmp⟩ := Option.map_eq_some_iff.1 mk_compErrno
  have h33 := @run_callFunc_extern Tryz.prog 69 _ Extern.ReflectliteType.typeOf Tryz.func69 (by kernel_rfl) (by kernel_rfl) (by kernel_rfl) (by kernel_rfl)
  have tT := mk_typeOf
  have cT := mk_comparable
  have mR := mk_methodComparable
  have nF := mk_noIsF
  have uF := mk_hasUnwrapF
  have nE := mk_noIsE
  have uE := mk_noUnwrapE
  have vE := mk_noUnwrapsE
  have mU := mk_methodUnwrap
  have heq := run_eql_num (P := Tryz.prog) w 1 90 Tryz.underlying65 Tryz.underlying28 hi hcmp
  have hty := run_eql_iface_types (P := Tryz.prog) 96 28 (.pointer (some ⟨pb, 0, none⟩)) (.int .i64 90) Tryz.underlying65 (by decide) w
  go_enter Tryz.func42, Tryz.ntmps42
  go_wp2
  refine wp_loop_rounds 2 ?_
  rw [rounds_succ]
  go_wp2_with (go_at_call 144; refine (fault_unwrap pb 1 _ h1).mono ?_; rintro e wq ⟨rfl, rfl⟩)
  rw [rounds_succ]
  go_wp2
  go_ret
  exact ⟨rfl, rfl⟩
set_option maxRecDepth 100000 in
set_option maxHeartbeats 4000000 in
theorem is_treeI {d : Nat} {u : Value} {w : World} (h : ErrT w d u) : Calls Tryz.prog 42 #[u, .iface 28 (.int .i64 90)] w fun e w' => e = .returned (.bool true) ∧ New w w' := by
  have IT := Lib.hid (is_tree d u w h)
  obtain ⟨ty, v, rfl⟩ := h.form
  have h33 := @run_callFunc_extern Tryz.prog 69 _ Extern.ReflectliteType.typeOf Tryz.func69 (by kernel_rfl) (by kernel_rfl) (by kernel_rfl) (by kernel_rfl)
  have tT := mk_typeOf
  have cT := mk_comparable
  have mR := mk_methodComparable
  clear h
  go_enter Tryz.func42, Tryz.ntmps42
  go_wp2_with fail
  refine IT.out.mono ?_
  rintro e w' ⟨rfl, n1⟩
  go_wp2_with fail
  go_ret
  exact ⟨rfl, n1⟩
theorem glob_new {w W : World} {v : Value} (hG : w.cell? ⟨0, 0, none⟩ = some v) (f : New w W) : W.cell? ⟨0, 0, none⟩ = some v := by
  have hlt : 0 < w.heap.size := by
    rcases Nat.eq_zero_or_pos w.heap.size with h0 | h
    · simp [World.cell?, h0] at hG
    · exact h
  rw [← hG]
  unfold World.cell?
  rw [f.block 0 hlt (fun x => x)]
set_option maxRecDepth 100000 in
set_option maxHeartbeats 4000000 in
theorem verify_any {D c : ByteArray} {z n i : Int} {P : Option Addr} {q cap : Nat} {p : List ByteArray} {w : World} (hG : w.cell? ⟨0, 0, none⟩ = some errT) (hl : SlT w P q p) (hqc : q ≤ cap) (hcm : cap ≤ maxLen) (hcs : c.size ≤ maxLen) :
    Calls Tryz.prog 12 #[.agg #[.string D, .int .i64 z, .int .i64 n, .int .i64 i, .string c, .slice P q cap]] w fun e W => e = .returned (.int .i64 (verB D z n i c p)) ∧ New w W := by
  by_cases hg : n < 1 ∨ 256 < n ∨ i < 0 ∨ n ≤ i ∨ z < n ∨ 512 * n < z ∨ 8192 < z ∨ c.size = 0 ∨ 512 < c.size
  · have hb : verB D z n i c p = 1 := by unfold verB; rw [if_pos hg]
    rw [hb]
    have ho := Own.fresh w 27 #[.string D, .int .i64 z, .int .i64 n, .int .i64 i, .string c, .slice P q cap]
    have hN : New w (w.alloc (.cells #[.string D, .int .i64 z, .int .i64 n, .int .i64 i, .string c, .slice P q cap] 27)) := (Fr.refl _ _).alloc _
    obtain ⟨⟨r0, r1, r2, r3, r4, r5⟩, -⟩ := own6s ho
    have SB := Lib.hid fun (w : World) => shown_bad (D := D) (P := P) (q := q) (cap := cap) (p := p) (w := w) hcs hg
    have HG := Lib.hid hG
    clear hg hl hb ho hG
    go_enter Tryz.func12, Tryz.ntmps12
    go_wp2_with fail
    refine (SB.out _).mono ?_
    rintro e W1 ⟨b, t, rfl, hb, n1⟩
    have N1 := Lib.hid (hN.new_ n1)
    have HG1 := Lib.hid (glob_new HG.out N1.out)
    have c1 : W1.cell? ⟨b, 1, none⟩ = some (.int .i64 1) := hb.cell 1
    clear r0 r1 r2 r3 r4 r5 hN n1 hb
    go_wp2_with fail
    refine (is_other b _ c1).mono ?_
    rintro e w' ⟨rfl, rfl⟩
    go_wp2_with fail
    refine (number_fault b 1 _ HG1.out c1).mono ?_
    rintro e W2 ⟨rfl, n2⟩
    have N2 := Lib.hid (N1.out.new_ n2)
    clear n2
    go_wp2_with fail
    go_ret
    exact ⟨rfl, N2.out⟩
  · obtain ⟨n', rfl⟩ := Int.eq_ofNat_of_zero_le (show 0 ≤ n by omega)
    obtain ⟨i', rfl⟩ := Int.eq_ofNat_of_zero_le (show 0 ≤ i by omega)
    obtain ⟨z', rfl⟩ := Int.eq_ofNat_of_zero_le (show 0 ≤ z by omega)
    have hvb : verB D z' n' i' c p = match upB (digB c) i' n' p with | some u => if D = fileB z' n' u then 0 else 90 | none => 90 := by
      unfold verB
      rw [if_neg hg]
      rfl
    rw [hvb]
    cases hu : upB (digB c) i' n' p with
    | some u =>
      refine verify_up (by omega) (by omega) (by omega) (by omega) (by omega) (by omega) (by omega) (by omega) hl hqc hcm hu ⟨fun e => ?_, fun e => ?_⟩
      · simp only
        rw [if_pos e]
      · simp only
        rw [if_neg e]
    | none =>
      have ho := Own.fresh w 27 #[.string D, .int .i64 z', .int .i64 n', .int .i64 i', .string c, .slice P q cap]
      have hN : New w (w.alloc (.cells #[.string D, .int .i64 z', .int .i64 n', .int .i64 i', .string c, .slice P q cap] 27)) := (Fr.refl _ _).alloc _
      obtain ⟨⟨r0, r1, r2, r3, r4, r5⟩, -⟩ := own6s ho
      have SB := Lib.hid (shown_none (D := D) (z' := z') (n' := n') (i' := i') (by omega) (by omega) (by omega) (by omega) (by omega) (by omega) (by omega) (by omega) (hl.new_ hN) hqc hcm hu)
      clear hg hl hvb ho hu hG
      go_enter Tryz.func12, Tryz.ntmps12
      go_wp2_with fail
      refine SB.out.mono ?_
      rintro e W1 ⟨d, v, rfl, hv, n1⟩
      have N1 := Lib.hid (hN.new_ n1)
      have HV := Lib.hid hv
      obtain ⟨ty, u, rfl⟩ := hv.form
      clear r0 r1 r2 r3 r4 r5 hN n1 hv
      go_wp2_with fail
      refine (is_treeI HV.out).mono ?_
      rintro e W2 ⟨rfl, n2⟩
      have N2 := Lib.hid (N1.out.new_ n2)
      clear n2
      go_wp2_with fail
      go_ret
      exact ⟨rfl, N2.out⟩
end Go.Proofs.YtjcpdpdhegcgoaaGreatDoor
