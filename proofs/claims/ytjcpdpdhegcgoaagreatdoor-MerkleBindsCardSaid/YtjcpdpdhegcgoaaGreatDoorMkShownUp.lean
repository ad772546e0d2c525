/- Whether a share shows its chunk, where its path has the digests that it must have. -/
import Derived.Test.YtjcpdpdhegcgoaaGreatDoorMkUp
namespace Go.Proofs.YtjcpdpdhegcgoaaGreatDoor
open Go.RowKit
set_option linter.unusedVariables false
set_option linter.unusedSimpArgs false

set_option maxRecDepth 100000 in
set_option maxHeartbeats 8000000 in
theorem shown_up {D c u : ByteArray} {z n at_ : Nat} {P : Option Addr} {q cap : Nat} {p : List ByteArray} {w : World} (hn1 : 1 ≤ n) (hn2 : n ≤ 256) (hat : at_ < n) (hz1 : n ≤ z) (hz2 : z ≤ 512 * n) (hz3 : z ≤ 8192) (hc1 : 1 ≤ c.size) (hc2 : c.size ≤ 512) (hl : SlT w P q p) (hqc : q ≤ cap) (hcm : cap ≤ maxLen) (hu : upB (digB c) at_ n p = some u) :
    Calls Tryz.prog 41 #[.agg #[.string D, .int .i64 z, .int .i64 n, .int .i64 at_, .string c, .slice P q cap]] w fun e W => New w W ∧
      ((D = fileB z n u ∧ e = .returned .nilIface) ∨ (¬ D = fileB z n u ∧ ∃ b t, e = .returned (.iface 96 (.pointer (some ⟨b, 0, none⟩))) ∧ Own W b 98 #[.string t, .int .i64 90])) := by
  have z0 : (1 : Int) ≤ (n : Int) := by omega
  have z00 : (n : Int) ≤ 256 := by omega
  have z01 : (at_ : Int) < (n : Int) := by omega
  have z1 : (n : Int) ≤ (z : Int) := by omega
  have z2 : (z : Int) ≤ (n : Int) * 512 := by omega
  have z3 : (z : Int) ≤ 8192 := by omega
  have c1 : (1 : Int) ≤ (c.size : Int) := by omega
  have c2 : (c.size : Int) ≤ 512 := by omega
  have hds := digB_size c
  have hus := upB_size n _ _ _ _ _ (Nat.le_refl _) hn1 hds hu
  have CU := Lib.hid fun (w : World) (f : SlT w P q p) => climb_ok n (digB c) at_ n P q cap p u w (Nat.le_refl _) hn1 (by omega) (by omega) hds f hqc hcm hu
  obtain ⟨dg, hdg⟩ : ∃ dg, dg = digB c := ⟨_, rfl⟩
  have MD := Lib.hid fun (w : World) => mk_digest (s := c) (by omega) (w := w)
  rw [← hdg] at CU MD
  have HL := Lib.hid hl
  clear hu hl hdg hds
  have ho := Own.fresh w 27 #[.string D, .int .i64 z, .int .i64 n, .int .i64 at_, .string c, .slice P q cap]
  go_enter Tryz.func41, Tryz.ntmps41
  go_wp2_with fail
  obtain ⟨W, hW⟩ : ∃ W, W = w.alloc (.cells #[.string D, .int .i64 z, .int .i64 n, .int .i64 at_, .string c, .slice P q cap] 27) := ⟨_, rfl⟩
  have hN : New w W := hW ▸ (Fr.refl _ _).alloc _
  rw [← hW] at ho
  rw [show w.alloc (.cells #[.string D, .int .i64 z, .int .i64 n, .int .i64 at_, .string c, .slice P q cap] 27) = W from hW.symm]
  clear hW
  have q0 := ho.nw 0
  have q1 := ho.nw 1
  have q2 := ho.nw 2
  have q3 := ho.nw 3
  have q4 := ho.nw 4
  have q5 := ho.nw 5
  simp only [List.getElem?_toArray, List.getElem?_cons_zero, List.getElem?_cons_succ] at q0 q1 q2 q3 q4 q5
  have B1 := fun x => Calls.nw_of (x := x) (w := W) (MD.out (nw W x))
  have B2 := fun x => Calls.nw_of (x := x) (w := W) (CU.out (nw W x) ((HL.out.new_ hN).new_ (nw_new W x)))
  refine wp_region_new_lit (by kernel_rfl) (by kernel_rfl) ?_; (repeat (any_goals (first | go_big_quiet_step ((first | (go_at_call 22; with_reducible exact B1 _) | (go_at_call 68; with_reducible exact B2 _))) | quiet_step ((first | (go_at_call 22; with_reducible exact B1 _) | (go_at_call 68; with_reducible exact B2 _))) | (refine wpQuiet_step (fun K hK => ?_); go_simp; split <;> (refine hK _ ?_; clear hK K))))); all_goals (refine wpQuiet_nil ?_; intro _ hw'; obtain ⟨xq, hw''⟩ := hw'; subst hw''; have hnq := nw_new _ xq)
  clear B1 B2
  have o2 := ho.new_ hnq
  have n2 := hN.new_ hnq
  clear q0 q1 q2 q3 q4 q5 hnq hN ho
  generalize nw W xq = W2 at o2 n2 ⊢
  have N1 := fun w => number_any z (by omega) 4 w
  have N2 := fun w => number_any n (by omega) 4 w
  rw [show clip 4 = 4 from rfl] at N1 N2
  go_wp2_with fail
  have hmc : ∀ w', New W2 w' → w'.cell? ⟨w.heap.size, 0, none⟩ = some (.string D) ∧ w'.cell? ⟨w.heap.size, 1, none⟩ = some (.int .i64 z) ∧ w'.cell? ⟨w.heap.size, 2, none⟩ = some (.int .i64 n) := fun w' f => ⟨(o2.new_ f).cell 0, (o2.new_ f).cell 1, (o2.new_ f).cell 2⟩
  have hS0 : New W2 W2.drew := (Fr.refl _ _).drew
  refine wp_region_heldE (fun W' => New W2 W') (by kernel_rfl) ?_
  refine wpAnyH_take (i := 0) (v := .pointer (some ⟨w.heap.size, 0, none⟩)) rfl (by kernel_rfl) (by kernel_rfl) (by kernel_rfl) (fun _ _ _ h => h) (.inl ⟨rfl, fun w' hS => ?t0⟩) hS0 ?_
  case t0 =>
    go_simp
  refine wpAnyH_take (i := 1) (v := .string D) rfl (by kernel_rfl) (by kernel_rfl) (by kernel_rfl) (fun _ _ _ h => h) (.inl ⟨rfl, fun w' hS => ?t1⟩) hS0 ?_
  case t1 =>
    obtain ⟨m0, m1, m2⟩ := hmc w' hS
    go_simp
  refine wpAnyH_take (i := 2) (v := .pointer (some ⟨w.heap.size, 1, none⟩)) rfl (by kernel_rfl) (by kernel_rfl) (by kernel_rfl) (fun _ _ _ h => h) (.inl ⟨rfl, fun w' hS => ?t2⟩) hS0 ?_
  case t2 =>
    go_simp
  refine wpAnyH_take (i := 3) (v := .int .i64 z) rfl (by kernel_rfl) (by kernel_rfl) (by kernel_rfl) (fun _ _ _ h => h) (.inl ⟨rfl, fun w' hS => ?t3⟩) hS0 ?_
  case t3 =>
    obtain ⟨m0, m1, m2⟩ := hmc w' hS
    go_simp
  refine wpAnyH_take (i := 4) (v := .int .u64 z) rfl (by kernel_rfl) (by kernel_rfl) (by kernel_rfl) (fun _ _ _ h => h) (.inl ⟨rfl, fun w' hS => ?t4⟩) hS0 ?_
  case t4 =>
    go_simp
    exact u64_id z (by omega)
  refine wpAnyH_take (i := 6) (v := .pointer (some ⟨w.heap.size, 2, none⟩)) rfl (by kernel_rfl) (by kernel_rfl) (by kernel_rfl) (fun _ _ _ h => h) (.inl ⟨rfl, fun w' hS => ?t6⟩) hS0 ?_
  case t6 =>
    go_simp
  refine wpAnyH_take (i := 7) (v := .int .i64 n) rfl (by kernel_rfl) (by kernel_rfl) (by kernel_rfl) (fun _ _ _ h => h) (.inl ⟨rfl, fun w' hS => ?t7⟩) hS0 ?_
  case t7 =>
    obtain ⟨m0, m1, m2⟩ := hmc w' hS
    go_simp
  refine wpAnyH_take (i := 8) (v := .int .u64 n) rfl (by kernel_rfl) (by kernel_rfl) (by kernel_rfl) (fun _ _ _ h => h) (.inl ⟨rfl, fun w' hS => ?t8⟩) hS0 ?_
  case t8 =>
    go_simp
    exact u64_id n (by omega)
  refine wpAnyH_take (i := 10) (v := .string u) rfl (by kernel_rfl) (by kernel_rfl) (by kernel_rfl) (fun _ _ _ h => h) (.inl ⟨rfl, fun w' hS => ?t10⟩) hS0 ?_
  case t10 =>
    go_simp
  try simp only [Act.put, List.setIfInBounds_toArray, List.set_cons_zero, List.set_cons_succ]
  refine wpAnyH_all (rs := [5]) (by kernel_rfl) (by simp) (fun j hj => ?_)
  rw [List.mem_singleton] at hj
  subst hj
  refine wpOp_step rfl (fun K hK => ?_)
  go_simp
  refine (N1 _).mono ?_
  rintro e w1 ⟨rfl, n1⟩
  have hS1 := hS0.new_ n1
  refine hK _ _ ⟨hS1, ?_⟩
  clear hK K
  try simp only [Act.put, List.setIfInBounds_toArray, List.set_cons_zero, List.set_cons_succ]
  refine wpAnyH_all (rs := [9]) (by kernel_rfl) (by simp) (fun j hj => ?_)
  rw [List.mem_singleton] at hj
  subst hj
  refine wpOp_step rfl (fun K hK => ?_)
  go_simp
  refine (N2 _).mono ?_
  rintro e w3 ⟨rfl, n3⟩
  have hS2 := hS1.new_ n3
  refine hK _ _ ⟨hS2, ?_⟩
  clear hK K
  try simp only [Act.put, List.setIfInBounds_toArray, List.set_cons_zero, List.set_cons_succ]
  refine wpAnyH_all (rs := [11]) (by kernel_rfl) (by simp) (fun j hj => ?_)
  rw [List.mem_singleton] at hj
  subst hj
  refine wpOp_step rfl (fun K hK => ?_)
  go_simp
  refine hK _ _ ⟨hS2.alloc _, ?_⟩
  clear hK K
  try simp only [Act.put, List.setIfInBounds_toArray, List.set_cons_zero, List.set_cons_succ]
  refine wpAnyH_all (rs := [12]) (by kernel_rfl) (by simp) (fun j hj => ?_)
  rw [List.mem_singleton] at hj
  subst hj
  refine wpOp_step rfl (fun K hK => ?_)
  go_simp
  refine (file_tag (Own.fresh _ _ _) (by omega)).mono ?_
  rintro e w5 ⟨rfl, n5⟩
  have hS3 := (hS2.alloc (.cells #[.string (numB 4 z), .string (numB 4 n), .string u] 9)).new_ n5
  have n4 := n2.new_ hS3
  refine hK _ _ ⟨hS3, ?_⟩
  clear hK K
  try simp only [Act.put, List.setIfInBounds_toArray, List.set_cons_zero, List.set_cons_succ]
  clear n1 n3 n5 hS0 hS1 hS2 hmc N1 N2
  obtain ⟨V, hV⟩ : ∃ V, V = fileB z n u := ⟨_, rfl⟩
  rw [← hV]
  have HV := Lib.hid hV
  clear hV
  by_cases hD : D = V
  · subst hD
    refine wpAnyH_take (i := 13) (v := .bool false) rfl (by kernel_rfl) (by kernel_rfl) (by kernel_rfl) (fun _ _ _ h => h) (.inl ⟨rfl, fun w' hS => ?t13⟩) hS3 ?_
    case t13 =>
      go_simp
    refine wpAnyH_done (by kernel_rfl) ?_ _
    try simp only [Act.put, List.setIfInBounds_toArray, List.set_cons_zero, List.set_cons_succ]
    go_wp2_with fail
    go_ret
    exact ⟨n4, .inl ⟨HV.out, rfl⟩⟩
  · have hD2 : ¬ D.toList = V.toList := fun e => hD (txt_inj e)
    refine wpAnyH_take (i := 13) (v := .bool true) rfl (by kernel_rfl) (by kernel_rfl) (by kernel_rfl) (fun _ _ _ h => h) (.inl ⟨rfl, fun w' hS => ?t13⟩) hS3 ?_
    case t13 =>
      go_simp
    refine wpAnyH_done (by kernel_rfl) ?_ _
    try simp only [Act.put, List.setIfInBounds_toArray, List.set_cons_zero, List.set_cons_succ]
    go_wp2_with fail
    go_ret
    exact ⟨n4.alloc _, .inr ⟨fun e => hD (e.trans HV.out.symm), _, _, rfl, Own.fresh _ _ _⟩⟩
set_option maxRecDepth 100000 in
set_option maxHeartbeats 4000000 in
theorem verify_up {D c u : ByteArray} {z n at_ : Nat} {P : Option Addr} {q cap : Nat} {p : List ByteArray} {w : World} (hn1 : 1 ≤ n) (hn2 : n ≤ 256) (hat : at_ < n) (hz1 : n ≤ z) (hz2 : z ≤ 512 * n) (hz3 : z ≤ 8192) (hc1 : 1 ≤ c.size) (hc2 : c.size ≤ 512) (hl : SlT w P q p) (hqc : q ≤ cap) (hcm : cap ≤ maxLen) (hu : upB (digB c) at_ n p = some u) {r : Int} (hr : (D = fileB z n u → r = 0) ∧ (¬ D = fileB z n u → r = 90)) :
    Calls Tryz.prog 12 #[.agg #[.string D, .int .i64 z, .int .i64 n, .int .i64 at_, .string c, .slice P q cap]] w fun e W => e = .returned (.int .i64 r) ∧ New w W := by
  have ho := Own.fresh w 27 #[.string D, .int .i64 z, .int .i64 n, .int .i64 at_, .string c, .slice P q cap]
  have hN : New w (w.alloc (.cells #[.string D, .int .i64 z, .int .i64 n, .int .i64 at_, .string c, .slice P q cap] 27)) := (Fr.refl _ _).alloc _
  obtain ⟨⟨r0, r1, r2, r3, r4, r5⟩, -⟩ := own6s ho
  have SU := Lib.hid (shown_up (D := D) hn1 hn2 hat hz1 hz2 hz3 hc1 hc2 (hl.new_ hN) hqc hcm hu)
  clear hu hl
  go_enter Tryz.func12, Tryz.ntmps12
  go_wp2_with fail
  refine SU.out.mono ?_
  clear r0 r1 r2 r3 r4 r5
  rintro e W1 ⟨n1, (⟨hD, rfl⟩ | ⟨hD, b, t, rfl, hb⟩)⟩
  · have n2 := hN.new_ n1
    obtain rfl := hr.1 hD
    clear hN n1 ho hD hr
    go_wp2_with fail
    refine (is_none 90 _).mono ?_
    rintro e w' ⟨rfl, rfl⟩
    go_wp2_with fail
    refine number_nil.mono ?_
    rintro e w' ⟨rfl, rfl⟩
    go_wp2_with fail
    go_ret
    exact ⟨rfl, n2⟩
  · have n2 := hN.new_ n1
    obtain rfl := hr.2 hD
    have h9 : W1.cell? ⟨b, 1, none⟩ = some (.int .i64 90) := hb.cell 1
    clear hN n1 ho hD hb hr
    go_wp2_with fail
    refine (is_fault b 90 _ h9).mono ?_
    rintro e w' ⟨rfl, rfl⟩
    go_wp2_with fail
    go_ret
    exact ⟨rfl, n2⟩
end Go.Proofs.YtjcpdpdhegcgoaaGreatDoor
