/- Whether a share of a file of one chunk shows its chunk. -/
import Derived.Test.YtjcpdpdhegcgoaaGreatDoorMkShow
import Derived.Test.YtjcpdpdhegcgoaaGreatDoorMkIs
namespace Go.Proofs.YtjcpdpdhegcgoaaGreatDoor
open Go.RowKit
set_option linter.unusedVariables false
set_option linter.unusedSimpArgs false

set_option maxHeartbeats 2000000 in
theorem climb_one {h : ByteArray} {i : Int} {cap : Nat} {A : Option Addr} {w : World} : Calls Tryz.prog 68 #[.string h, .int .i64 i, .int .i64 1, .slice A 0 cap] w fun e W => e = .returned (.tuple #[.string h, .nilIface]) ∧ W = w := by
  go_enter Tryz.func68, Tryz.ntmps68
  go_wp2
  go_ret2
  exact ⟨rfl, rfl⟩
theorem number_nil {w : World} : Calls Tryz.prog 43 #[.nilIface] w fun e W => e = .returned (.int .i64 0) ∧ W = w := by
  go_enter Tryz.func43, Tryz.ntmps43
  go_wp2
  go_ret
  exact ⟨rfl, rfl⟩
theorem u64_id (z : Nat) (h : z ≤ 100000) : IntKind.u64.wrap (z : Int) = (z : Int) := by
  simp [IntKind.wrap, IntKind.signed, IntKind.bits]
  omega
theorem digB_size (s : ByteArray) : (digB s).size = 32 := shaB_size _
set_option maxRecDepth 100000 in
set_option maxHeartbeats 8000000 in
theorem shown_one {D c : ByteArray} {z : Nat} (hz1 : 1 ≤ z) (hz2 : z ≤ 512) (hc1 : 1 ≤ c.size) (hc2 : c.size ≤ 512) {w : World} :
    Calls Tryz.prog 41 #[.agg #[.string D, .int .i64 z, .int .i64 1, .int .i64 0, .string c, .slice none 0 0]] w fun e W => New w W ∧
      ((D = fileB z 1 (digB c) ∧ e = .returned .nilIface) ∨ (¬ D = fileB z 1 (digB c) ∧ ∃ b t, e = .returned (.iface 96 (.pointer (some ⟨b, 0, none⟩))) ∧ Own W b 98 #[.string t, .int .i64 90])) := by
  have z1 : (1 : Int) ≤ (z : Int) := by omega
  have z2 : (z : Int) ≤ 512 := by omega
  have z3 : (z : Int) ≤ 8192 := by omega
  have c1 : (1 : Int) ≤ (c.size : Int) := by omega
  have c2 : (c.size : Int) ≤ 512 := by omega
  have hds := digB_size c
  have ho := Own.fresh w 27 #[.string D, .int .i64 z, .int .i64 1, .int .i64 0, .string c, .slice none 0 0]
  go_enter Tryz.func41, Tryz.ntmps41
  go_wp2_with fail
  obtain ⟨W, hW⟩ : ∃ W, W = w.alloc (.cells #[.string D, .int .i64 z, .int .i64 1, .int .i64 0, .string c, .slice none 0 0] 27) := ⟨_, rfl⟩
  have hN : New w W := hW ▸ (Fr.refl _ _).alloc _
  rw [← hW] at ho
  rw [show w.alloc (.cells #[.string D, .int .i64 z, .int .i64 1, .int .i64 0, .string c, .slice none 0 0] 27) = W from hW.symm]
  clear hW
  have q0 := ho.nw 0
  have q1 := ho.nw 1
  have q2 := ho.nw 2
  have q3 := ho.nw 3
  have q4 := ho.nw 4
  have q5 := ho.nw 5
  simp only [List.getElem?_toArray, List.getElem?_cons_zero, List.getElem?_cons_succ] at q0 q1 q2 q3 q4 q5
  have B1 := fun x => Calls.nw_of (x := x) (w := W) (mk_digest (s := c) (by omega) (w := nw W x))
  have B2 := fun x => Calls.nw_same (x := x) (w := W) (climb_one (h := digB c) (i := 0) (cap := 0) (A := none) (w := nw W x))
  refine wp_region_new_lit (by kernel_rfl) (by kernel_rfl) ?_; (repeat (any_goals (first | go_big_quiet_step ((first | (go_at_call 22; with_reducible exact B1 _) | (go_at_call 68; with_reducible exact B2 _))) | quiet_step ((first | (go_at_call 22; with_reducible exact B1 _) | (go_at_call 68; with_reducible exact B2 _))) | (refine wpQuiet_step (fun K hK => ?_); go_simp; split <;> (refine hK _ ?_; clear hK K))))); all_goals (refine wpQuiet_nil ?_; intro _ hw'; obtain ⟨xq, hw''⟩ := hw'; subst hw''; have hnq := nw_new _ xq)
  clear B1 B2
  have o2 := ho.new_ hnq
  have n2 := hN.new_ hnq
  clear q0 q1 q2 q3 q4 q5 hnq hN ho
  generalize nw W xq = W2 at o2 n2 ⊢
  have N1 := fun w => number_any z (by omega) 4 w
  have N2 := fun w => number_any 1 (by omega) 4 w
  rw [show clip 4 = 4 from rfl] at N1 N2
  go_wp2_with fail
  have hmc : ∀ w', New W2 w' → w'.cell? ⟨w.heap.size, 0, none⟩ = some (.string D) ∧ w'.cell? ⟨w.heap.size, 1, none⟩ = some (.int .i64 z) ∧ w'.cell? ⟨w.heap.size, 2, none⟩ = some (.int .i64 1) := fun w' f => ⟨(o2.new_ f).cell 0, (o2.new_ f).cell 1, (o2.new_ f).cell 2⟩
  have hS0 : New W2 W2.drew := (Fr.refl _ _).drew
  refine wp_region_heldE (fun W' => New W2 W') (by kernel_rfl) ?_
  refine wpAnyH_take (i := 0) (v := .pointer (some ⟨w.heap.size, 0, none⟩)) rfl (by kernel_rfl) (by kernel_rfl) (by kernel_rfl) (fun _ _ _ h => h) (.inl ⟨rfl, fun w' hS => ?t0⟩) hS0 ?_
  case t0 =>
    go_simp
  refine wpAnyH_take (i := 1) (v := .string D) rfl (by kernel_rfl) (by kernel_rfl) (by kernel_rfl) (fun _ _ _ h => h) (.inl ⟨rfl, fun w' hS => ?t1⟩) hS0 ?_
  case t1 =>
    obtain ⟨m0, m1, m2⟩ := hmc w' hS
    go_simp
  refine wpAnyH_take (i := 2) (v := .pointer (some ⟨w.heap.size, 1, none⟩)) rfl (by kernel_rfl) (by kernel_rfl) (by kernel_rfl) (fun _ _ _ h => h) (.inl ⟨rfl, fun w' hS => ?t2⟩) hS0 ?_
  case t2 =>
    go_simp
  refine wpAnyH_take (i := 3) (v := .int .i64 z) rfl (by kernel_rfl) (by kernel_rfl) (by kernel_rfl) (fun _ _ _ h => h) (.inl ⟨rfl, fun w' hS => ?t3⟩) hS0 ?_
  case t3 =>
    obtain ⟨m0, m1, m2⟩ := hmc w' hS
    go_simp
  refine wpAnyH_take (i := 4) (v := .int .u64 z) rfl (by kernel_rfl) (by kernel_rfl) (by kernel_rfl) (fun _ _ _ h => h) (.inl ⟨rfl, fun w' hS => ?t4⟩) hS0 ?_
  case t4 =>
    go_simp
    exact u64_id z (by omega)
  refine wpAnyH_take (i := 6) (v := .pointer (some ⟨w.heap.size, 2, none⟩)) rfl (by kernel_rfl) (by kernel_rfl) (by kernel_rfl) (fun _ _ _ h => h) (.inl ⟨rfl, fun w' hS => ?t6⟩) hS0 ?_
  case t6 =>
    go_simp
  refine wpAnyH_take (i := 7) (v := .int .i64 1) rfl (by kernel_rfl) (by kernel_rfl) (by kernel_rfl) (fun _ _ _ h => h) (.inl ⟨rfl, fun w' hS => ?t7⟩) hS0 ?_
  case t7 =>
    obtain ⟨m0, m1, m2⟩ := hmc w' hS
    go_simp
  refine wpAnyH_take (i := 8) (v := .int .u64 1) rfl (by kernel_rfl) (by kernel_rfl) (by kernel_rfl) (fun _ _ _ h => h) (.inl ⟨rfl, fun w' hS => ?t8⟩) hS0 ?_
  case t8 =>
    go_simp
    rfl
  refine wpAnyH_take (i := 10) (v := .string (digB c)) rfl (by kernel_rfl) (by kernel_rfl) (by kernel_rfl) (fun _ _ _ h => h) (.inl ⟨rfl, fun w' hS => ?t10⟩) hS0 ?_
  case t10 =>
    go_simp
  try simp only [Act.put, List.setIfInBounds_toArray, List.set_cons_zero, List.set_cons_succ]
  refine wpAnyH_all (rs := [5]) (by kernel_rfl) (by simp) (fun j hj => ?_)
  rw [List.mem_singleton] at hj
  subst hj
  refine wpOp_step rfl (fun K hK => ?_)
  go_simp
  refine (N1 _).mono ?_
  rintro e w1 ⟨rfl, n1⟩
  have hS1 := hS0.new_ n1
  refine hK _ _ ⟨hS1, ?_⟩
  clear hK K
  try simp only [Act.put, List.setIfInBounds_toArray, List.set_cons_zero, List.set_cons_succ]
  refine wpAnyH_all (rs := [9]) (by kernel_rfl) (by simp) (fun j hj => ?_)
  rw [List.mem_singleton] at hj
  subst hj
  refine wpOp_step rfl (fun K hK => ?_)
  go_simp
  refine (N2 _).mono ?_
  rintro e w3 ⟨rfl, n3⟩
  have hS2 := hS1.new_ n3
  refine hK _ _ ⟨hS2, ?_⟩
  clear hK K
  try simp only [Act.put, List.setIfInBounds_toArray, List.set_cons_zero, List.set_cons_succ]
  refine wpAnyH_all (rs := [11]) (by kernel_rfl) (by simp) (fun j hj => ?_)
  rw [List.mem_singleton] at hj
  subst hj
  refine wpOp_step rfl (fun K hK => ?_)
  go_simp
  refine hK _ _ ⟨hS2.alloc _, ?_⟩
  clear hK K
  try simp only [Act.put, List.setIfInBounds_toArray, List.set_cons_zero, List.set_cons_succ]
  refine wpAnyH_all (rs := [12]) (by kernel_rfl) (by simp) (fun j hj => ?_)
  rw [List.mem_singleton] at hj
  subst hj
  refine wpOp_step rfl (fun K hK => ?_)
  go_simp
  refine (file_tag (Own.fresh _ _ _) (by omega)).mono ?_
  rintro e w5 ⟨rfl, n5⟩
  have hS3 := (hS2.alloc (.cells #[.string (numB 4 z), .string (numB 4 1), .string (digB c)] 9)).new_ n5
  have n4 := n2.new_ hS3
  refine hK _ _ ⟨hS3, ?_⟩
  clear hK K
  try simp only [Act.put, List.setIfInBounds_toArray, List.set_cons_zero, List.set_cons_succ]
  clear n1 n3 n5 hS0 hS1 hS2 hmc N1 N2
  obtain ⟨V, hV⟩ : ∃ V, V = fileB z 1 (digB c) := ⟨_, rfl⟩
  rw [← hV]
  have HV := Lib.hid hV
  clear hV
  by_cases hD : D = V
  · subst hD
    refine wpAnyH_take (i := 13) (v := .bool false) rfl (by kernel_rfl) (by kernel_rfl) (by kernel_rfl) (fun _ _ _ h => h) (.inl ⟨rfl, fun w' hS => ?t13⟩) hS3 ?_
    case t13 =>
      go_simp
    refine wpAnyH_done (by kernel_rfl) ?_ _
    try simp only [Act.put, List.setIfInBounds_toArray, List.set_cons_zero, List.set_cons_succ]
    go_wp2_with fail
    go_ret
    exact ⟨n4, .inl ⟨HV.out, rfl⟩⟩
  · have hD2 : ¬ D.toList = V.toList := fun e => hD (txt_inj e)
    refine wpAnyH_take (i := 13) (v := .bool true) rfl (by kernel_rfl) (by kernel_rfl) (by kernel_rfl) (fun _ _ _ h => h) (.inl ⟨rfl, fun w' hS => ?t13⟩) hS3 ?_
    case t13 =>
      go_simp
    refine wpAnyH_done (by kernel_rfl) ?_ _
    try simp only [Act.put, List.setIfInBounds_toArray, List.set_cons_zero, List.set_cons_succ]
    go_wp2_with fail
    go_ret
    exact ⟨n4.alloc _, .inr ⟨fun e => hD (e.trans HV.out.symm), _, _, rfl, Own.fresh _ _ _⟩⟩
set_option maxRecDepth 100000 in
set_option maxHeartbeats 4000000 in
theorem verify_one {D c : ByteArray} {z : Nat} (hz1 : 1 ≤ z) (hz2 : z ≤ 512) (hc1 : 1 ≤ c.size) (hc2 : c.size ≤ 512) {r : Int} (hr : (D = fileB z 1 (digB c) → r = 0) ∧ (¬ D = fileB z 1 (digB c) → r = 90)) {w : World} :
    Calls Tryz.prog 12 #[.agg #[.string D, .int .i64 z, .int .i64 1, .int .i64 0, .string c, .slice none 0 0]] w fun e W => e = .returned (.int .i64 r) ∧ New w W := by
  have ho := Own.fresh w 27 #[.string D, .int .i64 z, .int .i64 1, .int .i64 0, .string c, .slice none 0 0]
  have hN : New w (w.alloc (.cells #[.string D, .int .i64 z, .int .i64 1, .int .i64 0, .string c, .slice none 0 0] 27)) := (Fr.refl _ _).alloc _
  obtain ⟨⟨r0, r1, r2, r3, r4, r5⟩, -⟩ := own6s ho
  go_enter Tryz.func12, Tryz.ntmps12
  go_wp2_with fail
  refine (shown_one hz1 hz2 hc1 hc2).mono ?_
  clear r0 r1 r2 r3 r4 r5
  rintro e W1 ⟨n1, (⟨hD, rfl⟩ | ⟨hD, b, t, rfl, hb⟩)⟩
  · have n2 := hN.new_ n1
    obtain rfl := hr.1 hD
    clear hN n1 ho hD hr
    go_wp2_with fail
    refine (is_none 90 _).mono ?_
    rintro e w' ⟨rfl, rfl⟩
    go_wp2_with fail
    refine number_nil.mono ?_
    rintro e w' ⟨rfl, rfl⟩
    go_wp2_with fail
    go_ret
    exact ⟨rfl, n2⟩
  · have n2 := hN.new_ n1
    obtain rfl := hr.2 hD
    have h9 : W1.cell? ⟨b, 1, none⟩ = some (.int .i64 90) := hb.cell 1
    clear hN n1 ho hD hb hr
    go_wp2_with fail
    refine (is_fault b 90 _ h9).mono ?_
    rintro e w' ⟨rfl, rfl⟩
    go_wp2_with fail
    go_ret
    exact ⟨rfl, n2⟩
def mkText : ByteArray := ⟨#[116, 101, 120, 116]⟩
def mkTest : ByteArray := ⟨#[116, 101, 115, 116]⟩
theorem test_unlike : ¬ fileB 4 1 (digB mkText) = fileB 4 1 (digB mkTest) := by decide +kernel
/-- The share of "text", its chunk s. -/
def shareV (D s : ByteArray) : Value := .agg #[.string D, .int .i64 4, .int .i64 1, .int .i64 0, .string s, .slice none 0 0]
theorem show_text : ∃ D : ByteArray, (∀ w : World, Calls Tryz.prog 10 #[.string ⟨#[116, 101, 120, 116]⟩, .int .i64 0] w fun e W => e = .returned (.tuple #[shareV D ⟨#[116, 101, 120, 116]⟩, .int .i64 0]) ∧ New w W) ∧
    (∀ w : World, Calls Tryz.prog 12 #[shareV D ⟨#[116, 101, 120, 116]⟩] w fun e W => e = .returned (.int .i64 0) ∧ New w W) ∧
    (∀ w : World, Calls Tryz.prog 12 #[shareV D ⟨#[116, 101, 115, 116]⟩] w fun e W => e = .returned (.int .i64 90) ∧ New w W) :=
  ⟨fileB 4 1 (digB mkText), fun w => show_small (s := mkText) (by decide) (by decide),
    fun w => verify_one (c := mkText) (z := 4) (by omega) (by omega) (by decide) (by decide) ⟨fun _ => rfl, fun h => absurd rfl h⟩,
    fun w => verify_one (c := mkTest) (z := 4) (by omega) (by omega) (by decide) (by decide) ⟨fun h => absurd h test_unlike, fun _ => rfl⟩⟩
set_option maxRecDepth 100000 in
set_option maxHeartbeats 4000000 in
theorem merkle_awake {w : World} : Calls Tryz.prog 11 #[] w fun e W => e = .returned (.bool true) ∧ New w W := by
  obtain ⟨D, h1, h2, h3⟩ := show_text
  unfold shareV at h1 h2 h3
  have H1 := Lib.hid h1
  have H2 := Lib.hid h2
  have H3 := Lib.hid h3
  clear h1 h2 h3
  go_enter Tryz.func11, Tryz.ntmps11
  go_wp2_with fail
  refine (H1.out _).mono ?_
  rintro e W1 ⟨rfl, n1⟩
  have ho := Own.fresh W1 27 #[.string D, .int .i64 4, .int .i64 1, .int .i64 0, .string ⟨#[116, 101, 120, 116]⟩, .slice none 0 0]
  have n2 : New w (W1.alloc (.cells #[.string D, .int .i64 4, .int .i64 1, .int .i64 0, .string ⟨#[116, 101, 120, 116]⟩, .slice none 0 0] 27)) := n1.alloc _
  have hlt := n1.size
  have HO := Lib.hid (And.intro ho n2)
  clear n1 ho n2
  go_wp2_with fail
  refine (H2.out _).mono ?_
  rintro e W2 ⟨rfl, n3⟩
  have ho := HO.out.1.new_ n3
  have n4 := HO.out.2.new_ n3
  obtain ⟨⟨r0, r1, r2, r3, r4, r5⟩, f0, f1, f2, f3, f4, f5⟩ := own6s ho
  have o5 := ho.put (i := 4) (u := .string ⟨#[116, 101, 115, 116]⟩) (cs' := #[.string D, .int .i64 4, .int .i64 1, .int .i64 0, .string ⟨#[116, 101, 115, 116]⟩, .slice none 0 0]) rfl
  have n5 : New w (W2.setCell ⟨W1.heap.size, 4, none⟩ (.string ⟨#[116, 101, 115, 116]⟩)) := n4.trans (Fr.set (F := fun k => k = W1.heap.size) (p := ⟨W1.heap.size, 4, none⟩) (Fr.refl _ W2) (fun _ => rfl) _) fun k hk e => by omega
  have HP := Lib.hid (And.intro o5 n5)
  clear n3 ho n4 o5 n5 HO
  go_wp2_with fail
  refine (H3.out _).mono ?_
  rintro e W3 ⟨rfl, g3⟩
  have nz := HP.out.2.new_ g3
  clear g3 r0 r1 r2 r3 r4 r5 f0 f1 f2 f3 f4 f5
  go_wp2_with fail
  go_ret
  exact ⟨rfl, nz⟩
end Go.Proofs.YtjcpdpdhegcgoaaGreatDoor
