/- Operations compared: by their times, then by their digests. -/
import Derived.Test.YtedfgbkaijjaeaaMvDoH
import Derived.Test.YtedfgbkaijjaeaaMvOrder
import Derived.Test.YtedfgbkaijjaeaaShelfStrs
namespace Go.Proofs.Ytedfgbkaijjaeaa
open Go.RowKit
set_option linter.unusedVariables false
set_option linter.unusedSimpArgs false

set_option maxRecDepth 100000 in
set_option maxHeartbeats 4000000 in
theorem cmpE_any (a b : EnV) (w : World) : Calls Try.prog 9 #[a.val, b.val] w fun e W => e = .returned (.int .i64 (cmpE a b)) ∧ New w W := by
  obtain ⟨r, hr⟩ : ∃ r, r = cmpE a b := ⟨_, rfl⟩
  rw [← hr]
  have HR := Lib.hid hr
  clear hr
  obtain ⟨⟨akd, act, awh, ath, apa, anm, adr, adg, asz⟩, ahs⟩ := a
  obtain ⟨⟨bkd, bct, bwh, bth, bpa, bnm, bdr, bdg, bsz⟩, bhs⟩ := b
  have h1 : EnV.val ⟨⟨akd, act, awh, ath, apa, anm, adr, adg, asz⟩, ahs⟩ = .agg #[.int .i64 akd, .int .u64 (act : Int), .int .i64 awh, .int .u64 (ath : Int), .int .u64 (apa : Int), .string anm, .bool adr, .string adg, .int .i64 asz, .string ahs] := rfl
  have h2 : EnV.val ⟨⟨bkd, bct, bwh, bth, bpa, bnm, bdr, bdg, bsz⟩, bhs⟩ = .agg #[.int .i64 bkd, .int .u64 (bct : Int), .int .i64 bwh, .int .u64 (bth : Int), .int .u64 (bpa : Int), .string bnm, .bool bdr, .string bdg, .int .i64 bsz, .string bhs] := rfl
  rw [h1, h2]
  clear h1 h2
  obtain ⟨c1, hc1⟩ : ∃ c, c = orI (cmpI (act : Int) (bct : Int)) (cmpI awh bwh) := ⟨_, rfl⟩
  obtain ⟨c2, hc2⟩ : ∃ c, c = cmpT ahs bhs := ⟨_, rfl⟩
  have HC := Lib.hid (And.intro hc1 hc2)
  obtain ⟨W1, hW1⟩ : ∃ W1, W1 = (w.alloc (.cells #[.int .i64 akd, .int .u64 (act : Int), .int .i64 awh, .int .u64 (ath : Int), .int .u64 (apa : Int), .string anm, .bool adr, .string adg, .int .i64 asz, .string ahs] 31)).alloc (.cells #[.int .i64 bkd, .int .u64 (bct : Int), .int .i64 bwh, .int .u64 (bth : Int), .int .u64 (bpa : Int), .string bnm, .bool bdr, .string bdg, .int .i64 bsz, .string bhs] 31) := ⟨_, rfl⟩
  have oA : Own W1 w.heap.size 31 #[.int .i64 akd, .int .u64 (act : Int), .int .i64 awh, .int .u64 (ath : Int), .int .u64 (apa : Int), .string anm, .bool adr, .string adg, .int .i64 asz, .string ahs] := hW1 ▸ (Own.fresh _ _ _).alloc _
  have oB : Own W1 (w.heap.size + 1) 31 #[.int .i64 bkd, .int .u64 (bct : Int), .int .i64 bwh, .int .u64 (bth : Int), .int .u64 (bpa : Int), .string bnm, .bool bdr, .string bdg, .int .i64 bsz, .string bhs] := hW1 ▸ Own.new' (by simp)
  have hN1 : New w W1 := hW1 ▸ ((Fr.refl _ _).alloc _).alloc _
  have HN := Lib.hid hN1
  have HM : ∀ w', New W1 w' → (w'.cell? ⟨w.heap.size, 1, none⟩ = some (.int .u64 (act : Int)) ∧ w'.cell? ⟨w.heap.size, 2, none⟩ = some (.int .i64 awh) ∧ w'.cell? ⟨w.heap.size, 9, none⟩ = some (.string ahs)) ∧
      w'.cell? ⟨w.heap.size + 1, 1, none⟩ = some (.int .u64 (bct : Int)) ∧ w'.cell? ⟨w.heap.size + 1, 2, none⟩ = some (.int .i64 bwh) ∧ w'.cell? ⟨w.heap.size + 1, 9, none⟩ = some (.string bhs) := fun w' g =>
    ⟨⟨(oA.new_ g).cell 1, (oA.new_ g).cell 2, (oA.new_ g).cell 9⟩, (oB.new_ g).cell 1, (oB.new_ g).cell 2, (oB.new_ g).cell 9⟩
  clear oA oB hN1 hc1 hc2
  go_enter Try.func9, Try.ntmps9
  go_wp2_with fail
  rw [← hW1]
  clear hW1
  refine wp_region_heldE (fun W' => New W1 W') (by kernel_rfl) ?_
  have hS0 : New W1 W1.drew := (Fr.refl _ _).drew
  refine wpAnyH_take (i := 0) (v := .pointer (some ⟨w.heap.size, 0, none⟩)) rfl (by kernel_rfl) (by kernel_rfl) (by kernel_rfl) (fun _ _ _ h => h) (.inl ⟨rfl, fun w' hS => ?t0⟩) hS0 ?_
  case t0 =>
    obtain ⟨⟨m1, m2, m3⟩, m4, m5, m6⟩ := HM w' hS
    go_simp
  refine wpAnyH_take (i := 1) (v := .pointer (some ⟨w.heap.size, 1, none⟩)) rfl (by kernel_rfl) (by kernel_rfl) (by kernel_rfl) (fun _ _ _ h => h) (.inl ⟨rfl, fun w' hS => ?t1⟩) hS0 ?_
  case t1 =>
    obtain ⟨⟨m1, m2, m3⟩, m4, m5, m6⟩ := HM w' hS
    go_simp
  refine wpAnyH_take (i := 2) (v := .agg #[.int .u64 (act : Int), .int .i64 awh]) rfl (by kernel_rfl) (by kernel_rfl) (by kernel_rfl) (fun _ _ _ h => h) (.inl ⟨rfl, fun w' hS => ?t2⟩) hS0 ?_
  case t2 =>
    obtain ⟨⟨m1, m2, m3⟩, m4, m5, m6⟩ := HM w' hS
    go_simp
  refine wpAnyH_take (i := 3) (v := .pointer (some ⟨w.heap.size + 1, 0, none⟩)) rfl (by kernel_rfl) (by kernel_rfl) (by kernel_rfl) (fun _ _ _ h => h) (.inl ⟨rfl, fun w' hS => ?t3⟩) hS0 ?_
  case t3 =>
    obtain ⟨⟨m1, m2, m3⟩, m4, m5, m6⟩ := HM w' hS
    go_simp
  refine wpAnyH_take (i := 4) (v := .pointer (some ⟨w.heap.size + 1, 1, none⟩)) rfl (by kernel_rfl) (by kernel_rfl) (by kernel_rfl) (fun _ _ _ h => h) (.inl ⟨rfl, fun w' hS => ?t4⟩) hS0 ?_
  case t4 =>
    obtain ⟨⟨m1, m2, m3⟩, m4, m5, m6⟩ := HM w' hS
    go_simp
  refine wpAnyH_take (i := 5) (v := .agg #[.int .u64 (bct : Int), .int .i64 bwh]) rfl (by kernel_rfl) (by kernel_rfl) (by kernel_rfl) (fun _ _ _ h => h) (.inl ⟨rfl, fun w' hS => ?t5⟩) hS0 ?_
  case t5 =>
    obtain ⟨⟨m1, m2, m3⟩, m4, m5, m6⟩ := HM w' hS
    go_simp
  refine wpAnyH_take (i := 7) (v := .pointer (some ⟨w.heap.size, 9, none⟩)) rfl (by kernel_rfl) (by kernel_rfl) (by kernel_rfl) (fun _ _ _ h => h) (.inl ⟨rfl, fun w' hS => ?t7⟩) hS0 ?_
  case t7 =>
    obtain ⟨⟨m1, m2, m3⟩, m4, m5, m6⟩ := HM w' hS
    go_simp
  refine wpAnyH_take (i := 8) (v := .string ahs) rfl (by kernel_rfl) (by kernel_rfl) (by kernel_rfl) (fun _ _ _ h => h) (.inl ⟨rfl, fun w' hS => ?t8⟩) hS0 ?_
  case t8 =>
    obtain ⟨⟨m1, m2, m3⟩, m4, m5, m6⟩ := HM w' hS
    go_simp
  refine wpAnyH_take (i := 9) (v := .pointer (some ⟨w.heap.size + 1, 9, none⟩)) rfl (by kernel_rfl) (by kernel_rfl) (by kernel_rfl) (fun _ _ _ h => h) (.inl ⟨rfl, fun w' hS => ?t9⟩) hS0 ?_
  case t9 =>
    obtain ⟨⟨m1, m2, m3⟩, m4, m5, m6⟩ := HM w' hS
    go_simp
  refine wpAnyH_take (i := 10) (v := .string bhs) rfl (by kernel_rfl) (by kernel_rfl) (by kernel_rfl) (fun _ _ _ h => h) (.inl ⟨rfl, fun w' hS => ?t10⟩) hS0 ?_
  case t10 =>
    obtain ⟨⟨m1, m2, m3⟩, m4, m5, m6⟩ := HM w' hS
    go_simp
  try simp only [Act.put, List.setIfInBounds_toArray, List.set_cons_zero, List.set_cons_succ]
  refine wpAnyH_all (rs := [6]) (by kernel_rfl) (by simp) (fun j hj => ?_)
  rw [List.mem_singleton] at hj
  subst hj
  refine wpOp_step rfl (fun K hK => ?_)
  go_simp
  refine (compare_any (act : Int) awh (bct : Int) bwh _).mono ?_
  rintro e W2 ⟨rfl, n2⟩
  rw [← HC.out.1]
  have hS2 := hS0.new_ n2
  refine hK _ _ ⟨hS2, ?_⟩
  clear hK K
  try simp only [Act.put, List.setIfInBounds_toArray, List.set_cons_zero, List.set_cons_succ]
  refine wpAnyH_all (rs := [11]) (by kernel_rfl) (by simp) (fun j hj => ?_)
  rw [List.mem_singleton] at hj
  subst hj
  refine wpOp_step rfl (fun K hK => ?_)
  go_simp
  refine (sh_strings_Compare ahs bhs _).mono ?_
  rintro e W3 ⟨rfl, rfl⟩
  rw [show Lib.compareBytes ahs.data.toList bhs.data.toList = c2 from HC.out.2.symm]
  refine hK _ _ ⟨hS2, ?_⟩
  clear hK K
  try simp only [Act.put, List.setIfInBounds_toArray, List.set_cons_zero, List.set_cons_succ]
  refine wpAnyH_all (rs := [12]) (by kernel_rfl) (by simp) (fun j hj => ?_)
  rw [List.mem_singleton] at hj
  subst hj
  refine wpOp_step rfl (fun K hK => ?_)
  go_simp
  have hS5 := hS2.alloc (.cells #[.int .i64 c1, .int .i64 c2] 3)
  refine hK _ _ ⟨hS5, ?_⟩
  clear hK K
  try simp only [Act.put, List.setIfInBounds_toArray, List.set_cons_zero, List.set_cons_succ]
  refine wpAnyH_all (rs := [13]) (by kernel_rfl) (by simp) (fun j hj => ?_)
  rw [List.mem_singleton] at hj
  subst hj
  refine wpOp_step rfl (fun K hK => ?_)
  go_simp
  refine (or2_any c1 c2 _ (Own.fresh _ _ _)).mono ?_
  rintro e W6 ⟨rfl, rfl⟩
  rw [show orI c1 c2 = r from by rw [HR.out, HC.out.1, HC.out.2]; rfl]
  refine hK _ _ ⟨hS5, ?_⟩
  clear hK K
  try simp only [Act.put, List.setIfInBounds_toArray, List.set_cons_zero, List.set_cons_succ]
  refine wpAnyH_all (rs := [14]) (by kernel_rfl) (by simp) (fun j hj => ?_)
  rw [List.mem_singleton] at hj
  subst hj
  refine wpOp_step rfl (fun K hK => ?_)
  go_simp
  refine hK _ _ ⟨hS5, ?_⟩
  clear hK K
  try simp only [Act.put, List.setIfInBounds_toArray, List.set_cons_zero, List.set_cons_succ]
  refine wpAnyH_done (by kernel_rfl) ?_ _
  have HS5 := Lib.hid hS5
  clear hS5
  go_wp2_with fail
  go_ret
  exact ⟨rfl, HN.out.new_ HS5.out⟩
end Go.Proofs.Ytedfgbkaijjaeaa
