/- Whether any share shows its chunk, or why not, is what the document says. -/
import Derived.Test.YtjcpdpdhegcgoaaDoorMkVerAny
import Derived.Test.YtjcpdpdhegcgoaaDoorOpen
namespace Go.Proofs.YtjcpdpdhegcgoaaDoor
open Go.RowKit
set_option linter.unusedVariables false
set_option linter.unusedSimpArgs false

theorem fr_setRow' (W : World) (g : Nat) (cs : Array Value) : Fr (fun k => k = g) W (W.setRow g cs) := ⟨rfl, rfl, rfl, by simp [World.setRow], fun k _ hk => setRow_other W g k cs hk⟩
set_option maxRecDepth 100000 in
set_option maxHeartbeats 4000000 in
theorem ref_share {D c : ByteArray} {z n i : Int} {P : Option Addr} {q cap : Nat} {p : List ByteArray} {w : World} (hl : SlT w P q p) (hqc : q ≤ cap) (hcm : cap ≤ maxLen) :
    Calls Tryd.prog 9 #[.agg #[.string D, .int .i64 z, .int .i64 n, .int .i64 i, .string c, .slice P q cap]] w fun e W => ∃ q2, e = .returned (.agg #[.string D, .int .i64 z, .int .i64 n, .int .i64 i, .string c, .slice P q2 cap]) ∧ SlT W P q2 (p.take 21) ∧ q2 ≤ 21 ∧ q2 ≤ cap ∧ New w W := by
  have hZ : Own ((w.alloc (.cells #[.string D, .int .i64 z, .int .i64 n, .int .i64 i, .string c, .slice P q cap] 24)).alloc (.cells #[.string ⟨#[]⟩, .int .i64 0, .int .i64 0, .int .i64 0, .string ⟨#[]⟩, .slice none 0 0] 29)) (w.heap.size + 1) 29 #[.string ⟨#[]⟩, .int .i64 0, .int .i64 0, .int .i64 0, .string ⟨#[]⟩, .slice none 0 0] := Own.new' (by simp)
  have hN : New w ((w.alloc (.cells #[.string D, .int .i64 z, .int .i64 n, .int .i64 i, .string c, .slice P q cap] 24)).alloc (.cells #[.string ⟨#[]⟩, .int .i64 0, .int .i64 0, .int .i64 0, .string ⟨#[]⟩, .slice none 0 0] 29)) := ((Fr.refl _ _).alloc _).alloc _
  have hql := hl.1
  have HL := Lib.hid hl
  have hqc' : (q : Int) ≤ (cap : Int) := by omega
  have hmx : cap ≤ 9223372036854775807 := hcm
  by_cases h21 : q ≤ 21
  · have h21' : ¬ (21 : Int) < (q : Int) := by omega
    have HT := Lib.hid (show p.take 21 = p from List.take_of_length_le (by omega))
    have HQ := Lib.hid h21
    clear hql hl h21 hcm
    go_enter Tryd.func9, Tryd.ntmps9
    go_wp2_with (refine wpList_store_row rfl _ (.tmp 2) (.tmp 22) rfl (w.heap.size + 1) #[.string D, .int .i64 z, .int .i64 n, .int .i64 i, .string c, .slice P q cap] rfl rfl _ _ hZ ?hi rfl ?h1 ?_)
    case hi => first | exact Option.map_eq_some_iff.1 (show Option.map (fun x => TypeInfo.size x) (Tryd.prog.info? 29) = some 6 by kernel_rfl) | kernel_rfl
    case h1 => simp [Value.oneCell']
    have o7 : Own (World.setRow _ (w.heap.size + 1) #[.string D, .int .i64 z, .int .i64 n, .int .i64 i, .string c, .slice P q cap]) (w.heap.size + 1) 29 #[.string D, .int .i64 z, .int .i64 n, .int .i64 i, .string c, .slice P q cap] := setRow_heap _ _ _ _ _ _ hZ
    have n7 := hN.trans (fr_setRow' _ (w.heap.size + 1) #[.string D, .int .i64 z, .int .i64 n, .int .i64 i, .string c, .slice P q cap]) (fun k hk e => by omega)
    clear hZ hN
    generalize World.setRow _ _ _ = W7 at o7 n7 ⊢
    obtain ⟨⟨x0, x1, x2, x3, x4, x5⟩, -⟩ := own6s o7
    clear o7
    have O7 := Lib.hid n7
    clear n7
    exact bodyPost_ret (v := .agg #[.string D, .int .i64 z, .int .i64 n, .int .i64 i, .string c, .slice P q cap]) (by simp [results, Tryd.results9, go_sem, *]) rfl ⟨q, rfl, (by rw [HT.out]; exact HL.out.new_ O7.out), HQ.out, hqc, O7.out⟩
  · have h21' : (21 : Int) < (q : Int) := by omega
    have h21c : (21 : Int) ≤ (cap : Int) := by omega
    have h21n : 21 ≤ cap := by omega
    obtain ⟨b, o, hA, -⟩ := hl.2.2 0 (by omega)
    subst hA
    have HT := Lib.hid (hl.take (k := 21) (by omega))
    have HQ := Lib.hid h21n
    clear hql hl h21 hcm
    go_enter Tryd.func9, Tryd.ntmps9
    go_wp2_with (refine wpList_store_row rfl _ (.tmp 2) (.tmp 22) rfl (w.heap.size + 1) #[.string D, .int .i64 z, .int .i64 n, .int .i64 i, .string c, .slice (some ⟨b, o, none⟩) 21 cap] rfl rfl _ _ hZ ?hi rfl ?h1 ?_)
    case hi => first | exact Option.map_eq_some_iff.1 (show Option.map (fun x => TypeInfo.size x) (Tryd.prog.info? 29) = some 6 by kernel_rfl) | kernel_rfl
    case h1 => simp [Value.oneCell']
    have o7 : Own (World.setRow _ (w.heap.size + 1) #[.string D, .int .i64 z, .int .i64 n, .int .i64 i, .string c, .slice (some ⟨b, o, none⟩) 21 cap]) (w.heap.size + 1) 29 #[.string D, .int .i64 z, .int .i64 n, .int .i64 i, .string c, .slice (some ⟨b, o, none⟩) 21 cap] := setRow_heap _ _ _ _ _ _ hZ
    have n7 := hN.trans (fr_setRow' _ (w.heap.size + 1) #[.string D, .int .i64 z, .int .i64 n, .int .i64 i, .string c, .slice (some ⟨b, o, none⟩) 21 cap]) (fun k hk e => by omega)
    clear hZ hN
    generalize World.setRow _ _ _ = W7 at o7 n7 ⊢
    obtain ⟨⟨x0, x1, x2, x3, x4, x5⟩, -⟩ := own6s o7
    clear o7
    have O7 := Lib.hid n7
    clear n7
    exact bodyPost_ret (v := .agg #[.string D, .int .i64 z, .int .i64 n, .int .i64 i, .string c, .slice (some ⟨b, o, none⟩) 21 cap]) (by simp [results, Tryd.results9, go_sem, *]) rfl ⟨21, rfl, HT.out.new_ O7.out, Nat.le_refl _, HQ.out, O7.out⟩
set_option maxRecDepth 100000 in
set_option maxHeartbeats 4000000 in
theorem merkleVerifies_core {D c : ByteArray} {z n i : Int} {P : Option Addr} {q cap : Nat} {p : List ByteArray} {w : World} (hG : w.cell? ⟨0, 0, none⟩ = some errT) (hl : SlT w P q p) (hqc : q ≤ cap) (hcm : cap ≤ maxLen) (hcs : c.size ≤ maxLen) (hz : (Lit.int .i64 z).wf = true) (hn : (Lit.int .i64 n).wf = true) (hi : (Lit.int .i64 i).wf = true) :
    Calls Tryd.prog 3 #[.agg #[.string D, .int .i64 z, .int .i64 n, .int .i64 i, .string c, .slice P q cap]] w fun e W => e = .returned (.bool true) ∧ New w W := by
  have VA := Lib.hid fun (w : World) hG hl => verify_any (D := D) (c := c) (z := z) (n := n) (i := i) (P := P) (q := q) (cap := cap) (p := p) (w := w) hG hl hqc hcm hcs
  have RS := Lib.hid fun (w : World) hl => ref_share (D := D) (c := c) (z := z) (n := n) (i := i) (P := P) (q := q) (cap := cap) (p := p) (w := w) hl hqc hcm
  have RV := Lib.hid fun (q2 : Nat) (w : World) hl h1 h2 => refverify_any (D := D) (c := c) (z := z) (n := n) (i := i) (P := P) (q := q2) (cap := cap) (p := p.take 21) (w := w) hl h1 hcm h2 hcs hz hn hi
  have HC := Lib.hid (verB_cut D z n i c p 21 (by omega))
  obtain ⟨r, hr⟩ : ∃ r, r = verB D z n i c p := ⟨_, rfl⟩
  rw [← hr] at VA HC
  have HG := Lib.hid hG
  have HL := Lib.hid hl
  clear hr hG hl hqc hcm hcs hz hn hi
  have ho := Own.fresh w 24 #[.string D, .int .i64 z, .int .i64 n, .int .i64 i, .string c, .slice P q cap]
  have hN : New w (w.alloc (.cells #[.string D, .int .i64 z, .int .i64 n, .int .i64 i, .string c, .slice P q cap] 24)) := (Fr.refl _ _).alloc _
  go_enter Tryd.func3, Tryd.ntmps3
  go_wp2_with fail
  obtain ⟨W, hW⟩ : ∃ W, W = w.alloc (.cells #[.string D, .int .i64 z, .int .i64 n, .int .i64 i, .string c, .slice P q cap] 24) := ⟨_, rfl⟩
  rw [← hW] at ho hN ⊢
  obtain ⟨bx, hbx⟩ : ∃ bx, bx = w.heap.size := ⟨_, rfl⟩
  rw [← hbx] at ho ⊢
  clear hW hbx
  have hS0 : New W W.drew := (Fr.refl _ _).drew
  refine wp_region_heldE (fun W' => New W W') (by kernel_rfl) ?_
  try simp only [Act.put, List.setIfInBounds_toArray, List.set_cons_zero, List.set_cons_succ]
  refine wpAnyH_all (rs := [0]) (by kernel_rfl) (by simp) (fun j hj => ?_)
  rw [List.mem_singleton] at hj
  subst hj
  refine wpOp_step rfl (fun K hK => ?_)
  go_simp
  refine merkle_awake.mono ?_
  rintro e W1 ⟨rfl, n1⟩
  have hS1 := hS0.new_ n1
  clear n1 hS0
  refine hK _ _ ⟨hS1, ?_⟩
  clear hK K
  try simp only [List.getElem_toArray, List.getElem_cons_succ, List.getElem_cons_zero]
  refine wpAnyH_takeD (i := 1) (d := some 4) (v := .bool true) rfl rfl (by kernel_rfl) (by kernel_rfl) (by kernel_rfl) (fun _ _ _ h => h) (.inl ⟨by kernel_rfl, fun w' hS => ?t1⟩) hS1 ?_
  case t1 =>
    go_simp
  refine wpAnyH_takeD (i := 2) (d := some 5) (v := .agg #[.string D, .int .i64 z, .int .i64 n, .int .i64 i, .string c, .slice P q cap]) rfl rfl (by kernel_rfl) (by kernel_rfl) (by kernel_rfl) (fun _ _ _ h => h) (.inl ⟨by kernel_rfl, fun w' hS => ?t2⟩) hS1 ?_
  case t2 =>
    obtain ⟨⟨x0, x1, x2, x3, x4, x5⟩, -⟩ := own6s (ho.new_ hS)
    go_simp
  refine wpAnyH_takeD (i := 4) (d := some 7) (v := .agg #[.string D, .int .i64 z, .int .i64 n, .int .i64 i, .string c, .slice P q cap]) rfl rfl (by kernel_rfl) (by kernel_rfl) (by kernel_rfl) (fun _ _ _ h => h) (.inl ⟨by kernel_rfl, fun w' hS => ?t4⟩) hS1 ?_
  case t4 =>
    obtain ⟨⟨x0, x1, x2, x3, x4, x5⟩, -⟩ := own6s (ho.new_ hS)
    go_simp
  try simp only [Act.put, List.setIfInBounds_toArray, List.set_cons_zero, List.set_cons_succ]
  refine wpAnyH_all (rs := [3]) (by kernel_rfl) (by simp) (fun j hj => ?_)
  rw [List.mem_singleton] at hj
  subst hj
  refine wpOp_step rfl (fun K hK => ?_)
  go_simp
  refine (VA.out _ (glob_new HG.out (hN.new_ hS1)) (HL.out.new_ (hN.new_ hS1))).mono ?_
  rintro e W2 ⟨rfl, n2⟩
  have hS2 := hS1.new_ n2
  clear n2 hS1
  refine hK _ _ ⟨hS2, ?_⟩
  clear hK K
  try simp only [List.getElem_toArray, List.getElem_cons_succ, List.getElem_cons_zero]
  try simp only [Act.put, List.setIfInBounds_toArray, List.set_cons_zero, List.set_cons_succ]
  refine wpAnyH_all (rs := [5]) (by kernel_rfl) (by simp) (fun j hj => ?_)
  rw [List.mem_singleton] at hj
  subst hj
  refine wpOp_step rfl (fun K hK => ?_)
  go_simp
  refine (RS.out _ (HL.out.new_ (hN.new_ hS2))).mono ?_
  rintro e W3 ⟨q2, rfl, hl2, h21, hqc2, n3⟩
  have hS3 := hS2.new_ n3
  clear n3 hS2
  refine hK _ _ ⟨hS3, ?_⟩
  clear hK K
  try simp only [List.getElem_toArray, List.getElem_cons_succ, List.getElem_cons_zero]
  try simp only [Act.put, List.setIfInBounds_toArray, List.set_cons_zero, List.set_cons_succ]
  refine wpAnyH_all (rs := [6]) (by kernel_rfl) (by simp) (fun j hj => ?_)
  rw [List.mem_singleton] at hj
  subst hj
  refine wpOp_step rfl (fun K hK => ?_)
  go_simp
  refine (RV.out q2 _ hl2 hqc2 h21).mono ?_
  rintro e W4 ⟨rfl, n4⟩
  have hS4 := hS3.new_ n4
  clear n4 hS3
  rw [HC.out]
  refine hK _ _ ⟨hS4, ?_⟩
  clear hK K
  try simp only [List.getElem_toArray, List.getElem_cons_succ, List.getElem_cons_zero]
  refine wpAnyH_takeD (i := 7) (d := some 10) (v := .bool true) rfl rfl (by kernel_rfl) (by kernel_rfl) (by kernel_rfl) (fun _ _ _ h => h) (.inl ⟨by kernel_rfl, fun w' hS => ?t7⟩) hS4 ?_
  case t7 =>
    go_simp
  refine wpAnyH_takeD (i := 8) (d := some 11) (v := .bool true) rfl rfl (by kernel_rfl) (by kernel_rfl) (by kernel_rfl) (fun _ _ _ h => h) (.inl ⟨by kernel_rfl, fun w' hS => ?t8⟩) hS4 ?_
  case t8 =>
    go_simp
  refine wpAnyH_takeD (i := 9) (d := some 2) (v := .bool true) rfl rfl (by kernel_rfl) (by kernel_rfl) (by kernel_rfl) (fun _ _ _ h => h) (.inl ⟨by kernel_rfl, fun w' hS => ?t9⟩) hS4 ?_
  case t9 =>
    go_simp
  refine wpAnyH_done (by kernel_rfl) ?_ _
  try simp only [Act.put, List.setIfInBounds_toArray, List.set_cons_zero, List.set_cons_succ]
  have NF := Lib.hid (hN.new_ hS4)
  clear hS4 hN ho hl2
  go_wp2_with fail
  go_ret
  exact ⟨rfl, NF.out⟩
theorem merkleVerifies_walk {w : World} (hG : w.cell? ⟨0, 0, none⟩ = some errT) (y : EShare) (hy : y.facts w) :
    Calls Tryd.prog 3 #[.agg y.cells.toArray] w fun e W => e = .returned (.bool true) ∧ New w W := by
  obtain ⟨D, z, n, i, c, A, len, cap, V⟩ := y
  obtain ⟨_, hz, hn, hi, hc, hsl, hlc, hcm, -⟩ := hy
  refine merkleVerifies_core (p := (List.range len).map V) hG ⟨(by rw [List.length_map, List.length_range]), hsl.1, fun k hk => ?_⟩ hlc hcm hc hz hn hi
  obtain ⟨b, o, e, hc⟩ := hsl.2 k hk
  refine ⟨b, o, e, fun j v hv => hc j v ?_⟩
  rw [← hv]
  simp [List.getD, hk, ESl9.cell]
end Go.Proofs.YtjcpdpdhegcgoaaDoor
