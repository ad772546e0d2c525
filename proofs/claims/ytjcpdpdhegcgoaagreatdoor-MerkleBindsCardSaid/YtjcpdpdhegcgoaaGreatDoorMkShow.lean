/- The share of a chunk of a short text. -/
import Derived.Test.YtjcpdpdhegcgoaaGreatDoorMkRoot
import Derived.Test.YtjcpdpdhegcgoaaGreatDoorParts
namespace Go.Proofs.YtjcpdpdhegcgoaaGreatDoor
open Go.RowKit
set_option linter.unusedVariables false
set_option linter.unusedSimpArgs false

theorem TxL.cap {W : World} {B : Nat} {A : Option Addr} {n cap : Nat} {l : List ByteArray} (h : TxL W B (.slice A n cap) l) : n ≤ cap ∧ cap ≤ maxLen := by
  rcases h.2 with ⟨e, h0⟩ | ⟨g, cap', cur, e, hB, hg, h1, h2, h3, h4⟩
  · injection e with e1 e2 e3
    subst e2 e3
    simp [maxLen]
  · injection e with e1 e2 e3
    subst e2 e3
    exact ⟨h1, h2⟩
/-- The digest of a file of n bytes, m chunks, with that root. -/
def fileV (n m : Nat) (r : ByteArray) (i : Nat) : ByteArray := if i = 0 then numB 4 n else if i = 1 then numB 4 m else r
def fileB (n m : Nat) (r : ByteArray) : ByteArray := shaB (partsV 70 3 (fileV n m r))
theorem sl_three {W : World} {b : Nat} {n m : Nat} {r : ByteArray} (h : Own W b 9 #[.string (numB 4 n), .string (numB 4 m), .string r]) : Sl W 1 (some ⟨b, 0, none⟩) 3 fun i => [.string (fileV n m r i)] := by
  refine ⟨by simp [maxLen], fun k hk => ⟨b, 0, rfl, fun j u hu => ?_⟩⟩
  have hj : j = 0 := by
    rcases j with _ | j
    · rfl
    · simp at hu
  subst hj
  have hu' : u = .string (fileV n m r k) := by simpa using hu.symm
  subst hu'
  rw [show 0 + k * 1 + 0 = k by omega, h.cell k]
  have : k = 0 ∨ k = 1 ∨ k = 2 := by omega
  rcases this with rfl | rfl | rfl <;> rfl
theorem fileV_size {n m : Nat} {r : ByteArray} (hr : r.size ≤ 100000) (i : Nat) : (fileV n m r i).size ≤ 100000 := by
  unfold fileV
  split
  · rw [numB_size]; omega
  split
  · rw [numB_size]; omega
  · exact hr
theorem file_tag {W : World} {b n m : Nat} {r : ByteArray} (h : Own W b 9 #[.string (numB 4 n), .string (numB 4 m), .string r]) (hr : r.size ≤ 100000) :
    Calls Tryz.prog 47 #[.int .u8 70, .slice (some ⟨b, 0, none⟩) 3 3] W fun e w' => e = .returned (.string (fileB n m r)) ∧ New W w' :=
  tagged_any 70 _ 3 3 (fileV n m r) W (sl_three h) (by omega) (fun j _ => fileV_size hr j)
set_option maxRecDepth 100000 in
set_option maxHeartbeats 8000000 in
theorem mk_file {z : Nat} {A : Option Addr} {n cap : Nat} {l : List ByteArray} {w : World} (hz : z ≤ 100000) (hl : SlT w A n l) (hc : n ≤ cap) (hc2 : cap ≤ maxLen) (hn : n ≤ 100000) (hx : ∀ x ∈ l, x.size ≤ 100000) :
    Calls Tryz.prog 19 #[.agg #[.int .i64 z, .slice A n cap]] w fun e W => e = .returned (.string (fileB z n (rootB l))) ∧ New w W := by
  have hzr := rootB_size l hx
  have R0 := fun (w : World) h => root_any n A n cap l w (Nat.le_refl _) h hc hc2 (by omega) hx
  have N1 := fun w => number_any z (by omega) 4 w
  have N2 := fun w => number_any n (by omega) 4 w
  rw [show clip 4 = 4 from rfl] at N1 N2
  obtain ⟨r, hr⟩ : ∃ r, r = rootB l := ⟨_, rfl⟩
  rw [← hr] at hzr R0 ⊢
  clear hr
  have ho := Own.fresh w 38 #[.int .i64 z, .slice A n cap]
  obtain ⟨W, hW⟩ : ∃ W, W = w.alloc (.cells #[.int .i64 z, .slice A n cap] 38) := ⟨_, rfl⟩
  have hN : New w W := hW ▸ (Fr.refl _ _).alloc _
  rw [← hW] at ho
  have q0 := ho.nw 0
  have q1 := ho.nw 1
  simp only [List.getElem?_toArray, List.getElem?_cons_zero, List.getElem?_cons_succ] at q0 q1
  have B1 := fun x => Calls.nw_of (x := x) (w := W) (N1 (nw W x))
  have B2 := fun x => Calls.nw_of (x := x) (w := W) (N2 (nw W x))
  have B3 := fun x => Calls.nw_of (x := x) (w := W) (R0 (nw W x) ((hl.new_ hN).new_ (nw_new W x)))
  have hz0 : (z : Int) ≤ 100000 := by omega
  have hn0 : (n : Int) ≤ 100000 := by omega
  go_enter Tryz.func19, Tryz.ntmps19
  go_wp2_with fail
  rw [show w.alloc (.cells #[.int .i64 z, .slice A n cap] 38) = W from hW.symm]
  apply wp_region_new_parts 12; (case hp => simp only [List.take_succ_cons, List.take_zero]; exact rfl); (case hd => simp only [List.drop_succ_cons, List.drop_zero]; exact rfl); (case hm => kernel_rfl); (case hB => kernel_rfl); (case hT => kernel_rfl); (case hL => kernel_rfl); (repeat (any_goals (first | go_big_quiet_step ((first | (go_at_call 52; with_reducible exact B1 _) | (go_at_call 52; with_reducible exact B2 _) | (go_at_call 17; with_reducible exact B3 _))) | quiet_step ((first | (go_at_call 52; with_reducible exact B1 _) | (go_at_call 52; with_reducible exact B2 _) | (go_at_call 17; with_reducible exact B3 _))) | (refine wpQuiet_step (fun K hK => ?_); go_simp; split <;> (refine hK _ ?_; clear hK K))))); all_goals (refine wpQuiet_nil ?_; intro _ hw'; obtain ⟨xq, hw''⟩ := hw'; subst hw''; have hnq := nw_new _ xq)
  go_wp2_with fail
  refine (file_tag (Own.fresh _ _ _) hzr).mono ?_
  rintro e w1 ⟨rfl, n1⟩
  go_wp2_with fail
  go_ret
  exact ⟨rfl, (hN.new_ (hnq.alloc _)).new_ n1⟩
theorem own6s {w : World} {b : Nat} {t : TypeId} {u0 u1 u2 u3 u4 u5 : Value} (h : Own w b t #[u0, u1, u2, u3, u4, u5]) :
    (w.cell? ⟨b, 0, none⟩ = some u0 ∧ w.cell? ⟨b, 1, none⟩ = some u1 ∧ w.cell? ⟨b, 2, none⟩ = some u2 ∧ w.cell? ⟨b, 3, none⟩ = some u3 ∧ w.cell? ⟨b, 4, none⟩ = some u4 ∧ w.cell? ⟨b, 5, none⟩ = some u5) ∧
    w.frozen? ⟨b, 0, none⟩ = false ∧ w.frozen? ⟨b, 1, none⟩ = false ∧ w.frozen? ⟨b, 2, none⟩ = false ∧ w.frozen? ⟨b, 3, none⟩ = false ∧ w.frozen? ⟨b, 4, none⟩ = false ∧ w.frozen? ⟨b, 5, none⟩ = false :=
  ⟨⟨h.cell 0, h.cell 1, h.cell 2, h.cell 3, h.cell 4, h.cell 5⟩, h.free 0, h.free 1, h.free 2, h.free 3, h.free 4, h.free 5⟩
theorem Own.lay6 {W : World} {b : Nat} {t : TypeId} {a0 a1 a2 a3 a4 a5 : Value} (h : Own W b t #[a0, a1, a2, a3, a4, a5]) (v0 v1 v2 v3 v4 v5 : Value) :
    Own ((((((W.setCell ⟨b, 0, none⟩ v0).setCell ⟨b, 1, none⟩ v1).setCell ⟨b, 2, none⟩ v2).setCell ⟨b, 3, none⟩ v3).setCell ⟨b, 4, none⟩ v4).setCell ⟨b, 5, none⟩ v5) b t #[v0, v1, v2, v3, v4, v5] ∧
    Fr (fun k => k = b) W ((((((W.setCell ⟨b, 0, none⟩ v0).setCell ⟨b, 1, none⟩ v1).setCell ⟨b, 2, none⟩ v2).setCell ⟨b, 3, none⟩ v3).setCell ⟨b, 4, none⟩ v4).setCell ⟨b, 5, none⟩ v5) := by
  refine ⟨(((((h.put rfl).put rfl).put rfl).put rfl).put rfl).put rfl, ?_⟩
  exact ((((((Fr.refl (fun k => k = b) W).set (p := ⟨b, 0, none⟩) (fun _ => rfl) v0).set (p := ⟨b, 1, none⟩) (fun _ => rfl) v1).set (p := ⟨b, 2, none⟩) (fun _ => rfl) v2).set (p := ⟨b, 3, none⟩) (fun _ => rfl) v3).set (p := ⟨b, 4, none⟩) (fun _ => rfl) v4).set (p := ⟨b, 5, none⟩) (fun _ => rfl) v5
set_option maxHeartbeats 2000000 in
theorem path_nil {A : Option Addr} {n cap : Nat} {i : Int} (hn : n ≤ 1) {w : World} : Calls Tryz.prog 40 #[.slice A n cap, .int .i64 i] w fun e W => e = .returned (.slice none 0 0) ∧ W = w := by
  have hn2 : (n : Int) ≤ 1 := by omega
  go_enter Tryz.func40, Tryz.ntmps40
  go_wp2
  go_ret
  exact ⟨rfl, rfl⟩
theorem chunks_small {s : ByteArray} (h1 : 1 ≤ s.size) (h2 : s.size ≤ 32) : chunksB ByteArray.size s = [s] := by
  rw [chunksB_cons cutC_small.ok (by omega) h2, chunksB_nil _ (by simp)]
  simp
set_option maxRecDepth 100000 in
set_option maxHeartbeats 8000000 in
theorem show_small {s : ByteArray} (h1 : 1 ≤ s.size) (h2 : s.size ≤ 32) {w : World} :
    Calls Tryz.prog 10 #[.string s, .int .i64 0] w fun e W => e = .returned (.tuple #[.agg #[.string (fileB s.size 1 (digB s)), .int .i64 s.size, .int .i64 1, .int .i64 0, .string s, .slice none 0 0], .int .i64 0]) ∧ New w W := by
  have hch := chunks_small h1 h2
  go_enter Tryz.func10, Tryz.ntmps10
  go_wp2_with fail
  have hA0 := Own.fresh w 27 #[.string ⟨#[]⟩, .int .i64 0, .int .i64 0, .int .i64 0, .string ⟨#[]⟩, .slice none 0 0]
  have hN0 : New w (w.alloc (.cells #[.string ⟨#[]⟩, .int .i64 0, .int .i64 0, .int .i64 0, .string ⟨#[]⟩, .slice none 0 0] 27)) := (Fr.refl _ _).alloc _
  refine (mk_of cutC_small (by omega) h2).mono ?_
  rintro e W1 ⟨v, rfl, ht, hN1⟩
  rw [hch] at ht
  replace hA0 := hA0.new_ hN1
  replace hN0 := hN0.new_ hN1
  obtain ⟨A, cap, rfl⟩ := ht.form
  have hsl := SlT.of_txl ht (by simp [maxLen])
  have hcc := ht.cap
  rw [show (List.map digB [s]).length = 1 from rfl] at hcc
  rw [show (List.map digB [s]).length = 1 from rfl] at hsl ⊢
  clear hN1 ht hch
  go_wp2_with fail
  have hb0 := Own.fresh W1 38 #[.int .i64 s.size, .slice A 1 cap]
  have hNa : New w (W1.alloc (.cells #[.int .i64 s.size, .slice A 1 cap] 38)) := hN0.alloc _
  have hAa := hA0.alloc (.cells #[.int .i64 s.size, .slice A 1 cap] 38)
  have hsa := hsl.new_ ((Fr.refl (fun _ => False) W1).alloc (.cells #[.int .i64 s.size, .slice A 1 cap] 38))
  obtain ⟨W, hW⟩ : ∃ W, W = W1.alloc (.cells #[.int .i64 s.size, .slice A 1 cap] 38) := ⟨_, rfl⟩
  rw [← hW] at hb0 hNa hAa hsa ⊢
  obtain ⟨bm, hbm⟩ : ∃ bm, bm = W1.heap.size := ⟨_, rfl⟩
  have hlt := hA0.lt
  rw [← hbm] at hb0 hlt ⊢
  clear hW hA0 hN0 hsl hbm
  have hmc : ∀ w', Fr (fun k => k = w.heap.size) W w' → w'.cell? ⟨bm, 0, none⟩ = some (.int .i64 s.size) ∧ w'.cell? ⟨bm, 1, none⟩ = some (.slice A 1 cap) := fun w' f => ⟨(hb0.fr f (by omega)).cell 0, (hb0.fr f (by omega)).cell 1⟩
  have hS0 : Fr (fun k => k = w.heap.size) W W.drew := (Fr.refl _ _).drew
  have hD0 : New W W.drew := (Fr.refl _ _).drew
  have hdx : ∀ x ∈ List.map digB [s], x.size ≤ 100000 := fun x hx => by
    have : x = digB s := by simpa using hx
    rw [this]
    unfold digB
    rw [shaB_size]
    omega
  have hsz : s.size ≤ 100000 := by omega
  have hr1 : rootB (List.map digB [s]) = digB s := rootB_one rfl
  refine wp_region_heldE (fun W' => Fr (fun k => k = w.heap.size) W W') (by kernel_rfl) ?_
  refine wpAnyH_take (i := 0) (v := .agg #[.int .i64 s.size, .slice A 1 cap]) rfl (by kernel_rfl) (by kernel_rfl) (by kernel_rfl) (fun _ _ _ h => h) (.inl ⟨rfl, fun w' hS => ?t0⟩) hS0 ?_
  case t0 =>
    obtain ⟨m0, m1⟩ := hmc w' hS
    go_simp
  refine wpAnyH_take (i := 2) (v := .pointer (some ⟨bm, 0, none⟩)) rfl (by kernel_rfl) (by kernel_rfl) (by kernel_rfl) (fun _ _ _ h => h) (.inl ⟨rfl, fun w' hS => ?t2⟩) hS0 ?_
  case t2 =>
    go_simp
  refine wpAnyH_take (i := 3) (v := .int .i64 s.size) rfl (by kernel_rfl) (by kernel_rfl) (by kernel_rfl) (fun _ _ _ h => h) (.inl ⟨rfl, fun w' hS => ?t3⟩) hS0 ?_
  case t3 =>
    obtain ⟨m0, m1⟩ := hmc w' hS
    go_simp
  refine wpAnyH_take (i := 4) (v := .pointer (some ⟨bm, 1, none⟩)) rfl (by kernel_rfl) (by kernel_rfl) (by kernel_rfl) (fun _ _ _ h => h) (.inl ⟨rfl, fun w' hS => ?t4⟩) hS0 ?_
  case t4 =>
    go_simp
  refine wpAnyH_take (i := 5) (v := .slice A 1 cap) rfl (by kernel_rfl) (by kernel_rfl) (by kernel_rfl) (fun _ _ _ h => h) (.inl ⟨rfl, fun w' hS => ?t5⟩) hS0 ?_
  case t5 =>
    obtain ⟨m0, m1⟩ := hmc w' hS
    go_simp
  refine wpAnyH_take (i := 6) (v := .int .i64 1) rfl (by kernel_rfl) (by kernel_rfl) (by kernel_rfl) (fun _ _ _ h => h) (.inl ⟨rfl, fun w' hS => ?t6⟩) hS0 ?_
  case t6 =>
    go_simp
  refine wpAnyH_take (i := 7) (v := .int .i64 0) rfl (by kernel_rfl) (by kernel_rfl) (by kernel_rfl) (fun _ _ _ h => h) (.inl ⟨rfl, fun w' hS => ?t7⟩) hS0 ?_
  case t7 =>
    go_simp
  refine wpAnyH_take (i := 8) (v := .string s) rfl (by kernel_rfl) (by kernel_rfl) (by kernel_rfl) (fun _ _ _ h => h) (.inl ⟨rfl, fun w' hS => ?t8⟩) hS0 ?_
  case t8 =>
    go_simp
  refine wpAnyH_take (i := 10) (v := .int .i64 0) rfl (by kernel_rfl) (by kernel_rfl) (by kernel_rfl) (fun _ _ _ h => h) (.inl ⟨rfl, fun w' hS => ?t10⟩) hS0 ?_
  case t10 =>
    go_simp
  refine wpAnyH_take (i := 13) (v := .pointer (some ⟨bm, 1, none⟩)) rfl (by kernel_rfl) (by kernel_rfl) (by kernel_rfl) (fun _ _ _ h => h) (.inl ⟨rfl, fun w' hS => ?t13⟩) hS0 ?_
  case t13 =>
    go_simp
  refine wpAnyH_take (i := 14) (v := .slice A 1 cap) rfl (by kernel_rfl) (by kernel_rfl) (by kernel_rfl) (fun _ _ _ h => h) (.inl ⟨rfl, fun w' hS => ?t14⟩) hS0 ?_
  case t14 =>
    obtain ⟨m0, m1⟩ := hmc w' hS
    go_simp
  refine wpAnyH_take (i := 15) (v := .int .i64 0) rfl (by kernel_rfl) (by kernel_rfl) (by kernel_rfl) (fun _ _ _ h => h) (.inl ⟨rfl, fun w' hS => ?t15⟩) hS0 ?_
  case t15 =>
    go_simp
  try simp only [Act.put, List.setIfInBounds_toArray, List.set_cons_zero, List.set_cons_succ]
  refine wpAnyH_all (rs := [1]) (by kernel_rfl) (by simp) (fun j hj => ?_)
  rw [List.mem_singleton] at hj
  subst hj
  refine wpOp_step rfl (fun K hK => ?_)
  go_simp
  refine (mk_file (l := List.map digB [s]) hsz (hsa.new_ hD0) hcc.1 hcc.2 (by omega) hdx).mono ?_
  rintro e W2 ⟨rfl, n2⟩
  rw [hr1]
  have hS2 := hS0.new_ n2
  have hD2 := hD0.new_ n2
  refine hK _ _ ⟨hS2, ?_⟩
  clear hK K
  try simp only [Act.put, List.setIfInBounds_toArray, List.set_cons_zero, List.set_cons_succ]
  refine wpAnyH_all (rs := [9]) (by kernel_rfl) (by simp) (fun j hj => ?_)
  rw [List.mem_singleton] at hj
  subst hj
  refine wpOp_step rfl (fun K hK => ?_)
  go_simp
  refine (chunk_list cutC_small (by omega) h2).mono ?_
  rintro e W3 ⟨v3, rfl, t3, n3⟩
  rw [chunks_small h1 h2] at t3
  obtain ⟨A3, cap3, rfl⟩ := t3.form
  obtain ⟨_, hs3⟩ := SlT.of_txl t3 (by simp [maxLen])
  obtain ⟨b3, o3, rfl, hc3⟩ := hs3.2 0 (by simp)
  have c3 := hc3 0 _ rfl
  simp only [Nat.zero_mul, Nat.add_zero, List.getD_cons_zero] at c3
  have hS3 := hS2.new_ n3
  have hD3 := hD2.new_ n3
  have hA3 := hAa.new_ hD3
  refine hK _ _ ⟨hS3, ?_⟩
  clear hK K hc3 t3 hs3
  try simp only [Act.put, List.setIfInBounds_toArray, List.set_cons_zero, List.set_cons_succ]
  refine wpAnyH_take (i := 11) (v := .pointer (some ⟨b3, o3, none⟩)) rfl (by kernel_rfl) (by kernel_rfl) (by kernel_rfl) (fun _ _ _ h => h) (.inl ⟨rfl, fun w' hS => ?t11⟩) hS3 ?_
  case t11 =>
    go_simp
  try simp only [Act.put, List.setIfInBounds_toArray, List.set_cons_zero, List.set_cons_succ]
  refine wpAnyH_all (rs := [12, 16]) (by kernel_rfl) (by simp) (fun j hj => ?_)
  rw [List.mem_cons, List.mem_singleton] at hj
  rcases hj with rfl | rfl
  · refine wpOp_step rfl (fun K hK => ?_)
    go_simp
    refine hK _ _ ⟨hS3, ?_⟩
    clear hK K
    try simp only [Act.put, List.setIfInBounds_toArray, List.set_cons_zero, List.set_cons_succ]
    refine wpAnyH_all (rs := [16]) (by kernel_rfl) (by simp) (fun j hj => ?_)
    rw [List.mem_singleton] at hj
    subst hj
    refine wpOp_step rfl (fun K hK => ?_)
    go_simp
    refine (path_nil (Nat.le_refl 1)).mono ?_
    rintro e w' ⟨rfl, rfl⟩
    refine hK _ _ ⟨hS3, ?_⟩
    clear hK K
    try simp only [Act.put, List.setIfInBounds_toArray, List.set_cons_zero, List.set_cons_succ]
    refine wpAnyH_take (i := 17) (v := .agg #[.string (fileB s.size 1 (digB s)), .int .i64 s.size, .int .i64 1, .int .i64 0, .string s, .slice none 0 0]) rfl (by kernel_rfl) (by kernel_rfl) (by kernel_rfl) (fun _ _ _ h => h) (.inl ⟨rfl, fun w' hS => ?t17⟩) hS3 ?_
    case t17 =>
      go_simp
    try simp only [Act.put, List.setIfInBounds_toArray, List.set_cons_zero, List.set_cons_succ]
    refine wpAnyH_all (rs := [18]) (by kernel_rfl) (by simp) (fun j hj => ?_)
    rw [List.mem_singleton] at hj
    subst hj
    refine wpOp_step rfl (fun K hK => ?_)
    obtain ⟨b7, f7⟩ := hA3.lay6 (.string (fileB s.size 1 (digB s))) (.int .i64 s.size) (.int .i64 1) (.int .i64 0) (.string s) (.slice none 0 0)
    obtain ⟨⟨r0, r1, r2, r3, r4, r5⟩, y0, y1, y2, y3, y4, y5⟩ := own6s hA3
    have hS7 := hS3.trans f7 fun k hk e => e
    have hN7 := (hNa.new_ hD3).trans f7 fun k hk e => by omega
    have HZ := Lib.hid (And.intro b7 (And.intro hS7 hN7))
    clear b7 f7 hS7 hN7
    go_simp
    refine hK _ _ ⟨HZ.out.2.1, ?_⟩
    clear hK K r0 r1 r2 r3 r4 r5 y0 y1 y2 y3 y4 y5
    obtain ⟨b7, hS7, hN7⟩ := HZ.out
    clear HZ
    generalize hW7 : World.setCell _ _ _ = W7 at b7 hS7 hN7 ⊢
    clear hW7
    try simp only [Act.put, List.setIfInBounds_toArray, List.set_cons_zero, List.set_cons_succ]
    refine wpAnyH_take (i := 19) (v := .int .i64 0) rfl (by kernel_rfl) (by kernel_rfl) (by kernel_rfl) (fun _ _ _ h => h) (.inl ⟨rfl, fun w' hS => ?t19⟩) hS7 ?_
    case t19 =>
      go_simp
    refine wpAnyH_done (by kernel_rfl) ?_ _
    obtain ⟨⟨r0, r1, r2, r3, r4, r5⟩, -⟩ := own6s b7
    try simp only [Act.put, List.setIfInBounds_toArray, List.set_cons_zero, List.set_cons_succ]
    clear b7 hS7
    go_wp2_with fail
    exact bodyPost_ret (v := .tuple #[.agg #[.string (fileB s.size 1 (digB s)), .int .i64 s.size, .int .i64 1, .int .i64 0, .string s, .slice none 0 0], .int .i64 0]) (by simp [results, Tryz.results10, go_sem, *]) rfl ⟨rfl, hN7⟩
  · refine wpOp_step rfl (fun K hK => ?_)
    go_simp
    refine (path_nil (Nat.le_refl 1)).mono ?_
    rintro e w' ⟨rfl, rfl⟩
    refine hK _ _ ⟨hS3, ?_⟩
    clear hK K
    try simp only [Act.put, List.setIfInBounds_toArray, List.set_cons_zero, List.set_cons_succ]
    refine wpAnyH_all (rs := [12]) (by kernel_rfl) (by simp) (fun j hj => ?_)
    rw [List.mem_singleton] at hj
    subst hj
    refine wpOp_step rfl (fun K hK => ?_)
    go_simp
    refine hK _ _ ⟨hS3, ?_⟩
    clear hK K
    try simp only [Act.put, List.setIfInBounds_toArray, List.set_cons_zero, List.set_cons_succ]
    refine wpAnyH_take (i := 17) (v := .agg #[.string (fileB s.size 1 (digB s)), .int .i64 s.size, .int .i64 1, .int .i64 0, .string s, .slice none 0 0]) rfl (by kernel_rfl) (by kernel_rfl) (by kernel_rfl) (fun _ _ _ h => h) (.inl ⟨rfl, fun w' hS => ?t17⟩) hS3 ?_
    case t17 =>
      go_simp
    try simp only [Act.put, List.setIfInBounds_toArray, List.set_cons_zero, List.set_cons_succ]
    refine wpAnyH_all (rs := [18]) (by kernel_rfl) (by simp) (fun j hj => ?_)
    rw [List.mem_singleton] at hj
    subst hj
    refine wpOp_step rfl (fun K hK => ?_)
    obtain ⟨b7, f7⟩ := hA3.lay6 (.string (fileB s.size 1 (digB s))) (.int .i64 s.size) (.int .i64 1) (.int .i64 0) (.string s) (.slice none 0 0)
    obtain ⟨⟨r0, r1, r2, r3, r4, r5⟩, y0, y1, y2, y3, y4, y5⟩ := own6s hA3
    have hS7 := hS3.trans f7 fun k hk e => e
    have hN7 := (hNa.new_ hD3).trans f7 fun k hk e => by omega
    have HZ := Lib.hid (And.intro b7 (And.intro hS7 hN7))
    clear b7 f7 hS7 hN7
    go_simp
    refine hK _ _ ⟨HZ.out.2.1, ?_⟩
    clear hK K r0 r1 r2 r3 r4 r5 y0 y1 y2 y3 y4 y5
    obtain ⟨b7, hS7, hN7⟩ := HZ.out
    clear HZ
    generalize hW7 : World.setCell _ _ _ = W7 at b7 hS7 hN7 ⊢
    clear hW7
    try simp only [Act.put, List.setIfInBounds_toArray, List.set_cons_zero, List.set_cons_succ]
    refine wpAnyH_take (i := 19) (v := .int .i64 0) rfl (by kernel_rfl) (by kernel_rfl) (by kernel_rfl) (fun _ _ _ h => h) (.inl ⟨rfl, fun w' hS => ?t19⟩) hS7 ?_
    case t19 =>
      go_simp
    refine wpAnyH_done (by kernel_rfl) ?_ _
    obtain ⟨⟨r0, r1, r2, r3, r4, r5⟩, -⟩ := own6s b7
    try simp only [Act.put, List.setIfInBounds_toArray, List.set_cons_zero, List.set_cons_succ]
    clear b7 hS7
    go_wp2_with fail
    exact bodyPost_ret (v := .tuple #[.agg #[.string (fileB s.size 1 (digB s)), .int .i64 s.size, .int .i64 1, .int .i64 0, .string s, .slice none 0 0], .int .i64 0]) (by simp [results, Tryz.results10, go_sem, *]) rfl ⟨rfl, hN7⟩
end Go.Proofs.YtjcpdpdhegcgoaaGreatDoor
