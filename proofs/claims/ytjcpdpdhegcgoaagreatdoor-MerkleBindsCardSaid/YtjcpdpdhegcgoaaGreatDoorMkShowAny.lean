/- The share of a file's chunk, of any file and place. -/
import Derived.Test.YtjcpdpdhegcgoaaGreatDoorMkPath
import Derived.Test.YtjcpdpdhegcgoaaGreatDoorMkRefList
namespace Go.Proofs.YtjcpdpdhegcgoaaGreatDoor
open Go.RowKit
set_option linter.unusedVariables false
set_option linter.unusedSimpArgs false

theorem cell_zero {W : World} {b : Nat} {t : TypeId} {cs : Array Value} (h : Own W b t cs) (i : Nat) : W.cell? ⟨b, i, none⟩ = cs[i]? := h.cell i
set_option maxRecDepth 100000 in
set_option maxHeartbeats 16000000 in
theorem show_in {s : ByteArray} (hs : s.size ≤ 8192) {at_ : Nat} (hat : at_ < (chunksB cutB s).length) {w : World} :
    Calls Tryz.prog 10 #[.string s, .int .i64 at_] w fun e W => ∃ v, e = .returned (.tuple #[.agg #[.string (fileB s.size (chunksB cutB s).length (rootB ((chunksB cutB s).map digB))), .int .i64 s.size, .int .i64 (chunksB cutB s).length, .int .i64 at_, .string ((chunksB cutB s).getD at_ .empty), v], .int .i64 0]) ∧ TxL W w.heap.size v (pathB ((chunksB cutB s).map digB) at_) ∧ New w W := by
  have hcl := chunksB_length cutC.ok s.size s (Nat.le_refl _) hs
  have MO := Lib.hid fun (w : World) => mk_of cutC (by omega) hs (w := w)
  have CL := Lib.hid fun (w : World) => chunk_list cutC (by omega) hs (w := w)
  obtain ⟨l, hl⟩ : ∃ l, l = chunksB cutB s := ⟨_, rfl⟩
  rw [← hl] at hcl MO CL hat ⊢
  clear hl
  have hdx : ∀ x ∈ l.map digB, x.size ≤ 100000 := fun x hx => by
    obtain ⟨y, _, rfl⟩ := List.mem_map.1 hx
    unfold digB
    rw [shaB_size]
    omega
  have hLm : (l.map digB).length = l.length := List.length_map _
  obtain ⟨L, hL⟩ : ∃ L, L = l.map digB := ⟨_, rfl⟩
  rw [← hL] at hdx MO hLm ⊢
  obtain ⟨m, hm⟩ : ∃ m, m = l.length := ⟨_, rfl⟩
  rw [← hm] at hat hcl hLm ⊢
  have FL := Lib.hid fun (A : Option Addr) (cap : Nat) (w : World) (h : SlT w A m L) (hc : m ≤ cap) (hc2 : cap ≤ maxLen) => mk_file (z := s.size) (l := L) (w := w) (by omega) h hc hc2 (by omega) hdx
  have PTT := Lib.hid fun (A : Option Addr) (cap : Nat) (w : World) (h : SlT w A m L) (hc : m ≤ cap) (hc2 : cap ≤ maxLen) => mk_path m A m cap L at_ w (Nat.le_refl _) h hc hc2 (by omega) (by omega) hdx
  obtain ⟨r, hr⟩ : ∃ r, r = fileB s.size m (rootB L) := ⟨_, rfl⟩
  obtain ⟨c, hcc⟩ : ∃ c, c = l.getD at_ .empty := ⟨_, rfl⟩
  rw [← hr, ← hcc]
  rw [← hr] at FL
  have HM := Lib.hid hm
  have HLm := Lib.hid hLm
  have HCC := Lib.hid hcc
  clear hdx hL hr hm hLm hcc
  have hat' : (at_ : Int) < (m : Int) := by omega
  have hmi : (m : Int) ≤ 8192 := by omega
  have hs' : (s.size : Int) ≤ 8192 := by omega
  go_enter Tryz.func10, Tryz.ntmps10
  go_wp2_with fail
  have hA0 := Own.fresh w 27 #[.string ⟨#[]⟩, .int .i64 0, .int .i64 0, .int .i64 0, .string ⟨#[]⟩, .slice none 0 0]
  have hN0 : New w (w.alloc (.cells #[.string ⟨#[]⟩, .int .i64 0, .int .i64 0, .int .i64 0, .string ⟨#[]⟩, .slice none 0 0] 27)) := (Fr.refl _ _).alloc _
  refine (MO.out _).mono ?_
  rintro e W1 ⟨v, rfl, ht, hN1⟩
  replace hA0 := hA0.new_ hN1
  replace hN0 := hN0.new_ hN1
  obtain ⟨A, cap, rfl⟩ := ht.form
  have hcp := ht.cap
  rw [HLm.out] at ht hcp ⊢
  have hsl := SlT.of_txl ht (by rw [HLm.out]; simp [maxLen]; omega)
  have PT := Lib.hid fun (w : World) h => PTT.out A cap w h hcp.1 hcp.2
  have FT := Lib.hid fun (w : World) h => FL.out A cap w h hcp.1 hcp.2
  have hcp1 : (m : Int) ≤ (cap : Int) := by omega
  clear hN1 ht PTT FL MO
  go_wp2_with fail
  have hb0 := Own.fresh W1 38 #[.int .i64 s.size, .slice A m cap]
  have hNa : New w (W1.alloc (.cells #[.int .i64 s.size, .slice A m cap] 38)) := hN0.alloc _
  have hAa := hA0.alloc (.cells #[.int .i64 s.size, .slice A m cap] 38)
  have hsa := hsl.new_ ((Fr.refl (fun _ => False) W1).alloc (.cells #[.int .i64 s.size, .slice A m cap] 38))
  obtain ⟨W, hW⟩ : ∃ W, W = W1.alloc (.cells #[.int .i64 s.size, .slice A m cap] 38) := ⟨_, rfl⟩
  rw [← hW] at hb0 hNa hAa hsa ⊢
  obtain ⟨bm, hbm⟩ : ∃ bm, bm = W1.heap.size := ⟨_, rfl⟩
  have hlt := hA0.lt
  rw [← hbm] at hb0 hlt ⊢
  have hwl := hAa.lt
  clear hW hA0 hN0 hsl hbm
  have x0 := hb0.cell 0
  have x1 := hb0.cell 1
  simp only [List.getElem?_toArray, List.getElem?_cons_zero, List.getElem?_cons_succ] at x0 x1
  try go_wp2_with fail
  clear x0 x1
  have hmc : ∀ w', Fr (fun k => k = w.heap.size) W w' → w'.cell? ⟨bm, 0, none⟩ = some (.int .i64 s.size) ∧ w'.cell? ⟨bm, 1, none⟩ = some (.slice A m cap) := fun w' f => ⟨(hb0.fr f (by omega)).cell 0, (hb0.fr f (by omega)).cell 1⟩
  have hS0 : Fr (fun k => k = w.heap.size) W W.drew := (Fr.refl _ _).drew
  have hD0 : New W W.drew := (Fr.refl _ _).drew
  refine wp_region_heldE (fun W' => Fr (fun k => k = w.heap.size) W W') (by kernel_rfl) ?_
  refine wpAnyH_take (i := 0) (v := .agg #[.int .i64 s.size, .slice A m cap]) rfl (by kernel_rfl) (by kernel_rfl) (by kernel_rfl) (fun _ _ _ h => h) (.inl ⟨rfl, fun w' hS => ?t0⟩) hS0 ?_
  case t0 =>
    obtain ⟨m0, m1⟩ := hmc w' hS
    go_simp
  refine wpAnyH_take (i := 2) (v := .pointer (some ⟨bm, 0, none⟩)) rfl (by kernel_rfl) (by kernel_rfl) (by kernel_rfl) (fun _ _ _ h => h) (.inl ⟨rfl, fun w' hS => ?t2⟩) hS0 ?_
  case t2 =>
    go_simp
  refine wpAnyH_take (i := 3) (v := .int .i64 s.size) rfl (by kernel_rfl) (by kernel_rfl) (by kernel_rfl) (fun _ _ _ h => h) (.inl ⟨rfl, fun w' hS => ?t3⟩) hS0 ?_
  case t3 =>
    obtain ⟨m0, m1⟩ := hmc w' hS
    go_simp
  refine wpAnyH_take (i := 4) (v := .pointer (some ⟨bm, 1, none⟩)) rfl (by kernel_rfl) (by kernel_rfl) (by kernel_rfl) (fun _ _ _ h => h) (.inl ⟨rfl, fun w' hS => ?t4⟩) hS0 ?_
  case t4 =>
    go_simp
  refine wpAnyH_take (i := 5) (v := .slice A m cap) rfl (by kernel_rfl) (by kernel_rfl) (by kernel_rfl) (fun _ _ _ h => h) (.inl ⟨rfl, fun w' hS => ?t5⟩) hS0 ?_
  case t5 =>
    obtain ⟨m0, m1⟩ := hmc w' hS
    go_simp
  refine wpAnyH_take (i := 6) (v := .int .i64 m) rfl (by kernel_rfl) (by kernel_rfl) (by kernel_rfl) (fun _ _ _ h => h) (.inl ⟨rfl, fun w' hS => ?t6⟩) hS0 ?_
  case t6 =>
    go_simp
  refine wpAnyH_take (i := 7) (v := .int .i64 at_) rfl (by kernel_rfl) (by kernel_rfl) (by kernel_rfl) (fun _ _ _ h => h) (.inl ⟨rfl, fun w' hS => ?t7⟩) hS0 ?_
  case t7 =>
    go_simp
  refine wpAnyH_take (i := 8) (v := .string s) rfl (by kernel_rfl) (by kernel_rfl) (by kernel_rfl) (fun _ _ _ h => h) (.inl ⟨rfl, fun w' hS => ?t8⟩) hS0 ?_
  case t8 =>
    go_simp
  refine wpAnyH_take (i := 10) (v := .int .i64 at_) rfl (by kernel_rfl) (by kernel_rfl) (by kernel_rfl) (fun _ _ _ h => h) (.inl ⟨rfl, fun w' hS => ?t10⟩) hS0 ?_
  case t10 =>
    go_simp
  refine wpAnyH_take (i := 13) (v := .pointer (some ⟨bm, 1, none⟩)) rfl (by kernel_rfl) (by kernel_rfl) (by kernel_rfl) (fun _ _ _ h => h) (.inl ⟨rfl, fun w' hS => ?t13⟩) hS0 ?_
  case t13 =>
    go_simp
  refine wpAnyH_take (i := 14) (v := .slice A m cap) rfl (by kernel_rfl) (by kernel_rfl) (by kernel_rfl) (fun _ _ _ h => h) (.inl ⟨rfl, fun w' hS => ?t14⟩) hS0 ?_
  case t14 =>
    obtain ⟨m0, m1⟩ := hmc w' hS
    go_simp
  refine wpAnyH_take (i := 15) (v := .int .i64 at_) rfl (by kernel_rfl) (by kernel_rfl) (by kernel_rfl) (fun _ _ _ h => h) (.inl ⟨rfl, fun w' hS => ?t15⟩) hS0 ?_
  case t15 =>
    go_simp
  try simp only [Act.put, List.setIfInBounds_toArray, List.set_cons_zero, List.set_cons_succ]
  refine wpAnyH_all (rs := [1]) (by kernel_rfl) (by simp) (fun j hj => ?_)
  rw [List.mem_singleton] at hj
  subst hj
  refine wpOp_step rfl (fun K hK => ?_)
  go_simp
  refine (FT.out _ (hsa.new_ hD0)).mono ?_
  rintro e W2 ⟨rfl, n2⟩
  have hS2 := hS0.new_ n2
  have hD2 := hD0.new_ n2
  refine hK _ _ ⟨hS2, ?_⟩
  clear hK K
  try simp only [Act.put, List.setIfInBounds_toArray, List.set_cons_zero, List.set_cons_succ]
  refine wpAnyH_all (rs := [9]) (by kernel_rfl) (by simp) (fun j hj => ?_)
  rw [List.mem_singleton] at hj
  subst hj
  refine wpOp_step rfl (fun K hK => ?_)
  go_simp
  refine (CL.out _).mono ?_
  rintro e W3 ⟨v3, rfl, t3, n3⟩
  obtain ⟨A3, cap3, rfl⟩ := t3.form
  obtain ⟨_, hs3⟩ := SlT.of_txl t3 (by rw [← HM.out]; simp [maxLen]; omega)
  obtain ⟨b3, o3, hA3e, hc3⟩ := hs3.2 at_ (by rw [← HM.out]; exact hat)
  subst hA3e
  have c3 := hc3 0 _ rfl
  simp only [Nat.mul_one, Nat.add_zero] at c3
  rw [← HCC.out] at c3
  rw [← HM.out]
  have hS3 := hS2.new_ n3
  have hD3 := hD2.new_ n3
  have hA3 := hAa.new_ hD3
  have c3k : ∀ W', New W3 W' → W'.cell? ⟨b3, o3 + at_, none⟩ = some (.string c) := fun W' f => by
    obtain ⟨b', o', e', hc'⟩ := (hs3.new_ f).2 at_ (by rw [← HM.out]; exact hat)
    cases e'
    have := hc' 0 _ rfl
    rw [← HCC.out] at this
    simpa using this
  have C3 := Lib.hid c3k
  refine hK _ _ ⟨hS3, ?_⟩
  clear hK K hc3 t3 hs3 c3k
  try simp only [Act.put, List.setIfInBounds_toArray, List.set_cons_zero, List.set_cons_succ]
  refine wpAnyH_take (i := 11) (v := .pointer (some ⟨b3, o3 + at_, none⟩)) rfl (by kernel_rfl) (by kernel_rfl) (by kernel_rfl) (fun _ _ _ h => h) (.inl ⟨rfl, fun w' hS => ?t11⟩) hS3 ?_
  case t11 =>
    go_simp
  try simp only [Act.put, List.setIfInBounds_toArray, List.set_cons_zero, List.set_cons_succ]
  refine wpAnyH_all (rs := [12, 16]) (by kernel_rfl) (by simp) (fun j hj => ?_)
  rw [List.mem_cons, List.mem_singleton] at hj
  rcases hj with rfl | rfl
  · refine wpOp_step rfl (fun K hK => ?_)
    go_simp
    refine hK _ _ ⟨hS3, ?_⟩
    clear hK K
    try simp only [Act.put, List.setIfInBounds_toArray, List.set_cons_zero, List.set_cons_succ]
    refine wpAnyH_all (rs := [16]) (by kernel_rfl) (by simp) (fun j hj => ?_)
    rw [List.mem_singleton] at hj
    subst hj
    refine wpOp_step rfl (fun K hK => ?_)
    go_simp
    refine (PT.out _ (hsa.new_ hD3)).mono ?_
    rintro e W5 ⟨v, rfl, t5, n5⟩
    have hS5 := hS3.new_ n5
    have hD5 := hD3.new_ n5
    have hA5 := hAa.new_ hD5
    have hlt5 := hD3.size
    have t5' := t5.mono (B' := w.heap.size + 1) (by omega)
    clear t5
    obtain ⟨A7, cap7, rfl⟩ := t5'.form
    obtain ⟨q, hq⟩ : ∃ q, q = (pathB L at_).length := ⟨_, rfl⟩
    rw [← hq] at t5' ⊢
    clear hq
    refine hK _ _ ⟨hS5, ?_⟩
    clear hK K
    try simp only [Act.put, List.setIfInBounds_toArray, List.set_cons_zero, List.set_cons_succ]
    refine wpAnyH_take (i := 17) (v := .agg #[.string r, .int .i64 s.size, .int .i64 m, .int .i64 at_, .string c, .slice A7 q cap7]) rfl (by kernel_rfl) (by kernel_rfl) (by kernel_rfl) (fun _ _ _ h => h) (.inl ⟨rfl, fun w' hS => ?t17⟩) hS5 ?_
    case t17 =>
      go_simp
    try simp only [Act.put, List.setIfInBounds_toArray, List.set_cons_zero, List.set_cons_succ]
    refine wpAnyH_all (rs := [18]) (by kernel_rfl) (by simp) (fun j hj => ?_)
    rw [List.mem_singleton] at hj
    subst hj
    refine wpOp_step rfl (fun K hK => ?_)
    obtain ⟨b7, f7⟩ := hA5.lay6 (.string r) (.int .i64 s.size) (.int .i64 m) (.int .i64 at_) (.string c) (.slice A7 q cap7)
    obtain ⟨⟨r0, r1, r2, r3, r4, r5⟩, y0, y1, y2, y3, y4, y5⟩ := own6s hA5
    have hS7 := hS5.trans f7 fun k hk e => e
    have hN7 := (hNa.new_ hD5).trans f7 fun k hk e => by omega
    have t7 := t5'.fr f7 fun k hk e => by have := (t5'.base hk).1; omega
    have HZ := Lib.hid (And.intro b7 (And.intro hS7 (And.intro hN7 t7)))
    clear b7 f7 hS7 hN7 t7
    go_simp
    refine hK _ _ ⟨HZ.out.2.1, ?_⟩
    clear hK K r0 r1 r2 r3 r4 r5 y0 y1 y2 y3 y4 y5
    obtain ⟨b7, hS7, hN7, t7⟩ := HZ.out
    clear HZ
    generalize hW7 : World.setCell _ _ _ = W7 at b7 hS7 hN7 t7 ⊢
    clear hW7
    try simp only [Act.put, List.setIfInBounds_toArray, List.set_cons_zero, List.set_cons_succ]
    refine wpAnyH_take (i := 19) (v := .int .i64 0) rfl (by kernel_rfl) (by kernel_rfl) (by kernel_rfl) (fun _ _ _ h => h) (.inl ⟨rfl, fun w' hS => ?t19⟩) hS7 ?_
    case t19 =>
      go_simp
    refine wpAnyH_done (by kernel_rfl) ?_ _
    obtain ⟨⟨r0, r1, r2, r3, r4, r5⟩, -⟩ := own6s b7
    try simp only [Act.put, List.setIfInBounds_toArray, List.set_cons_zero, List.set_cons_succ]
    have T7 := Lib.hid (t7.mono (B' := w.heap.size) (by omega))
    clear b7 hS7 t7
    go_wp2_with fail
    exact bodyPost_ret (v := .tuple #[.agg #[.string r, .int .i64 s.size, .int .i64 m, .int .i64 at_, .string c, .slice A7 q cap7], .int .i64 0]) (by simp [results, Tryz.results10, go_sem, *]) rfl ⟨_, rfl, T7.out, hN7⟩
  · refine wpOp_step rfl (fun K hK => ?_)
    clear c3
    go_simp
    refine (PT.out _ (hsa.new_ hD3)).mono ?_
    rintro e W5 ⟨v, rfl, t5, n5⟩
    have hS5 := hS3.new_ n5
    have hD5 := hD3.new_ n5
    have hA5 := hAa.new_ hD5
    have hlt5 := hD3.size
    have t5' := t5.mono (B' := w.heap.size + 1) (by omega)
    clear t5
    obtain ⟨A7, cap7, rfl⟩ := t5'.form
    obtain ⟨q, hq⟩ : ∃ q, q = (pathB L at_).length := ⟨_, rfl⟩
    rw [← hq] at t5' ⊢
    clear hq
    have c5 := C3.out _ n5
    refine hK _ _ ⟨hS5, ?_⟩
    clear hK K
    try simp only [Act.put, List.setIfInBounds_toArray, List.set_cons_zero, List.set_cons_succ]
    refine wpAnyH_all (rs := [12]) (by kernel_rfl) (by simp) (fun j hj => ?_)
    rw [List.mem_singleton] at hj
    subst hj
    refine wpOp_step rfl (fun K hK => ?_)
    go_simp
    refine hK _ _ ⟨hS5, ?_⟩
    clear hK K
    try simp only [Act.put, List.setIfInBounds_toArray, List.set_cons_zero, List.set_cons_succ]
    refine wpAnyH_take (i := 17) (v := .agg #[.string r, .int .i64 s.size, .int .i64 m, .int .i64 at_, .string c, .slice A7 q cap7]) rfl (by kernel_rfl) (by kernel_rfl) (by kernel_rfl) (fun _ _ _ h => h) (.inl ⟨rfl, fun w' hS => ?t17⟩) hS5 ?_
    case t17 =>
      go_simp
    try simp only [Act.put, List.setIfInBounds_toArray, List.set_cons_zero, List.set_cons_succ]
    refine wpAnyH_all (rs := [18]) (by kernel_rfl) (by simp) (fun j hj => ?_)
    rw [List.mem_singleton] at hj
    subst hj
    refine wpOp_step rfl (fun K hK => ?_)
    obtain ⟨b7, f7⟩ := hA5.lay6 (.string r) (.int .i64 s.size) (.int .i64 m) (.int .i64 at_) (.string c) (.slice A7 q cap7)
    obtain ⟨⟨r0, r1, r2, r3, r4, r5⟩, y0, y1, y2, y3, y4, y5⟩ := own6s hA5
    have hS7 := hS5.trans f7 fun k hk e => e
    have hN7 := (hNa.new_ hD5).trans f7 fun k hk e => by omega
    have t7 := t5'.fr f7 fun k hk e => by have := (t5'.base hk).1; omega
    have HZ := Lib.hid (And.intro b7 (And.intro hS7 (And.intro hN7 t7)))
    clear b7 f7 hS7 hN7 t7
    go_simp
    refine hK _ _ ⟨HZ.out.2.1, ?_⟩
    clear hK K r0 r1 r2 r3 r4 r5 y0 y1 y2 y3 y4 y5
    obtain ⟨b7, hS7, hN7, t7⟩ := HZ.out
    clear HZ
    generalize hW7 : World.setCell _ _ _ = W7 at b7 hS7 hN7 t7 ⊢
    clear hW7
    try simp only [Act.put, List.setIfInBounds_toArray, List.set_cons_zero, List.set_cons_succ]
    refine wpAnyH_take (i := 19) (v := .int .i64 0) rfl (by kernel_rfl) (by kernel_rfl) (by kernel_rfl) (fun _ _ _ h => h) (.inl ⟨rfl, fun w' hS => ?t19⟩) hS7 ?_
    case t19 =>
      go_simp
    refine wpAnyH_done (by kernel_rfl) ?_ _
    obtain ⟨⟨r0, r1, r2, r3, r4, r5⟩, -⟩ := own6s b7
    try simp only [Act.put, List.setIfInBounds_toArray, List.set_cons_zero, List.set_cons_succ]
    have T7 := Lib.hid (t7.mono (B' := w.heap.size) (by omega))
    clear b7 hS7 t7
    go_wp2_with fail
    exact bodyPost_ret (v := .tuple #[.agg #[.string r, .int .i64 s.size, .int .i64 m, .int .i64 at_, .string c, .slice A7 q cap7], .int .i64 0]) (by simp [results, Tryz.results10, go_sem, *]) rfl ⟨_, rfl, T7.out, hN7⟩
end Go.Proofs.YtjcpdpdhegcgoaaGreatDoor
