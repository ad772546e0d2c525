/- The manifest of a file's bytes. -/
import Derived.Test.YtjcpdpdhegcgoaaGreatDoorMkList
import Derived.Test.YtjcpdpdhegcgoaaGreatDoorShaParts
namespace Go.Proofs.YtjcpdpdhegcgoaaGreatDoor
open Go.RowKit Go.Shelf
set_option linter.unusedVariables false
set_option linter.unusedSimpArgs false
attribute [local go_sem] Oper.semAt_some

/-- A chunk's digest. -/
def digB (s : ByteArray) : ByteArray := shaB (partsV 75 1 fun _ => s)
theorem sl_one' {W : World} {b : Nat} {s : ByteArray} (h : Own W b 9 #[.string s]) : Sl W 1 (some ⟨b, 0, none⟩) 1 fun _ => [.string s] := by
  refine ⟨by simp [maxLen], fun k hk => ⟨b, 0, rfl, fun j u hu => ?_⟩⟩
  have hj : j = 0 := by
    rcases j with _ | j
    · rfl
    · simp at hu
  subst hj
  have hu' : u = .string s := by simpa using hu.symm
  subst hu'
  rw [show 0 + k * 1 + 0 = 0 by omega, h.cell 0]
  rfl
set_option maxHeartbeats 2000000 in
theorem mk_digest {s : ByteArray} (hs : s.size ≤ 100000) {w : World} : Calls Tryz.prog 22 #[.string s] w fun e W => e = .returned (.string (digB s)) ∧ New w W := by
  go_enter Tryz.func22, Tryz.ntmps22
  go_wp2_with fail
  refine (tagged_any 75 _ 1 1 (fun _ => s) _ (sl_one' (Own.fresh w _ _)) (by omega) (fun _ _ => hs)).mono ?_
  rintro e w1 ⟨rfl, n1⟩
  go_wp2_with fail
  go_ret
  exact ⟨rfl, ((Fr.refl _ _).alloc _).new_ n1⟩
/-- What the loop of Of keeps. -/
def OfI (w : World) (z : Nat) (xs : List ByteArray) (W : World) : Prop := ∃ v, Own W (w.heap.size + 1) 38 #[.int .i64 z, v] ∧ TxL W (w.heap.size + 3) v (xs.map digB) ∧ Own W w.heap.size 38 #[.int .i64 0, .slice none 0 0] ∧ New w W ∧ w.heap.size + 3 ≤ W.heap.size
theorem OfI.stp {w : World} {z : Nat} {xs : List ByteArray} {W W' : World} {B : Nat} (h : OfI w z xs W) (s : Stp B (w.heap.size + 2) W W') (hB : w.heap.size ≤ B) : OfI w z xs W' := by
  obtain ⟨v, h1, h2, h5, h3, h4⟩ := h
  exact ⟨v, h1.stp s (by omega), h2.stp s (by omega), h5.stp s (by omega), h3.stp s hB (.inl (by omega)), Nat.le_trans h4 s.size⟩
set_option maxRecDepth 100000 in
set_option maxHeartbeats 8000000 in
theorem mk_of {cut : ByteArray → Nat} {m : Nat} (hc : CutC cut m) (hm : m ≤ 8192) {s : ByteArray} (hs : s.size ≤ m) {w : World} :
    Calls Tryz.prog 15 #[.string s] w fun e W => ∃ v, e = .returned (.tuple #[.agg #[.int .i64 s.size, v], .int .i64 0]) ∧ TxL W w.heap.size v ((chunksB cut s).map digB) ∧ New w W := by
  have hs2 : (s.size : Int) ≤ 8192 := by omega
  refine (callsIn_wide (n := 4)).1 ?_
  refine callsIn_of_wp_marks Tryz.func15 rfl trivial ?_
  simp only [Tryz.ntmps15, List.size_toArray, List.length_cons, List.length_nil, Nat.reduceAdd, Nat.reduceSub, Array.replicate_succ, Array.replicate_zero, List.push_toArray, List.append_toArray, List.nil_append, List.cons_append]
  refine wpIn_wide.2 ?_
  go_wp2_with fail
  have hA0 : Own (w.alloc (.cells #[.int .i64 0, .slice none 0 0] 38)) w.heap.size 38 #[.int .i64 0, .slice none 0 0] := Own.fresh _ _ _
  have hz0 : (w.alloc (.cells #[.int .i64 0, .slice none 0 0] 38)).heap.size = w.heap.size + 1 := by simp
  have hB0 : Own ((w.alloc (.cells #[.int .i64 0, .slice none 0 0] 38)).alloc (.cells #[.int .i64 s.size, .slice none 0 0] 38)) (w.heap.size + 1) 38 #[.int .i64 s.size, .slice none 0 0] := Own.new' hz0
  have hn0 : New w ((w.alloc (.cells #[.int .i64 0, .slice none 0 0] 38)).alloc (.cells #[.int .i64 s.size, .slice none 0 0] 38)) := ((Fr.refl _ _).alloc _).alloc _
  have hs0 : ((w.alloc (.cells #[.int .i64 0, .slice none 0 0] 38)).alloc (.cells #[.int .i64 s.size, .slice none 0 0] 38)).heap.size = w.heap.size + 2 := by simp
  replace hA0 := hA0.alloc (.cells #[.int .i64 s.size, .slice none 0 0] 38)
  obtain ⟨W0, hW0⟩ : ∃ W0, W0 = (w.alloc (.cells #[.int .i64 0, .slice none 0 0] 38)).alloc (.cells #[.int .i64 s.size, .slice none 0 0] 38) := ⟨_, rfl⟩
  rw [← hW0] at hA0 hB0 hn0 hs0 ⊢
  clear hW0 hz0
  refine chunk_all.mono ?_
  rintro e W1 ⟨rfl, hW1⟩
  have hbx : Own W1 (w.heap.size + 2) 9 #[.string s] := by
    rw [hW1, ← hs0]
    exact Own.fresh _ _ _
  have hA1 : Own W1 w.heap.size 38 #[.int .i64 0, .slice none 0 0] := hW1 ▸ hA0.alloc _
  have hB1 : Own W1 (w.heap.size + 1) 38 #[.int .i64 s.size, .slice none 0 0] := hW1 ▸ hB0.alloc _
  have hn1 : New w W1 := hW1 ▸ hn0.alloc _
  have hs1 : W1.heap.size = w.heap.size + 3 := by rw [hW1]; simp [hs0]
  rw [hs0]
  clear hW1 hA0 hB0 hn0 hs0 W0
  go_wp2_with fail
  refine (wpIn_wide (n := 4)).1 ?_
  refine wpIn_rangeFunc_boxed (b := w.heap.size + 2) (N := s.size) (S := fun xs => xs = chunksB cut s) (T := fun x => x.size ≤ m) (encs := fun x : ByteArray => #[.string x]) (gf := 72) (lb := #[.pointer (some ⟨w.heap.size + 2, 0, none⟩)]) rfl (by omega) rfl trivial (enters_of Tryz.func72 (by kernel_rfl) rfl)
    hbx.lt (chunk_all1 hc (by simp [maxLen]; omega) hs hbx 3 (by omega)) (fun _ => rfl) (OfI w s.size) (fun xs X Y h st => h.stp st (by omega)) ⟨_, hB1, TxL.nil _ _, hA1, hn1, by omega⟩
    (fun x => { tmps := #[.string s, undef, .pointer (some ⟨w.heap.size, 0, none⟩), .int .i64 0, .pointer (some ⟨w.heap.size + 1, 0, none⟩), .string x, .string s, .int .i64 s.size, .bool (decide ((8192 : Int) < (s.size : Int))), undef, .string s, .int .i64 s.size, .agg #[.int .i64 s.size, .slice none 0 0], .string s, .func (.func 72) #[] #[.pointer (some ⟨w.heap.size + 2, 0, none⟩)], .string x, undef, undef, undef, undef, undef, undef, undef, undef], defers := [] }) ?assign ?body ?done
  case assign =>
    intro l x W K hK
    gi_wp2
    exact hK
  case body =>
    rintro l pre x W ⟨v, h1, h2, h6, h3, h4⟩ hT hlen
    have hws := h3.size
    obtain ⟨A, cap, rfl⟩ := h2.form
    have hpl : (pre.map digB).length ≤ 100000 := by rw [List.length_map]; omega
    have hne : ∀ k, (Value.slice A (pre.map digB).length cap).ownBlock = some k → w.heap.size + 3 ≤ k ∧ k < W.heap.size := fun k hk => h2.base hk
    refine wpIn_block ?_
    apply wpIn_region_partsH 6 (fun W' => Fr (fun k => (Value.slice A (pre.map digB).length cap).ownBlock = some k) W W')
    case hp => simp only [List.take_succ_cons, List.take_zero]; exact rfl
    case hd => simp only [List.drop_succ_cons, List.drop_zero]; exact rfl
    case hm => kernel_rfl
    case hB => kernel_rfl
    case hT => kernel_rfl
    case hnd => kernel_rfl
    case hQ => exact fun ⟨_, _, h⟩ => h
    have hS0 : Fr (fun k => (Value.slice A (pre.map digB).length cap).ownBlock = some k) W W.drew := (Fr.refl _ _).drew
    have hmc : ∀ w', Fr (fun k => (Value.slice A (pre.map digB).length cap).ownBlock = some k) W w' → w'.cell? ⟨w.heap.size + 1, 1, none⟩ = some (.slice A (pre.map digB).length cap) := fun w' f => (h1.fr f fun e => by have := hne _ e; omega).cell 1
    have hxs : x.size ≤ 100000 := by omega
    obtain ⟨q, hq⟩ : ∃ q, q = (pre.map digB).length := ⟨_, rfl⟩
    have HQ := Lib.hid hq
    rw [← hq] at hmc hS0 hne h2 hpl h1 ⊢
    clear hq
    refine wpAnyH_take (i := 0) (v := .pointer (some ⟨w.heap.size + 1, 1, none⟩)) rfl (by kernel_rfl) (by kernel_rfl) (by kernel_rfl) (fun _ _ _ h => h) (.inl ⟨rfl, fun w' hS => ?t0⟩) hS0 ?_
    case t0 =>
      go_simp
    refine wpAnyH_take (i := 1) (v := .slice A q cap) rfl (by kernel_rfl) (by kernel_rfl) (by kernel_rfl) (fun _ _ _ h => h) (.inl ⟨rfl, fun w' hS => ?t1⟩) hS0 ?_
    case t1 =>
      have m1 := hmc w' hS
      go_simp
    refine wpAnyH_take (i := 2) (v := .string x) rfl (by kernel_rfl) (by kernel_rfl) (by kernel_rfl) (fun _ _ _ h => h) (.inl ⟨rfl, fun w' hS => ?t2⟩) hS0 ?_
    case t2 =>
      go_simp
    try simp only [Act.put, List.setIfInBounds_toArray, List.set_cons_zero, List.set_cons_succ]
    refine wpAnyH_all (rs := [3]) (by kernel_rfl) (by simp) (fun j hj => ?_)
    rw [List.mem_singleton] at hj
    subst hj
    refine wpOp_step rfl (fun K hK => ?_)
    go_simp
    refine (mk_digest hxs).mono ?_
    rintro e W2 ⟨rfl, n2⟩
    have hS2 := hS0.new_ n2
    have n2' : New W W2 := (Fr.refl _ _).drew.new_ n2
    refine hK _ _ ⟨hS2, ?_⟩
    clear hK K
    try simp only [Act.put, List.setIfInBounds_toArray, List.set_cons_zero, List.set_cons_succ]
    refine wpAnyH_all (rs := [4]) (by kernel_rfl) (by simp) (fun j hj => ?_)
    rw [List.mem_singleton] at hj
    subst hj
    refine wpOp_step rfl (fun K hK => ?_)
    go_simp
    refine hK _ _ ⟨hS2.alloc _, ?_⟩
    clear hK K
    try simp only [Act.put, List.setIfInBounds_toArray, List.set_cons_zero, List.set_cons_succ]
    refine wpAnyH_all (rs := [5]) (by kernel_rfl) (by simp) (fun j hj => ?_)
    rw [List.mem_singleton] at hj
    subst hj
    have hwS2 : W.heap.size ≤ W2.heap.size := n2'.size
    obtain ⟨v', W', hrun, t3, f3, v3⟩ := append_txt ((h2.new_ n2').new_ ((Fr.refl _ _).alloc (.cells #[.string (digB x)] 9))) (by simp; omega) (by rw [← HQ.out]; exact hpl) (Own.fresh W2 9 #[.string (digB x)])
    have f4 : Fr (fun k => (Value.slice A q cap).ownBlock = some k) W W' := (hS2.alloc (.cells #[.string (digB x)] 9)).trans f3 fun _ _ h => h
    refine wpOp_step rfl (fun K hK => ?_)
    refine step_append_run rfl (.tmp 17) (.tmp 20) 24 rfl ?ev1 ?ev2 hrun ?_
    case ev1 => simp [Act.eval, Act.put]
    case ev2 => simp [Act.eval, Act.put]
    refine hK _ _ ⟨f4, ?_⟩
    clear hK K
    refine wpAnyH_done (by kernel_rfl) ?_ _
    have h1' : Own W' (w.heap.size + 1) 38 #[.int .i64 s.size, .slice A q cap] := h1.fr f4 fun e => by have := hne _ e; omega
    have c1 : W'.cell? ⟨w.heap.size + 1, 1, none⟩ = some (.slice A q cap) := h1'.cell 1
    have d1 : W'.frozen? ⟨w.heap.size + 1, 1, none⟩ = false := h1'.free 1
    have h5 : Own (W'.setCell ⟨w.heap.size + 1, 1, none⟩ v') (w.heap.size + 1) 38 #[.int .i64 s.size, v'] := h1'.put rfl
    have hvb : ∀ k, v'.ownBlock = some k → k ≠ w.heap.size + 1 := fun k hk e => by have := (t3.base hk).1; omega
    have f5 : Fr (fun k => k = w.heap.size + 1 ∨ (Value.slice A q cap).ownBlock = some k) W (W'.setCell ⟨w.heap.size + 1, 1, none⟩ v') := Fr.set (p := ⟨w.heap.size + 1, 1, none⟩) (f4.mono fun _ h => .inr h) (fun _ => .inl rfl) _
    have t5 : TxL (W'.setCell ⟨w.heap.size + 1, 1, none⟩ v') (w.heap.size + 3) v' ((pre ++ [x]).map digB) := by
      rw [List.map_append]
      exact t3.fr (Fr.set (F := fun k => k = w.heap.size + 1) (p := ⟨w.heap.size + 1, 1, none⟩) (Fr.refl _ W') (fun _ => rfl) _) hvb
    have P1 : KeepsFrom (w.heap.size + 3) W (W'.setCell ⟨w.heap.size + 1, 1, none⟩ v') := keepsFrom_of_fr f5 fun k o hk ho => by
      rcases hk with e | e
      · subst e
        exact h1.cells ho
      · exact h2.cells e ho
    have P2 : (W'.setCell ⟨w.heap.size + 1, 1, none⟩ v').heap[w.heap.size + 2]? = W.heap[w.heap.size + 2]? := f5.block _ (by omega) fun hk => by
      rcases hk with e | e
      · omega
      · have := (hne _ e).1
        omega
    have P3 : OfI w s.size (pre ++ [x]) (W'.setCell ⟨w.heap.size + 1, 1, none⟩ v') := ⟨v', h5, t5, h6.fr f5 (fun hk => by
      rcases hk with e | e
      · omega
      · have := (hne _ e).1
        omega), h3.trans f5 fun k hk e => by
      rcases e with e | e
      · omega
      · have := (hne _ e).1
        omega, Nat.le_trans h4 f5.size⟩
    have HP := Lib.hid (And.intro P1 (And.intro P2 P3))
    obtain ⟨g, cap', hv'⟩ := t3.form
    rw [List.length_append, List.length_singleton, ← HQ.out] at hv'
    subst hv'
    clear h5 hvb f5 t5 P1 P2 P3 f4 h1' hne t3 f3 v3 h2 hS2 n2' n2 hS0 hmc
    unfold restQ
    go_simp
    go_wp2_with fail
    exact HP.out
  case done =>
    rintro D xs W hD rfl ⟨v, h1, h2, h6, h3, h4⟩ hK
    obtain ⟨A, cap, rfl⟩ := h2.form
    obtain ⟨q, hq⟩ : ∃ q, q = ((chunksB cut s).map digB).length := ⟨_, rfl⟩
    rw [← hq] at h1 h2
    have c0 : W.cell? ⟨w.heap.size + 1, 0, none⟩ = some (.int .i64 s.size) := h1.cell 0
    have c1 : W.cell? ⟨w.heap.size + 1, 1, none⟩ = some (.slice A q cap) := h1.cell 1
    have d0 : W.cell? ⟨w.heap.size, 0, none⟩ = some (.int .i64 0) := h6.cell 0
    have d1 : W.cell? ⟨w.heap.size, 1, none⟩ = some (.slice none 0 0) := h6.cell 1
    have e0 : W.frozen? ⟨w.heap.size, 0, none⟩ = false := h6.free 0
    have e1 : W.frozen? ⟨w.heap.size, 1, none⟩ = false := h6.free 1
    have HI := Lib.hid (And.intro h2 (And.intro h3 (And.intro h6 hq)))
    clear h1 h2 h3 h6 hq
    go_wp2_with fail
    obtain ⟨h2, h3, h6, hq⟩ := HI.out
    clear HI c0 c1 d0 d1 e0 e1
    have b1 := h6.put (i := 0) (u := .int .i64 s.size) (cs' := #[.int .i64 s.size, .slice none 0 0]) rfl
    have b2 := b1.put (i := 1) (u := .slice A q cap) (cs' := #[.int .i64 s.size, .slice A q cap]) rfl
    have f2 : Fr (fun k => k = w.heap.size) W ((W.setCell ⟨w.heap.size, 0, none⟩ (.int .i64 s.size)).setCell ⟨w.heap.size, 1, none⟩ (.slice A q cap)) := Fr.set (p := ⟨w.heap.size, 1, none⟩) (Fr.set (F := fun k => k = w.heap.size) (Fr.refl _ _) (p := ⟨w.heap.size, 0, none⟩) (fun _ => rfl) _) (fun _ => rfl) _
    have t2 := h2.fr f2 fun k hk e => by have := (h2.base hk).1; omega
    have n2 : New w ((W.setCell ⟨w.heap.size, 0, none⟩ (.int .i64 s.size)).setCell ⟨w.heap.size, 1, none⟩ (.slice A q cap)) := h3.trans f2 fun k hk e => by omega
    have hK2 := (KeepsOthers.setCell _ ⟨w.heap.size, 1, none⟩ (.slice A q cap)).same D _ ((KeepsOthers.setCell W ⟨w.heap.size, 0, none⟩ (.int .i64 s.size)).same D _ hK rfl) rfl
    generalize (W.setCell ⟨w.heap.size, 0, none⟩ (.int .i64 s.size)).setCell ⟨w.heap.size, 1, none⟩ (.slice A q cap) = Wy at b2 t2 n2 hK2 ⊢
    refine ⟨by simp, .inl ⟨_, _, rfl, run_takeDeferred hK2, ?_⟩⟩
    have st : Stp W1.heap.size (w.heap.size + 2) Wy (Wy.putObj D (.deferred none)) := Stp.put _ hK2 rfl hD
    have b3 := b2.stp st (by omega)
    have t3 := t2.stp st (by omega)
    have n3 := n2.stp st (by omega) (.inl (by omega))
    clear b1 b2 f2 t2 n2 h2 h3 h6
    generalize Wy.putObj D (.deferred none) = Wz at b3 t3 n3 ⊢
    have g0 : Wz.cell? ⟨w.heap.size, 0, none⟩ = some (.int .i64 s.size) := b3.cell 0
    have g1 : Wz.cell? ⟨w.heap.size, 1, none⟩ = some (.slice A q cap) := b3.cell 1
    have hq2 := hq
    clear hq hK hK2 st b3
    refine ⟨.tuple #[.agg #[.int .i64 s.size, .slice A q cap], .int .i64 0], by simp [results, Tryz.results15, go_sem, *], _, rfl, ?_, n3⟩
    exact t3.mono (by omega)
end Go.Proofs.YtjcpdpdhegcgoaaGreatDoor
