/- The model: packets without one; more packets sent; a way cut; the ways mended. -/
import Derived.Test.YtleagdnlgjpcgaaNetModPush
namespace Go.Proofs.Ytleagdnlgjpcgaa
open Go.RowKit Go.Maps
set_option linter.unusedVariables false
set_option linter.unusedSimpArgs false

set_option maxRecDepth 100000 in
set_option maxHeartbeats 8000000 in
theorem mwithout_any {w : World} {X : Nat → Prop} {v : Value} {l : List Pkt} {i : Nat} (h : SlP w X v l) (hX : ∀ k, X k → k < w.heap.size) (hi : i < l.length) (hl : l.length ≤ 4096) :
    Calls Try.prog 27 #[v, .int .i64 (i : Nat)] w fun e W => ∃ v', e = .returned v' ∧ SlP W X v' (l.take i ++ l.drop (i + 1)) ∧ New w W := by
  obtain ⟨A, cap, rfl, hs, hc, hA⟩ := h
  obtain ⟨sb, so, hAe, -⟩ := hs.2 i hi
  subst hAe
  obtain ⟨B, hB⟩ : ∃ B : Addr, B = (if cap = i + 1 then ⟨sb, so, none⟩ else ⟨sb, so + (i + 1) * 3, none⟩) := ⟨_, rfl⟩
  have hsB : ∀ W, New w W → PkS W (some B) (l.drop (i + 1)) := fun W g => by
    have hd := PkS.drop (hs.fr g fun _ _ x => x) (i + 1)
    rw [hB]
    split
    · have e : l.drop (i + 1) = [] := List.drop_eq_nil_of_le (by omega)
      rw [e]
      exact ⟨Nat.zero_le _, fun j hj => absurd hj (Nat.not_lt_zero j)⟩
    · exact hd
  have hsT : ∀ W, New w W → PkS W (some ⟨sb, so, none⟩) (l.take i) := fun W g => PkS.take (hs.fr g fun _ _ x => x) i
  have hi1 : (0 : Int) ≤ (i : Int) + 1 := by omega
  have hiw : IntKind.i64.wrap ((i : Int) + 1) = (i : Int) + 1 := by rw [IntKind.wrap_i64]; omega
  have hi3 : ((i : Int) + 1).toNat = i + 1 := by omega
  have hi4 : i ≤ cap := by omega
  have hi5 : i + 1 ≤ cap := by omega
  have hi6 : (i : Int) + 1 ≤ (l.length : Int) := by omega
  have hi7 : i + 1 ≤ l.length := by omega
  have hi8 : i ≤ l.length := by omega
  go_enter Try.func27, Try.ntmps27
  go_wp2_with fail
  apply wp_region_partsH 10 (fun W' => True)
  case hp => simp only [List.take_succ_cons, List.take_zero]; exact rfl
  case hd => simp only [List.drop_succ_cons, List.drop_zero]; exact rfl
  case hm => kernel_rfl
  case hB => kernel_rfl
  case hT => kernel_rfl
  refine wpAnyH_take (i := 1) (v := .slice (some ⟨sb, so, none⟩) l.length cap) rfl (by kernel_rfl) (by kernel_rfl) (by kernel_rfl) (fun _ _ _ h => h) (.inl ⟨rfl, fun w' hS => by go_simp⟩) trivial ?_
  refine wpAnyH_take (i := 2) (v := .int .i64 (i : Nat)) rfl (by kernel_rfl) (by kernel_rfl) (by kernel_rfl) (fun _ _ _ h => h) (.inl ⟨rfl, fun w' hS => by go_simp⟩) trivial ?_
  refine wpAnyH_take (i := 3) (v := .slice (some ⟨sb, so, none⟩) i cap) rfl (by kernel_rfl) (by kernel_rfl) (by kernel_rfl) (fun _ _ _ h => h) (.inl ⟨rfl, fun w' hS => by go_simp⟩) trivial ?_
  refine wpAnyH_take (i := 5) (v := .slice (some ⟨sb, so, none⟩) l.length cap) rfl (by kernel_rfl) (by kernel_rfl) (by kernel_rfl) (fun _ _ _ h => h) (.inl ⟨rfl, fun w' hS => by go_simp⟩) trivial ?_
  refine wpAnyH_take (i := 6) (v := .int .i64 (i : Nat)) rfl (by kernel_rfl) (by kernel_rfl) (by kernel_rfl) (fun _ _ _ h => h) (.inl ⟨rfl, fun w' hS => by go_simp⟩) trivial ?_
  refine wpAnyH_take (i := 7) (v := .int .i64 ((i : Int) + 1)) rfl (by kernel_rfl) (by kernel_rfl) (by kernel_rfl) (fun _ _ _ h => h) (.inl ⟨rfl, fun w' hS => by go_simp⟩) trivial ?_
  refine wpAnyH_take (i := 8) (v := .slice (some B) (l.length - (i + 1)) (cap - (i + 1))) rfl (by kernel_rfl) (by kernel_rfl) (by kernel_rfl) (fun _ _ _ h => h) (.inl ⟨rfl, fun w' hS => ?t8⟩) trivial ?_
  case t8 =>
    rw [hB]
    by_cases hcap : cap = i + 1
    · go_simp
    · rw [if_neg hcap]
      go_simp
  clear hB
  simp only [Act.put, List.setIfInBounds_toArray, List.set_cons_zero, List.set_cons_succ]
  refine wpAnyH_all (rs := [0]) (by kernel_rfl) (by simp) (fun j hj => ?_)
  rw [List.mem_singleton] at hj
  subst hj
  refine wpOp_step rfl (fun K hK => ?_)
  go_simp
  refine hK _ _ ⟨trivial, ?_⟩
  clear hK K
  have hb : Own (w.drew.alloc (.cells #[] 26)) w.heap.size 26 #[] := Own.fresh w.drew _ _
  have g1 : New w (w.drew.alloc (.cells #[] 26)) := ((Fr.refl _ _).drew).alloc _
  have hlt1 : (l.take i).length = i := by rw [List.length_take]; omega
  have hld1 : (l.drop (i + 1)).length = l.length - (i + 1) := by rw [List.length_drop]
  obtain ⟨v1, W1, hr, hp, gn, ho⟩ := fresh_pks (cap := cap) hb (hsT _ g1) (by omega)
  rw [hlt1] at hr
  refine wpAnyH_all (rs := [4]) (by kernel_rfl) (by simp) (fun j hj => ?_)
  rw [List.mem_singleton] at hj
  subst hj
  refine wpOp_step rfl (fun K hK => ?_)
  refine step_append_run rfl (.tmp 5) (.tmp 8) 22 rfl ?ev1 ?ev2 hr ?_
  case ev1 => simp [Act.eval]
  case ev2 => simp [Act.eval]
  refine hK _ _ ⟨trivial, ?_⟩
  clear hK K
  obtain ⟨v2, W2, hr2, hp2, f2, ho2⟩ := append_pks (cap := cap - (i + 1)) hp (by omega) (hsB _ (g1.new_ gn))
  rw [hld1] at hr2
  refine wpAnyH_all (rs := [9]) (by kernel_rfl) (by simp) (fun j hj => ?_)
  rw [List.mem_singleton] at hj
  subst hj
  refine wpOp_step rfl (fun K hK => ?_)
  refine step_append_run rfl (.tmp 9) (.tmp 13) 22 rfl ?ev1 ?ev2 hr2 ?_
  case ev1 => simp [Act.eval, Act.put]
  case ev2 => simp [Act.eval, Act.put]
  refine hK _ _ ⟨trivial, ?_⟩
  clear hK K
  refine wpAnyH_done (by kernel_rfl) ?_ _
  have hv1 : ∀ k, v1.ownBlock = some k → w.heap.size ≤ k := fun k hk => by
    rcases ho with e | ⟨k', e, hk'⟩
    · rw [hk] at e; cases e; exact Nat.le_refl _
    · rw [hk] at e; cases e; simp at hk'; omega
  have gN : New w W2 := (g1.new_ gn).trans f2 fun k hk e => by have := hv1 k e; omega
  have hv2 : ∀ k, v2.ownBlock = some k → w.heap.size ≤ k := fun k hk => by
    rcases ho2 with e | ⟨k', e, hk'⟩
    · exact hv1 k (e ▸ hk)
    · rw [hk] at e; cases e; exact Nat.le_trans (g1.new_ gn).size hk'
  obtain ⟨A2, cap2, hv⟩ := hp2.form
  have hsl := hp2.sl (X := X) fun k hk hx => by have := hv2 k hk; have := hX k hx; omega
  subst hv
  have H := Lib.hid (And.intro hsl gN)
  clear hsl gN hp2 hp gn ho ho2 hv1 hv2 f2 hr hr2 hs hsB hsT hb g1
  generalize (l.take i ++ l.drop (i + 1)).length = q at H ⊢
  unfold restQ
  go_simp
  go_wp2_with fail
  exact bodyPost_ret (v := .slice A2 q cap2) (by simp [results, Try.results27, go_sem, *]) rfl ⟨_, rfl, H.out.1, H.out.2⟩
end Go.Proofs.Ytleagdnlgjpcgaa
