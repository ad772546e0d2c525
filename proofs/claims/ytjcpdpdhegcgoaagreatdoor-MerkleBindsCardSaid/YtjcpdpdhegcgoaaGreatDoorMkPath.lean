/- The digests beside the way up of a place. -/
import Derived.Test.YtjcpdpdhegcgoaaGreatDoorMkRefRoot
import Derived.Test.YtjcpdpdhegcgoaaGreatDoorMkShow
namespace Go.Proofs.YtjcpdpdhegcgoaaGreatDoor
open Go.RowKit
set_option linter.unusedVariables false
set_option linter.unusedSimpArgs false

/-- The digests beside the way up, the lowest first. -/
def pathF : Nat → List ByteArray → Nat → List ByteArray
  | 0, _, _ => []
  | f + 1, l, i => if l.length ≤ 1 then [] else if i < splitN l.length then pathF f (l.take (splitN l.length)) i ++ [rootB (l.drop (splitN l.length))] else pathF f (l.drop (splitN l.length)) (i - splitN l.length) ++ [rootB (l.take (splitN l.length))]
def pathB (l : List ByteArray) (i : Nat) : List ByteArray := pathF l.length l i
theorem pathF_more : ∀ (f g : Nat) (l : List ByteArray) (i : Nat), l.length ≤ f → l.length ≤ g → pathF f l i = pathF g l i
  | 0, 0, l, i, _, _ => rfl
  | 0, g + 1, l, i, h1, h2 => by
    unfold pathF
    rw [if_pos (by omega)]
  | f + 1, 0, l, i, h1, h2 => by
    unfold pathF
    rw [if_pos (by omega)]
  | f + 1, g + 1, l, i, h1, h2 => by
    unfold pathF
    split
    · rfl
    have hs := splitN_lt (n := l.length) (by omega)
    rw [pathF_more f g (l.take (splitN l.length)) i (by simp only [List.length_take]; omega) (by simp only [List.length_take]; omega), pathF_more f g (l.drop (splitN l.length)) _ (by simp only [List.length_drop]; omega) (by simp only [List.length_drop]; omega)]
theorem pathB_nil {l : List ByteArray} (i : Nat) (h : l.length ≤ 1) : pathB l i = [] := by
  unfold pathB
  cases hl : l.length with
  | zero => rfl
  | succ f => unfold pathF; rw [if_pos h]
theorem pathB_left {l : List ByteArray} {i : Nat} (h : 2 ≤ l.length) (hi : i < splitN l.length) : pathB l i = pathB (l.take (splitN l.length)) i ++ [rootB (l.drop (splitN l.length))] := by
  have hs := splitN_lt h
  obtain ⟨f, hf⟩ : ∃ f, l.length = f + 1 := ⟨l.length - 1, by omega⟩
  conv => lhs; unfold pathB; rw [hf]
  unfold pathF
  rw [if_neg (by omega), if_pos hi]
  unfold pathB
  rw [pathF_more f _ (l.take (splitN l.length)) i (by simp only [List.length_take]; omega) (Nat.le_refl _)]
theorem pathB_right {l : List ByteArray} {i : Nat} (h : 2 ≤ l.length) (hi : splitN l.length ≤ i) : pathB l i = pathB (l.drop (splitN l.length)) (i - splitN l.length) ++ [rootB (l.take (splitN l.length))] := by
  have hs := splitN_lt h
  obtain ⟨f, hf⟩ : ∃ f, l.length = f + 1 := ⟨l.length - 1, by omega⟩
  conv => lhs; unfold pathB; rw [hf]
  unfold pathF
  rw [if_neg (by omega), if_neg (by omega)]
  unfold pathB
  rw [pathF_more f _ (l.drop (splitN l.length)) _ (by simp only [List.length_drop]; omega) (Nat.le_refl _)]
theorem pathF_length : ∀ (f : Nat) (l : List ByteArray) (i : Nat), (pathF f l i).length ≤ l.length
  | 0, l, i => Nat.zero_le _
  | f + 1, l, i => by
    unfold pathF
    split
    · exact Nat.zero_le _
    have hs := splitN_lt (n := l.length) (by omega)
    split
    · have := pathF_length f (l.take (splitN l.length)) i
      rw [List.length_append, List.length_singleton]
      simp only [List.length_take] at this
      omega
    · have := pathF_length f (l.drop (splitN l.length)) (i - splitN l.length)
      rw [List.length_append, List.length_singleton]
      simp only [List.length_drop] at this
      omega
theorem i64_id (z : Nat) (h : z ≤ 100000) : IntKind.i64.wrap (z : Int) = (z : Int) := by
  simp [IntKind.wrap, IntKind.signed, IntKind.bits]
  omega
theorem pathB_length (l : List ByteArray) (i : Nat) : (pathB l i).length ≤ l.length := pathF_length _ l i
set_option maxRecDepth 100000 in
set_option maxHeartbeats 16000000 in
theorem mk_path : ∀ (m : Nat) (A : Option Addr) (n cap : Nat) (l : List ByteArray) (i : Nat) (w : World), n ≤ m → SlT w A n l → n ≤ cap → cap ≤ maxLen → n ≤ 10000 → i ≤ 10000 → (∀ x ∈ l, x.size ≤ 100000) →
    Calls Tryz.prog 40 #[.slice A n cap, .int .i64 i] w fun e W => ∃ v, e = .returned v ∧ TxL W w.heap.size v (pathB l i) ∧ New w W := by
  intro m
  induction m with
  | zero =>
    intro A n cap l i w hm hl hc hc2 hn hi hx
    obtain rfl : n = 0 := by omega
    have hp := pathB_nil (l := l) i (by rw [← hl.1]; omega)
    go_enter Tryz.func40, Tryz.ntmps40
    go_wp2_with fail
    go_ret
    rw [hp]
    exact ⟨_, rfl, TxL.nil _ _, Fr.refl _ _⟩
  | succ m ih =>
    intro A n cap l i w hm hl hc hc2 hn hi hx
    by_cases h1 : n ≤ 1
    · have hp := pathB_nil (l := l) i (by rw [← hl.1]; omega)
      have h1' : (n : Int) ≤ 1 := by omega
      go_enter Tryz.func40, Tryz.ntmps40
      go_wp2_with fail
      go_ret
      rw [hp]
      exact ⟨_, rfl, TxL.nil _ _, Fr.refl _ _⟩
    have hs := splitN_lt (n := n) (by omega)
    obtain ⟨b, o, hA, hc0⟩ := hl.2.2 0 (by omega)
    subst hA
    have hne1 : ¬ (n : Int) ≤ 1 := by omega
    have hp1 := pathB_left (l := l) (i := i) (by rw [← hl.1]; omega)
    have hp2 := pathB_right (l := l) (i := i) (by rw [← hl.1]; omega)
    rw [← hl.1] at hp1 hp2
    have S1 := split_any n (by omega) w
    obtain ⟨k, hk⟩ : ∃ k, k = splitN n := ⟨_, rfl⟩
    rw [← hk] at S1 hs hp1 hp2
    have hk1 : (k : Int) ≤ (n : Int) := by omega
    have hk2 : (n : Int) ≤ (cap : Int) := by omega
    have hk3 : (k : Int) ≤ (cap : Int) := by omega
    have hkc : ¬ cap = k := by omega
    have hn2 : (n : Int) ≤ 10000 := by omega
    have hi2 : (i : Int) ≤ 10000 := by omega
    have hmx : cap ≤ 9223372036854775807 := hc2
    by_cases hik : i < k
    · have hik' : (i : Int) < (k : Int) := by omega
      have HR := Lib.hid (hp1 hik)
      have HHS := Lib.hid hs
      clear hp1 hp2 hk hc0
      go_enter Tryz.func40, Tryz.ntmps40
      go_wp2_with fail
      refine S1.mono ?_
      rintro e w1 ⟨rfl, rfl⟩
      go_wp2_with fail
      have RC := Lib.hid fun (w : World) h => root_any (n - k) (some ⟨b, o + k, none⟩) (n - k) (cap - k) (l.drop k) w (Nat.le_refl _) h (by omega) (by omega) (by omega) (fun y hy => hx y (List.mem_of_mem_drop hy))
      obtain ⟨r, hrr⟩ : ∃ r, r = rootB (l.drop k) := ⟨_, rfl⟩
      rw [← hrr] at HR RC
      clear hrr
      have hS0 : New w1 w1.drew := (Fr.refl _ _).drew
      refine wp_region_heldE (fun W' => New w1 W') (by kernel_rfl) ?_
      refine wpAnyH_take (i := 0) (v := .slice (some ⟨b, o, none⟩) n cap) rfl (by kernel_rfl) (by kernel_rfl) (by kernel_rfl) (fun _ _ _ h => h) (.inl ⟨rfl, fun w' hS => ?t0⟩) hS0 ?_
      case t0 =>
        go_simp
      refine wpAnyH_take (i := 1) (v := .int .i64 k) rfl (by kernel_rfl) (by kernel_rfl) (by kernel_rfl) (fun _ _ _ h => h) (.inl ⟨rfl, fun w' hS => ?t1⟩) hS0 ?_
      case t1 =>
        go_simp
      refine wpAnyH_take (i := 2) (v := .slice (some ⟨b, o, none⟩) k cap) rfl (by kernel_rfl) (by kernel_rfl) (by kernel_rfl) (fun _ _ _ h => h) (.inl ⟨rfl, fun w' hS => ?t2⟩) hS0 ?_
      case t2 =>
        go_simp
      refine wpAnyH_take (i := 3) (v := .int .i64 i) rfl (by kernel_rfl) (by kernel_rfl) (by kernel_rfl) (fun _ _ _ h => h) (.inl ⟨rfl, fun w' hS => ?t3⟩) hS0 ?_
      case t3 =>
        go_simp
      refine wpAnyH_take (i := 5) (v := .slice (some ⟨b, o, none⟩) n cap) rfl (by kernel_rfl) (by kernel_rfl) (by kernel_rfl) (fun _ _ _ h => h) (.inl ⟨rfl, fun w' hS => ?t5⟩) hS0 ?_
      case t5 =>
        go_simp
      refine wpAnyH_take (i := 6) (v := .int .i64 k) rfl (by kernel_rfl) (by kernel_rfl) (by kernel_rfl) (fun _ _ _ h => h) (.inl ⟨rfl, fun w' hS => ?t6⟩) hS0 ?_
      case t6 =>
        go_simp
      refine wpAnyH_take (i := 7) (v := .slice (some ⟨b, o + k, none⟩) (n - k : Nat) (cap - k : Nat)) rfl (by kernel_rfl) (by kernel_rfl) (by kernel_rfl) (fun _ _ _ h => h) (.inl ⟨rfl, fun w' hS => ?t7⟩) hS0 ?_
      case t7 =>
        go_simp
      try simp only [Act.put, List.setIfInBounds_toArray, List.set_cons_zero, List.set_cons_succ]
      refine wpAnyH_all (rs := [4]) (by kernel_rfl) (by simp) (fun j hj => ?_)
      rw [List.mem_singleton] at hj
      subst hj
      refine wpOp_step rfl (fun K hK => ?_)
      go_simp
      refine (ih (some ⟨b, o, none⟩) k cap (l.take k) i _ (by omega) ((hl.take (by omega)).new_ hS0) (by omega) (by omega) (by omega) (by omega) (fun y hy => hx y (List.mem_of_mem_take hy))).mono ?_
      rintro e W2 ⟨v, rfl, t2, n2⟩
      have hS2 := hS0.new_ n2
      have t2' := t2.mono (B' := w1.heap.size) (by have := hS0.size; omega)
      clear t2
      refine hK _ _ ⟨hS2, ?_⟩
      clear hK K
      try simp only [Act.put, List.setIfInBounds_toArray, List.set_cons_zero, List.set_cons_succ]
      refine wpAnyH_all (rs := [8]) (by kernel_rfl) (by simp) (fun j hj => ?_)
      rw [List.mem_singleton] at hj
      subst hj
      refine wpOp_step rfl (fun K hK => ?_)
      go_simp
      refine (RC.out _ ((hl.drop (by omega)).new_ hS2)).mono ?_
      rintro e W3 ⟨rfl, n3⟩
      have hS3 := hS2.new_ n3
      have t3 := t2'.new_ n3
      clear t2'
      refine hK _ _ ⟨hS3, ?_⟩
      clear hK K
      try simp only [Act.put, List.setIfInBounds_toArray, List.set_cons_zero, List.set_cons_succ]
      refine wpAnyH_all (rs := [9]) (by kernel_rfl) (by simp) (fun j hj => ?_)
      rw [List.mem_singleton] at hj
      subst hj
      refine wpOp_step rfl (fun K hK => ?_)
      go_simp
      have hS4 := hS3.alloc (.cells #[.string r] 9)
      refine hK _ _ ⟨hS4, ?_⟩
      clear hK K
      try simp only [Act.put, List.setIfInBounds_toArray, List.set_cons_zero, List.set_cons_succ]
      refine wpAnyH_all (rs := [10]) (by kernel_rfl) (by simp) (fun j hj => ?_)
      rw [List.mem_singleton] at hj
      subst hj
      refine wpOp_step rfl (fun K hK => ?_)
      obtain ⟨v', W', hrun, t5, f5, -⟩ := append_txt (t3.new_ ((Fr.refl _ _).alloc (.cells #[.string r] 9))) (by have := hS3.size; simp; omega) (by have := pathB_length (l.take k) i; have e1 := hl.1; simp only [List.length_take, List.length_drop] at this; omega) (Own.fresh W3 9 #[.string r])
      have hS5 : New w1 W' := hS4.trans f5 fun k hk e => by have := (t3.base e).1; omega
      refine step_append_run rfl (.tmp 19) (.tmp 24) 24 rfl ?ev1 ?ev2 hrun ?_
      case ev1 => simp [Act.eval, Act.put]
      case ev2 => simp [Act.eval, Act.put]
      refine hK _ _ ⟨hS5, ?_⟩
      clear hK K
      try simp only [List.getElem_toArray, List.getElem_cons_succ, List.getElem_cons_zero]
      try simp only [Act.put, List.setIfInBounds_toArray, List.set_cons_zero, List.set_cons_succ]
      refine wpAnyH_take (i := 11) (v := v') rfl (by kernel_rfl) (by kernel_rfl) (by kernel_rfl) (fun _ _ _ h => h) (.inl ⟨rfl, fun w' hS => ?t11⟩) hS5 ?_
      case t11 =>
        go_simp
      refine wpAnyH_done (by kernel_rfl) ?_ _
      try simp only [List.getElem_toArray, List.getElem_cons_succ, List.getElem_cons_zero]
      try simp only [Act.put, List.setIfInBounds_toArray, List.set_cons_zero, List.set_cons_succ]
      rw [← HR.out] at t5
      go_wp2_with fail
      go_ret
      exact ⟨v', by simp, t5, hS5⟩
    · have hik' : ¬ (i : Int) < (k : Int) := by omega
      have HR := Lib.hid (hp2 (by omega))
      obtain ⟨j, hj⟩ : ∃ j, j = i - k := ⟨_, rfl⟩
      rw [← hj] at HR
      have hji : (i : Int) - (k : Int) = (j : Int) := by omega
      have hj2 : j ≤ 10000 := by omega
      clear hj
      have HHS := Lib.hid hs
      clear hp1 hp2 hk hc0
      go_enter Tryz.func40, Tryz.ntmps40
      go_wp2_with fail
      refine S1.mono ?_
      rintro e w1 ⟨rfl, rfl⟩
      go_wp2_with fail
      have RC := Lib.hid fun (w : World) h => root_any k (some ⟨b, o, none⟩) k cap (l.take k) w (Nat.le_refl _) h (by omega) (by omega) (by omega) (fun y hy => hx y (List.mem_of_mem_take hy))
      obtain ⟨r, hrr⟩ : ∃ r, r = rootB (l.take k) := ⟨_, rfl⟩
      rw [← hrr] at HR RC
      clear hrr
      have hS0 : New w1 w1.drew := (Fr.refl _ _).drew
      refine wp_region_heldE (fun W' => New w1 W') (by kernel_rfl) ?_
      refine wpAnyH_take (i := 0) (v := .slice (some ⟨b, o, none⟩) n cap) rfl (by kernel_rfl) (by kernel_rfl) (by kernel_rfl) (fun _ _ _ h => h) (.inl ⟨rfl, fun w' hS => ?t0⟩) hS0 ?_
      case t0 =>
        go_simp
      refine wpAnyH_take (i := 1) (v := .int .i64 k) rfl (by kernel_rfl) (by kernel_rfl) (by kernel_rfl) (fun _ _ _ h => h) (.inl ⟨rfl, fun w' hS => ?t1⟩) hS0 ?_
      case t1 =>
        go_simp
      refine wpAnyH_take (i := 2) (v := .slice (some ⟨b, o + k, none⟩) (n - k : Nat) (cap - k : Nat)) rfl (by kernel_rfl) (by kernel_rfl) (by kernel_rfl) (fun _ _ _ h => h) (.inl ⟨rfl, fun w' hS => ?t2⟩) hS0 ?_
      case t2 =>
        go_simp
      refine wpAnyH_take (i := 3) (v := .int .i64 i) rfl (by kernel_rfl) (by kernel_rfl) (by kernel_rfl) (fun _ _ _ h => h) (.inl ⟨rfl, fun w' hS => ?t3⟩) hS0 ?_
      case t3 =>
        go_simp
      refine wpAnyH_take (i := 4) (v := .int .i64 k) rfl (by kernel_rfl) (by kernel_rfl) (by kernel_rfl) (fun _ _ _ h => h) (.inl ⟨rfl, fun w' hS => ?t4⟩) hS0 ?_
      case t4 =>
        go_simp
      refine wpAnyH_take (i := 5) (v := .int .i64 j) rfl (by kernel_rfl) (by kernel_rfl) (by kernel_rfl) (fun _ _ _ h => h) (.inl ⟨rfl, fun w' hS => ?t5⟩) hS0 ?_
      case t5 =>
        go_simp
        exact i64_id j (by omega)
      refine wpAnyH_take (i := 7) (v := .slice (some ⟨b, o, none⟩) n cap) rfl (by kernel_rfl) (by kernel_rfl) (by kernel_rfl) (fun _ _ _ h => h) (.inl ⟨rfl, fun w' hS => ?t7⟩) hS0 ?_
      case t7 =>
        go_simp
      refine wpAnyH_take (i := 8) (v := .int .i64 k) rfl (by kernel_rfl) (by kernel_rfl) (by kernel_rfl) (fun _ _ _ h => h) (.inl ⟨rfl, fun w' hS => ?t8⟩) hS0 ?_
      case t8 =>
        go_simp
      refine wpAnyH_take (i := 9) (v := .slice (some ⟨b, o, none⟩) k cap) rfl (by kernel_rfl) (by kernel_rfl) (by kernel_rfl) (fun _ _ _ h => h) (.inl ⟨rfl, fun w' hS => ?t9⟩) hS0 ?_
      case t9 =>
        go_simp
      try simp only [Act.put, List.setIfInBounds_toArray, List.set_cons_zero, List.set_cons_succ]
      refine wpAnyH_all (rs := [6]) (by kernel_rfl) (by simp) (fun j hj => ?_)
      rw [List.mem_singleton] at hj
      subst hj
      refine wpOp_step rfl (fun K hK => ?_)
      go_simp
      refine (ih (some ⟨b, o + k, none⟩) (n - k) (cap - k) (l.drop k) j _ (by omega) ((hl.drop (by omega)).new_ hS0) (by omega) (by omega) (by omega) (by omega) (fun y hy => hx y (List.mem_of_mem_drop hy))).mono ?_
      rintro e W2 ⟨v, rfl, t2, n2⟩
      have hS2 := hS0.new_ n2
      have t2' := t2.mono (B' := w1.heap.size) (by have := hS0.size; omega)
      clear t2
      refine hK _ _ ⟨hS2, ?_⟩
      clear hK K
      try simp only [Act.put, List.setIfInBounds_toArray, List.set_cons_zero, List.set_cons_succ]
      refine wpAnyH_all (rs := [10]) (by kernel_rfl) (by simp) (fun j hj => ?_)
      rw [List.mem_singleton] at hj
      subst hj
      refine wpOp_step rfl (fun K hK => ?_)
      go_simp
      refine (RC.out _ ((hl.take (by omega)).new_ hS2)).mono ?_
      rintro e W3 ⟨rfl, n3⟩
      have hS3 := hS2.new_ n3
      have t3 := t2'.new_ n3
      clear t2'
      refine hK _ _ ⟨hS3, ?_⟩
      clear hK K
      try simp only [Act.put, List.setIfInBounds_toArray, List.set_cons_zero, List.set_cons_succ]
      refine wpAnyH_all (rs := [11]) (by kernel_rfl) (by simp) (fun j hj => ?_)
      rw [List.mem_singleton] at hj
      subst hj
      refine wpOp_step rfl (fun K hK => ?_)
      go_simp
      have hS4 := hS3.alloc (.cells #[.string r] 9)
      refine hK _ _ ⟨hS4, ?_⟩
      clear hK K
      try simp only [Act.put, List.setIfInBounds_toArray, List.set_cons_zero, List.set_cons_succ]
      refine wpAnyH_all (rs := [12]) (by kernel_rfl) (by simp) (fun j hj => ?_)
      rw [List.mem_singleton] at hj
      subst hj
      refine wpOp_step rfl (fun K hK => ?_)
      obtain ⟨v', W', hrun, t5, f5, -⟩ := append_txt (t3.new_ ((Fr.refl _ _).alloc (.cells #[.string r] 9))) (by have := hS3.size; simp; omega) (by have := pathB_length (l.drop k) j; have e1 := hl.1; simp only [List.length_take, List.length_drop] at this; omega) (Own.fresh W3 9 #[.string r])
      have hS5 : New w1 W' := hS4.trans f5 fun k hk e => by have := (t3.base e).1; omega
      refine step_append_run rfl (.tmp 32) (.tmp 37) 24 rfl ?ev1 ?ev2 hrun ?_
      case ev1 => simp [Act.eval, Act.put]
      case ev2 => simp [Act.eval, Act.put]
      refine hK _ _ ⟨hS5, ?_⟩
      clear hK K
      try simp only [List.getElem_toArray, List.getElem_cons_succ, List.getElem_cons_zero]
      try simp only [Act.put, List.setIfInBounds_toArray, List.set_cons_zero, List.set_cons_succ]
      refine wpAnyH_take (i := 13) (v := v') rfl (by kernel_rfl) (by kernel_rfl) (by kernel_rfl) (fun _ _ _ h => h) (.inl ⟨rfl, fun w' hS => ?t13⟩) hS5 ?_
      case t13 =>
        go_simp
      refine wpAnyH_done (by kernel_rfl) ?_ _
      try simp only [List.getElem_toArray, List.getElem_cons_succ, List.getElem_cons_zero]
      try simp only [Act.put, List.setIfInBounds_toArray, List.set_cons_zero, List.set_cons_succ]
      rw [← HR.out] at t5
      go_wp2_with fail
      go_ret
      exact ⟨v', by simp, t5, hS5⟩
set_option maxRecDepth 100000 in
set_option maxHeartbeats 16000000 in
theorem ref_path : ∀ (m : Nat) (A : Option Addr) (n cap : Nat) (l : List ByteArray) (i : Nat) (w : World), n ≤ m → SlT w A n l → n ≤ cap → cap ≤ maxLen → n ≤ 10000 → i ≤ 10000 → (∀ x ∈ l, x.size ≤ 100000) →
    Calls Tryz.prog 30 #[.slice A n cap, .int .i64 i] w fun e W => ∃ v, e = .returned v ∧ TxL W w.heap.size v (pathB l i) ∧ New w W := by
  intro m
  induction m with
  | zero =>
    intro A n cap l i w hm hl hc hc2 hn hi hx
    obtain rfl : n = 0 := by omega
    have hp := pathB_nil (l := l) i (by rw [← hl.1]; omega)
    go_enter Tryz.func30, Tryz.ntmps30
    go_wp2_with fail
    go_ret
    rw [hp]
    exact ⟨_, rfl, ⟨rfl, .inr ⟨w.heap.size, 0, #[], rfl, Nat.le_refl _, Own.fresh _ _ _, Nat.le_refl _, Nat.zero_le _, rfl, rfl⟩⟩, (Fr.refl _ _).alloc _⟩
  | succ m ih =>
    intro A n cap l i w hm hl hc hc2 hn hi hx
    by_cases h1 : n ≤ 1
    · have hp := pathB_nil (l := l) i (by rw [← hl.1]; omega)
      have h1' : (n : Int) ≤ 1 := by omega
      go_enter Tryz.func30, Tryz.ntmps30
      go_wp2_with fail
      go_ret
      rw [hp]
      exact ⟨_, rfl, ⟨rfl, .inr ⟨w.heap.size, 0, #[], rfl, Nat.le_refl _, Own.fresh _ _ _, Nat.le_refl _, Nat.zero_le _, rfl, rfl⟩⟩, (Fr.refl _ _).alloc _⟩
    have hs := splitN_lt (n := n) (by omega)
    obtain ⟨b, o, hA, hc0⟩ := hl.2.2 0 (by omega)
    subst hA
    have hne1 : ¬ (n : Int) ≤ 1 := by omega
    have hp1 := pathB_left (l := l) (i := i) (by rw [← hl.1]; omega)
    have hp2 := pathB_right (l := l) (i := i) (by rw [← hl.1]; omega)
    rw [← hl.1] at hp1 hp2
    have S1 := refcut_any n (by omega) w
    obtain ⟨k, hk⟩ : ∃ k, k = splitN n := ⟨_, rfl⟩
    rw [← hk] at S1 hs hp1 hp2
    have hk1 : (k : Int) ≤ (n : Int) := by omega
    have hk2 : (n : Int) ≤ (cap : Int) := by omega
    have hk3 : (k : Int) ≤ (cap : Int) := by omega
    have hkc : ¬ cap = k := by omega
    have hn2 : (n : Int) ≤ 10000 := by omega
    have hi2 : (i : Int) ≤ 10000 := by omega
    have hmx : cap ≤ 9223372036854775807 := hc2
    by_cases hik : i < k
    · have hik' : (i : Int) < (k : Int) := by omega
      have HR := Lib.hid (hp1 hik)
      have HHS := Lib.hid hs
      clear hp1 hp2 hk hc0
      go_enter Tryz.func30, Tryz.ntmps30
      go_wp2_with fail
      refine S1.mono ?_
      rintro e w1 ⟨rfl, rfl⟩
      go_wp2_with fail
      have RC := Lib.hid fun (w : World) h => refRoot_any (n - k) (some ⟨b, o + k, none⟩) (n - k) (cap - k) (l.drop k) w (Nat.le_refl _) h (by omega) (by omega) (by omega) (fun y hy => hx y (List.mem_of_mem_drop hy))
      obtain ⟨r, hrr⟩ : ∃ r, r = rootB (l.drop k) := ⟨_, rfl⟩
      rw [← hrr] at HR RC
      clear hrr
      have hS0 : New w1 w1.drew := (Fr.refl _ _).drew
      refine wp_region_heldE (fun W' => New w1 W') (by kernel_rfl) ?_
      refine wpAnyH_take (i := 0) (v := .slice (some ⟨b, o, none⟩) n cap) rfl (by kernel_rfl) (by kernel_rfl) (by kernel_rfl) (fun _ _ _ h => h) (.inl ⟨rfl, fun w' hS => ?t0⟩) hS0 ?_
      case t0 =>
        go_simp
      refine wpAnyH_take (i := 1) (v := .int .i64 k) rfl (by kernel_rfl) (by kernel_rfl) (by kernel_rfl) (fun _ _ _ h => h) (.inl ⟨rfl, fun w' hS => ?t1⟩) hS0 ?_
      case t1 =>
        go_simp
      refine wpAnyH_take (i := 2) (v := .slice (some ⟨b, o, none⟩) k cap) rfl (by kernel_rfl) (by kernel_rfl) (by kernel_rfl) (fun _ _ _ h => h) (.inl ⟨rfl, fun w' hS => ?t2⟩) hS0 ?_
      case t2 =>
        go_simp
      refine wpAnyH_take (i := 3) (v := .int .i64 i) rfl (by kernel_rfl) (by kernel_rfl) (by kernel_rfl) (fun _ _ _ h => h) (.inl ⟨rfl, fun w' hS => ?t3⟩) hS0 ?_
      case t3 =>
        go_simp
      refine wpAnyH_take (i := 5) (v := .slice (some ⟨b, o, none⟩) n cap) rfl (by kernel_rfl) (by kernel_rfl) (by kernel_rfl) (fun _ _ _ h => h) (.inl ⟨rfl, fun w' hS => ?t5⟩) hS0 ?_
      case t5 =>
        go_simp
      refine wpAnyH_take (i := 6) (v := .int .i64 k) rfl (by kernel_rfl) (by kernel_rfl) (by kernel_rfl) (fun _ _ _ h => h) (.inl ⟨rfl, fun w' hS => ?t6⟩) hS0 ?_
      case t6 =>
        go_simp
      refine wpAnyH_take (i := 7) (v := .slice (some ⟨b, o + k, none⟩) (n - k : Nat) (cap - k : Nat)) rfl (by kernel_rfl) (by kernel_rfl) (by kernel_rfl) (fun _ _ _ h => h) (.inl ⟨rfl, fun w' hS => ?t7⟩) hS0 ?_
      case t7 =>
        go_simp
      try simp only [Act.put, List.setIfInBounds_toArray, List.set_cons_zero, List.set_cons_succ]
      refine wpAnyH_all (rs := [4]) (by kernel_rfl) (by simp) (fun j hj => ?_)
      rw [List.mem_singleton] at hj
      subst hj
      refine wpOp_step rfl (fun K hK => ?_)
      go_simp
      refine (ih (some ⟨b, o, none⟩) k cap (l.take k) i _ (by omega) ((hl.take (by omega)).new_ hS0) (by omega) (by omega) (by omega) (by omega) (fun y hy => hx y (List.mem_of_mem_take hy))).mono ?_
      rintro e W2 ⟨v, rfl, t2, n2⟩
      have hS2 := hS0.new_ n2
      have t2' := t2.mono (B' := w1.heap.size) (by have := hS0.size; omega)
      clear t2
      refine hK _ _ ⟨hS2, ?_⟩
      clear hK K
      try simp only [Act.put, List.setIfInBounds_toArray, List.set_cons_zero, List.set_cons_succ]
      refine wpAnyH_all (rs := [8]) (by kernel_rfl) (by simp) (fun j hj => ?_)
      rw [List.mem_singleton] at hj
      subst hj
      refine wpOp_step rfl (fun K hK => ?_)
      go_simp
      refine (RC.out _ ((hl.drop (by omega)).new_ hS2)).mono ?_
      rintro e W3 ⟨rfl, n3⟩
      have hS3 := hS2.new_ n3
      have t3 := t2'.new_ n3
      clear t2'
      refine hK _ _ ⟨hS3, ?_⟩
      clear hK K
      try simp only [Act.put, List.setIfInBounds_toArray, List.set_cons_zero, List.set_cons_succ]
      refine wpAnyH_all (rs := [9]) (by kernel_rfl) (by simp) (fun j hj => ?_)
      rw [List.mem_singleton] at hj
      subst hj
      refine wpOp_step rfl (fun K hK => ?_)
      go_simp
      have hS4 := hS3.alloc (.cells #[.string r] 9)
      refine hK _ _ ⟨hS4, ?_⟩
      clear hK K
      try simp only [Act.put, List.setIfInBounds_toArray, List.set_cons_zero, List.set_cons_succ]
      refine wpAnyH_all (rs := [10]) (by kernel_rfl) (by simp) (fun j hj => ?_)
      rw [List.mem_singleton] at hj
      subst hj
      refine wpOp_step rfl (fun K hK => ?_)
      obtain ⟨v', W', hrun, t5, f5, -⟩ := append_txt (t3.new_ ((Fr.refl _ _).alloc (.cells #[.string r] 9))) (by have := hS3.size; simp; omega) (by have := pathB_length (l.take k) i; have e1 := hl.1; simp only [List.length_take, List.length_drop] at this; omega) (Own.fresh W3 9 #[.string r])
      have hS5 : New w1 W' := hS4.trans f5 fun k hk e => by have := (t3.base e).1; omega
      refine step_append_run rfl (.tmp 20) (.tmp 25) 24 rfl ?ev1 ?ev2 hrun ?_
      case ev1 => simp [Act.eval, Act.put]
      case ev2 => simp [Act.eval, Act.put]
      refine hK _ _ ⟨hS5, ?_⟩
      clear hK K
      try simp only [List.getElem_toArray, List.getElem_cons_succ, List.getElem_cons_zero]
      try simp only [Act.put, List.setIfInBounds_toArray, List.set_cons_zero, List.set_cons_succ]
      refine wpAnyH_take (i := 11) (v := v') rfl (by kernel_rfl) (by kernel_rfl) (by kernel_rfl) (fun _ _ _ h => h) (.inl ⟨rfl, fun w' hS => ?t11⟩) hS5 ?_
      case t11 =>
        go_simp
      refine wpAnyH_done (by kernel_rfl) ?_ _
      try simp only [List.getElem_toArray, List.getElem_cons_succ, List.getElem_cons_zero]
      try simp only [Act.put, List.setIfInBounds_toArray, List.set_cons_zero, List.set_cons_succ]
      rw [← HR.out] at t5
      go_wp2_with fail
      go_ret
      exact ⟨v', by simp, t5, hS5⟩
    · have hik' : ¬ (i : Int) < (k : Int) := by omega
      have HR := Lib.hid (hp2 (by omega))
      obtain ⟨j, hj⟩ : ∃ j, j = i - k := ⟨_, rfl⟩
      rw [← hj] at HR
      have hji : (i : Int) - (k : Int) = (j : Int) := by omega
      have hj2 : j ≤ 10000 := by omega
      clear hj
      have HHS := Lib.hid hs
      clear hp1 hp2 hk hc0
      go_enter Tryz.func30, Tryz.ntmps30
      go_wp2_with fail
      refine S1.mono ?_
      rintro e w1 ⟨rfl, rfl⟩
      go_wp2_with fail
      have RC := Lib.hid fun (w : World) h => refRoot_any k (some ⟨b, o, none⟩) k cap (l.take k) w (Nat.le_refl _) h (by omega) (by omega) (by omega) (fun y hy => hx y (List.mem_of_mem_take hy))
      obtain ⟨r, hrr⟩ : ∃ r, r = rootB (l.take k) := ⟨_, rfl⟩
      rw [← hrr] at HR RC
      clear hrr
      have hS0 : New w1 w1.drew := (Fr.refl _ _).drew
      refine wp_region_heldE (fun W' => New w1 W') (by kernel_rfl) ?_
      refine wpAnyH_take (i := 0) (v := .slice (some ⟨b, o, none⟩) n cap) rfl (by kernel_rfl) (by kernel_rfl) (by kernel_rfl) (fun _ _ _ h => h) (.inl ⟨rfl, fun w' hS => ?t0⟩) hS0 ?_
      case t0 =>
        go_simp
      refine wpAnyH_take (i := 1) (v := .int .i64 k) rfl (by kernel_rfl) (by kernel_rfl) (by kernel_rfl) (fun _ _ _ h => h) (.inl ⟨rfl, fun w' hS => ?t1⟩) hS0 ?_
      case t1 =>
        go_simp
      refine wpAnyH_take (i := 2) (v := .slice (some ⟨b, o + k, none⟩) (n - k : Nat) (cap - k : Nat)) rfl (by kernel_rfl) (by kernel_rfl) (by kernel_rfl) (fun _ _ _ h => h) (.inl ⟨rfl, fun w' hS => ?t2⟩) hS0 ?_
      case t2 =>
        go_simp
      refine wpAnyH_take (i := 3) (v := .int .i64 i) rfl (by kernel_rfl) (by kernel_rfl) (by kernel_rfl) (fun _ _ _ h => h) (.inl ⟨rfl, fun w' hS => ?t3⟩) hS0 ?_
      case t3 =>
        go_simp
      refine wpAnyH_take (i := 4) (v := .int .i64 k) rfl (by kernel_rfl) (by kernel_rfl) (by kernel_rfl) (fun _ _ _ h => h) (.inl ⟨rfl, fun w' hS => ?t4⟩) hS0 ?_
      case t4 =>
        go_simp
      refine wpAnyH_take (i := 5) (v := .int .i64 j) rfl (by kernel_rfl) (by kernel_rfl) (by kernel_rfl) (fun _ _ _ h => h) (.inl ⟨rfl, fun w' hS => ?t5⟩) hS0 ?_
      case t5 =>
        go_simp
        exact i64_id j (by omega)
      refine wpAnyH_take (i := 7) (v := .slice (some ⟨b, o, none⟩) n cap) rfl (by kernel_rfl) (by kernel_rfl) (by kernel_rfl) (fun _ _ _ h => h) (.inl ⟨rfl, fun w' hS => ?t7⟩) hS0 ?_
      case t7 =>
        go_simp
      refine wpAnyH_take (i := 8) (v := .int .i64 k) rfl (by kernel_rfl) (by kernel_rfl) (by kernel_rfl) (fun _ _ _ h => h) (.inl ⟨rfl, fun w' hS => ?t8⟩) hS0 ?_
      case t8 =>
        go_simp
      refine wpAnyH_take (i := 9) (v := .slice (some ⟨b, o, none⟩) k cap) rfl (by kernel_rfl) (by kernel_rfl) (by kernel_rfl) (fun _ _ _ h => h) (.inl ⟨rfl, fun w' hS => ?t9⟩) hS0 ?_
      case t9 =>
        go_simp
      try simp only [Act.put, List.setIfInBounds_toArray, List.set_cons_zero, List.set_cons_succ]
      refine wpAnyH_all (rs := [6]) (by kernel_rfl) (by simp) (fun j hj => ?_)
      rw [List.mem_singleton] at hj
      subst hj
      refine wpOp_step rfl (fun K hK => ?_)
      go_simp
      refine (ih (some ⟨b, o + k, none⟩) (n - k) (cap - k) (l.drop k) j _ (by omega) ((hl.drop (by omega)).new_ hS0) (by omega) (by omega) (by omega) (by omega) (fun y hy => hx y (List.mem_of_mem_drop hy))).mono ?_
      rintro e W2 ⟨v, rfl, t2, n2⟩
      have hS2 := hS0.new_ n2
      have t2' := t2.mono (B' := w1.heap.size) (by have := hS0.size; omega)
      clear t2
      refine hK _ _ ⟨hS2, ?_⟩
      clear hK K
      try simp only [Act.put, List.setIfInBounds_toArray, List.set_cons_zero, List.set_cons_succ]
      refine wpAnyH_all (rs := [10]) (by kernel_rfl) (by simp) (fun j hj => ?_)
      rw [List.mem_singleton] at hj
      subst hj
      refine wpOp_step rfl (fun K hK => ?_)
      go_simp
      refine (RC.out _ ((hl.take (by omega)).new_ hS2)).mono ?_
      rintro e W3 ⟨rfl, n3⟩
      have hS3 := hS2.new_ n3
      have t3 := t2'.new_ n3
      clear t2'
      refine hK _ _ ⟨hS3, ?_⟩
      clear hK K
      try simp only [Act.put, List.setIfInBounds_toArray, List.set_cons_zero, List.set_cons_succ]
      refine wpAnyH_all (rs := [11]) (by kernel_rfl) (by simp) (fun j hj => ?_)
      rw [List.mem_singleton] at hj
      subst hj
      refine wpOp_step rfl (fun K hK => ?_)
      go_simp
      have hS4 := hS3.alloc (.cells #[.string r] 9)
      refine hK _ _ ⟨hS4, ?_⟩
      clear hK K
      try simp only [Act.put, List.setIfInBounds_toArray, List.set_cons_zero, List.set_cons_succ]
      refine wpAnyH_all (rs := [12]) (by kernel_rfl) (by simp) (fun j hj => ?_)
      rw [List.mem_singleton] at hj
      subst hj
      refine wpOp_step rfl (fun K hK => ?_)
      obtain ⟨v', W', hrun, t5, f5, -⟩ := append_txt (t3.new_ ((Fr.refl _ _).alloc (.cells #[.string r] 9))) (by have := hS3.size; simp; omega) (by have := pathB_length (l.drop k) j; have e1 := hl.1; simp only [List.length_take, List.length_drop] at this; omega) (Own.fresh W3 9 #[.string r])
      have hS5 : New w1 W' := hS4.trans f5 fun k hk e => by have := (t3.base e).1; omega
      refine step_append_run rfl (.tmp 33) (.tmp 38) 24 rfl ?ev1 ?ev2 hrun ?_
      case ev1 => simp [Act.eval, Act.put]
      case ev2 => simp [Act.eval, Act.put]
      refine hK _ _ ⟨hS5, ?_⟩
      clear hK K
      try simp only [List.getElem_toArray, List.getElem_cons_succ, List.getElem_cons_zero]
      try simp only [Act.put, List.setIfInBounds_toArray, List.set_cons_zero, List.set_cons_succ]
      refine wpAnyH_take (i := 13) (v := v') rfl (by kernel_rfl) (by kernel_rfl) (by kernel_rfl) (fun _ _ _ h => h) (.inl ⟨rfl, fun w' hS => ?t13⟩) hS5 ?_
      case t13 =>
        go_simp
      refine wpAnyH_done (by kernel_rfl) ?_ _
      try simp only [List.getElem_toArray, List.getElem_cons_succ, List.getElem_cons_zero]
      try simp only [Act.put, List.setIfInBounds_toArray, List.set_cons_zero, List.set_cons_succ]
      rw [← HR.out] at t5
      go_wp2_with fail
      go_ret
      exact ⟨v', by simp, t5, hS5⟩
end Go.Proofs.YtjcpdpdhegcgoaaGreatDoor
