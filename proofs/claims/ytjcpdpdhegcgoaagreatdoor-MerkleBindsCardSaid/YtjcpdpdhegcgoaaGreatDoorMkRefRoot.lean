/- The reference's root of digests. -/
import Derived.Test.YtjcpdpdhegcgoaaGreatDoorMkRoot
import Derived.Test.YtjcpdpdhegcgoaaGreatDoorParts
namespace Go.Proofs.YtjcpdpdhegcgoaaGreatDoor
open Go.RowKit
set_option linter.unusedVariables false
set_option linter.unusedSimpArgs false

set_option maxHeartbeats 2000000 in
theorem refcut_any (n : Nat) (hn : n ≤ 1000000) (w : World) : Calls Tryz.prog 51 #[.int .i64 n] w fun e W => e = .returned (.int .i64 (splitN n : Nat)) ∧ W = w := by
  go_enter Tryz.func51, Tryz.ntmps51
  go_wp2
  go_loopw [3] (fun kv wr => ∃ k f : Nat, kv = .int .i64 k ∧ 1 ≤ k ∧ k ≤ 1000000 ∧ splitN n = splitF f k n ∧ n ≤ k + f ∧ wr = w) (fun kv _ => n - (intOf kv).toNat)
  case atStart => exact ⟨1, n, rfl, by omega, by omega, rfl, by omega, rfl⟩
  case round =>
    obtain ⟨k, f, rfl, h1, h3, h2, hf, rfl⟩ := hrel
    have hk4 : (k : Int) ≤ 1000000 := by omega
    by_cases hlt : 2 * k < n
    · have hlt2 : 2 * (k : Int) < (n : Int) := by omega
      have H2 := Lib.hid h2
      clear h2
      go_wp2
      go_roundw
      case rel =>
        refine ⟨2 * k, f - 1, by (go_num <;> omega), by omega, by omega, ?_, by omega, by trivial⟩
        rw [H2.out]
        obtain ⟨g, hg⟩ : ∃ g, f = g + 1 := ⟨f - 1, by omega⟩
        rw [hg]
        show (if 2 * k < n then splitF g (2 * k) n else k) = _
        rw [if_pos hlt]
        rfl
      case measure => simp [intOf]; omega
    · have hlt2 : ¬ 2 * (k : Int) < (n : Int) := by omega
      have h4 : splitN n = k := by
        rw [h2]
        cases f with
        | zero => rfl
        | succ f => unfold splitF; rw [if_neg hlt]
      have H4 := Lib.hid h4
      clear h4 h2
      go_wp2
      go_ret
      exact ⟨by rw [H4.out]; rfl, rfl⟩
set_option maxRecDepth 100000 in
set_option maxHeartbeats 4000000 in
theorem refRoot_any : ∀ (m : Nat) (A : Option Addr) (n cap : Nat) (l : List ByteArray) (w : World), n ≤ m → SlT w A n l → n ≤ cap → cap ≤ maxLen → n ≤ 1000000 → (∀ x ∈ l, x.size ≤ 100000) →
    Calls Tryz.prog 18 #[.slice A n cap] w fun e W => e = .returned (.string (rootB l)) ∧ New w W := by
  intro m
  induction m with
  | zero =>
    intro A n cap l w hm hl hc hc2 hn hx
    obtain rfl : n = 0 := by omega
    go_enter Tryz.func18, Tryz.ntmps18
    go_wp2_with fail
    refine (refTagged_any 69 _ 0 0 (fun _ => .empty) _ ⟨Nat.zero_le _, fun i hi => absurd hi (Nat.not_lt_zero i)⟩ (by omega) (fun j hj => by omega)).mono ?_
    rintro e w1 ⟨rfl, n1⟩
    go_wp2_with fail
    go_ret
    exact ⟨by rw [rootB_nil hl.1.symm]; rfl, ((Fr.refl _ _).alloc _).new_ n1⟩
  | succ m ih =>
    intro A n cap l w hm hl hc hc2 hn hx
    by_cases h0 : n = 0
    · subst h0
      go_enter Tryz.func18, Tryz.ntmps18
      go_wp2_with fail
      refine (refTagged_any 69 _ 0 0 (fun _ => .empty) _ ⟨Nat.zero_le _, fun i hi => absurd hi (Nat.not_lt_zero i)⟩ (by omega) (fun j hj => by omega)).mono ?_
      rintro e w1 ⟨rfl, n1⟩
      go_wp2_with fail
      go_ret
      exact ⟨by rw [rootB_nil hl.1.symm]; rfl, ((Fr.refl _ _).alloc _).new_ n1⟩
    by_cases h1 : n = 1
    · subst h1
      obtain ⟨b, o, hA, hc0⟩ := hl.2.2 0 (by omega)
      have c0 := hc0 0 _ rfl
      simp only [Nat.zero_mul, Nat.add_zero] at c0
      subst hA
      have HR1 := Lib.hid (rootB_one hl.1.symm)
      go_enter Tryz.func18, Tryz.ntmps18
      go_wp2
      go_ret
      exact ⟨by rw [HR1.out]; simp, Fr.refl _ _⟩
    have hs := splitN_lt (n := n) (by omega)
    obtain ⟨b, o, hA, hc0⟩ := hl.2.2 0 (by omega)
    subst hA
    have hr := rootB_two (l := l) (by rw [← hl.1]; omega)
    rw [← hl.1] at hr
    have hne0 : ¬ (n : Int) = 0 := by omega
    have hne1 : ¬ (n : Int) = 1 := by omega
    have S1 := refcut_any n hn w
    obtain ⟨k, hk⟩ : ∃ k, k = splitN n := ⟨_, rfl⟩
    rw [← hk] at S1 hs hr
    have hk1 : (k : Int) ≤ (n : Int) := by omega
    have hk2 : (n : Int) ≤ (cap : Int) := by omega
    have B1 := fun x => Calls.nw_of (x := x) (w := w) (ih (some ⟨b, o, none⟩) k cap (l.take k) (nw w x) (by omega) ((hl.take (by omega)).new_ (nw_new w x)) (by omega) hc2 (by omega) (fun y hy => hx y (List.mem_of_mem_take hy)))
    have B2 := fun x => Calls.nw_of (x := x) (w := w) (ih (some ⟨b, o + k, none⟩) (n - k) (cap - k) (l.drop k) (nw w x) (by omega) ((hl.drop (by omega)).new_ (nw_new w x)) (by omega) (by omega) (by omega) (fun y hy => hx y (List.mem_of_mem_drop hy)))
    have z1 := rootB_size (l.take k) (fun y hy => hx y (List.mem_of_mem_take hy))
    have z2 := rootB_size (l.drop k) (fun y hy => hx y (List.mem_of_mem_drop hy))
    obtain ⟨r1, hr1⟩ : ∃ r, r = rootB (l.take k) := ⟨_, rfl⟩
    obtain ⟨r2, hr2⟩ : ∃ r, r = rootB (l.drop k) := ⟨_, rfl⟩
    rw [← hr1] at z1 B1 hr
    rw [← hr2] at z2 B2 hr
    have HR := Lib.hid hr
    have HS := Lib.hid hs
    clear hr1 hr2 hr hk hs
    go_enter Tryz.func18, Tryz.ntmps18
    go_wp2_with fail
    refine S1.mono ?_
    rintro e w1 ⟨rfl, rfl⟩
    have hs := HS.out
    go_wp2_with fail
    apply wp_region_new_parts 8; (case hp => simp only [List.take_succ_cons, List.take_zero]; exact rfl); (case hd => simp only [List.drop_succ_cons, List.drop_zero]; exact rfl); (case hm => kernel_rfl); (case hB => kernel_rfl); (case hT => kernel_rfl); (case hL => kernel_rfl); (repeat (any_goals (first | go_big_quiet_step ((first | (go_at_call 18; with_reducible exact B1 _) | (go_at_call 18; with_reducible exact B2 _))) | quiet_step ((first | (go_at_call 18; with_reducible exact B1 _) | (go_at_call 18; with_reducible exact B2 _))) | (refine wpQuiet_step (fun K hK => ?_); go_simp; split <;> (refine hK _ ?_; clear hK K))))); all_goals (refine wpQuiet_nil ?_; intro _ hw'; obtain ⟨xq, hw''⟩ := hw'; subst hw''; have hnq := nw_new _ xq)
    clear B1 B2
    go_wp2_with fail
    refine (refTagged_any 74 _ 2 2 (fun i => if i = 0 then r1 else r2) _ (sl_two' (Own.fresh _ _ _)) (by omega) (fun j _ => by split <;> assumption)).mono ?_
    rintro e w4 ⟨rfl, n4⟩
    go_wp2_with fail
    go_ret
    exact ⟨by rw [HR.out]; rfl, (hnq.alloc _).new_ n4⟩
end Go.Proofs.YtjcpdpdhegcgoaaGreatDoor
