/- A tag is right just where it is that of the text under the key: of any bytes as a tag. -/
import Derived.Test.YtceopjolkapijaaMacRefTag
namespace Go.Proofs.Ytceopjolkapijaa
open Go.RowKit
set_option linter.unusedVariables false

theorem i64_mask15 (n : Int) : bits .and .i64 n 15 = n % 16 := by
  have h127 : (BitVec.ofInt 64 15).toNat = 2 ^ 4 - 1 := by decide
  have key : (BitVec.ofInt 64 n &&& BitVec.ofInt 64 15).toNat = (n % ((2 ^ 64 : Nat) : Int)).toNat % 2 ^ 4 := by
    rw [BitVec.toNat_and, BitVec.toNat_ofInt, h127, Nat.and_two_pow_sub_one_eq_mod]
  show IntKind.i64.wrap ((BitVec.ofInt 64 n &&& BitVec.ofInt 64 15).toNat : Nat) = n % 16
  rw [key, IntKind.wrap_i64]
  omega
theorem cmp_bytes (g m : ByteArray) : (g.toList == m.toList) = decide (g = m) := by
  rw [Bool.eq_iff_iff, decide_eq_true_eq, beq_iff_eq]
  constructor
  · intro h
    have e1 := ByteArray.toList_eq g
    have e2 := ByteArray.toList_eq m
    rw [e1, e2] at h
    exact ByteArray.ext (Array.ext' h)
  · intro h; rw [h]
set_option maxRecDepth 100000 in
set_option maxHeartbeats 2000000 in
theorem macChecks_walk (n : Int) (hn : (Lit.int .i64 n).wf = true) (i : Int) (hi : (Lit.int .i64 i).wf = true) (x : E2string52) {wa : World} (hx : x.facts wa) (w : World) :
    Calls Try.prog 9 #[.int .i64 n, .int .i64 i, .agg x.cells.toArray] w fun e w' => e = .returned (.bool true) ∧ New w w' := by
  obtain ⟨s, g⟩ := x
  obtain ⟨hs, hg⟩ : s.size ≤ maxLen ∧ g.size ≤ maxLen := hx
  unfold maxLen at hs hg
  have ex : (E2string52.cells ⟨s, g⟩).toArray = #[.string s, .string g] := rfl
  rw [ex]
  clear ex
  have fa := few02_size s
  have fb := few02_size g
  have HA := Lib.hid (fun w => few02_any s (by omega) w)
  have HB := Lib.hid (fun w => few02_any g (by omega) w)
  obtain ⟨a, ha⟩ : ∃ t, few02 s = t := ⟨_, rfl⟩
  obtain ⟨b, hb⟩ : ∃ t, few02 g = t := ⟨_, rfl⟩
  rw [ha] at fa HA
  rw [hb] at fb HB
  clear ha hb
  obtain ⟨K, hK, hK2⟩ : ∃ K : Nat, bits .and .i64 n 15 = (K : Int) ∧ K < 16 := ⟨(n % 16).toNat, by rw [i64_mask15]; omega, by omega⟩
  have HR := Lib.hid (fun w => (newRing_any seedB (by decide) K (by omega) w).mono (R' := fun e w' => ∃ b b2, e = .returned (.tuple #[.pointer (some ⟨b, 0, none⟩), .int .i64 0]) ∧ RingO w' b b2 seedB K ∧ New w w') fun e w' h => ⟨_, _, h.1, ⟨h.2.1, h.2.2.1⟩, h.2.2.2⟩)
  have h0 := Own.fresh w 52 #[.string s, .string g]
  have q0 := h0.nw 0
  have q1 := h0.nw 1
  simp only [List.getElem?_toArray, List.getElem?_cons_zero, List.getElem?_cons_succ] at q0 q1
  have A1 : ∀ x, Calls Try.prog 25 #[.string s] (nw (w.alloc (.cells #[.string s, .string g] 52)) x) fun e w' => e = .returned (.string a) ∧ ∃ y, w' = nw (w.alloc (.cells #[.string s, .string g] 52)) y := fun x => Calls.nw_same' (HA.out _)
  have A2 : ∀ x, Calls Try.prog 25 #[.string g] (nw (w.alloc (.cells #[.string s, .string g] 52)) x) fun e w' => e = .returned (.string b) ∧ ∃ y, w' = nw (w.alloc (.cells #[.string s, .string g] 52)) y := fun x => Calls.nw_same' (HB.out _)
  go_enter Try.func9, Try.ntmps9
  go_wp2_with fail
  refine wp_region_new_lit (by kernel_rfl) (by kernel_rfl) ?_; (repeat (any_goals (first | go_big_quiet_step ((first | (go_at_call 25; with_reducible exact A1 _) | (go_at_call 25; with_reducible exact A2 _))) | quiet_step ((first | (go_at_call 25; with_reducible exact A1 _) | (go_at_call 25; with_reducible exact A2 _))) | (refine wpQuiet_step (fun K hK => ?_); go_simp; split <;> (refine hK _ ?_; clear hK K))))); all_goals (refine wpQuiet_nil ?_; intro _ hw'; obtain ⟨xq, hw''⟩ := hw'; subst hw''; have hnq := nw_new _ xq)
  have n0 : New w (nw (w.alloc (.cells #[.string s, .string g] 52)) xq) := ((Fr.refl _ w).alloc _).new_ hnq
  go_wp2_with fail
  refine (HR.out _).mono ?_
  rintro e w1 ⟨r1, r2, rfl, R1, g1⟩
  have n1 := n0.new_ g1
  clear n0 g1 A1 A2 q0 q1 h0 hnq
  rcases (by omega : i < 0 ∨ (¬ i < 0 ∧ (K : Int) ≤ i) ∨ (0 ≤ i ∧ i < K)) with k | ⟨k, k2⟩ | ⟨k, k2⟩
  · have k0 : ¬ 0 ≤ i := by omega
    go_wp2_with fail
    refine (awake02_any _).mono ?_
    rintro e w2 ⟨rfl, g2⟩
    have R2 := R1.new_ g2
    go_wp2_with fail
    refine (check_no R2 i a b (.inl k)).mono ?_
    rintro e w3 ⟨rfl, rfl⟩
    go_wp2
    go_ret
    exact ⟨rfl, n1.new_ g2⟩
  · have k0 : ¬ i < (K : Int) := by omega
    have k1 : 0 ≤ i := by omega
    go_wp2_with fail
    refine (awake02_any _).mono ?_
    rintro e w2 ⟨rfl, g2⟩
    have R2 := R1.new_ g2
    go_wp2_with fail
    refine (check_no R2 i a b (.inr k2)).mono ?_
    rintro e w3 ⟨rfl, rfl⟩
    go_wp2
    go_ret
    exact ⟨rfl, n1.new_ g2⟩
  · obtain ⟨j, rfl⟩ : ∃ j : Nat, i = j := ⟨i.toNat, by omega⟩
    have k3 : j < K := by omega
    have k4 : ¬ (K : Int) ≤ (j : Int) := by omega
    have k5 : ¬ (j : Int) < 0 := by omega
    have kz := ringKey_size seedB j
    have HY := Lib.hid (fun w => key02_any seedB (by decide) j (by omega) w)
    have HT := Lib.hid (fun (W : World) (x y : Nat) (R : RingO W x y seedB K) => tag_is R j a (by omega) k3)
    have HC := Lib.hid (fun (W : World) (x y : Nat) (R : RingO W x y seedB K) => check_is R j a b (by omega) (by omega) k3)
    have HD := Lib.hid (fun (W : World) (x y : Nat) (R : RingO W x y seedB K) => check_is R j a (macB (ringKey seedB j) a) (by omega) (by rw [macB_size]; omega) k3)
    obtain ⟨q, hq⟩ : ∃ q, ringKey seedB j = q := ⟨_, rfl⟩
    rw [hq] at HT HY HC HD kz
    have HG := Lib.hid (fun w => refTag_any q a (by omega) (by omega) w)
    obtain ⟨m, hm⟩ : ∃ m, macB q a = m := ⟨_, rfl⟩
    rw [hm] at HT HG HC HD
    rw [decide_eq_true rfl] at HD
    have hcmp := cmp_bytes b m
    obtain ⟨β, hβ⟩ : ∃ β : Bool, decide (b = m) = β := ⟨_, rfl⟩
    rw [hβ] at hcmp HC
    clear hm hq hβ
    cases β
    all_goals
      go_wp2_with fail
      refine (HY.out _).mono ?_
      rintro e w2 ⟨rfl, g2⟩
      have R2 := R1.new_ g2
      go_wp2_with fail
      refine (HG.out _).mono ?_
      rintro e w3 ⟨rfl, g3⟩
      have R3 := R2.new_ g3
      go_wp2_with fail
      refine (awake02_any _).mono ?_
      rintro e w4 ⟨rfl, g4⟩
      have R4 := R3.new_ g4
      go_wp2_with fail
      refine (HC.out _ _ _ R4).mono ?_
      rintro e w5 ⟨rfl, g5⟩
      have R5 := R4.new_ g5
      go_wp2_with fail
      refine (HT.out _ _ _ R5).mono ?_
      rintro e w6 ⟨rfl, g6⟩
      have R6 := R5.new_ g6
      go_wp2_with fail
      refine (HD.out _ _ _ R6).mono ?_
      rintro e w7 ⟨rfl, g7⟩
      go_wp2
      go_ret
      exact ⟨rfl, (((((n1.new_ g2).new_ g3).new_ g4).new_ g5).new_ g6).new_ g7⟩
end Go.Proofs.Ytceopjolkapijaa
