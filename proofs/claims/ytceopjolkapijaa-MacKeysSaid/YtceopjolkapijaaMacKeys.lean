/- A ring has so many keys of a seed, and tags under them; there is no other key, and no ring of too many. -/
import Derived.Test.YtceopjolkapijaaMacRefTag
namespace Go.Proofs.Ytceopjolkapijaa
open Go.RowKit
set_option linter.unusedVariables false

theorem newRing_no (s : ByteArray) (n : Int) (hn : n < 0 ∨ 16 < n) (w : World) : Calls Try.prog 27 #[.string s, .int .i64 n] w fun e w' => e = .returned (.tuple #[.pointer none, .int .i64 1]) ∧ w' = w := by
  rcases (by omega : n < 0 ∨ ¬ n < 0 ∧ 16 < n) with h | ⟨h, h2⟩
  all_goals
    go_enter Try.func27, Try.ntmps27
    go_wp2
    go_ret2
    exact ⟨rfl, rfl⟩
theorem beq_self' (b : ByteArray) : (b.toList == b.toList) = true := by simp
set_option maxRecDepth 100000 in
set_option maxHeartbeats 2000000 in
theorem macKeys_walk (s : ByteArray) (hs : s.size ≤ 140737488351232) (n : Int) (hn : (Lit.int .i64 n).wf = true) (i : Int) (hi : (Lit.int .i64 i).wf = true) (w : World) :
    Calls Try.prog 8 #[.string s, .int .i64 n, .int .i64 i] w fun e w' => e = .returned (.bool true) ∧ New w w' := by
  have fs := few02_size s
  have HS := Lib.hid (fun w => few02_any s (by omega) w)
  obtain ⟨b, hb⟩ : ∃ t, few02 s = t := ⟨_, rfl⟩
  rw [hb] at fs HS
  clear hb
  rcases (by omega : n < 0 ∨ (¬ n < 0 ∧ 16 < n) ∨ (0 ≤ n ∧ n ≤ 16)) with h | ⟨h, h2⟩ | ⟨h, h2⟩
  · go_enter Try.func8, Try.ntmps8
    go_wp2_with fail
    refine (HS.out _).mono ?_
    rintro e w2 ⟨rfl, rfl⟩
    go_wp2_with fail
    refine (newRing_no b n (.inl h) _).mono ?_
    rintro e w2 ⟨rfl, rfl⟩
    go_wp2_with fail
    refine (awake02_any _).mono ?_
    rintro e w1 ⟨rfl, g1⟩
    go_wp2_with fail
    refine (len_nil _).mono ?_
    rintro e w2 ⟨rfl, rfl⟩
    go_wp2
    go_ret
    exact ⟨rfl, g1⟩
  · go_enter Try.func8, Try.ntmps8
    go_wp2_with fail
    refine (HS.out _).mono ?_
    rintro e w2 ⟨rfl, rfl⟩
    go_wp2_with fail
    refine (newRing_no b n (.inr h2) _).mono ?_
    rintro e w2 ⟨rfl, rfl⟩
    go_wp2_with fail
    refine (awake02_any _).mono ?_
    rintro e w1 ⟨rfl, g1⟩
    go_wp2_with fail
    refine (len_nil _).mono ?_
    rintro e w2 ⟨rfl, rfl⟩
    go_wp2
    go_ret
    exact ⟨rfl, g1⟩
  · obtain ⟨N, rfl⟩ : ∃ N : Nat, n = N := ⟨n.toNat, by omega⟩
    have HR := Lib.hid (fun w => newRing_any b (by omega) N (by omega) w)
    rcases (by omega : i < 0 ∨ (¬ i < 0 ∧ (N : Int) ≤ i) ∨ (0 ≤ i ∧ i < N)) with k | ⟨k, k2⟩ | ⟨k, k2⟩
    · go_enter Try.func8, Try.ntmps8
      go_wp2_with fail
      refine (HS.out _).mono ?_
      rintro e w2 ⟨rfl, rfl⟩
      go_wp2_with fail
      refine (HR.out _).mono ?_
      rintro e w1 ⟨rfl, o1, o2, g1⟩
      have R1 : RingO w1 (w.heap.size + 1) w.heap.size b N := ⟨o1, o2⟩
      clear o1 o2
      go_wp2_with fail
      refine (awake02_any _).mono ?_
      rintro e w2 ⟨rfl, g2⟩
      have R2 := R1.new_ g2
      have HN := Lib.hid (check_no R2 i textB ⟨#[]⟩ (.inl k))
      go_wp2_with fail
      refine (key_no R2 i (.inl k)).mono ?_
      rintro e w3 ⟨rfl, rfl⟩
      go_wp2_with fail
      refine (tag_no R2 i textB (.inl k)).mono ?_
      rintro e w3 ⟨rfl, rfl⟩
      go_wp2_with fail
      refine (len_any R2).mono ?_
      rintro e w3 ⟨rfl, rfl⟩
      go_wp2_with fail
      refine HN.out.mono ?_
      rintro e w3 ⟨rfl, rfl⟩
      go_wp2
      go_ret
      exact ⟨rfl, g1.new_ g2⟩
    · go_enter Try.func8, Try.ntmps8
      go_wp2_with fail
      refine (HS.out _).mono ?_
      rintro e w2 ⟨rfl, rfl⟩
      go_wp2_with fail
      refine (HR.out _).mono ?_
      rintro e w1 ⟨rfl, o1, o2, g1⟩
      have R1 : RingO w1 (w.heap.size + 1) w.heap.size b N := ⟨o1, o2⟩
      clear o1 o2
      go_wp2_with fail
      refine (awake02_any _).mono ?_
      rintro e w2 ⟨rfl, g2⟩
      have R2 := R1.new_ g2
      have HN := Lib.hid (check_no R2 i textB ⟨#[]⟩ (.inr k2))
      go_wp2_with fail
      refine (key_no R2 i (.inr k2)).mono ?_
      rintro e w3 ⟨rfl, rfl⟩
      go_wp2_with fail
      refine (tag_no R2 i textB (.inr k2)).mono ?_
      rintro e w3 ⟨rfl, rfl⟩
      go_wp2_with fail
      refine (len_any R2).mono ?_
      rintro e w3 ⟨rfl, rfl⟩
      go_wp2_with fail
      refine HN.out.mono ?_
      rintro e w3 ⟨rfl, rfl⟩
      go_wp2
      go_ret
      exact ⟨rfl, g1.new_ g2⟩
    · obtain ⟨j, rfl⟩ : ∃ j : Nat, i = j := ⟨i.toNat, by omega⟩
      have k3 : j < N := by omega
      have k4 : ¬ (N : Int) ≤ (j : Int) := by omega
      have k5 : ¬ (j : Int) < 0 := by omega
      have kz := ringKey_size b j
      have HK := Lib.hid (fun (W : World) (x y : Nat) (R : RingO W x y b N) => key_is R j k3)
      have HT := Lib.hid (fun (W : World) (x y : Nat) (R : RingO W x y b N) => tag_is R j textB (by decide) k3)
      have HY := Lib.hid (fun w => key02_any b (by omega) j (by omega) w)
      obtain ⟨q, hq⟩ : ∃ q, ringKey b j = q := ⟨_, rfl⟩
      rw [hq] at HK HT HY kz
      have HG := Lib.hid (fun w => refTag_any q textB (by omega) (by decide) w)
      obtain ⟨m, hm⟩ : ∃ m, macB q textB = m := ⟨_, rfl⟩
      rw [hm] at HT HG
      clear hm hq
      go_enter Try.func8, Try.ntmps8
      go_wp2_with fail
      refine (HS.out _).mono ?_
      rintro e w2 ⟨rfl, rfl⟩
      go_wp2_with fail
      refine (HR.out _).mono ?_
      rintro e w1 ⟨rfl, o1, o2, g1⟩
      have R1 : RingO w1 (w.heap.size + 1) w.heap.size b N := ⟨o1, o2⟩
      clear o1 o2
      go_wp2_with fail
      refine (awake02_any _).mono ?_
      rintro e w2 ⟨rfl, g2⟩
      have R2 := R1.new_ g2
      go_wp2_with fail
      refine (HK.out _ _ _ R2).mono ?_
      rintro e w3 ⟨rfl, rfl⟩
      go_wp2_with fail
      refine (HT.out _ _ _ R2).mono ?_
      rintro e w4 ⟨rfl, g4⟩
      have R4 := R2.new_ g4
      go_wp2_with fail
      refine (len_any R4).mono ?_
      rintro e w5 ⟨rfl, rfl⟩
      go_wp2_with fail
      refine (HY.out _).mono ?_
      rintro e w6 ⟨rfl, g6⟩
      go_wp2_with fail
      refine (HG.out _).mono ?_
      rintro e w7 ⟨rfl, g7⟩
      go_wp2
      go_ret
      exact ⟨rfl, (((g1.new_ g2).new_ g4).new_ g6).new_ g7⟩
end Go.Proofs.Ytceopjolkapijaa
