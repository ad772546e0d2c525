/- A text that a file may have, or one byte more; the reference's digest of a file. -/
import Derived.Test.YtjcpdpdhegcgoaaGreatDoorMkText
import Derived.Test.YtjcpdpdhegcgoaaGreatDoorMkRefList
import Derived.Test.YtjcpdpdhegcgoaaGreatDoorMkRefRoot
import Derived.Test.YtjcpdpdhegcgoaaGreatDoorMkNamed
namespace Go.Proofs.YtjcpdpdhegcgoaaGreatDoor
open Go.RowKit
set_option linter.unusedVariables false
set_option linter.unusedSimpArgs false

theorem few_mod (n : Int) : ∃ k : Nat, (wrap64 (n.tmod 8194 + 8194)).tmod 8194 = (k : Int) ∧ k ≤ 8193 := by
  have h : -8194 < n.tmod 8194 ∧ n.tmod 8194 < 8194 := by
    rw [Int.tmod_eq_emod]
    split
    · omega
    · simp only [Int.natAbs]
      omega
  have h2 : wrap64 (n.tmod 8194 + 8194) = n.tmod 8194 + 8194 := by unfold wrap64; omega
  rw [h2]
  have h3 := Int.tmod_eq_emod (a := n.tmod 8194 + 8194) (b := 8194)
  rw [if_pos (.inl (by omega))] at h3
  exact ⟨((n.tmod 8194 + 8194).tmod 8194).toNat, by omega, by omega⟩
set_option maxHeartbeats 2000000 in
theorem mfew_any {s : ByteArray} {x0 : W64} {n : Int} (hn : (Lit.int .i64 n).wf = true) (hs : s.size ≤ 140737488351232) {w : World} :
    Calls Tryz.prog 8 #[.string s, U x0, .int .i64 n] w fun e W => ∃ t : ByteArray, e = .returned (.string t) ∧ t.size ≤ 8193 ∧ New w W := by
  have T := Lib.hid fun n hn (w : World) => lawtext_any (x0 := x0) (n := n) hn (w := w)
  have hs' : (s.size : Int) ≤ 140737488351232 := by omega
  obtain ⟨k, hk, hk2⟩ := few_mod n
  unfold U at T ⊢
  by_cases h5 : s.size ≤ 500
  · have h5' : ¬ (500 : Int) < (s.size : Int) := by omega
    go_enter Tryz.func8, Tryz.ntmps8
    go_wp2_with fail
    clear hk
    refine (T.out k hk2 _).mono ?_
    rintro e w1 ⟨t, rfl, ht, n1⟩
    have ht' : (t.size : Int) ≤ 8193 := by omega
    by_cases h8 : s.size + t.size ≤ 8193
    · have h8' : ¬ (8193 : Int) < (s.size : Int) + (t.size : Int) := by omega
      have HT := Lib.hid h8
      clear ht h8
      go_wp2_with fail
      go_ret
      exact ⟨s ++ t, by simp, by rw [ByteArray.size_append]; have := HT.out; omega, n1⟩
    · have h8' : (8193 : Int) < (s.size : Int) + (t.size : Int) := by omega
      clear ht h8
      go_wp2_with fail
      go_ret
      exact ⟨(s ++ t).extract 0 8193, by simp, by simp; omega, n1⟩
  · have h5' : (500 : Int) < (s.size : Int) := by omega
    have hz : (s.extract 0 500).size = 500 := by simp; omega
    obtain ⟨v, hv⟩ : ∃ v, v = s.extract 0 500 := ⟨_, rfl⟩
    rw [← hv] at hz
    have HV := Lib.hid hv
    go_enter Tryz.func8, Tryz.ntmps8
    go_wp2_with fail
    clear hk
    refine (T.out k hk2 _).mono ?_
    rintro e w1 ⟨t, rfl, ht, n1⟩
    have ht' : (t.size : Int) ≤ 8193 := by omega
    have hz' : (v.size : Int) = 500 := by omega
    by_cases h8 : 500 + t.size ≤ 8193
    · have h8' : ¬ (8193 : Int) < 500 + (t.size : Int) := by omega
      have HT := Lib.hid h8
      clear ht h8
      go_wp2_with fail
      go_ret
      exact ⟨s.extract 0 500 ++ t, by simp, by rw [ByteArray.size_append]; have := HT.out; simp; omega, n1⟩
    · have h8' : (8193 : Int) < 500 + (t.size : Int) := by omega
      clear ht h8
      go_wp2_with fail
      go_ret
      exact ⟨(s.extract 0 500 ++ t).extract 0 8193, by simp, by simp; omega, n1⟩
theorem cutB_least (s : ByteArray) : min 32 s.size ≤ cutB s ∧ cutB s ≤ 512 := by
  unfold cutB
  split
  · omega
  · have := cutG_le s (min s.size 512 - 32) 32
    omega
theorem chunksB_count {s : ByteArray} (hs : s.size ≤ 8192) : 32 * (chunksB cutB s).length ≤ s.size + 31 ∧ s.size ≤ 512 * (chunksB cutB s).length ∧ ((chunksB cutB s).length = 0 → s.size = 0) ∧ (s.size = 0 → (chunksB cutB s).length = 0) := by
  obtain ⟨n, hn⟩ : ∃ n, n = s.size := ⟨_, rfl⟩
  induction n using Nat.strongRecOn generalizing s with
  | _ n ih =>
    subst hn
    rcases Nat.eq_zero_or_pos s.size with h | h
    · rw [chunksB_nil _ h, h]
      simp
    · have h1 := cutC.ok.pos s h hs
      have h2 := cutC.ok.le s hs
      have h3 := cutB_least s
      rw [chunksB_cons cutC.ok h hs, List.length_cons]
      have hz : (s.extract (cutB s) s.size).size = s.size - cutB s := by simp
      have := ih (s.extract (cutB s) s.size).size (by omega) (by omega) rfl
      rw [hz] at this
      refine ⟨?_, by omega, by omega, by omega⟩
      by_cases he : s.size - cutB s = 0
      · have e0 := this.2.2.2 he
        rw [e0]
        omega
      · omega
end Go.Proofs.YtjcpdpdhegcgoaaGreatDoor
