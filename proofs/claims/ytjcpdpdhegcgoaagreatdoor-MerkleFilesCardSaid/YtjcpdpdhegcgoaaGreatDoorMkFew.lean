/- A text that a file may have, or one byte more; the reference's digest of a file. -/
import Derived.Test.YtjcpdpdhegcgoaaGreatDoorMkText
import Derived.Test.YtjcpdpdhegcgoaaGreatDoorMkRefList
import Derived.Test.YtjcpdpdhegcgoaaGreatDoorMkRefRoot
namespace Go.Proofs.YtjcpdpdhegcgoaaGreatDoor
open Go.RowKit
set_option linter.unusedVariables false
set_option linter.unusedSimpArgs false

theorem refnum4 (n : Nat) (hn : n ≤ 1000000) (w : World) : Calls Tryz.prog 37 #[.int .u64 n, .int .i64 4] w fun e w' => e = .returned (.string (numB 4 n)) ∧ New w w' := refNumber_core n (by omega) 4 4 (by omega) (.inr (.inl ⟨by omega, by omega, rfl⟩)) w
set_option maxHeartbeats 2000000 in
theorem ref_named {z n : Nat} {r : ByteArray} (hz : z ≤ 100000) (hn : n ≤ 100000) (hr : r.size ≤ 100000) {w : World} :
    Calls Tryz.prog 45 #[.int .i64 z, .int .i64 n, .string r] w fun e W => e = .returned (.string (fileB z n r)) ∧ New w W := by
  have N1 := refnum4 z (by omega)
  have N2 := refnum4 n (by omega)
  have hz0 : (z : Int) ≤ 100000 := by omega
  have hn0 : (n : Int) ≤ 100000 := by omega
  go_enter Tryz.func45, Tryz.ntmps45
  go_wp2_with fail
  refine (N1 _).mono ?_
  rintro e w1 ⟨rfl, n1⟩
  go_wp2_with fail
  refine (N2 _).mono ?_
  rintro e w2 ⟨rfl, n2⟩
  go_wp2_with fail
  refine (refTagged_any 70 _ 3 3 (fileV z n r) _ (sl_three (Own.fresh _ _ _)) (by omega) (fun j _ => by
    unfold fileV
    split
    · rw [numB_size]; omega
    · split
      · rw [numB_size]; omega
      · exact hr)).mono ?_
  rintro e w3 ⟨rfl, n3⟩
  go_wp2_with fail
  go_ret
  exact ⟨rfl, ((n1.new_ n2).alloc _).new_ n3⟩
set_option maxHeartbeats 2000000 in
theorem ref_file {z : Nat} {A : Option Addr} {n cap : Nat} {l : List ByteArray} {w : World} (hz : z ≤ 100000) (hl : SlT w A n l) (hc : n ≤ cap) (hc2 : cap ≤ maxLen) (hn : n ≤ 100000) (hx : ∀ x ∈ l, x.size ≤ 100000) :
    Calls Tryz.prog 20 #[.int .i64 z, .slice A n cap] w fun e W => e = .returned (.string (fileB z n (rootB l))) ∧ New w W := by
  have hzr := rootB_size l hx
  have R0 := Lib.hid (refRoot_any n A n cap l w (Nat.le_refl _) hl hc hc2 (by omega) hx)
  obtain ⟨r, hr⟩ : ∃ r, r = rootB l := ⟨_, rfl⟩
  rw [← hr] at hzr R0 ⊢
  clear hr
  go_enter Tryz.func20, Tryz.ntmps20
  go_wp2_with fail
  refine R0.out.mono ?_
  rintro e w1 ⟨rfl, n1⟩
  go_wp2_with fail
  refine (ref_named hz hn hzr).mono ?_
  rintro e w2 ⟨rfl, n2⟩
  go_wp2_with fail
  go_ret
  exact ⟨rfl, n1.new_ n2⟩
theorem few_mod (n : Int) : ∃ k : Nat, (wrap64 (n.tmod 8194 + 8194)).tmod 8194 = (k : Int) ∧ k ≤ 8193 := by
  have h : -8194 < n.tmod 8194 ∧ n.tmod 8194 < 8194 := by
    rw [Int.tmod_eq_emod]
    split
    · omega
    · simp only [Int.natAbs]
      omega
  have h2 : wrap64 (n.tmod 8194 + 8194) = n.tmod 8194 + 8194 := by unfold wrap64; omega
  rw [h2]
  have h3 := Int.tmod_eq_emod (a := n.tmod 8194 + 8194) (b := 8194)
  rw [if_pos (.inl (by omega))] at h3
  exact ⟨((n.tmod 8194 + 8194).tmod 8194).toNat, by omega, by omega⟩
set_option maxHeartbeats 2000000 in
theorem mfew_any {s : ByteArray} {x0 : W64} {n : Int} (hn : (Lit.int .i64 n).wf = true) (hs : s.size ≤ 140737488351232) {w : World} :
    Calls Tryz.prog 8 #[.string s, U x0, .int .i64 n] w fun e W => ∃ t : ByteArray, e = .returned (.string t) ∧ t.size ≤ 8193 ∧ New w W := by
  have T := Lib.hid fun n hn (w : World) => text_any (x0 := x0) (n := n) hn (w := w)
  have hs' : (s.size : Int) ≤ 140737488351232 := by omega
  obtain ⟨k, hk, hk2⟩ := few_mod n
  unfold U at T ⊢
  by_cases h5 : s.size ≤ 500
  · have h5' : ¬ (500 : Int) < (s.size : Int) := by omega
    go_enter Tryz.func8, Tryz.ntmps8
    go_wp2_with fail
    clear hk
    refine (T.out k hk2 _).mono ?_
    rintro e w1 ⟨t, rfl, ht, n1⟩
    have ht' : (t.size : Int) ≤ 8193 := by omega
    by_cases h8 : s.size + t.size ≤ 8193
    · have h8' : ¬ (8193 : Int) < (s.size : Int) + (t.size : Int) := by omega
      have HT := Lib.hid h8
      clear ht h8
      go_wp2_with fail
      go_ret
      exact ⟨s ++ t, by simp, by rw [ByteArray.size_append]; have := HT.out; omega, n1⟩
    · have h8' : (8193 : Int) < (s.size : Int) + (t.size : Int) := by omega
      clear ht h8
      go_wp2_with fail
      go_ret
      exact ⟨(s ++ t).extract 0 8193, by simp, by simp; omega, n1⟩
  · have h5' : (500 : Int) < (s.size : Int) := by omega
    have hz : (s.extract 0 500).size = 500 := by simp; omega
    obtain ⟨v, hv⟩ : ∃ v, v = s.extract 0 500 := ⟨_, rfl⟩
    rw [← hv] at hz
    have HV := Lib.hid hv
    go_enter Tryz.func8, Tryz.ntmps8
    go_wp2_with fail
    clear hk
    refine (T.out k hk2 _).mono ?_
    rintro e w1 ⟨t, rfl, ht, n1⟩
    have ht' : (t.size : Int) ≤ 8193 := by omega
    have hz' : (v.size : Int) = 500 := by omega
    by_cases h8 : 500 + t.size ≤ 8193
    · have h8' : ¬ (8193 : Int) < 500 + (t.size : Int) := by omega
      have HT := Lib.hid h8
      clear ht h8
      go_wp2_with fail
      go_ret
      exact ⟨s.extract 0 500 ++ t, by simp, by rw [ByteArray.size_append]; have := HT.out; simp; omega, n1⟩
    · have h8' : (8193 : Int) < 500 + (t.size : Int) := by omega
      clear ht h8
      go_wp2_with fail
      go_ret
      exact ⟨(s.extract 0 500 ++ t).extract 0 8193, by simp, by simp; omega, n1⟩
end Go.Proofs.YtjcpdpdhegcgoaaGreatDoor
