/- The digest of any bytes is the document's; collisions. -/
import Derived.Test.YtceopjolkapijaaShaSum
import Derived.Test.YtceopjolkapijaaShaRefSum
import Derived.Test.YtceopjolkapijaaOpen
namespace Go.Proofs.Ytceopjolkapijaa
open Go.RowKit
set_option linter.unusedVariables false

/-- A text that is not too long. -/
def few01 (s : ByteArray) : ByteArray := if 700 < s.size then s.extract 0 700 else s
theorem few01_size (s : ByteArray) : (few01 s).size ≤ 700 := by
  unfold few01
  split
  · simp; omega
  · omega
theorem few01_any (s : ByteArray) (hs : s.size ≤ 9223372036854775807) (w : World) : Calls Try.prog 11 #[.string s] w fun e w' => e = .returned (.string (few01 s)) ∧ w = w' := by
  by_cases h : 700 < s.size
  · have hr : few01 s = s.extract 0 700 := if_pos h
    have HR := Lib.hid hr
    clear hr
    go_enter Try.func11, Try.ntmps11
    go_wp2
    go_ret
    exact ⟨ret_str HR.out.symm, rfl⟩
  · have hr : few01 s = s := if_neg h
    have HR := Lib.hid hr
    clear hr
    go_enter Try.func11, Try.ntmps11
    go_wp2
    go_ret
    exact ⟨ret_str HR.out.symm, rfl⟩
theorem abc_bytes (d : ByteArray) (hd : d = shaB ⟨#[97, 98, 99]⟩) : d.size = 32 ∧ ∀ h : d.size = 32, d[0].toNat = 221 ∧ d[1].toNat = 175 ∧ d[31].toNat = 154 := by
  subst hd
  have h : (shaB ⟨#[97, 98, 99]⟩).size = 32 := shaB_size _
  have e := sha_abc
  simp only [Prod.mk.injEq] at e
  obtain ⟨e0, e1, e2⟩ := e
  have hl : (shaL [97, 98, 99]).length = 32 := shaL_length _
  have hg : ∀ (i : Nat) (hi : i < (shaB ⟨#[97, 98, 99]⟩).size), (shaB ⟨#[97, 98, 99]⟩)[i] = (shaL [97, 98, 99]).getD i 0 := by
    intro i hi
    have hi2 : i < (shaL [97, 98, 99]).length := by rw [hl]; rw [h] at hi; exact hi
    rw [getD_get _ _ hi2]
    rfl
  refine ⟨h, fun h => ⟨?_, ?_, ?_⟩⟩
  · rw [hg, e0]; rfl
  · rw [hg, e1]; rfl
  · rw [hg, e2]; rfl
set_option maxRecDepth 100000 in
theorem awake01_any (w : World) : Calls Try.prog 12 #[] w fun e w' => e = .returned (.bool true) ∧ New w w' := by
  have hsum := fun w => sum_any ⟨#[97, 98, 99]⟩ (by decide) w
  obtain ⟨d, hd⟩ : ∃ d, shaB ⟨#[97, 98, 99]⟩ = d := ⟨_, rfl⟩
  have habc := abc_bytes d hd.symm
  rw [hd] at hsum
  obtain ⟨h32, hb⟩ := habc
  obtain ⟨b0, b1, b31⟩ := hb h32
  clear hb hd
  have HS := Lib.hid hsum
  clear hsum
  go_enter Try.func12, Try.ntmps12
  go_wp2_with fail
  refine (HS.out _).mono ?_
  rintro e w2 ⟨rfl, g2⟩
  go_wp2
  go_ret
  exact ⟨rfl, g2⟩
set_option maxRecDepth 100000 in
set_option maxHeartbeats 1000000 in
theorem shaWhole_walk (s : ByteArray) (h : s.size ≤ 140737488351232) (w : World) : Calls Try.prog 4 #[.string s] w fun e w' => e = .returned (.bool true) ∧ New w w' := by
  have hf := few01_size s
  have HF := Lib.hid (fun w => few01_any s (by omega) w)
  obtain ⟨f, hff⟩ : ∃ f, few01 s = f := ⟨_, rfl⟩
  rw [hff] at hf HF
  clear hff
  have H1 := Lib.hid (fun w => sum_any f (by omega) w)
  have H2 := Lib.hid (fun w => refSum_any f (by omega) w)
  go_enter Try.func4, Try.ntmps4
  go_wp2_with fail
  refine (awake01_any _).mono ?_
  rintro e w1 ⟨rfl, g1⟩
  go_wp2_with fail
  refine (HF.out _).mono ?_
  rintro e w2 ⟨rfl, rfl⟩
  go_wp2_with fail
  refine (H1.out _).mono ?_
  rintro e w3 ⟨rfl, g3⟩
  go_wp2_with fail
  refine (HF.out _).mono ?_
  rintro e w4 ⟨rfl, rfl⟩
  go_wp2_with fail
  refine (H2.out _).mono ?_
  rintro e w5 ⟨rfl, g5⟩
  go_wp2
  go_ret
  exact ⟨by simp, (g1.new_ g3).new_ g5⟩
end Go.Proofs.Ytceopjolkapijaa
