/- A collision is two unlike texts of one digest, and nothing else. -/
import Derived.Test.YtceopjolkapijaaShaWhole
namespace Go.Proofs.Ytceopjolkapijaa
open Go.RowKit
set_option linter.unusedVariables false

/-- Two unlike texts of one digest. -/
def collB (a b : ByteArray) : Bool := !(a.toList == b.toList) && ((shaB a).toList == (shaB b).toList)
set_option maxRecDepth 100000 in
set_option maxHeartbeats 1000000 in
theorem collide_any (a b : ByteArray) (ha : a.size ≤ 140737488351232) (hb : b.size ≤ 140737488351232) (w : World) :
    Calls Try.prog 19 #[.agg #[.string a, .string b]] w fun e w' => e = .returned (.bool (collB a b)) ∧ New w w' := by
  have h1 : ∀ x, Calls Try.prog 17 #[.string a] (nw (w.alloc (.cells #[.string a, .string b] 32)) x) fun e w' => e = .returned (.string (shaB a)) ∧ ∃ y, w' = nw (w.alloc (.cells #[.string a, .string b] 32)) y := fun x => Calls.nw_of (sum_any a ha _)
  have h2 : ∀ x, Calls Try.prog 17 #[.string b] (nw (w.alloc (.cells #[.string a, .string b] 32)) x) fun e w' => e = .returned (.string (shaB b)) ∧ ∃ y, w' = nw (w.alloc (.cells #[.string a, .string b] 32)) y := fun x => Calls.nw_of (sum_any b hb _)
  have h0 := Own.fresh w 32 #[.string a, .string b]
  obtain ⟨f0, f1⟩ := h0.nw2
  by_cases hab : (a.toList == b.toList) = true
  · have HR := Lib.hid (show collB a b = false by unfold collB; rw [hab]; rfl)
    go_enter Try.func19, Try.ntmps19
    go_wp2_with fail
    refine wp_region_new_lit (by kernel_rfl) (by kernel_rfl) ?_; (repeat (any_goals (first | go_big_quiet_step ((fail)) | quiet_step ((fail)) | (refine wpQuiet_step (fun K hK => ?_); go_simp; split <;> (refine hK _ ?_; clear hK K))))); all_goals (refine wpQuiet_nil ?_; intro _ hw'; obtain ⟨xq, hw''⟩ := hw'; subst hw''; have hnq := nw_new _ xq)
    go_wp2
    go_ret
    exact ⟨by rw [HR.out]; rfl, ((Fr.refl _ _).alloc _).new_ hnq⟩
  · have hab : (a.toList == b.toList) = false := by simpa using hab
    obtain ⟨x, hx⟩ : ∃ x, shaB a = x := ⟨_, rfl⟩
    obtain ⟨y, hy⟩ : ∃ y, shaB b = y := ⟨_, rfl⟩
    have HR := Lib.hid (show collB a b = (x.toList == y.toList) by unfold collB; rw [hx, hy, hab]; rfl)
    rw [hx] at h1
    rw [hy] at h2
    clear hx hy
    go_enter Try.func19, Try.ntmps19
    go_wp2_with fail
    refine wp_region_new_lit (by kernel_rfl) (by kernel_rfl) ?_; (repeat (any_goals (first | go_big_quiet_step ((go_at_call 17; first | with_reducible exact h1 _ | with_reducible exact h2 _)) | quiet_step ((go_at_call 17; first | with_reducible exact h1 _ | with_reducible exact h2 _)) | (refine wpQuiet_step (fun K hK => ?_); go_simp; split <;> (refine hK _ ?_; clear hK K))))); all_goals (refine wpQuiet_nil ?_; intro _ hw'; obtain ⟨xq, hw''⟩ := hw'; subst hw''; have hnq := nw_new _ xq)
    go_wp2
    go_ret
    exact ⟨by rw [HR.out]; rfl, ((Fr.refl _ _).alloc _).new_ hnq⟩
theorem collB_same (a : ByteArray) : collB a a = false := by unfold collB; simp
set_option maxRecDepth 100000 in
set_option maxHeartbeats 1000000 in
theorem shaCollides_walk (a : ByteArray) (ha : a.size ≤ 140737488351232) (b : ByteArray) (hb : b.size ≤ 140737488351232) (w : World) : Calls Try.prog 5 #[.string a, .string b] w fun e w' => e = .returned (.bool true) ∧ New w w' := by
  have hfa := few01_size a
  have hfb := few01_size b
  have FA := Lib.hid (fun w => few01_any a (by omega) w)
  have FB := Lib.hid (fun w => few01_any b (by omega) w)
  obtain ⟨x, hx⟩ : ∃ x, few01 a = x := ⟨_, rfl⟩
  obtain ⟨y, hy⟩ : ∃ x, few01 b = x := ⟨_, rfl⟩
  rw [hx] at hfa FA
  rw [hy] at hfb FB
  clear hx hy
  have RX := Lib.hid (fun w => refSum_any x (by omega) w)
  have RY := Lib.hid (fun w => refSum_any y (by omega) w)
  have CXY := Lib.hid (fun w => collide_any x y (by omega) (by omega) w)
  have CXX := Lib.hid (fun w => collide_any x x (by omega) (by omega) w)
  rw [collB_same] at CXX
  obtain ⟨sx, hsx⟩ : ∃ s, shaB x = s := ⟨_, rfl⟩
  obtain ⟨sy, hsy⟩ : ∃ s, shaB y = s := ⟨_, rfl⟩
  by_cases hab : (x.toList == y.toList) = true
  · rw [show collB x y = false by unfold collB; rw [hab]; rfl] at CXY
    clear hsx hsy RX RY
    go_enter Try.func5, Try.ntmps5
    go_wp2_with fail
    refine (FA.out _).mono ?_
    rintro e w1 ⟨rfl, rfl⟩
    go_wp2_with fail
    refine (FB.out _).mono ?_
    rintro e w1 ⟨rfl, rfl⟩
    go_wp2_with fail
    refine (awake01_any _).mono ?_
    rintro e w1 ⟨rfl, g1⟩
    go_wp2_with fail
    refine (CXY.out _).mono ?_
    rintro e w2 ⟨rfl, g2⟩
    go_wp2_with fail
    refine (CXX.out _).mono ?_
    rintro e w3 ⟨rfl, g3⟩
    go_wp2
    go_ret
    exact ⟨rfl, (g1.new_ g2).new_ g3⟩
  · have hab : (x.toList == y.toList) = false := by simpa using hab
    rw [show collB x y = (sx.toList == sy.toList) by unfold collB; rw [hsx, hsy, hab]; rfl] at CXY
    rw [hsx] at RX
    rw [hsy] at RY
    clear hsx hsy
    go_enter Try.func5, Try.ntmps5
    go_wp2_with fail
    refine (FA.out _).mono ?_
    rintro e w1 ⟨rfl, rfl⟩
    go_wp2_with fail
    refine (FB.out _).mono ?_
    rintro e w1 ⟨rfl, rfl⟩
    go_wp2_with fail
    refine (awake01_any _).mono ?_
    rintro e w1 ⟨rfl, g1⟩
    go_wp2_with fail
    refine (CXY.out _).mono ?_
    rintro e w2 ⟨rfl, g2⟩
    go_wp2_with fail
    refine (RX.out _).mono ?_
    rintro e w3 ⟨rfl, g3⟩
    go_wp2_with fail
    refine (RY.out _).mono ?_
    rintro e w4 ⟨rfl, g4⟩
    go_wp2_with fail
    refine (CXX.out _).mono ?_
    rintro e w5 ⟨rfl, g5⟩
    go_wp2
    go_ret
    exact ⟨by simp, (((g1.new_ g2).new_ g3).new_ g4).new_ g5⟩
end Go.Proofs.Ytceopjolkapijaa
