/- awake: a packet on a way that is cut waits until that is mended. -/
import Derived.Test.YtleagdnlgjpcgaaNetCut
namespace Go.Proofs.Ytleagdnlgjpcgaa
open Go.RowKit Go.Maps
set_option linter.unusedVariables false
set_option linter.unusedSimpArgs false

theorem pks_one {W : World} {b : Nat} {p : Pkt} (h : Own W b 26 #[.int .i64 p.f, .int .i64 p.t, .string p.s]) : PkS W (some ⟨b, 0, none⟩) [p] := by
  refine ⟨by simp [maxLen], fun i hi => ⟨b, 0, rfl, fun j u hu => ?_⟩⟩
  have hi0 : i = 0 := by simp at hi; exact hi
  subst hi0
  have := h.cell j
  rw [show 0 + 0 * 3 + j = j by omega, this]
  simpa [Pkt.cs] using hu
abbrev pktA : Pkt := ⟨0, 1, ⟨#[97]⟩⟩
set_option maxRecDepth 100000 in
set_option maxHeartbeats 8000000 in
theorem awake_any {w : World} : Calls Try.prog 12 #[] w fun e W => e = .returned (.bool true) ∧ New w W := by
  go_enter Try.func12, Try.ntmps12
  go_wp2_with fail
  refine new_any.mono ?_
  rintro e W1 ⟨n, X, rfl, h, hN, hX⟩
  go_wp2_with fail
  refine (cut_empty (a := 1) (b := 0) (by decide) (by decide) h rfl (by simp)).mono ?_
  rintro e W2 ⟨rfl, X2, h2, f2, hX2⟩
  have hN2 : New w W2 := hN.trans f2 fun k hk hx => by have := hX k hx; omega
  replace hX2 : ∀ k, X2 k → w.heap.size ≤ k := fun k hk => by
    rcases hX2 k hk with e | e
    · exact hX k e
    · have := hN.size; omega
  clear h hN f2 hX X W1
  go_wp2_with fail
  have hh := Own.fresh W2 26 #[.int .i64 0, .int .i64 1, .string ⟨#[97]⟩]
  refine calls_world (fun W => NetB W n X2 ⟨[], [], [(0, 1)], 0, 0⟩ ∧ PkS W (some ⟨W2.heap.size, 0, none⟩) [pktA] ∧ W2.heap.size < W.heap.size ∧ New w W) ⟨h2.new_ ((Fr.refl _ _).alloc _), pks_one hh, hh.lt, hN2.alloc _⟩ ?_
  have hlt2 := fun k hk => h2.lt (k := k) hk
  clear hh h2 hN2
  rintro W3 ⟨h, hp, hlt, hN⟩
  refine (send_any (l := [pktA]) (cap := 1) h hp (fun a e => by cases e; exact ⟨fun hx => Nat.lt_irrefl _ (hlt2 _ hx), hlt⟩) (by simp) (by simp) (by simp) (by simp) (fun p hp => by simp at hp; subst hp; exact ⟨by decide, by decide, by decide⟩)).mono ?_
  rintro e W4 ⟨rfl, X4, h4, f4, hX4⟩
  rw [show ((⟨[], [], [(0, 1)], 0, 0⟩ : NetV).send [pktA]).1 = ⟨[], [pktA], [(0, 1)], 1, 0⟩ from rfl] at h4
  rw [show ((⟨[], [], [(0, 1)], 0, 0⟩ : NetV).send [pktA]).2 = 0 from rfl]
  have hN4 : New w W4 := hN.trans f4 fun k hk hx => by have := hX2 k hx; omega
  replace hX4 : ∀ k, X4 k → w.heap.size ≤ k := fun k hk => by
    rcases hX4 k hk with e | e
    · exact hX2 k e
    · have := hN.size; omega
  clear h hp hN f4 hX2 hlt hlt2
  go_wp2_with fail
  refine (len_any h4).mono ?_
  rintro e w' ⟨rfl, rfl⟩
  go_wp2_with fail
  refine (waits_any h4).mono ?_
  rintro e w' ⟨rfl, rfl⟩
  go_wp2_with fail
  refine (heal_any h4 (by simp) (by simp) (by simp)).mono ?_
  rintro e W5 ⟨rfl, X5, h5, f5, hX5⟩
  rw [show (⟨[], [pktA], [(0, 1)], 1, 0⟩ : NetV).heal = ⟨[pktA], [], [], 1, 0⟩ from rfl] at h5
  have hN5 : New w W5 := hN4.trans f5 fun k hk hx => by have := hX4 k hx; omega
  replace hX5 : ∀ k, X5 k → w.heap.size ≤ k := fun k hk => by
    rcases hX5 k hk with e | e
    · exact hX4 k e
    · have := hN4.size; omega
  clear h4 hN4 f5
  go_wp2_with fail
  refine (take_in (i := 0) (p := pktA) h5 rfl (by simp)).mono ?_
  rintro e W6 ⟨rfl, h6, f6⟩
  have hN6 : New w W6 := hN5.trans f6 fun k hk hx => by have := hX5 k hx; omega
  clear h5 hN5 f6
  go_wp2_with fail
  refine calls_world (fun W => NetB W n X5 { l := [], w := [], c := [], sent := 1, lost := 0 } ∧ New w W) ⟨h6.new_ ((Fr.refl _ _).alloc _), hN6.alloc _⟩ ?_
  clear h6 hN6
  rintro W7 ⟨h7, hN7⟩
  refine (len_any h7).mono ?_
  rintro e w' ⟨rfl, rfl⟩
  go_wp2_with fail
  refine (waits_any h7).mono ?_
  rintro e w' ⟨rfl, rfl⟩
  go_wp2_with fail
  go_ret
  exact ⟨rfl, hN7⟩
end Go.Proofs.Ytleagdnlgjpcgaa
