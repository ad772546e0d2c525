/- Where the first chunk of a text ends, by the reference: the sum over the last 64 bytes. -/
import Derived.Test.YtjcpdpdhegcgoaaGreatDoorMkCut
namespace Go.Proofs.YtjcpdpdhegcgoaaGreatDoor
open Go.RowKit
set_option linter.unusedVariables false
set_option linter.unusedSimpArgs false

def wB (j : Nat) : W64 := BitVec.ofNat 64 (2 ^ j)
theorem wB_succ (j : Nat) : wB (j + 1) = wB j + wB j := by
  unfold wB
  rw [← BitVec.ofNat_add, Nat.pow_succ]
  congr 1
  omega
theorem wB_64 : wB 64 = 0#64 := by unfold wB; decide
/-- The sum over the last j of the first n bytes. -/
def tlB (s : ByteArray) (n : Nat) : Nat → W64
  | 0 => 0#64
  | j + 1 => tlB s n j + gearB (s.data.toList.getD (n - 1 - j) 0) * wB j
theorem shl1 (x : W64) : x <<< 1 = x + x := by
  apply BitVec.eq_of_toNat_eq
  rw [BitVec.toNat_shiftLeft, BitVec.toNat_add, Nat.shiftLeft_eq]
  congr 1
  omega
theorem hs_tail (s : ByteArray) (n : Nat) : ∀ j, j ≤ n → hsB s n = tlB s n j + hsB s (n - j) * wB j
  | 0, _ => by
    show hsB s n = 0#64 + hsB s n * BitVec.ofNat 64 1
    rw [BitVec.zero_add, BitVec.mul_one]
  | j + 1, h => by
    rw [hs_tail s n j (by omega)]
    obtain ⟨m, rfl⟩ : ∃ m, n = m + 1 + j := ⟨n - 1 - j, by omega⟩
    rw [show m + 1 + j - j = m + 1 by omega, show m + 1 + j - (j + 1) = m by omega]
    show _ = tlB s (m + 1 + j) j + gearB (s.data.toList.getD (m + 1 + j - 1 - j) 0) * wB j + hsB s m * wB (j + 1)
    rw [show m + 1 + j - 1 - j = m by omega, wB_succ]
    show tlB s (m + 1 + j) j + ((hsB s m <<< 1) + gearB (s.data.toList.getD m 0)) * wB j = _
    rw [shl1, BitVec.add_mul, BitVec.add_mul, BitVec.mul_add]
    ac_rfl
theorem tail_all {s : ByteArray} {n j : Nat} (h : j ≤ n) (hj : j = n ∨ j = 64) : tlB s n j = hsB s n := by
  rw [hs_tail s n j h]
  rcases hj with rfl | rfl
  · rw [Nat.sub_self]
    show _ = tlB s j j + 0#64 * _
    rw [BitVec.zero_mul, BitVec.add_zero]
  · rw [wB_64, BitVec.mul_zero, BitVec.add_zero]
theorem cutC : CutC cutB 8192 := ⟨cutB_ok 8192, fun s w _ h => (cut_any (by omega)).mono fun e W p => ⟨p.1, by rw [p.2]; exact Fr.refl _ _⟩⟩
set_option maxRecDepth 100000 in
set_option maxHeartbeats 8000000 in
theorem refCut_any {s : ByteArray} (hz : s.size ≤ 100000) {w : World} : Calls Tryz.prog 55 #[.string s] w fun e W => e = .returned (.int .i64 (cutB s : Nat)) ∧ W = w := by
  by_cases h32 : s.size ≤ 32
  · have hc : cutB s = s.size := by unfold cutB; rw [if_pos h32]
    have h32' : (s.size : Int) ≤ 32 := by omega
    have H := Lib.hid hc
    clear hc
    go_enter Tryz.func55, Tryz.ntmps55
    go_wp2_with fail
    go_ret
    exact ⟨by rw [H.out]; simp, rfl⟩
  have h32' : ¬ (s.size : Int) ≤ 32 := by omega
  have hz' : (s.size : Int) ≤ 100000 := by omega
  go_enter Tryz.func55, Tryz.ntmps55
  go_wp2_with fail
  go_loopw [3, 4, 5, 6] (fun nv hv xv iv wr => ∃ n : Nat, nv = .int .i64 n ∧ 32 ≤ n ∧ n ≤ s.size ∧ n ≤ 512 ∧ wr = w ∧ Hid (∀ k, 32 ≤ k → k < n → goodB s k = false)) (fun nv _ _ _ _ => 600 - (intOf nv).toNat)
  case atStart => exact ⟨32, rfl, by omega, by omega, by omega, rfl, Lib.hid fun k h1 h2 => by omega⟩
  case round =>
    obtain ⟨n, rfl, hn32, hns, hn5, rfl, HK⟩ := hrel
    by_cases hlt : n < s.size ∧ n < 512
    · obtain ⟨h1, h2⟩ := hlt
      have h1' : (n : Int) < (s.size : Int) := by omega
      have h2' : (n : Int) < 512 := by omega
      go_wp2_with fail
      go_loopw [4, 5, 6] (fun hv xv iv wr2 => ∃ j : Nat, hv = U (tlB s n j) ∧ xv = U (wB j) ∧ iv = .int .i64 ((n : Int) - 1 - (j : Int)) ∧ j ≤ n ∧ j ≤ 64 ∧ wr2 = wr) (fun _ _ iv _ => (intOf iv + 1).toNat)
      case atStart => exact ⟨0, rfl, rfl, by simp, by omega, by omega, rfl⟩
      case round =>
        obtain ⟨j, rfl, rfl, rfl, hjn, hj64, rfl⟩ := hrel
        by_cases hj : j < n ∧ j < 64
        · obtain ⟨hj1, hj2⟩ := hj
          obtain ⟨m, hm⟩ : ∃ m, n = m + 1 + j := ⟨n - 1 - j, by omega⟩
          have hmi : (n : Int) - 1 - (j : Int) = (m : Int) := by omega
          have hms : m < s.size := by omega
          have hms' : (m : Int) < (s.size : Int) := by omega
          have hc : s.data.toList.getD m 0 = s[m] := by
            rw [List.getD_eq_getElem?_getD, List.getElem?_eq_getElem (by simpa using hms)]
            rfl
          have hst : tlB s n (j + 1) = tlB s n j + gearB s[m] * wB j := by
            rw [← hc]
            show tlB s n j + gearB (s.data.toList.getD (n - 1 - j) 0) * wB j = _
            rw [show n - 1 - j = m by omega]
          have G := Lib.hid fun (w : World) => refGear_any (b := s[m]) (w := w)
          obtain ⟨g, hg⟩ : ∃ g, g = gearB s[m] := ⟨_, rfl⟩
          obtain ⟨x, hx⟩ : ∃ x, x = wB j := ⟨_, rfl⟩
          obtain ⟨h, hh⟩ : ∃ h, h = tlB s n j := ⟨_, rfl⟩
          rw [← hg] at G hst
          have T := Lib.hid fun (w : World) => times_any (a := g) (b := x) (w := w)
          rw [← hx, ← hh] at hst
          obtain ⟨p, hp⟩ : ∃ p, p = g * x := ⟨_, rfl⟩
          obtain ⟨h', hh'⟩ : ∃ h', h' = h + p := ⟨_, rfl⟩
          obtain ⟨x', hx'⟩ : ∃ x', x' = x + x := ⟨_, rfl⟩
          rw [← hp] at T hst
          rw [← hh'] at hst
          have hw : wB (j + 1) = x' := by rw [wB_succ, ← hx, hx']
          have e1 : IntKind.u64.wrap ((h.toNat : Int) + (p.toNat : Int)) = (h'.toNat : Int) := by rw [IntKind.wrap_u64, hh']; exact badd_ h p
          have e2 : IntKind.u64.wrap ((x.toNat : Int) + (x.toNat : Int)) = (x'.toNat : Int) := by rw [IntKind.wrap_u64, hx']; exact badd_ x x
          have HS := Lib.hid hst
          have HW := Lib.hid hw
          have hm' := Lib.hid hm
          have hn' : (n : Int) - 1 - (m : Int) = (j : Int) := by omega
          have hj3 : (j : Int) < 64 := by omega
          have hm0 : 0 ≤ (m : Int) := by omega
          rw [← hx, ← hh, hmi]
          unfold U at G T ⊢
          have hb := blt h
          have hb2 := blt p
          have hb3 := blt x
          have hb4 := blt g
          clear hst hw hp hh' hx' hx hh hg hc hm
          go_wp2_with fail
          refine (G.out _).mono ?_
          rintro e w' ⟨rfl, rfl⟩
          go_wp2_with fail
          refine (T.out _).mono ?_
          rintro e w' ⟨rfl, rfl⟩
          go_wp2_with fail
          have hm := hm'.out
          refine ⟨⟨j + 1, by rw [HS.out], by rw [HW.out], by congr 1; omega, by omega, by omega, by trivial⟩, by simp [intOf]⟩
        · have hres := Lib.hid (tail_all (s := s) hjn (by omega))
          obtain ⟨h, hh⟩ : ∃ h, h = tlB s n j := ⟨_, rfl⟩
          rw [← hh] at hres ⊢
          unfold U
          have hb := blt h
          obtain ⟨q, hq⟩ : ∃ q, q = h.toNat / 4294967296 % 128 := ⟨_, rfl⟩
          have hqi : (h.toNat : Int) / 4294967296 % 128 = (q : Int) := by omega
          have hgd : Hid (goodB s n = decide (q = 0)) := Lib.hid (by unfold goodB; rw [← hres.out, hq])
          have HA := Lib.hid (cutB_at (s := s) (by omega) n hn32 hns hn5 HK.out)
          have HN := Lib.hid (show goodB s n = false → ∀ k, 32 ≤ k → k < n + 1 → goodB s k = false from fun hx k hk1 hk2 => by
            by_cases e : k < n
            · exact HK.out k hk1 e
            · have : k = n := by omega
              subst this
              exact hx)
          obtain ⟨i, hi⟩ : ∃ i : Int, i = (n : Int) - 1 - (j : Int) := ⟨_, rfl⟩
          have hcs : (¬ (0 : Int) ≤ i) ∨ ((0 : Int) ≤ i ∧ (n : Int) - 1 - i = 64) := by omega
          have hib : -1 ≤ i := by omega
          have hib2 : i ≤ 512 := by omega
          rw [← hi]
          clear hq hh hi hj hjn hj64 hres h32 h32' hz hz'
          have H1 := Lib.hid h1
          have H2 := Lib.hid h2
          clear h1 h2
          by_cases hq0 : q = 0
          · have HC := Lib.hid (HA.out (.inl (by rw [hgd.out, hq0]; rfl)))
            subst hq0
            rcases hcs with hi0 | ⟨hi0, hi1⟩
            · have hd : decide ((0 : Int) ≤ i) = false := by rw [decide_eq_false_iff_not]; exact hi0
              go_wp2_with (rw [if_neg hi0])
              go_ret
              exact ⟨by rw [HC.out]; simp, rfl⟩
            · go_wp2_with fail
              go_ret
              exact ⟨by rw [HC.out]; simp, rfl⟩
          · have hqb : ((q : Int) == 0) = false := by rw [beq_eq_false_iff_ne]; omega
            have HF := Lib.hid (HN.out (by rw [hgd.out, decide_eq_false_iff_not]; exact hq0))
            rcases hcs with hi0 | ⟨hi0, hi1⟩
            · go_wp2_with (rw [if_neg hi0])
              have H1 := H1.out
              have H2 := H2.out
              exact ⟨⟨n + 1, by go_num, by omega, by omega, by omega, by trivial, HF⟩, by simp [intOf]; omega⟩
            · go_wp2_with fail
              have H1 := H1.out
              have H2 := H2.out
              exact ⟨⟨n + 1, by go_num, by omega, by omega, by omega, by trivial, HF⟩, by simp [intOf]; omega⟩
    · have hm : n = s.size ∨ n = 512 := by omega
      have hres := Lib.hid (cutB_at (s := s) (by omega) n (by omega) hns hn5 HK.out (.inr hm))
      by_cases h1 : n < s.size
      · have h1' : (n : Int) < (s.size : Int) := by omega
        have h2' : ¬ (n : Int) < 512 := by omega
        have h3' : ¬ (s.size : Int) < 512 := by omega
        obtain rfl : n = 512 := by omega
        clear hlt hm
        go_wp2_with fail
        go_ret
        exact ⟨by rw [hres.out]; simp, rfl⟩
      · obtain rfl : n = s.size := by omega
        have h1' : ¬ (s.size : Int) < (s.size : Int) := by omega
        clear hlt hm h1
        have hh := Lib.hid h32
        clear h32
        by_cases h3 : s.size < 512
        · have h3' : (s.size : Int) < 512 := by omega
          go_wp2_with fail
          go_ret
          exact ⟨by rw [hres.out]; simp, rfl⟩
        · have h3' : ¬ (s.size : Int) < 512 := by omega
          have h4 := Lib.hid (show s.size = 512 by omega)
          go_wp2_with fail
          go_ret
          exact ⟨by rw [hres.out, h4.out]; simp, rfl⟩
end Go.Proofs.YtjcpdpdhegcgoaaGreatDoor
