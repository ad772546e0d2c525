/- Where the first chunk of a text ends: the program's Cut, the reference's. -/
import Derived.Test.YtjcpdpdhegcgoaaGreatDoorMkGear
import Derived.Test.YtjcpdpdhegcgoaaGreatDoorMkChunk
namespace Go.Proofs.YtjcpdpdhegcgoaaGreatDoor
open Go.RowKit
set_option linter.unusedVariables false
set_option linter.unusedSimpArgs false

/-- The sum behind the first n bytes. -/
def hsB (s : ByteArray) : Nat → W64
  | 0 => 0#64
  | n + 1 => (hsB s n <<< 1) + gearB (s.data.toList.getD n 0)
def goodB (s : ByteArray) (n : Nat) : Bool := decide ((hsB s n).toNat / 4294967296 % 128 = 0)
def cutG (s : ByteArray) : Nat → Nat → Nat
  | 0, n => n
  | f + 1, n => if goodB s n = true then n else cutG s f (n + 1)
def cutB (s : ByteArray) : Nat := if s.size ≤ 32 then s.size else cutG s (min s.size 512 - 32) 32
theorem cutG_le (s : ByteArray) : ∀ (f n : Nat), n ≤ cutG s f n ∧ cutG s f n ≤ n + f
  | 0, n => ⟨Nat.le_refl _, Nat.le_refl _⟩
  | f + 1, n => by
    unfold cutG
    split
    · omega
    · have := cutG_le s f (n + 1)
      omega
theorem cutG_first (s : ByteArray) : ∀ (f n m : Nat), n ≤ m → m ≤ n + f → (∀ k, n ≤ k → k < m → goodB s k = false) → (goodB s m = true ∨ m = n + f) → cutG s f n = m
  | 0, n, m, h1, h2, h3, h4 => by
    unfold cutG
    omega
  | f + 1, n, m, h1, h2, h3, h4 => by
    unfold cutG
    by_cases e : n = m
    · subst e
      rcases h4 with h | h
      · rw [if_pos h]
      · omega
    · rw [if_neg (by rw [h3 n (Nat.le_refl _) (by omega)]; decide)]
      exact cutG_first s f (n + 1) m (by omega) (by omega) (fun k hk1 hk2 => h3 k (by omega) hk2) (h4.imp id (by omega))
theorem cutB_ok (m : Nat) : CutOk cutB m where
  pos := fun s h _ => by
    unfold cutB
    split
    · exact h
    · have := cutG_le s (min s.size 512 - 32) 32
      omega
  le := fun s _ => by
    unfold cutB
    split
    · exact Nat.le_refl _
    · have := cutG_le s (min s.size 512 - 32) 32
      omega
theorem cutB_at {s : ByteArray} (h : 32 < s.size) (m : Nat) (h1 : 32 ≤ m) (h2 : m ≤ s.size) (h3 : m ≤ 512) (h4 : ∀ k, 32 ≤ k → k < m → goodB s k = false) (h5 : goodB s m = true ∨ m = s.size ∨ m = 512) : cutB s = m := by
  unfold cutB
  rw [if_neg (by omega)]
  exact cutG_first s _ 32 m h1 (by omega) h4 (by
    rcases h5 with h | h | h
    · exact .inl h
    · exact .inr (by omega)
    · exact .inr (by omega))
set_option maxRecDepth 100000 in
set_option maxHeartbeats 8000000 in
theorem cut_any {s : ByteArray} (hz : s.size ≤ 100000) {w : World} : Calls Tryz.prog 73 #[.string s] w fun e W => e = .returned (.int .i64 (cutB s : Nat)) ∧ W = w := by
  by_cases h32 : s.size ≤ 32
  · have : cutB s = s.size := by unfold cutB; rw [if_pos h32]
    rw [this]
    exact cut_small h32
  have h32' : ¬ (s.size : Int) ≤ 32 := by omega
  have hz' : (s.size : Int) ≤ 100000 := by omega
  go_enter Tryz.func73, Tryz.ntmps73
  go_wp2_with fail
  go_loopw [3, 4] (fun hv iv wr => ∃ i : Nat, hv = U (hsB s i) ∧ iv = .int .i64 i ∧ i ≤ s.size ∧ i ≤ 512 ∧ wr = w ∧ Hid (∀ k, 32 ≤ k → k ≤ i → goodB s k = false)) (fun _ iv _ => 600 - (intOf iv).toNat)
  case atStart => exact ⟨0, rfl, rfl, Nat.zero_le _, by omega, rfl, Lib.hid fun k h1 h2 => by omega⟩
  case round =>
    obtain ⟨i, rfl, rfl, his, hi5, rfl, HK⟩ := hrel
    by_cases hlt : i < s.size ∧ i < 512
    · obtain ⟨h1, h2⟩ := hlt
      have h1' : (i : Int) < (s.size : Int) := by omega
      have h2' : (i : Int) < 512 := by omega
      have hc : s.data.toList.getD i 0 = s[i] := by
        rw [List.getD_eq_getElem?_getD, List.getElem?_eq_getElem (by simpa using h1)]
        rfl
      obtain ⟨h, hh⟩ : ∃ h, h = hsB s i := ⟨_, rfl⟩
      obtain ⟨g, hg⟩ : ∃ g, g = gearB s[i] := ⟨_, rfl⟩
      obtain ⟨h2, hh2⟩ : ∃ h2, h2 = h <<< 1 := ⟨_, rfl⟩
      obtain ⟨h', hh'⟩ : ∃ h', h' = h2 + g := ⟨_, rfl⟩
      have hstep : hsB s (i + 1) = h' := by rw [hh', hh2, hg, hh, ← hc]; rfl
      have e1 : IntKind.u64.wrap ((h.toNat : Int) * 2) = (h2.toNat : Int) := by rw [IntKind.wrap_u64, hh2]; exact bshl_ h 1
      have e2 : IntKind.u64.wrap ((h2.toNat : Int) + (g.toNat : Int)) = (h'.toNat : Int) := by rw [IntKind.wrap_u64, hh']; exact badd_ h2 g
      obtain ⟨q, hq⟩ : ∃ q, q = h'.toNat / 4294967296 % 128 := ⟨_, rfl⟩
      have e3 : bits .and .u64 ((h'.toNat : Int) / 4294967296) 127 = (q : Int) := by
        have hl := h'.isLt
        have := u64_and_nat (h'.toNat / 4294967296) 127 (by omega) (by omega)
        rw [show ((127 : Nat) : Int) = 127 from rfl] at this
        rw [hq, ← Nat.and_two_pow_sub_one_eq_mod _ 7]
        rw [← this]
        simp
      have hgd : goodB s (i + 1) = decide (q = 0) := by unfold goodB; rw [hstep, hq]
      have G := Lib.hid (gear_any (b := s[i]) (w := wr))
      rw [← hg] at G
      have HS := Lib.hid hstep
      have HG := Lib.hid hgd
      rw [← hh]
      have hb := blt h
      have hb2 := blt h2
      have hb3 := blt g
      have hb4 := blt h'
      clear hh hg hh2 hh' hstep hgd hq hc
      unfold U at G ⊢
      have nxt : (i + 1 < 32 ∨ ¬ q = 0) → ∀ k, 32 ≤ k → k ≤ i + 1 → goodB s k = false := fun hx k hk1 hk2 => by
        by_cases e : k ≤ i
        · exact HK.out k hk1 e
        · have : k = i + 1 := by omega
          subst this
          rw [HG.out, decide_eq_false_iff_not]
          omega
      by_cases c32 : 32 ≤ i + 1
      · have c32' : (32 : Int) ≤ (i : Int) + 1 := by omega
        by_cases hq0 : q = 0
        · have hres := Lib.hid (cutB_at (s := s) (by omega) (i + 1) c32 (by omega) (by omega) (fun k hk1 hk2 => HK.out k hk1 (by omega)) (.inl (by rw [HG.out, hq0]; rfl)))
          subst hq0
          clear nxt
          go_wp2_with fail
          refine G.out.mono ?_
          rintro e w' ⟨rfl, rfl⟩
          go_wp2_with fail
          go_ret
          exact ⟨by rw [hres.out]; simp, rfl⟩
        · have hqb : ((q : Int) == 0) = false := by rw [beq_eq_false_iff_ne]; omega
          have HN := Lib.hid (nxt (.inr hq0))
          clear nxt
          go_wp2_with fail
          refine G.out.mono ?_
          rintro e w' ⟨rfl, rfl⟩
          go_wp2_with fail
          refine ⟨⟨i + 1, by rw [HS.out], by go_num, by omega, by omega, by trivial, HN⟩, by simp [intOf]; omega⟩
      · have c32' : ¬ (32 : Int) ≤ (i : Int) + 1 := by omega
        have HN := Lib.hid (nxt (.inl (by omega)))
        have hHI := Lib.hid (show i + 1 < 32 by omega)
        clear nxt h32' h32 c32
        go_wp2_with fail
        refine G.out.mono ?_
        rintro e w' ⟨rfl, rfl⟩
        go_wp2_with (rw [if_neg (show ¬ (32 : Int) ≤ (i : Int) + 1 by omega)])
        have hHI := hHI.out
        refine ⟨⟨i + 1, by rw [HS.out], by go_num, by omega, by omega, by trivial, HN⟩, by simp [intOf]; omega⟩
    · have hm : i = s.size ∨ i = 512 := by omega
      have hres := Lib.hid (cutB_at (s := s) (by omega) i (by omega) his hi5 (fun k hk1 hk2 => HK.out k hk1 (by omega)) (.inr hm))
      unfold U
      by_cases h1 : i < s.size
      · have h1' : (i : Int) < (s.size : Int) := by omega
        have h2' : ¬ (i : Int) < 512 := by omega
        have h3' : (512 : Int) ≤ (s.size : Int) := by omega
        obtain rfl : i = 512 := by omega
        clear hlt hm
        go_wp2_with fail
        go_ret
        exact ⟨by rw [hres.out]; simp, rfl⟩
      · obtain rfl : i = s.size := by omega
        have h1' : ¬ (s.size : Int) < (s.size : Int) := by omega
        have h3' : (s.size : Int) ≤ 512 := by omega
        clear hlt hm h1
        go_wp2_with fail
        go_ret
        exact ⟨by rw [hres.out]; simp, rfl⟩
end Go.Proofs.YtjcpdpdhegcgoaaGreatDoor
