/- The way up from a chunk's digest, where it does not show: an error that holds a fault of number 90. -/
import Derived.Test.YtjcpdpdhegcgoaaGreatDoorMkUp
import Derived.Test.YtjcpdpdhegcgoaaGreatDoorMkErr
namespace Go.Proofs.YtjcpdpdhegcgoaaGreatDoor
open Go.RowKit
set_option linter.unusedVariables false
set_option linter.unusedSimpArgs false

theorem splitF_pow : ∀ f j n : Nat, n ≤ 2 ^ j + f → 2 ^ j < n → ∃ j', splitF f (2 ^ j) n = 2 ^ j' ∧ n ≤ 2 * 2 ^ j' ∧ 2 ^ j' < n
  | 0, j, n, h1, h2 => by omega
  | f + 1, j, n, h1, h2 => by
    unfold splitF
    by_cases h : 2 * 2 ^ j < n
    · rw [if_pos h]
      have e : 2 * 2 ^ j = 2 ^ (j + 1) := by rw [Nat.pow_succ]; omega
      have hp : 0 < 2 ^ j := Nat.pow_pos (by omega)
      rw [e]
      exact splitF_pow f (j + 1) n (by omega) (by omega)
    · rw [if_neg h]
      exact ⟨j, rfl, by omega, h2⟩
theorem splitN_half {n k : Nat} (h2 : 2 ≤ n) (hk : n ≤ 2 ^ (k + 1)) : splitN n ≤ 2 ^ k ∧ n - splitN n ≤ 2 ^ k := by
  obtain ⟨j, e, h3, h4⟩ := splitF_pow n 0 n (by omega) (by simp; omega)
  have e' : splitN n = 2 ^ j := e
  rw [e']
  have hj : j < k + 1 := (Nat.pow_lt_pow_iff_right (a := 2) (by omega)).1 (Nat.lt_of_lt_of_le h4 hk)
  have := Nat.pow_le_pow_right (n := 2) (by omega) (show j ≤ k by omega)
  exact ⟨this, by omega⟩
theorem upB_short : ∀ (k : Nat) (h : ByteArray) (i n : Nat) (p : List ByteArray) (u : ByteArray), 1 ≤ n → n ≤ 2 ^ k → upB h i n p = some u → p.length ≤ k
  | k, h, i, n, p, u, h1, h2, hu => by
    by_cases hn : n = 1
    · subst hn
      rw [upB_one] at hu
      split at hu
      · omega
      · cases hu
    · match k, h2 with
      | 0, h2 => simp at h2; omega
      | k + 1, h2 =>
        have hs := splitN_half (n := n) (by omega) h2
        have hl := splitN_lt (n := n) (by omega)
        rw [upB_step h i n p (by omega)] at hu
        split at hu
        · cases hu
        rename_i hp0
        split at hu
        · split at hu
          · obtain ⟨a, ha, _⟩ := Option.map_eq_some_iff.1 hu
            have := upB_short k h i (splitN n) _ a (by omega) hs.1 ha
            simp only [List.length_take] at this
            omega
          · obtain ⟨a, ha, _⟩ := Option.map_eq_some_iff.1 hu
            have := upB_short k h (i - splitN n) (n - splitN n) _ a (by omega) hs.2 ha
            simp only [List.length_take] at this
            omega
        · cases hu
set_option maxRecDepth 100000 in
set_option maxHeartbeats 16000000 in
theorem climb_bad : ∀ (m : Nat) (h : ByteArray) (i n : Nat) (P : Option Addr) (q cap : Nat) (p : List ByteArray) (w : World), n ≤ m → 1 ≤ n → n ≤ 1000 → i ≤ 1000 → SlT w P q p → q ≤ cap → cap ≤ maxLen → upB h i n p = none →
    Calls Tryz.prog 68 #[.string h, .int .i64 i, .int .i64 n, .slice P q cap] w fun e W => ∃ d v, e = .returned (.tuple #[.string ⟨#[]⟩, v]) ∧ ErrT W d v ∧ New w W := by
  intro m
  induction m with
  | zero => intro h i n P q cap p w hm h1; omega
  | succ m ih =>
    intro h i n P q cap p w hm h1 hn hi hl hc hc2 hu
    have hql := hl.1
    have hmx : cap ≤ 9223372036854775807 := hc2
    have hqm : (q : Int) ≤ 9223372036854775807 := by omega
    by_cases hn1 : n = 1
    · subst hn1
      rw [upB_one] at hu
      split at hu
      · cases hu
      rename_i h0
      have hq0 : ¬ (q : Int) = 0 := by omega
      clear hql h0 hu
      go_enter Tryz.func68, Tryz.ntmps68
      go_wp2_with fail
      go_ret2
      exact ⟨0, _, rfl, ⟨_, _, rfl, Own.fresh _ _ _⟩, (Fr.refl _ _).alloc _⟩
    have hn2 : ¬ (n : Int) = 1 := by omega
    by_cases hq0 : q = 0
    · subst hq0
      clear hql hu
      go_enter Tryz.func68, Tryz.ntmps68
      go_wp2_with fail
      go_ret2
      exact ⟨0, _, rfl, ⟨_, _, rfl, Own.fresh _ _ _⟩, (Fr.refl _ _).alloc _⟩
    have hqz : ¬ (q : Int) = 0 := by omega
    obtain ⟨b, o, hA, hc0⟩ := hl.2.2 (q - 1) (by omega)
    subst hA
    have c0 := hc0 0 _ rfl
    simp only [Nat.mul_one, Nat.add_zero] at c0
    obtain ⟨x, hx⟩ : ∃ x, x = p.getD (q - 1) .empty := ⟨_, rfl⟩
    rw [← hx] at c0
    rw [upB_step h i n p (by omega), if_neg (by omega), ← hql, ← hx] at hu
    obtain ⟨q', hq'⟩ : ∃ q', q' = q - 1 := ⟨q - 1, rfl⟩
    rw [← hq'] at c0 hu
    have hqi : (q : Int) - 1 = (q' : Int) := by omega
    have hqq : (q' : Int) < (q : Int) := by omega
    have hqc : (q' : Int) ≤ (cap : Int) := by omega
    clear hx hc0
    by_cases hx32 : x.size = 32
    case neg =>
      have hx32' : ¬ (x.size : Int) = 32 := by omega
      have hx32b : ((x.size : Int) != 32) = true := bne_iff_ne.2 hx32'
      clear hu hq' hql hqz hx32
      have hqz : ¬ (q : Int) = 0 := by omega
      go_enter Tryz.func68, Tryz.ntmps68
      go_wp2_with fail
      go_ret2
      exact ⟨0, _, rfl, ⟨_, _, rfl, Own.fresh _ _ _⟩, (Fr.refl _ _).alloc _⟩
    rw [if_pos hx32] at hu
    have hx32' : (x.size : Int) = 32 := by omega
    have hs := splitN_lt (n := n) (by omega)
    have S1 := Lib.hid fun (w : World) => split_any n (by omega) w
    obtain ⟨k, hk⟩ : ∃ k, k = splitN n := ⟨_, rfl⟩
    rw [← hk] at S1 hs hu
    have hn3 : (n : Int) ≤ 1000 := by omega
    have hi3 : (i : Int) ≤ 1000 := by omega
    have hkn : (k : Int) < (n : Int) := by omega
    have hT : SlT w (some ⟨b, o, none⟩) q' (p.take q') := hl.take (by omega)
    have HT := Lib.hid hT
    have HK := Lib.hid hs
    clear hk hql hl hq' hx32 hT hq0
    by_cases hik : i < k
    · have hik' : (i : Int) < (k : Int) := by omega
      rw [if_pos hik, Option.map_eq_none_iff] at hu
      have IH := Lib.hid (ih h i k (some ⟨b, o, none⟩) q' cap (p.take q') w (by omega) (by omega) (by omega) (by omega) HT.out (by omega) hc2 hu)
      clear ih hu hik
      go_enter Tryz.func68, Tryz.ntmps68
      go_wp2_with fail
      refine (S1.out _).mono ?_
      rintro e w1 ⟨rfl, rfl⟩
      go_wp2_with fail
      refine IH.out.mono ?_
      rintro e w2 ⟨d, v, rfl, t2, n2⟩
      obtain ⟨ty, u, rfl⟩ := t2.form
      have H2 := Lib.hid (And.intro t2 n2)
      clear t2 n2 c0
      go_wp2_with fail
      refine er_new.mono ?_
      rintro e w3 ⟨s, rfl, n3⟩
      have H3 := Lib.hid (And.intro (ErrT.new_ n3 _ _ H2.out.1) (H2.out.2.new_ n3))
      clear n3 H2
      go_wp2_with fail
      refine (er_join (Own.fresh w3 65 #[.iface 150 (.pointer (some ⟨s, 0, none⟩)), .iface ty u])).mono ?_
      rintro e w4 ⟨bj, vj, rfl, hj, hr, n4⟩
      have n5 := ((Fr.refl (fun _ => False) w3).alloc (.cells #[.iface 150 (.pointer (some ⟨s, 0, none⟩)), .iface ty u] 65)).new_ n4
      have H4 := Lib.hid (show ErrT w4 (d + 1) (.iface 147 (.pointer (some ⟨bj, 0, none⟩))) from ⟨bj, vj, s, _, rfl, hj, hr, ErrT.new_ n5 _ _ H3.out.1⟩)
      have N4 := Lib.hid (H3.out.2.new_ n5)
      clear hj hr n4 n5 H3
      go_wp2_with fail
      go_ret2
      exact ⟨d + 1, _, rfl, H4.out, N4.out⟩
    · have hik' : ¬ (i : Int) < (k : Int) := by omega
      rw [if_neg hik, Option.map_eq_none_iff] at hu
      obtain ⟨j, hj⟩ : ∃ j, j = i - k := ⟨_, rfl⟩
      obtain ⟨n', hn'⟩ : ∃ n', n' = n - k := ⟨_, rfl⟩
      rw [← hj, ← hn'] at hu
      have hji : (i : Int) - (k : Int) = (j : Int) := by omega
      have hni : (n : Int) - (k : Int) = (n' : Int) := by omega
      have IH := Lib.hid (ih h j n' (some ⟨b, o, none⟩) q' cap (p.take q') w (by omega) (by omega) (by omega) (by omega) HT.out (by omega) hc2 hu)
      clear ih hu hik hj hn'
      go_enter Tryz.func68, Tryz.ntmps68
      go_wp2_with fail
      refine (S1.out _).mono ?_
      rintro e w1 ⟨rfl, rfl⟩
      go_wp2_with fail
      refine IH.out.mono ?_
      rintro e w2 ⟨d, v, rfl, t2, n2⟩
      obtain ⟨ty, u, rfl⟩ := t2.form
      have H2 := Lib.hid (And.intro t2 n2)
      clear t2 n2 c0
      go_wp2_with fail
      refine er_new.mono ?_
      rintro e w3 ⟨s, rfl, n3⟩
      have H3 := Lib.hid (And.intro (ErrT.new_ n3 _ _ H2.out.1) (H2.out.2.new_ n3))
      clear n3 H2
      go_wp2_with fail
      refine (er_join (Own.fresh w3 65 #[.iface 150 (.pointer (some ⟨s, 0, none⟩)), .iface ty u])).mono ?_
      rintro e w4 ⟨bj, vj, rfl, hj, hr, n4⟩
      have n5 := ((Fr.refl (fun _ => False) w3).alloc (.cells #[.iface 150 (.pointer (some ⟨s, 0, none⟩)), .iface ty u] 65)).new_ n4
      have H4 := Lib.hid (show ErrT w4 (d + 1) (.iface 147 (.pointer (some ⟨bj, 0, none⟩))) from ⟨bj, vj, s, _, rfl, hj, hr, ErrT.new_ n5 _ _ H3.out.1⟩)
      have N4 := Lib.hid (H3.out.2.new_ n5)
      clear hj hr n4 n5 H3
      go_wp2_with fail
      go_ret2
      exact ⟨d + 1, _, rfl, H4.out, N4.out⟩
end Go.Proofs.YtjcpdpdhegcgoaaGreatDoor
