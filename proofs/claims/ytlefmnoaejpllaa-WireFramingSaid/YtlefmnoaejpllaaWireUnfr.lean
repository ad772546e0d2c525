/- Frames: Unframe of both programs. -/
import Derived.Test.YtlefmnoaejpllaaWireFrame
import Derived.OwnWalk
namespace Go.Proofs.Ytlefmnoaejpllaa
open Go.RowKit
set_option linter.unusedVariables false

theorem unfr_of {s z : ByteArray} {at_ : Int} {r1 r2 r3 : Rd} {n : Int} {m : Nat} {t : ByteArray} (hz : s.extract at_.toNat s.size = z) (h0 : ¬ (at_ < 0 ∨ s.size < at_)) (h1 : rCount ⟨z, 0, 0⟩ 2147483647 = (r1, n)) (h2 : rNumber r1 4 = (r2, m)) (h3 : rBytes r2 n = (r3, t)) :
    unfr s at_ = if r3.err = 0 then if m = sumB t then (t, at_ + r3.pos, 0) else (.empty, 0, 6) else (.empty, 0, r3.err) := by
  unfold unfr
  rw [if_neg h0, hz]
  simp only [h1, h2, h3]
theorem newReader2 (s : ByteArray) (w : World) : Calls Try.prog 30 #[.string s] w fun e w' => e = .returned (.pointer (some ⟨w.heap.size, 0, none⟩)) ∧ OwnR w' w.heap.size ⟨s, 0, 0⟩ ∧ New w w' := by
  refine (newReader_any s w).mono ?_
  rintro e w2 ⟨rfl, h2⟩
  exact ⟨rfl, by rw [h2]; exact OwnR.fresh _ _, by rw [h2]; exact (Fr.refl _ _).alloc _⟩

set_option maxRecDepth 100000 in
set_option maxHeartbeats 2000000 in
theorem unframe_any (s : ByteArray) (hs : s.size ≤ 140737488351232) (at_ : Int) (w : World) : Calls Try.prog 54 #[.string s, .int .i64 at_] w fun e w' => e = .returned (.tuple #[.string (unfr s at_).1, .int .i64 (unfr s at_).2.1, .int .i64 (unfr s at_).2.2]) ∧ New w w' := by
  by_cases h0 : at_ < 0 ∨ s.size < at_
  · have HU : Hid (unfr s at_ = (.empty, 0, 1)) := if_pos h0
    rcases (by omega : at_ < 0 ∨ (¬ at_ < 0 ∧ (s.size : Int) < at_)) with h1 | ⟨h1, h2⟩
    all_goals
      clear h0
      go_enter Try.func54, Try.ntmps54
      go_wp2
      go_ret3
      rw [HU.out]
      exact ⟨rfl, by repeat (first | with_reducible exact Fr.refl _ _ | with_reducible assumption | with_reducible refine Fr.drew ?_ | with_reducible refine Fr.drewN ?_ _ | with_reducible refine Fr.alloc ?_ _ | with_reducible refine Fr.set ?_ (by first | exact fun _ => rfl | (intro hlt; exfalso; simp at hlt; try omega) | (simp; omega)) _ | with_reducible refine Fr.new_ ?_ (by assumption))⟩
  · obtain ⟨z, hz⟩ : ∃ z, s.extract at_.toNat s.size = z := ⟨_, rfl⟩
    have hzs : z.size ≤ s.size - at_.toNat := by rw [← hz, ByteArray.size_extract]; omega
    obtain ⟨r1, r2, r3, n, m, t, h1, h2, h3, k1, k2, k3, s1, s2, s3, n0, n1, ht, he, hp, hp0⟩ := unfr_steps z (by omega)
    have hU := unfr_of hz h0 h1 h2 h3
    have hrd : Rd.ok ⟨z, 0, 0⟩ := ⟨by simp only; omega, by simp, by simp⟩
    have HC := Lib.hid (fun ww (hh : OwnR ww w.heap.size ⟨z, 0, 0⟩) => count_any hh hrd 2147483647 (by omega))
    have HN := Lib.hid (fun ww (hh : OwnR ww w.heap.size r1) => rdNumber_any hh k1 4)
    have HB := Lib.hid (fun ww (hh : OwnR ww w.heap.size r2) => bytes_any hh k2 n (by omega))
    rw [h1] at HC
    rw [h2] at HN
    rw [h3] at HB
    have HZ := Lib.hid hz
    have ha0 : ¬ at_ < 0 := by omega
    have ha1 : ¬ (s.size : Int) < at_ := by omega
    obtain ⟨rs, rp, re⟩ := r3
    simp only at hU s3 he hp hp0
    subst s3
    clear hz h0 h1 h2 h3 k1 k2 k3 hrd s1 s2
    by_cases hre : re = 0
    · subst hre
      obtain ⟨hn, hm⟩ := he rfl
      subst hn
      rw [if_pos rfl] at hU
      have HM := Lib.hid (number4 t.size (by omega))
      have hnz := numB_size 4 t.size
      have HF := Lib.hid (fnv_any (numB 4 t.size ++ t) (by simp [hnz]; omega))
      rw [show fnvB (numB 4 t.size ++ t) = sumB t from rfl] at HF
      have hlt := sumB_lt t
      obtain ⟨nb, hnb⟩ : ∃ nb, numB 4 t.size = nb := ⟨_, rfl⟩
      rw [hnb] at hnz HM HF
      obtain ⟨h, hh⟩ : ∃ h, sumB t = h := ⟨_, rfl⟩
      rw [hh] at HF hU hlt
      clear hnb hh he
      have hc : (m = h ∧ ((h : Int) != (m : Int)) = false) ∨ (m ≠ h ∧ ((h : Int) != (m : Int)) = true) := by
        by_cases e : m = h
        · exact .inl ⟨e, by simp [e]⟩
        · exact .inr ⟨e, by simp; omega⟩
      rcases hc with ⟨e1, e2⟩ | ⟨e1, e2⟩
      · rw [if_pos e1] at hU
        have HU := Lib.hid hU
        clear hU e1
        go_enter Try.func54, Try.ntmps54
        go_wp2_with fail
        rw [HZ.out]
        refine (newReader2 _ _).mono ?_
        rintro e w2 ⟨rfl, o2, g2⟩
        go_wp2_with fail
        refine (HC.out _ o2).mono ?_
        rintro e w3 ⟨rfl, o3, g3⟩
        go_wp2_with fail
        refine (HN.out _ o3).mono ?_
        rintro e w4 ⟨rfl, o4, g4⟩
        go_wp2_with fail
        refine (HB.out _ o4).mono ?_
        rintro e w5 ⟨rfl, o5, g5⟩
        have g := Fr.into (Fr.into (Fr.into g2 g3 (Nat.le_refl _)) g4 (Nat.le_refl _)) g5 (Nat.le_refl _)
        clear g2 g3 g4 g5 o2 o3 o4
        go_wp2_with fail
        refine (err_any o5).mono ?_
        rintro e wq ⟨rfl, rfl⟩
        go_wp2_with fail
        refine (HM.out _).mono ?_
        rintro e w6 ⟨rfl, g6⟩
        have o6 : OwnR w6 w.heap.size ⟨rs, rp, 0⟩ := Own.new_ o5 g6
        go_wp2_with fail
        refine (HF.out _).mono ?_
        rintro e wq ⟨rfl, rfl⟩
        go_wp2_with fail
        refine (at_any o6).mono ?_
        rintro e wq ⟨rfl, rfl⟩
        go_wp2
        go_ret3
        rw [HU.out]
        exact ⟨rfl, Fr.new_ g g6⟩
      · rw [if_neg e1] at hU
        have HU := Lib.hid hU
        clear hU e1
        go_enter Try.func54, Try.ntmps54
        go_wp2_with fail
        rw [HZ.out]
        refine (newReader2 _ _).mono ?_
        rintro e w2 ⟨rfl, o2, g2⟩
        go_wp2_with fail
        refine (HC.out _ o2).mono ?_
        rintro e w3 ⟨rfl, o3, g3⟩
        go_wp2_with fail
        refine (HN.out _ o3).mono ?_
        rintro e w4 ⟨rfl, o4, g4⟩
        go_wp2_with fail
        refine (HB.out _ o4).mono ?_
        rintro e w5 ⟨rfl, o5, g5⟩
        have g := Fr.into (Fr.into (Fr.into g2 g3 (Nat.le_refl _)) g4 (Nat.le_refl _)) g5 (Nat.le_refl _)
        clear g2 g3 g4 g5 o2 o3 o4
        go_wp2_with fail
        refine (err_any o5).mono ?_
        rintro e wq ⟨rfl, rfl⟩
        go_wp2_with fail
        refine (HM.out _).mono ?_
        rintro e w6 ⟨rfl, g6⟩
        go_wp2_with fail
        refine (HF.out _).mono ?_
        rintro e wq ⟨rfl, rfl⟩
        go_wp2
        go_ret3
        rw [HU.out]
        exact ⟨rfl, Fr.new_ g g6⟩
    · rw [if_neg hre] at hU
      have hrz : (re == 0) = false := by rw [beq_eq_false_iff_ne]; exact hre
      have hrz2 : (re != 0) = true := by rw [bne, hrz]; rfl
      have HU := Lib.hid hU
      clear hU hre he
      go_enter Try.func54, Try.ntmps54
      go_wp2_with fail
      rw [HZ.out]
      refine (newReader2 _ _).mono ?_
      rintro e w2 ⟨rfl, o2, g2⟩
      go_wp2_with fail
      refine (HC.out _ o2).mono ?_
      rintro e w3 ⟨rfl, o3, g3⟩
      go_wp2_with fail
      refine (HN.out _ o3).mono ?_
      rintro e w4 ⟨rfl, o4, g4⟩
      go_wp2_with fail
      refine (HB.out _ o4).mono ?_
      rintro e w5 ⟨rfl, o5, g5⟩
      have g := Fr.into (Fr.into (Fr.into g2 g3 (Nat.le_refl _)) g4 (Nat.le_refl _)) g5 (Nat.le_refl _)
      clear g2 g3 g4 g5 o2 o3 o4
      go_wp2_with fail
      refine (err_any o5).mono ?_
      rintro e wq ⟨rfl, rfl⟩
      go_wp2
      go_ret3
      rw [HU.out]
      exact ⟨rfl, g⟩
end Go.Proofs.Ytlefmnoaejpllaa
