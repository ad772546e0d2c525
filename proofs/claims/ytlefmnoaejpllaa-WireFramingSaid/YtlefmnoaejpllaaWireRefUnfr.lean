/- Frames: Unframe of the reference; a frame among others is taken again. -/
import Derived.Test.YtlefmnoaejpllaaWireUnfr
namespace Go.Proofs.Ytlefmnoaejpllaa
open Go.RowKit
set_option linter.unusedVariables false

set_option maxRecDepth 100000 in
set_option maxHeartbeats 2000000 in
theorem refUnframe_any (s : ByteArray) (hs : s.size ≤ 140737488351232) (at_ : Int) (w : World) : Calls Try.prog 55 #[.string s, .int .i64 at_] w fun e w' => e = .returned (.tuple #[.string (unfr s at_).1, .int .i64 (unfr s at_).2.1, .int .i64 (unfr s at_).2.2]) ∧ New w w' := by
  by_cases h0 : at_ < 0 ∨ s.size < at_
  · have HU : Hid (unfr s at_ = (.empty, 0, 1)) := if_pos h0
    rcases (by omega : at_ < 0 ∨ (¬ at_ < 0 ∧ (s.size : Int) < at_)) with h1 | ⟨h1, h2⟩
    all_goals
      clear h0
      go_enter Try.func55, Try.ntmps55
      go_wp2
      go_ret3
      rw [HU.out]
      exact ⟨rfl, by repeat (first | with_reducible exact Fr.refl _ _ | with_reducible assumption | with_reducible refine Fr.drew ?_ | with_reducible refine Fr.drewN ?_ _ | with_reducible refine Fr.alloc ?_ _ | with_reducible refine Fr.set ?_ (by first | exact fun _ => rfl | (intro hlt; exfalso; simp at hlt; try omega) | (simp; omega)) _ | with_reducible refine Fr.new_ ?_ (by assumption))⟩
  · obtain ⟨z, hz⟩ : ∃ z, s.extract at_.toNat s.size = z := ⟨_, rfl⟩
    have hzs : z.size ≤ s.size - at_.toNat := by rw [← hz, ByteArray.size_extract]; omega
    obtain ⟨r1, r2, r3, n, m, t, h1, h2, h3, k1, k2, k3, s1, s2, s3, n0, n1, ht, he, hp, hp0⟩ := unfr_steps z (by omega)
    have hU := unfr_of hz h0 h1 h2 h3
    have hrd : Rd.ok ⟨z, 0, 0⟩ := ⟨by simp only; omega, by simp, by simp⟩
    have HC := Lib.hid (fun ww => refCount_any ⟨z, 0, 0⟩ hrd 2147483647 (by omega) ww)
    have HN := Lib.hid (fun ww => refRdNumber_any r1 k1 4 ww)
    have HB := Lib.hid (fun ww => refBytes_any r2 k2 n (by omega) ww)
    rw [h1] at HC
    rw [h2] at HN
    rw [h3] at HB
    have HZ := Lib.hid hz
    have ha0 : ¬ at_ < 0 := by omega
    have ha1 : ¬ (s.size : Int) < at_ := by omega
    obtain ⟨rs, rp, re⟩ := r3
    obtain ⟨qs, qp, qe⟩ := r1
    obtain ⟨bs, bp, be⟩ := r2
    simp only at hU s3 he hp hp0
    simp only [Rd.val] at HC HN HB
    subst s3
    clear hz h0 h1 h2 h3 k1 k2 k3 hrd s1 s2
    by_cases hre : re = 0
    · subst hre
      obtain ⟨hn, hm⟩ := he rfl
      subst hn
      rw [if_pos rfl] at hU
      have HM := Lib.hid (fun ww => refTextS_any t ht ww)
      have hnz := numB_size 4 t.size
      have HF := Lib.hid (refFnv_any (numB 4 t.size ++ t) (by simp [hnz]; omega))
      rw [show fnvB (numB 4 t.size ++ t) = sumB t from rfl] at HF
      have hlt := sumB_lt t
      obtain ⟨nb, hnb⟩ : ∃ nb, numB 4 t.size ++ t = nb := ⟨_, rfl⟩
      rw [hnb] at HM HF
      obtain ⟨h, hh⟩ : ∃ h, sumB t = h := ⟨_, rfl⟩
      rw [hh] at HF hU hlt
      clear hnb hh he hnz
      have hc : (m = h ∧ ((m : Int) != (h : Int)) = false) ∨ (m ≠ h ∧ ((m : Int) != (h : Int)) = true) := by
        by_cases e : m = h
        · exact .inl ⟨e, by simp [e]⟩
        · exact .inr ⟨e, by simp; omega⟩
      rcases hc with ⟨e1, e2⟩ | ⟨e1, e2⟩
      · rw [if_pos e1] at hU
        have HU := Lib.hid hU
        clear hU e1
        go_enter Try.func55, Try.ntmps55
        go_wp2_with fail
        rw [HZ.out]
        refine (HC.out _).mono ?_
        rintro e w2 ⟨rfl, g2⟩
        have b2 := Own.fresh w2 52 #[.string qs, .int .i64 qp, .int .i64 qe]
        have g2' := g2.alloc (.cells #[.string qs, .int .i64 qp, .int .i64 qe] 52)
        go_wp2_with fail
        refine (HN.out _).mono ?_
        rintro e w3 ⟨rfl, g3⟩
        have b3 := b2.new_ g3
        have n3 := Fr.new_ g2' g3
        obtain ⟨x0, x1, x2, x3, x4, x5⟩ := b3.three
        have hz3 := g2.size
        clear b2 g2' g3
        go_wp2_with fail
        refine (HB.out _).mono ?_
        rintro e w4 ⟨rfl, g4⟩
        have b4 : Own w4 w2.heap.size 52 #[.string bs, .int .i64 bp, .int .i64 be] := by repeat (first | with_reducible assumption | with_reducible exact Own.fresh _ _ _ | (with_reducible apply Own.new'; simp; done) | with_reducible apply Own.drew | with_reducible apply Own.drewN | with_reducible apply Own.alloc | with_reducible apply Own.put | rfl | (refine Own.far ?_ (by first | (simp; done) | (simp; omega) | omega) _) | (with_reducible refine Own.new_ ?_ (by with_reducible assumption)) | (refine Own.fr ?_ (by with_reducible assumption) (by show ¬ (_ = _); omega)))
        have n4 : New w w4 := by repeat (first | with_reducible exact Fr.refl _ _ | with_reducible assumption | with_reducible refine Fr.drew ?_ | with_reducible refine Fr.drewN ?_ _ | with_reducible refine Fr.alloc ?_ _ | with_reducible refine Fr.set ?_ (by first | exact fun _ => rfl | (intro hlt; exfalso; simp at hlt; try omega) | (simp; omega)) _ | with_reducible refine Fr.new_ ?_ (by with_reducible assumption) | (with_reducible refine Fr.trans ?_ (by with_reducible assumption) (fun i hi e => by (first | omega | (simp at e; omega)))))
        obtain ⟨y0, y1, y2, y3, y4, y5⟩ := b4.three
        clear b3 n3 g4 x0 x1 x2 x3 x4 x5
        go_wp2_with fail
        refine (HM.out _).mono ?_
        rintro e w6 ⟨rfl, g6⟩
        have b6 : Own w6 w2.heap.size 52 #[.string rs, .int .i64 rp, .int .i64 0] := by repeat (first | with_reducible assumption | with_reducible exact Own.fresh _ _ _ | (with_reducible apply Own.new'; simp; done) | with_reducible apply Own.drew | with_reducible apply Own.drewN | with_reducible apply Own.alloc | with_reducible apply Own.put | rfl | (refine Own.far ?_ (by first | (simp; done) | (simp; omega) | omega) _) | (with_reducible refine Own.new_ ?_ (by with_reducible assumption)) | (refine Own.fr ?_ (by with_reducible assumption) (by show ¬ (_ = _); omega)))
        have n6 : New w w6 := by repeat (first | with_reducible exact Fr.refl _ _ | with_reducible assumption | with_reducible refine Fr.drew ?_ | with_reducible refine Fr.drewN ?_ _ | with_reducible refine Fr.alloc ?_ _ | with_reducible refine Fr.set ?_ (by first | exact fun _ => rfl | (intro hlt; exfalso; simp at hlt; try omega) | (simp; omega)) _ | with_reducible refine Fr.new_ ?_ (by with_reducible assumption) | (with_reducible refine Fr.trans ?_ (by with_reducible assumption) (fun i hi e => by (first | omega | (simp at e; omega)))))
        obtain ⟨v0, v1, v2, v3, v4, v5⟩ := b6.three
        go_wp2_with fail
        refine (HF.out _).mono ?_
        rintro e wq ⟨rfl, rfl⟩
        go_wp2_with fail
        go_region
        all_goals go_wp2
        all_goals go_ret3
        all_goals rw [HU.out]
        all_goals exact ⟨rfl, by repeat (first | with_reducible exact Fr.refl _ _ | with_reducible assumption | with_reducible refine Fr.drew ?_ | with_reducible refine Fr.drewN ?_ _ | with_reducible refine Fr.alloc ?_ _ | with_reducible refine Fr.set ?_ (by first | exact fun _ => rfl | (intro hlt; exfalso; simp at hlt; try omega) | (simp; omega)) _ | with_reducible refine Fr.new_ ?_ (by with_reducible assumption) | (with_reducible refine Fr.trans ?_ (by with_reducible assumption) (fun i hi e => by (first | omega | (simp at e; omega)))))⟩
      · rw [if_neg e1] at hU
        have HU := Lib.hid hU
        clear hU e1
        go_enter Try.func55, Try.ntmps55
        go_wp2_with fail
        rw [HZ.out]
        refine (HC.out _).mono ?_
        rintro e w2 ⟨rfl, g2⟩
        have b2 := Own.fresh w2 52 #[.string qs, .int .i64 qp, .int .i64 qe]
        have g2' := g2.alloc (.cells #[.string qs, .int .i64 qp, .int .i64 qe] 52)
        go_wp2_with fail
        refine (HN.out _).mono ?_
        rintro e w3 ⟨rfl, g3⟩
        have b3 := b2.new_ g3
        have n3 := Fr.new_ g2' g3
        obtain ⟨x0, x1, x2, x3, x4, x5⟩ := b3.three
        have hz3 := g2.size
        clear b2 g2' g3
        go_wp2_with fail
        refine (HB.out _).mono ?_
        rintro e w4 ⟨rfl, g4⟩
        have b4 : Own w4 w2.heap.size 52 #[.string bs, .int .i64 bp, .int .i64 be] := by repeat (first | with_reducible assumption | with_reducible exact Own.fresh _ _ _ | (with_reducible apply Own.new'; simp; done) | with_reducible apply Own.drew | with_reducible apply Own.drewN | with_reducible apply Own.alloc | with_reducible apply Own.put | rfl | (refine Own.far ?_ (by first | (simp; done) | (simp; omega) | omega) _) | (with_reducible refine Own.new_ ?_ (by with_reducible assumption)) | (refine Own.fr ?_ (by with_reducible assumption) (by show ¬ (_ = _); omega)))
        have n4 : New w w4 := by repeat (first | with_reducible exact Fr.refl _ _ | with_reducible assumption | with_reducible refine Fr.drew ?_ | with_reducible refine Fr.drewN ?_ _ | with_reducible refine Fr.alloc ?_ _ | with_reducible refine Fr.set ?_ (by first | exact fun _ => rfl | (intro hlt; exfalso; simp at hlt; try omega) | (simp; omega)) _ | with_reducible refine Fr.new_ ?_ (by with_reducible assumption) | (with_reducible refine Fr.trans ?_ (by with_reducible assumption) (fun i hi e => by (first | omega | (simp at e; omega)))))
        obtain ⟨y0, y1, y2, y3, y4, y5⟩ := b4.three
        clear b3 n3 g4 x0 x1 x2 x3 x4 x5
        go_wp2_with fail
        refine (HM.out _).mono ?_
        rintro e w6 ⟨rfl, g6⟩
        have n6 : New w w6 := by repeat (first | with_reducible exact Fr.refl _ _ | with_reducible assumption | with_reducible refine Fr.drew ?_ | with_reducible refine Fr.drewN ?_ _ | with_reducible refine Fr.alloc ?_ _ | with_reducible refine Fr.set ?_ (by first | exact fun _ => rfl | (intro hlt; exfalso; simp at hlt; try omega) | (simp; omega)) _ | with_reducible refine Fr.new_ ?_ (by with_reducible assumption) | (with_reducible refine Fr.trans ?_ (by with_reducible assumption) (fun i hi e => by (first | omega | (simp at e; omega)))))
        go_wp2_with fail
        refine (HF.out _).mono ?_
        rintro e wq ⟨rfl, rfl⟩
        go_wp2
        go_ret3
        rw [HU.out]
        exact ⟨rfl, by repeat (first | with_reducible exact Fr.refl _ _ | with_reducible assumption | with_reducible refine Fr.drew ?_ | with_reducible refine Fr.drewN ?_ _ | with_reducible refine Fr.alloc ?_ _ | with_reducible refine Fr.set ?_ (by first | exact fun _ => rfl | (intro hlt; exfalso; simp at hlt; try omega) | (simp; omega)) _ | with_reducible refine Fr.new_ ?_ (by with_reducible assumption) | (with_reducible refine Fr.trans ?_ (by with_reducible assumption) (fun i hi e => by (first | omega | (simp at e; omega)))))⟩
    · rw [if_neg hre] at hU
      have hrz : (re == 0) = false := by rw [beq_eq_false_iff_ne]; exact hre
      have hrz2 : (re != 0) = true := by rw [bne, hrz]; rfl
      have HU := Lib.hid hU
      clear hU hre he
      go_enter Try.func55, Try.ntmps55
      go_wp2_with fail
      rw [HZ.out]
      refine (HC.out _).mono ?_
      rintro e w2 ⟨rfl, g2⟩
      have b2 := Own.fresh w2 52 #[.string qs, .int .i64 qp, .int .i64 qe]
      have g2' := g2.alloc (.cells #[.string qs, .int .i64 qp, .int .i64 qe] 52)
      go_wp2_with fail
      refine (HN.out _).mono ?_
      rintro e w3 ⟨rfl, g3⟩
      have b3 := b2.new_ g3
      have n3 := Fr.new_ g2' g3
      obtain ⟨x0, x1, x2, x3, x4, x5⟩ := b3.three
      have hz3 := g2.size
      clear b2 g2' g3
      go_wp2_with fail
      refine (HB.out _).mono ?_
      rintro e w4 ⟨rfl, g4⟩
      have b4 : Own w4 w2.heap.size 52 #[.string bs, .int .i64 bp, .int .i64 be] := by repeat (first | with_reducible assumption | with_reducible exact Own.fresh _ _ _ | (with_reducible apply Own.new'; simp; done) | with_reducible apply Own.drew | with_reducible apply Own.drewN | with_reducible apply Own.alloc | with_reducible apply Own.put | rfl | (refine Own.far ?_ (by first | (simp; done) | (simp; omega) | omega) _) | (with_reducible refine Own.new_ ?_ (by with_reducible assumption)) | (refine Own.fr ?_ (by with_reducible assumption) (by show ¬ (_ = _); omega)))
      have n4 : New w w4 := by repeat (first | with_reducible exact Fr.refl _ _ | with_reducible assumption | with_reducible refine Fr.drew ?_ | with_reducible refine Fr.drewN ?_ _ | with_reducible refine Fr.alloc ?_ _ | with_reducible refine Fr.set ?_ (by first | exact fun _ => rfl | (intro hlt; exfalso; simp at hlt; try omega) | (simp; omega)) _ | with_reducible refine Fr.new_ ?_ (by with_reducible assumption) | (with_reducible refine Fr.trans ?_ (by with_reducible assumption) (fun i hi e => by (first | omega | (simp at e; omega)))))
      obtain ⟨y0, y1, y2, y3, y4, y5⟩ := b4.three
      clear b3 n3 g4 x0 x1 x2 x3 x4 x5
      go_wp2_with fail
      go_region
      all_goals go_wp2
      all_goals go_ret3
      all_goals rw [HU.out]
      all_goals exact ⟨rfl, by repeat (first | with_reducible exact Fr.refl _ _ | with_reducible assumption | with_reducible refine Fr.drew ?_ | with_reducible refine Fr.drewN ?_ _ | with_reducible refine Fr.alloc ?_ _ | with_reducible refine Fr.set ?_ (by first | exact fun _ => rfl | (intro hlt; exfalso; simp at hlt; try omega) | (simp; omega)) _ | with_reducible refine Fr.new_ ?_ (by with_reducible assumption) | (with_reducible refine Fr.trans ?_ (by with_reducible assumption) (fun i hi e => by (first | omega | (simp at e; omega)))))⟩

/-- A frame among others is taken again. -/
theorem unfr_at (a s c : ByteArray) (hs : s.size ≤ 2147483647) (hall : (a ++ frameB s ++ c).size ≤ 140737488351232) : unfr (a ++ frameB s ++ c) a.size = (s, (a.size : Int) + 16 + s.size, 0) := by
  have hn := numB_size 4 s.size
  have hm := numB_size 4 (sumB s)
  have hlt := sumB_lt s
  obtain ⟨z, hz⟩ : ∃ z, z = ByteArray.empty ++ numB 4 s.size ++ (numB 4 (sumB s) ++ (s ++ c)) := ⟨_, rfl⟩
  have hz2 : z = numB 4 s.size ++ numB 4 (sumB s) ++ (s ++ c) := by rw [hz, ByteArray.empty_append, ByteArray.append_assoc]
  have hz3 : z = (numB 4 s.size ++ numB 4 (sumB s)) ++ s ++ c := by rw [hz2]; simp only [ByteArray.append_assoc]
  have he : (a ++ frameB s ++ c) = a ++ z := by
    rw [hz3]
    unfold frameB
    simp only [ByteArray.append_assoc]
  have hx : (a ++ frameB s ++ c).extract ((a.size : Int)).toNat (a ++ frameB s ++ c).size = z := by
    rw [he]
    exact extract_end a z _ _ (by omega) (by rw [ByteArray.size_append])
  have h0 : ¬ (((a.size : Nat) : Int) < 0 ∨ ((a ++ frameB s ++ c).size : Int) < a.size) := by
    rw [he, ByteArray.size_append]
    omega
  have h1 : rCount ⟨z, 0, 0⟩ 2147483647 = (⟨z, 8, 0⟩, (s.size : Int)) := by
    have h := rCount_at .empty (numB 4 (sumB s) ++ (s ++ c)) s.size (by omega) 2147483647
    rw [← hz] at h
    have hy : ((ByteArray.empty.size : Nat) : Int) = 0 := by simp
    rw [hy, if_neg (by omega)] at h
    simpa using h
  have h2 : rNumber ⟨z, 8, 0⟩ 4 = (⟨z, 16, 0⟩, sumB s) := by
    have h := rNumber_at (numB 4 s.size) (s ++ c) 4 (sumB s) (by omega)
    rw [← hz2, hn] at h
    rw [Nat.mod_eq_of_lt (by simpa using hlt)] at h
    simpa using h
  have h3 : rBytes ⟨z, 16, 0⟩ s.size = (⟨z, 16 + s.size, 0⟩, s) := by
    have h := rBytes_at (numB 4 s.size ++ numB 4 (sumB s)) s c s.size rfl
    rw [← hz3] at h
    have hy : (((numB 4 s.size ++ numB 4 (sumB s)).size : Nat) : Int) = 16 := by rw [ByteArray.size_append, hn, hm]; rfl
    rw [hy] at h
    exact h
  rw [unfr_of hx h0 h1 h2 h3, if_pos rfl, if_pos rfl]
  simp only [Prod.mk.injEq, true_and, and_true]
  omega
end Go.Proofs.Ytlefmnoaejpllaa
