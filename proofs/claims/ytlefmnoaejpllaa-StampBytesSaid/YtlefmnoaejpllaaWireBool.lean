/- Readers: Text of the reference; Bool, End of both programs. -/
import Derived.Test.YtlefmnoaejpllaaWireText
namespace Go.Proofs.Ytlefmnoaejpllaa
open Go.RowKit
set_option linter.unusedVariables false

set_option maxHeartbeats 1000000 in
theorem refText_any (r : Rd) (hr : r.ok) (most : Int) (hmost : most ≤ 9223372036854775807) (w : World) :
    Calls Try.prog 45 #[r.val, .int .i64 most] w fun e w' => e = .returned (.tuple #[(rText r most).1.val, .string (rText r most).2]) ∧ New w w' := by
  have hC := refCount_any r hr most hmost
  have hB := refBytes_any (rCount r most).1 (rCount_ok hr most) (rCount r most).2 (by have := rCount_le hr most; omega)
  have hs := rBytes_s (rCount r most).1 (rCount r most).2
  rw [rCount_s] at hs
  have hem := rBytes_err (rCount r most).1 (rCount r most).2
  have hT : rText r most = if (r.err == 0) = false ∨ (rBytes (rCount r most).1 (rCount r most).2).1.err = 0 then rBytes (rCount r most).1 (rCount r most).2
      else (⟨r.s, r.pos, (rBytes (rCount r most).1 (rCount r most).2).1.err⟩, .empty) := by
    unfold rText
    by_cases he : r.err = 0
    · simp [he]
    · have h2 : rCount r most = (r, 0) := if_neg he
      have h3 : rBytes r 0 = (r, .empty) := if_neg he
      rw [if_neg he, h2, if_pos (by left; rw [beq_eq_false_iff_ne]; exact he)]
      exact h3.symm
  obtain ⟨cn, hcn⟩ : ∃ cn, (rCount r most).2 = cn := ⟨_, rfl⟩
  obtain ⟨q, hq⟩ : ∃ q, (rCount r most).1 = q := ⟨_, rfl⟩
  simp only [hq, hcn] at hC hB hT hs hem
  obtain ⟨⟨s1, pp, e1⟩, hp⟩ : ∃ p, (rBytes q cn).1 = p := ⟨_, rfl⟩
  obtain ⟨t, ht⟩ : ∃ t, (rBytes q cn).2 = t := ⟨_, rfl⟩
  rw [hp] at hs
  rw [hp, ht] at hem
  simp only [hp, ht] at hB
  have hpt : rBytes q cn = (⟨s1, pp, e1⟩, t) := by rw [← hp, ← ht]
  rw [hpt] at hT
  clear hq hcn hp ht hpt
  obtain ⟨s, pos, err⟩ := r
  obtain ⟨qs, qp, qe⟩ := q
  simp only at hs hT hem
  subst hs
  have HC := Lib.hid hC
  have HB := Lib.hid hB
  clear hC hB
  have hcase : ((e1 == 0) = true ∨ ((e1 == 0) = false ∧ (err == 0) = false)) ∨ ((e1 == 0) = false ∧ err = 0) := by
    by_cases h1 : e1 = 0
    · exact .inl (.inl (by simpa using h1))
    · by_cases h2 : err = 0
      · exact .inr ⟨by simpa using h1, h2⟩
      · exact .inl (.inr ⟨by simpa using h1, by simpa using h2⟩)
  rcases hcase with h1 | ⟨h1, rfl⟩
  · have HT : Hid (rText ⟨s1, pos, err⟩ most = (⟨s1, pp, e1⟩, t)) := by
      show _ = _
      rw [hT, if_pos]
      rcases h1 with h1 | ⟨h1, h2⟩
      · exact .inr (by simpa using h1)
      · exact .inl h2
    clear hT hem
    rcases h1 with h1 | ⟨h1, h2⟩
    · have h3 : (e1 != 0) = false := by rw [bne, h1]; rfl
      go_enter Try.func45, Try.ntmps45
      go_wp2_with fail
      refine (HC.out _).mono ?_
      rintro e w1 ⟨rfl, hn1⟩
      obtain ⟨o1, o2, hn2⟩ := two_boxes hn1
      have hlt1 := o2.lt
      have p1 := o1.alloc (.cells #[.string qs, .int .i64 qp, .int .i64 qe] 52)
      have p2 := o2.alloc (.cells #[.string qs, .int .i64 qp, .int .i64 qe] 52)
      have hn3 := hn2.alloc (.cells #[.string qs, .int .i64 qp, .int .i64 qe] 52)
      clear hn1 o1 o2
      go_wp2_with fail
      refine (HB.out _).mono ?_
      rintro e w3 ⟨rfl, hn4⟩
      have q1 := p1.new_ hn4
      have q2 := p2.new_ hn4
      have hn5 := hn3.new_ hn4
      have hlt2 := q2.lt
      obtain ⟨u0, u1, u2, u3, u4, u5⟩ := q2.three
      obtain ⟨v0, v1, v2, v3, v4, v5⟩ := q1.three
      obtain ⟨x0, x1, x2, x3, x4, x5⟩ := (q1.alloc (.cells #[.string s1, .int .i64 pp, .int .i64 e1] 52)).three
      obtain ⟨z0, z1, z2, z3, z4, z5⟩ := (q2.alloc (.cells #[.string s1, .int .i64 pp, .int .i64 e1] 52)).three
      clear hn4 p1 p2 hn3
      go_wp2
      refine bodyPost_ret (v := .tuple #[.agg #[.string s1, .int .i64 pp, .int .i64 e1], .string t]) (by simp [results, Try.results45, go_sem, *]) rfl ⟨?_, ?_⟩
      · rw [HT.out]
      · repeat (first | with_reducible exact Fr.refl _ _ | with_reducible assumption | with_reducible refine Fr.drew ?_ | with_reducible refine Fr.drewN ?_ _ | with_reducible refine Fr.alloc ?_ _ | with_reducible refine Fr.set ?_ (by first | exact fun _ => rfl | (intro hlt; exfalso; simp at hlt; try omega) | (simp; omega)) _ | with_reducible refine Fr.new_ ?_ (by assumption))
    · have h3 : (e1 != 0) = true := by rw [bne, h1]; rfl
      go_enter Try.func45, Try.ntmps45
      go_wp2_with fail
      refine (HC.out _).mono ?_
      rintro e w1 ⟨rfl, hn1⟩
      obtain ⟨o1, o2, hn2⟩ := two_boxes hn1
      have hlt1 := o2.lt
      have p1 := o1.alloc (.cells #[.string qs, .int .i64 qp, .int .i64 qe] 52)
      have p2 := o2.alloc (.cells #[.string qs, .int .i64 qp, .int .i64 qe] 52)
      have hn3 := hn2.alloc (.cells #[.string qs, .int .i64 qp, .int .i64 qe] 52)
      clear hn1 o1 o2
      go_wp2_with fail
      refine (HB.out _).mono ?_
      rintro e w3 ⟨rfl, hn4⟩
      have q1 := p1.new_ hn4
      have q2 := p2.new_ hn4
      have hn5 := hn3.new_ hn4
      have hlt2 := q2.lt
      obtain ⟨u0, u1, u2, u3, u4, u5⟩ := q2.three
      obtain ⟨v0, v1, v2, v3, v4, v5⟩ := q1.three
      obtain ⟨x0, x1, x2, x3, x4, x5⟩ := (q1.alloc (.cells #[.string s1, .int .i64 pp, .int .i64 e1] 52)).three
      obtain ⟨z0, z1, z2, z3, z4, z5⟩ := (q2.alloc (.cells #[.string s1, .int .i64 pp, .int .i64 e1] 52)).three
      clear hn4 p1 p2 hn3
      go_wp2
      refine bodyPost_ret (v := .tuple #[.agg #[.string s1, .int .i64 pp, .int .i64 e1], .string t]) (by simp [results, Try.results45, go_sem, *]) rfl ⟨?_, ?_⟩
      · rw [HT.out]
      · repeat (first | with_reducible exact Fr.refl _ _ | with_reducible assumption | with_reducible refine Fr.drew ?_ | with_reducible refine Fr.drewN ?_ _ | with_reducible refine Fr.alloc ?_ _ | with_reducible refine Fr.set ?_ (by first | exact fun _ => rfl | (intro hlt; exfalso; simp at hlt; try omega) | (simp; omega)) _ | with_reducible refine Fr.new_ ?_ (by assumption))
  · have HT : Hid (rText ⟨s1, pos, 0⟩ most = (⟨s1, pos, e1⟩, .empty)) := by
      show _ = _
      rw [hT, if_neg]
      rintro (h | h)
      · simp at h
      · rw [h] at h1
        simp at h1
    obtain rfl := hem (by simpa using h1)
    have h3 : (e1 != 0) = true := by rw [bne, h1]; rfl
    clear hT hem
    go_enter Try.func45, Try.ntmps45
    go_wp2_with fail
    refine (HC.out _).mono ?_
    rintro e w1 ⟨rfl, hn1⟩
    obtain ⟨o1, o2, hn2⟩ := two_boxes hn1
    have hlt1 := o2.lt
    have p1 := o1.alloc (.cells #[.string qs, .int .i64 qp, .int .i64 qe] 52)
    have p2 := o2.alloc (.cells #[.string qs, .int .i64 qp, .int .i64 qe] 52)
    have hn3 := hn2.alloc (.cells #[.string qs, .int .i64 qp, .int .i64 qe] 52)
    clear hn1 o1 o2
    go_wp2_with fail
    refine (HB.out _).mono ?_
    rintro e w3 ⟨rfl, hn4⟩
    have q1 := p1.new_ hn4
    have q2 := p2.new_ hn4
    have hn5 := hn3.new_ hn4
    have hlt2 := q2.lt
    obtain ⟨u0, u1, u2, u3, u4, u5⟩ := q2.three
    obtain ⟨v0, v1, v2, v3, v4, v5⟩ := q1.three
    obtain ⟨x0, x1, x2, x3, x4, x5⟩ := (q1.alloc (.cells #[.string s1, .int .i64 pp, .int .i64 e1] 52)).three
    obtain ⟨z0, z1, z2, z3, z4, z5⟩ := (q2.alloc (.cells #[.string s1, .int .i64 pp, .int .i64 e1] 52)).three
    clear hn4 p1 p2 hn3
    go_wp2_with fail
    refine (with_any _ _ _ _ _).mono ?_
    rintro e w4 ⟨rfl, hn6⟩
    have r2 := (q2.alloc (.cells #[.string s1, .int .i64 pp, .int .i64 e1] 52)).new_ hn6
    have hn7 := (hn5.alloc (.cells #[.string s1, .int .i64 pp, .int .i64 e1] 52)).new_ hn6
    obtain ⟨c0, c1, c2, c3, c4, c5⟩ := r2.three
    have hlt3 := r2.lt
    clear q1 q2
    go_wp2
    refine bodyPost_ret (v := .tuple #[.agg #[.string s1, .int .i64 pos, .int .i64 e1], .string ⟨#[]⟩]) (by simp [results, Try.results45, go_sem, *]) rfl ⟨?_, ?_⟩
    · rw [HT.out]; rfl
    · repeat (first | with_reducible exact Fr.refl _ _ | with_reducible assumption | with_reducible refine Fr.drew ?_ | with_reducible refine Fr.drewN ?_ _ | with_reducible refine Fr.alloc ?_ _ | with_reducible refine Fr.set ?_ (by first | exact fun _ => rfl | (intro hlt; exfalso; simp at hlt; try omega) | (simp; omega)) _ | with_reducible refine Fr.new_ ?_ (by assumption))

def rBool (r : Rd) : Rd × Bool :=
  if r.err = 0 then
    if (rBytes r 1).1.err = 0 then
      if ((rBytes r 1).2.toList == [121]) = true then ((rBytes r 1).1, true)
      else if ((rBytes r 1).2.toList == [110]) = true then ((rBytes r 1).1, false)
      else (⟨r.s, r.pos, 6⟩, false)
    else (⟨r.s, r.pos, (rBytes r 1).1.err⟩, false)
  else (r, false)
theorem rBool_ok {r : Rd} (h : r.ok) : (rBool r).1.ok := by
  unfold rBool
  split
  · split
    · split
      · exact rBytes_ok h 1
      · split
        · exact rBytes_ok h 1
        · exact h
    · exact h
  · exact h
theorem rBytes_cases {r : Rd} (h : r.ok) (n : Int) (he : r.err = 0) : (∃ t, rBytes r n = (⟨r.s, r.pos + n, 0⟩, t)) ∨ (∃ e, (e == 0) = false ∧ rBytes r n = (⟨r.s, r.pos, e⟩, .empty)) := by
  unfold rBytes
  rw [if_pos he]
  split
  · right
    exact ⟨1, rfl, rfl⟩
  · split
    · right
      exact ⟨4, rfl, rfl⟩
    · left
      exact ⟨_, rfl⟩
theorem bool_any {b : Nat} {r : Rd} {w : World} (h : OwnR w b r) (hr : r.ok) :
    Calls Try.prog 41 #[.pointer (some ⟨b, 0, none⟩)] w fun e w' => e = .returned (.bool (rBool r).2) ∧ OwnR w' b (rBool r).1 ∧ Fr (· = b) w w' := by
  have hB := bytes_any h hr 1 (by omega)
  by_cases he : r.err = 0
  · have hT : rBool r = if (rBytes r 1).1.err = 0 then if ((rBytes r 1).2.toList == [121]) = true then ((rBytes r 1).1, true) else if ((rBytes r 1).2.toList == [110]) = true then ((rBytes r 1).1, false) else (⟨r.s, r.pos, 6⟩, false) else (⟨r.s, r.pos, (rBytes r 1).1.err⟩, false) := if_pos he
    obtain ⟨s, pos, err⟩ := r
    simp only at he
    subst he
    obtain ⟨g0, g1, g2, g3, g4, g5⟩ := Own.three h
    rcases rBytes_cases hr 1 rfl with ⟨t, h1⟩ | ⟨ee, h1, h2⟩
    · rw [h1] at hB hT
      have HB := Lib.hid hB
      clear hB h1
      have hc : ((t.toList == [121]) = true) ∨ ((t.toList == [121]) = false ∧ (t.toList == [110]) = true) ∨ ((t.toList == [121]) = false ∧ (t.toList == [110]) = false) := by
        cases (t.toList == [121]) <;> cases (t.toList == [110]) <;> simp
      rcases hc with a1 | ⟨a1, a2⟩ | ⟨a1, a2⟩
      · have HT : Hid (rBool ⟨s, pos, 0⟩ = (⟨s, pos + 1, 0⟩, true)) := by show _ = _; rw [hT, if_pos rfl, if_pos a1]
        clear hT
        go_enter Try.func41, Try.ntmps41
        go_wp2_with (first | (go_at_call 75; first | (apply Calls.mono; (apply ok_zero; with_reducible assumption; exact rfl); rintro e wq ⟨rfl, rfl⟩) | (apply Calls.mono; (apply ok_some; with_reducible assumption; (first | assumption | (show _ = _; simp))); rintro e wq ⟨rfl, rfl⟩)) | (go_at_call 50; refine HB.out.mono ?_; rintro e w2 ⟨rfl, ho2, hf2⟩) | (go_at_call 77; refine (back_zero ho2 rfl _).mono ?_; rintro e w3 ⟨rfl, rfl⟩))
        go_ret
        rw [HT.out]
        exact ⟨rfl, ho2, by repeat (first | with_reducible exact Fr.refl _ _ | with_reducible assumption | with_reducible refine Fr.drew ?_ | with_reducible refine Fr.drewN ?_ _ | with_reducible refine Fr.alloc ?_ _ | with_reducible refine Fr.set ?_ (by first | exact fun _ => rfl | (intro hlt; exfalso; simp at hlt; try omega) | (simp; omega)) _ | with_reducible refine Fr.new_ ?_ (by assumption) | with_reducible refine Fr.trans ?_ (by with_reducible assumption) (fun _ _ e => e))⟩
      · have HT : Hid (rBool ⟨s, pos, 0⟩ = (⟨s, pos + 1, 0⟩, false)) := by show _ = _; rw [hT, if_pos rfl, if_neg (by simp [a1]), if_pos a2]
        clear hT
        go_enter Try.func41, Try.ntmps41
        go_wp2_with (first | (go_at_call 75; first | (apply Calls.mono; (apply ok_zero; with_reducible assumption; exact rfl); rintro e wq ⟨rfl, rfl⟩) | (apply Calls.mono; (apply ok_some; with_reducible assumption; (first | assumption | (show _ = _; simp))); rintro e wq ⟨rfl, rfl⟩)) | (go_at_call 50; refine HB.out.mono ?_; rintro e w2 ⟨rfl, ho2, hf2⟩) | (go_at_call 77; refine (back_zero ho2 rfl _).mono ?_; rintro e w3 ⟨rfl, rfl⟩))
        go_ret
        rw [HT.out]
        exact ⟨rfl, ho2, by repeat (first | with_reducible exact Fr.refl _ _ | with_reducible assumption | with_reducible refine Fr.drew ?_ | with_reducible refine Fr.drewN ?_ _ | with_reducible refine Fr.alloc ?_ _ | with_reducible refine Fr.set ?_ (by first | exact fun _ => rfl | (intro hlt; exfalso; simp at hlt; try omega) | (simp; omega)) _ | with_reducible refine Fr.new_ ?_ (by assumption) | with_reducible refine Fr.trans ?_ (by with_reducible assumption) (fun _ _ e => e))⟩
      · have HT : Hid (rBool ⟨s, pos, 0⟩ = (⟨s, pos, 6⟩, false)) := by show _ = _; rw [hT, if_pos rfl, if_neg (by simp [a1]), if_neg (by simp [a2])]
        clear hT
        go_enter Try.func41, Try.ntmps41
        go_wp2_with (first | (go_at_call 75; first | (apply Calls.mono; (apply ok_zero; with_reducible assumption; exact rfl); rintro e wq ⟨rfl, rfl⟩) | (apply Calls.mono; (apply ok_some; with_reducible assumption; (first | assumption | (show _ = _; simp))); rintro e wq ⟨rfl, rfl⟩)) | (go_at_call 50; refine HB.out.mono ?_; rintro e w2 ⟨rfl, ho2, hf2⟩; obtain ⟨k0, k1, k2, k3, k4, k5⟩ := Own.three ho2; have hfz := hf2.size) | (go_at_call 77; refine (back_some (r := ⟨s, pos + 1, 6⟩) (Own.put ho2 rfl) (by simp) _).mono ?_; rintro e w3 ⟨rfl, ho3, hf3⟩))
        go_ret
        rw [HT.out]
        exact ⟨rfl, ho3, by repeat (first | with_reducible exact Fr.refl _ _ | with_reducible assumption | with_reducible refine Fr.drew ?_ | with_reducible refine Fr.drewN ?_ _ | with_reducible refine Fr.alloc ?_ _ | with_reducible refine Fr.set ?_ (by first | exact fun _ => rfl | (intro hlt; exfalso; simp at hlt; try omega) | (simp; omega)) _ | with_reducible refine Fr.new_ ?_ (by assumption) | with_reducible refine Fr.trans ?_ (by with_reducible assumption) (fun _ _ e => e))⟩
    · rw [h2] at hB hT
      have HB := Lib.hid hB
      have HT : Hid (rBool ⟨s, pos, 0⟩ = (⟨s, pos, ee⟩, false)) := by show _ = _; rw [hT, if_neg (by simpa using h1)]
      clear hB h2 hT
      go_enter Try.func41, Try.ntmps41
      go_wp2_with (first | (go_at_call 75; first | (apply Calls.mono; (apply ok_zero; with_reducible assumption; exact rfl); rintro e wq ⟨rfl, rfl⟩) | (apply Calls.mono; (apply ok_some; with_reducible assumption; (first | assumption | (show _ = _; simp))); rintro e wq ⟨rfl, rfl⟩)) | (go_at_call 50; refine HB.out.mono ?_; rintro e w2 ⟨rfl, ho2, hf2⟩; obtain ⟨k0, k1, k2, k3, k4, k5⟩ := Own.three ho2; have hfz := hf2.size) | (go_at_call 77; refine (back_some ho2 h1 _).mono ?_; rintro e w3 ⟨rfl, ho3, hf3⟩))
      go_ret
      rw [HT.out]
      exact ⟨rfl, ho3, by repeat (first | with_reducible exact Fr.refl _ _ | with_reducible assumption | with_reducible refine Fr.drew ?_ | with_reducible refine Fr.drewN ?_ _ | with_reducible refine Fr.alloc ?_ _ | with_reducible refine Fr.set ?_ (by first | exact fun _ => rfl | (intro hlt; exfalso; simp at hlt; try omega) | (simp; omega)) _ | with_reducible refine Fr.new_ ?_ (by assumption) | with_reducible refine Fr.trans ?_ (by with_reducible assumption) (fun _ _ e => e))⟩
  · have hz : (r.err == 0) = false := by rw [beq_eq_false_iff_ne]; exact he
    have HT : Hid (rBool r = (r, false)) := if_neg he
    clear he hB
    obtain ⟨g0, g1, g2, g3, g4, g5⟩ := Own.three h
    go_enter Try.func41, Try.ntmps41
    go_wp2
    go_ret
    rw [HT.out]
    exact ⟨rfl, h, by repeat (first | with_reducible exact Fr.refl _ _ | with_reducible assumption | with_reducible refine Fr.drew ?_ | with_reducible refine Fr.drewN ?_ _ | with_reducible refine Fr.alloc ?_ _ | with_reducible refine Fr.set ?_ (by first | exact fun _ => rfl | (intro hlt; exfalso; simp at hlt; try omega) | (simp; omega)) _ | with_reducible refine Fr.new_ ?_ (by assumption))⟩
end Go.Proofs.Ytlefmnoaejpllaa
