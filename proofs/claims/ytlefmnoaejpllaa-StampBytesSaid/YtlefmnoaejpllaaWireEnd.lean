/- Readers: Bool of the reference; Hash, End of both programs; awake. -/
import Derived.Test.YtlefmnoaejpllaaWireBool
namespace Go.Proofs.Ytlefmnoaejpllaa
open Go.RowKit
set_option linter.unusedVariables false

set_option maxHeartbeats 1000000 in
theorem refBool_any (r : Rd) (hr : r.ok) (w : World) :
    Calls Try.prog 48 #[r.val] w fun e w' => e = .returned (.tuple #[(rBool r).1.val, .bool (rBool r).2]) ∧ New w w' := by
  have hB := refBytes_any r hr 1 (by omega)
  by_cases he : r.err = 0
  · have hT : rBool r = if (rBytes r 1).1.err = 0 then if ((rBytes r 1).2.toList == [121]) = true then ((rBytes r 1).1, true) else if ((rBytes r 1).2.toList == [110]) = true then ((rBytes r 1).1, false) else (⟨r.s, r.pos, 6⟩, false) else (⟨r.s, r.pos, (rBytes r 1).1.err⟩, false) := if_pos he
    obtain ⟨s, pos, err⟩ := r
    simp only at he
    subst he
    rcases rBytes_cases hr 1 rfl with ⟨t, h1⟩ | ⟨ee, h1, h2⟩
    · rw [h1] at hB hT
      have HB := Lib.hid hB
      clear hB h1
      have hc : ((t.toList == [121]) = true) ∨ ((t.toList == [121]) = false ∧ (t.toList == [110]) = true) ∨ ((t.toList == [121]) = false ∧ (t.toList == [110]) = false) := by
        cases (t.toList == [121]) <;> cases (t.toList == [110]) <;> simp
      rcases hc with a1 | ⟨a1, a2⟩ | ⟨a1, a2⟩
      · have HT : Hid (rBool ⟨s, pos, 0⟩ = (⟨s, pos + 1, 0⟩, true)) := by show _ = _; rw [hT, if_pos rfl, if_pos a1]
        clear hT
        go_enter Try.func48, Try.ntmps48
        go_wp2_with fail
        refine (HB.out _).mono ?_
        rintro e w1 ⟨rfl, hn1⟩
        obtain ⟨o1, o2, hn2⟩ := two_boxes hn1
        have hlt1 := o2.lt
        obtain ⟨u0, u1, u2, u3, u4, u5⟩ := o2.three
        obtain ⟨v0, v1, v2, v3, v4, v5⟩ := o1.three
        obtain ⟨x0, x1, x2, x3, x4, x5⟩ := (o1.alloc (.cells #[.string s, .int .i64 (pos + 1), .int .i64 0] 52)).three
        obtain ⟨z0, z1, z2, z3, z4, z5⟩ := (o2.alloc (.cells #[.string s, .int .i64 (pos + 1), .int .i64 0] 52)).three
        clear hn1
        go_wp2
        refine bodyPost_ret (v := .tuple #[.agg #[.string s, .int .i64 (pos + 1), .int .i64 0], .bool true]) (by simp [results, Try.results48, go_sem, *]) rfl ⟨?_, ?_⟩
        · rw [HT.out]
        · repeat (first | with_reducible exact Fr.refl _ _ | with_reducible assumption | with_reducible refine Fr.drew ?_ | with_reducible refine Fr.drewN ?_ _ | with_reducible refine Fr.alloc ?_ _ | with_reducible refine Fr.set ?_ (by first | exact fun _ => rfl | (intro hlt; exfalso; simp at hlt; try omega) | (simp; omega)) _ | with_reducible refine Fr.new_ ?_ (by assumption))
      · have HT : Hid (rBool ⟨s, pos, 0⟩ = (⟨s, pos + 1, 0⟩, false)) := by show _ = _; rw [hT, if_pos rfl, if_neg (by simp [a1]), if_pos a2]
        clear hT
        go_enter Try.func48, Try.ntmps48
        go_wp2_with fail
        refine (HB.out _).mono ?_
        rintro e w1 ⟨rfl, hn1⟩
        obtain ⟨o1, o2, hn2⟩ := two_boxes hn1
        have hlt1 := o2.lt
        obtain ⟨u0, u1, u2, u3, u4, u5⟩ := o2.three
        obtain ⟨v0, v1, v2, v3, v4, v5⟩ := o1.three
        obtain ⟨x0, x1, x2, x3, x4, x5⟩ := (o1.alloc (.cells #[.string s, .int .i64 (pos + 1), .int .i64 0] 52)).three
        obtain ⟨z0, z1, z2, z3, z4, z5⟩ := (o2.alloc (.cells #[.string s, .int .i64 (pos + 1), .int .i64 0] 52)).three
        clear hn1
        go_wp2
        refine bodyPost_ret (v := .tuple #[.agg #[.string s, .int .i64 (pos + 1), .int .i64 0], .bool false]) (by simp [results, Try.results48, go_sem, *]) rfl ⟨?_, ?_⟩
        · rw [HT.out]
        · repeat (first | with_reducible exact Fr.refl _ _ | with_reducible assumption | with_reducible refine Fr.drew ?_ | with_reducible refine Fr.drewN ?_ _ | with_reducible refine Fr.alloc ?_ _ | with_reducible refine Fr.set ?_ (by first | exact fun _ => rfl | (intro hlt; exfalso; simp at hlt; try omega) | (simp; omega)) _ | with_reducible refine Fr.new_ ?_ (by assumption))
      · have HT : Hid (rBool ⟨s, pos, 0⟩ = (⟨s, pos, 6⟩, false)) := by show _ = _; rw [hT, if_pos rfl, if_neg (by simp [a1]), if_neg (by simp [a2])]
        clear hT
        go_enter Try.func48, Try.ntmps48
        go_wp2_with fail
        refine (HB.out _).mono ?_
        rintro e w1 ⟨rfl, hn1⟩
        obtain ⟨o1, o2, hn2⟩ := two_boxes hn1
        have hlt1 := o2.lt
        obtain ⟨u0, u1, u2, u3, u4, u5⟩ := o2.three
        obtain ⟨v0, v1, v2, v3, v4, v5⟩ := o1.three
        obtain ⟨x0, x1, x2, x3, x4, x5⟩ := (o1.alloc (.cells #[.string s, .int .i64 (pos + 1), .int .i64 0] 52)).three
        obtain ⟨z0, z1, z2, z3, z4, z5⟩ := (o2.alloc (.cells #[.string s, .int .i64 (pos + 1), .int .i64 0] 52)).three
        clear hn1
        go_wp2_with fail
        refine (with_any _ _ _ _ _).mono ?_
        rintro e w4 ⟨rfl, hn6⟩
        have r2 := (o2.alloc (.cells #[.string s, .int .i64 (pos + 1), .int .i64 0] 52)).new_ hn6
        have hn7 := (hn2.alloc (.cells #[.string s, .int .i64 (pos + 1), .int .i64 0] 52)).new_ hn6
        obtain ⟨c0, c1, c2, c3, c4, c5⟩ := r2.three
        have hlt3 := r2.lt
        clear o1 o2
        go_wp2
        refine bodyPost_ret (v := .tuple #[.agg #[.string s, .int .i64 pos, .int .i64 6], .bool false]) (by simp [results, Try.results48, go_sem, *]) rfl ⟨?_, ?_⟩
        · rw [HT.out]
        · repeat (first | with_reducible exact Fr.refl _ _ | with_reducible assumption | with_reducible refine Fr.drew ?_ | with_reducible refine Fr.drewN ?_ _ | with_reducible refine Fr.alloc ?_ _ | with_reducible refine Fr.set ?_ (by first | exact fun _ => rfl | (intro hlt; exfalso; simp at hlt; try omega) | (simp; omega)) _ | with_reducible refine Fr.new_ ?_ (by assumption))
    · rw [h2] at hB hT
      have HB := Lib.hid hB
      have HT : Hid (rBool ⟨s, pos, 0⟩ = (⟨s, pos, ee⟩, false)) := by show _ = _; rw [hT, if_neg (by simpa using h1)]
      clear hB h2 hT
      go_enter Try.func48, Try.ntmps48
      go_wp2_with fail
      refine (HB.out _).mono ?_
      rintro e w1 ⟨rfl, hn1⟩
      obtain ⟨o1, o2, hn2⟩ := two_boxes hn1
      have hlt1 := o2.lt
      obtain ⟨u0, u1, u2, u3, u4, u5⟩ := o2.three
      obtain ⟨v0, v1, v2, v3, v4, v5⟩ := o1.three
      obtain ⟨x0, x1, x2, x3, x4, x5⟩ := (o1.alloc (.cells #[.string s, .int .i64 pos, .int .i64 ee] 52)).three
      obtain ⟨z0, z1, z2, z3, z4, z5⟩ := (o2.alloc (.cells #[.string s, .int .i64 pos, .int .i64 ee] 52)).three
      clear hn1
      go_wp2
      refine bodyPost_ret (v := .tuple #[.agg #[.string s, .int .i64 pos, .int .i64 ee], .bool false]) (by simp [results, Try.results48, go_sem, *]) rfl ⟨?_, ?_⟩
      · rw [HT.out]
      · repeat (first | with_reducible exact Fr.refl _ _ | with_reducible assumption | with_reducible refine Fr.drew ?_ | with_reducible refine Fr.drewN ?_ _ | with_reducible refine Fr.alloc ?_ _ | with_reducible refine Fr.set ?_ (by first | exact fun _ => rfl | (intro hlt; exfalso; simp at hlt; try omega) | (simp; omega)) _ | with_reducible refine Fr.new_ ?_ (by assumption))
  · have hz : (r.err == 0) = false := by rw [beq_eq_false_iff_ne]; exact he
    have h2 : rBytes r 1 = (r, .empty) := if_neg he
    have HT : Hid (rBool r = (r, false)) := if_neg he
    rw [h2] at hB
    have HB := Lib.hid hB
    clear he hB h2
    obtain ⟨s, pos, err⟩ := r
    simp only at hz
    go_enter Try.func48, Try.ntmps48
    go_wp2_with fail
    refine (HB.out _).mono ?_
    rintro e w1 ⟨rfl, hn1⟩
    obtain ⟨o1, o2, hn2⟩ := two_boxes hn1
    have hlt1 := o2.lt
    obtain ⟨u0, u1, u2, u3, u4, u5⟩ := o2.three
    obtain ⟨v0, v1, v2, v3, v4, v5⟩ := o1.three
    obtain ⟨x0, x1, x2, x3, x4, x5⟩ := (o1.alloc (.cells #[.string s, .int .i64 pos, .int .i64 err] 52)).three
    obtain ⟨z0, z1, z2, z3, z4, z5⟩ := (o2.alloc (.cells #[.string s, .int .i64 pos, .int .i64 err] 52)).three
    clear hn1
    go_wp2
    refine bodyPost_ret (v := .tuple #[.agg #[.string s, .int .i64 pos, .int .i64 err], .bool false]) (by simp [results, Try.results48, go_sem, *]) rfl ⟨?_, ?_⟩
    · rw [HT.out]
    · repeat (first | with_reducible exact Fr.refl _ _ | with_reducible assumption | with_reducible refine Fr.drew ?_ | with_reducible refine Fr.drewN ?_ _ | with_reducible refine Fr.alloc ?_ _ | with_reducible refine Fr.set ?_ (by first | exact fun _ => rfl | (intro hlt; exfalso; simp at hlt; try omega) | (simp; omega)) _ | with_reducible refine Fr.new_ ?_ (by assumption))

def rEnd (r : Rd) : Rd := if r.err = 0 ∧ r.pos < r.s.size then ⟨r.s, r.pos, 5⟩ else r
theorem end_any {b : Nat} {r : Rd} {w : World} (h : OwnR w b r) (hr : r.ok) :
    Calls Try.prog 42 #[.pointer (some ⟨b, 0, none⟩)] w fun e w' => e = .returned (.int .i64 (rEnd r).err) ∧ OwnR w' b (rEnd r) ∧ Fr (· = b) w w' := by
  have HL := Lib.hid (fun ww hh => left_any (w := ww) (b := b) (r := r) hh hr)
  obtain ⟨s, pos, err⟩ := r
  obtain ⟨g0, g1, g2, g3, g4, g5⟩ := Own.three h
  by_cases he : err = 0
  · subst he
    by_cases hp : pos < s.size
    · have HT : Hid (rEnd ⟨s, pos, 0⟩ = ⟨s, pos, 5⟩) := if_pos ⟨rfl, hp⟩
      go_enter Try.func42, Try.ntmps42
      go_wp2_with (first | (go_at_call 75; first | (apply Calls.mono; (apply ok_zero; with_reducible assumption; exact rfl); rintro e wq ⟨rfl, rfl⟩) | (apply Calls.mono; (apply ok_some; with_reducible assumption; (first | assumption | (show _ = _; simp))); rintro e wq ⟨rfl, rfl⟩)) | (go_at_call 36; refine (HL.out _ h).mono ?_; rintro e w1 ⟨rfl, nn, rfl⟩))
      refine (err_any (r := ⟨s, pos, 5⟩) (Own.put (Own.drewN h nn) rfl)).mono ?_
      rintro e w2 ⟨rfl, rfl⟩
      go_wp2
      go_ret
      rw [HT.out]
      exact ⟨rfl, Own.put (Own.drewN h nn) rfl, by repeat (first | with_reducible exact Fr.refl _ _ | with_reducible assumption | with_reducible refine Fr.drew ?_ | with_reducible refine Fr.drewN ?_ _ | with_reducible refine Fr.alloc ?_ _ | with_reducible refine Fr.set ?_ (by first | exact fun _ => rfl | (intro hlt; exfalso; simp at hlt; try omega) | (simp; omega)) _ | with_reducible refine Fr.new_ ?_ (by assumption) | with_reducible refine Fr.trans ?_ (by with_reducible assumption) (fun _ _ e => e))⟩
    · have HT : Hid (rEnd ⟨s, pos, 0⟩ = ⟨s, pos, 0⟩) := if_neg (by simp only; omega)
      go_enter Try.func42, Try.ntmps42
      go_wp2_with (first | (go_at_call 75; first | (apply Calls.mono; (apply ok_zero; with_reducible assumption; exact rfl); rintro e wq ⟨rfl, rfl⟩) | (apply Calls.mono; (apply ok_some; with_reducible assumption; (first | assumption | (show _ = _; simp))); rintro e wq ⟨rfl, rfl⟩)) | (go_at_call 36; refine (HL.out _ h).mono ?_; rintro e w1 ⟨rfl, nn, rfl⟩))
      refine (err_any (r := ⟨s, pos, 0⟩) (Own.drewN h nn)).mono ?_
      rintro e w2 ⟨rfl, rfl⟩
      go_wp2
      go_ret
      rw [HT.out]
      exact ⟨rfl, Own.drewN h nn, by repeat (first | with_reducible exact Fr.refl _ _ | with_reducible assumption | with_reducible refine Fr.drew ?_ | with_reducible refine Fr.drewN ?_ _ | with_reducible refine Fr.alloc ?_ _ | with_reducible refine Fr.set ?_ (by first | exact fun _ => rfl | (intro hlt; exfalso; simp at hlt; try omega) | (simp; omega)) _ | with_reducible refine Fr.new_ ?_ (by assumption) | with_reducible refine Fr.trans ?_ (by with_reducible assumption) (fun _ _ e => e))⟩
  · have hz : (err == 0) = false := by rw [beq_eq_false_iff_ne]; exact he
    have HT : Hid (rEnd ⟨s, pos, err⟩ = ⟨s, pos, err⟩) := if_neg (by simp only; omega)
    clear he
    go_enter Try.func42, Try.ntmps42
    go_wp2
    go_ret
    rw [HT.out]
    exact ⟨rfl, h, by repeat (first | with_reducible exact Fr.refl _ _ | with_reducible assumption | with_reducible refine Fr.drew ?_ | with_reducible refine Fr.drewN ?_ _ | with_reducible refine Fr.alloc ?_ _ | with_reducible refine Fr.set ?_ (by first | exact fun _ => rfl | (intro hlt; exfalso; simp at hlt; try omega) | (simp; omega)) _ | with_reducible refine Fr.new_ ?_ (by assumption) | with_reducible refine Fr.trans ?_ (by with_reducible assumption) (fun _ _ e => e))⟩
theorem refEnd_any (r : Rd) (w : World) : Calls Try.prog 51 #[r.val] w fun e w' => e = .returned (rEnd r).val ∧ New w w' := by
  obtain ⟨s, pos, err⟩ := r
  by_cases he : err = 0
  · subst he
    by_cases hp : pos < s.size
    · have HT : Hid (rEnd ⟨s, pos, 0⟩ = ⟨s, pos, 5⟩) := if_pos ⟨rfl, hp⟩
      go_enter Try.func51, Try.ntmps51
      go_wp2_with fail
      refine (with_any _ _ _ _ _).mono ?_
      rintro e w1 ⟨rfl, hn1⟩
      obtain ⟨o1, o2, hn2⟩ := two_boxes hn1
      obtain ⟨k0, k1, k2, k3, k4, k5⟩ := o2.three
      have hz := hn2.size
      go_wp2
      refine bodyPost_ret (v := .agg #[.string s, .int .i64 pos, .int .i64 5]) (by simp [results, Try.results51, go_sem, *]) rfl ⟨?_, ?_⟩
      · rw [HT.out]
      · repeat (first | with_reducible exact Fr.refl _ _ | with_reducible assumption | with_reducible refine Fr.drew ?_ | with_reducible refine Fr.drewN ?_ _ | with_reducible refine Fr.alloc ?_ _ | with_reducible refine Fr.set ?_ (by first | exact fun _ => rfl | (intro hlt; exfalso; simp at hlt; try omega) | (simp; omega)) _ | with_reducible refine Fr.new_ ?_ (by assumption))
    · have HT : Hid (rEnd ⟨s, pos, 0⟩ = ⟨s, pos, 0⟩) := if_neg (by simp only; omega)
      have hd : decide (pos < (s.size : Int)) = false := decide_eq_false hp
      clear hp
      go_enter Try.func51, Try.ntmps51
      go_wp2
      refine bodyPost_ret (v := .agg #[.string s, .int .i64 pos, .int .i64 0]) (by simp [results, Try.results51, go_sem]) rfl ⟨?_, ?_⟩
      · rw [HT.out]
      · repeat (first | with_reducible exact Fr.refl _ _ | with_reducible assumption | with_reducible refine Fr.drew ?_ | with_reducible refine Fr.drewN ?_ _ | with_reducible refine Fr.alloc ?_ _ | with_reducible refine Fr.set ?_ (by first | exact fun _ => rfl | (intro hlt; exfalso; simp at hlt; try omega) | (simp; omega)) _ | with_reducible refine Fr.new_ ?_ (by assumption))
  · have hz : (err == 0) = false := by rw [beq_eq_false_iff_ne]; exact he
    have HT : Hid (rEnd ⟨s, pos, err⟩ = ⟨s, pos, err⟩) := if_neg (by simp only; omega)
    clear he
    go_enter Try.func51, Try.ntmps51
    go_wp2
    refine bodyPost_ret (v := .agg #[.string s, .int .i64 pos, .int .i64 err]) (by simp [results, Try.results51, go_sem]) rfl ⟨?_, ?_⟩
    · rw [HT.out]
    · repeat (first | with_reducible exact Fr.refl _ _ | with_reducible assumption | with_reducible refine Fr.drew ?_ | with_reducible refine Fr.drewN ?_ _ | with_reducible refine Fr.alloc ?_ _ | with_reducible refine Fr.set ?_ (by first | exact fun _ => rfl | (intro hlt; exfalso; simp at hlt; try omega) | (simp; omega)) _ | with_reducible refine Fr.new_ ?_ (by assumption))
theorem hash_any {b : Nat} {r : Rd} {w : World} (h : OwnR w b r) (hr : r.ok) :
    Calls Try.prog 47 #[.pointer (some ⟨b, 0, none⟩)] w fun e w' => e = .returned (.string (rBytes r 32).2) ∧ OwnR w' b (rBytes r 32).1 ∧ Fr (· = b) w w' := by
  have HB := Lib.hid (bytes_any h hr 32 (by omega))
  go_enter Try.func47, Try.ntmps47
  go_wp2_with (go_at_call 50; refine HB.out.mono ?_; rintro e w2 ⟨rfl, ho2, hf2⟩)
  go_ret
  exact ⟨rfl, ho2, hf2⟩
end Go.Proofs.Ytlefmnoaejpllaa
