/- WireGets: the walk. -/
import Derived.Test.YtlefmnoaejpllaaWireMosts
import Derived.LoopTactic
import Derived.Deep.RegionWith
namespace Go.Proofs.Ytlefmnoaejpllaa
open Go.RowKit
set_option linter.unusedVariables false

theorem wp_world {P : Program} {c : Code} {Q : Exit → Act → World → Prop} {a : Act} {W : World} (F : World → Prop) (h : F W) (k : ∀ W', F W' → Code.wp P c Q a W') : Code.wp P c Q a W := k W h
/-- What holds at each round's head. -/
def GetsI (w : World) (b : Nat) (t : ByteArray) (pos err : Int) (wr : World) : Prop :=
  Own wr b 108 #[.string t, .int .i64 pos, .int .i64 err] ∧ Own wr (b + 1) 52 #[.string t, .int .i64 pos, .int .i64 err] ∧ New w wr ∧ Rd.ok ⟨t, pos, err⟩
theorem field_err (t : ByteArray) (pos e3 : Int) (v : World) : (Instr.field 52 (.agg #[.string t, .int .i64 pos, .int .i64 e3]) 2).run Try.prog v = .ok (.int .i64 e3) v := by
  simp [Instr.field, part, asAgg, go_sem]
theorem rFail_s (r : Rd) (e : Int) : (rFail r e).s = r.s := by unfold rFail; split <;> rfl
theorem rText_s (r : Rd) (k : Int) : (rText r k).1.s = r.s := by
  unfold rText
  split
  · split
    · rw [rBytes_s, rCount_s]
    · rfl
  · rfl
theorem rBool_s (r : Rd) : (rBool r).1.s = r.s := by
  unfold rBool
  split
  · split
    · split
      · exact rBytes_s r 1
      · split
        · exact rBytes_s r 1
        · rfl
    · rfl
  · rfl
/-- A step that both take alike: the reader behind it, and what it told. -/
theorem step_of {t : ByteArray} {α : Type} (p : Rd × α) (hs : p.1.s = t) (ho : p.1.ok) : ∃ pos err x, p = (⟨t, pos, err⟩, x) ∧ Rd.ok ⟨t, pos, err⟩ := by
  obtain ⟨⟨s, pos, err⟩, x⟩ := p
  simp only at hs
  subst hs
  exact ⟨pos, err, x, rfl, ho⟩
theorem left_nw {b : Nat} {r : Rd} {W : World} (h : Own W b 108 #[.string r.s, .int .i64 r.pos, .int .i64 r.err]) (hok : r.ok) : ∀ x, Calls Try.prog 36 #[.pointer (some ⟨b, 0, none⟩)] (nw W x) fun e w' => e = .returned (.int .i64 (r.s.size - r.pos)) ∧ ∃ y, w' = nw W y := by
  intro x
  refine Calls.nw_of ((left_any (Own.new_ h (nw_new _ x)) hok).mono ?_)
  rintro e w' ⟨rfl, n, rfl⟩
  exact ⟨rfl, (Fr.refl _ _).drewN _⟩
set_option maxRecDepth 100000 in
set_option maxHeartbeats 4000000 in
theorem wireGets_walk (s : ByteArray) (hs : s.size ≤ 140737488351232) (l : ESl EGet) {w : World} (hl : ESl65.facts w l) : Calls Try.prog 10 #[.string s, .slice l.adr l.len l.cap] w fun e w' => e = .returned (.bool true) ∧ New w w' := by
  obtain ⟨A, n, cap, V⟩ := l
  obtain ⟨hsl, hnc, hcap, hV⟩ := hl
  simp only at hsl hnc hcap hV
  unfold maxLen at hcap
  have hk2 := few03_size s
  have hf := fun ww => few_any s (by omega) ww
  obtain ⟨t, ht⟩ : ∃ t, few03 s = t := ⟨_, rfl⟩
  rw [ht] at hk2 hf
  have HF := Lib.hid hf
  clear ht hf
  have hrd : Rd.ok ⟨t, 0, 0⟩ := ⟨by simp only; omega, by simp, by simp⟩
  go_enter Try.func10, Try.ntmps10
  go_wp2_with fail
  refine (HF.out _).mono ?_
  rintro e wq ⟨rfl, rfl⟩
  go_wp2_with fail
  refine (newReader_any _ _).mono ?_
  rintro e w2 ⟨rfl, h2⟩
  have ho : Own w2 w.heap.size 108 #[.string t, .int .i64 0, .int .i64 0] := by rw [h2]; exact OwnR.fresh _ _
  have hn2 : New w w2 := by rw [h2]; exact (Fr.refl _ _).alloc _
  have hz2 : w2.heap.size = w.heap.size + 1 := by rw [h2]; simp
  clear h2
  have HW := Lib.hid hz2
  go_wp2_with fail
  clear hz2
  go_loopw [8] (fun i wr => ∃ (k : Nat) (pos err : Int), i = .int .i64 k ∧ k ≤ n ∧ GetsI w w.heap.size t pos err wr) (fun i _ => n - (intOf i).toNat)
  case atStart => exact ⟨0, 0, 0, rfl, by omega, by repeat (first | with_reducible assumption | with_reducible exact Own.fresh _ _ _ | (with_reducible apply Own.new'; simp; done) | with_reducible apply Own.drew | with_reducible apply Own.drewN | with_reducible apply Own.alloc | with_reducible apply Own.put | rfl | (with_reducible refine Own.far ?_ (by simp; omega) _) | (with_reducible refine Own.new_ ?_ (by assumption))), Own.new' (by simp [HW.out]), by repeat (first | with_reducible exact Fr.refl _ _ | with_reducible assumption | with_reducible refine Fr.drew ?_ | with_reducible refine Fr.drewN ?_ _ | with_reducible refine Fr.alloc ?_ _ | with_reducible refine Fr.set ?_ (by first | exact fun _ => rfl | (intro hlt; exfalso; simp at hlt; try omega) | (simp; omega)) _ | with_reducible refine Fr.new_ ?_ (by assumption)), hrd⟩
  case round =>
    obtain ⟨k, pos, err, rfl, hkn, o1, q1, n1, hok⟩ := hrel
    by_cases hlt : k < n
    · by_cases hl2 : k < 30
      · obtain ⟨sb, so, rfl, hc⟩ := (hsl.new_ n1).nw k hlt
        obtain ⟨hw1, hw2⟩ := hV k hlt
        obtain ⟨d0, e0⟩ := hc 0 _ rfl
        obtain ⟨d1, e1⟩ := hc 1 _ rfl
        rw [Nat.add_zero] at d0 e0
        obtain ⟨kd, hkd⟩ : ∃ kd, (V k).kind = kd := ⟨_, rfl⟩
        obtain ⟨kn, hkn1⟩ : ∃ kn, (V k).n = kn := ⟨_, rfl⟩
        rw [hkd] at d0 e0 hw1
        rw [hkn1] at d1 e1 hw2
        have hkn := (wf_i64 hw2).2
        clear hc e0 e1 hkd hkn1 hw1 hw2
        obtain ⟨i0, i1, i2, i3, i4, i5⟩ := q1.three
        have hz1 : w.heap.size + 1 < wr.heap.size := q1.lt
        by_cases k1 : kd = 1
        · subst k1
          obtain ⟨pos2, err2, x, hx, hok2⟩ := step_of (rNumber ⟨t, pos, err⟩ kn) (rNumber_s _ _) (rNumber_ok hok _)
          have HR := Lib.hid (fun ww => refRdNumber_any ⟨t, pos, err⟩ hok kn ww)
          rw [hx] at HR
          have HX := Lib.hid hx
          clear hx
          go_wp2_with fail
          refine (HR.out _).mono ?_
          rintro e w4 ⟨rfl, hn4⟩
          have o4 := (o1.new_ hn4).alloc (.cells #[.string t, .int .i64 pos2, .int .i64 err2] 52)
          have q4 := (q1.new_ hn4).alloc (.cells #[.string t, .int .i64 pos2, .int .i64 err2] 52)
          have n4 := (n1.new_ hn4).alloc (.cells #[.string t, .int .i64 pos2, .int .i64 err2] 52)
          have b4 := Own.fresh w4 52 #[.string t, .int .i64 pos2, .int .i64 err2]
          have hlt4 : w.heap.size + 1 < w4.heap.size := (q1.new_ hn4).lt
          clear hn4
          go_wp2_with fail
          generalize w4.alloc (.cells #[.string t, .int .i64 pos2, .int .i64 err2] 52) = W0 at *
          obtain ⟨g0, g1, g2, g3, g4, g5⟩ := q4.three
          obtain ⟨h0, h1, h2, h3, h4, h5⟩ := b4.three
          go_region_with (go_at_call 31; refine Calls.mono (rdNumber_any (r := ⟨t, pos, err⟩) ?_ hok kn) ?_; (focus (show Own _ _ _ _; repeat (first | with_reducible assumption | with_reducible exact Own.fresh _ _ _ | (with_reducible apply Own.new'; simp; done) | with_reducible apply Own.drew | with_reducible apply Own.drewN | with_reducible apply Own.alloc | with_reducible apply Own.put | rfl | (refine Own.far ?_ (by first | (simp; done) | (simp; omega) | omega) _) | (with_reducible refine Own.new_ ?_ (by with_reducible assumption)) | (refine Own.fr ?_ (by with_reducible assumption) (by show ¬ (_ = _); omega))))); rw [HX.out]; rintro e w5 ⟨rfl, ho5, hf5⟩; have o5 : Own w5 w.heap.size 108 #[.string t, .int .i64 pos2, .int .i64 err2] := ho5; clear ho5; try (have mq : Own w5 (w.heap.size + 1) 52 #[.string t, .int .i64 pos, .int .i64 err] := (by repeat (first | with_reducible assumption | with_reducible exact Own.fresh _ _ _ | (with_reducible apply Own.new'; simp; done) | with_reducible apply Own.drew | with_reducible apply Own.drewN | with_reducible apply Own.alloc | with_reducible apply Own.put | rfl | (refine Own.far ?_ (by first | (simp; done) | (simp; omega) | omega) _) | (with_reducible refine Own.new_ ?_ (by with_reducible assumption)) | (refine Own.fr ?_ (by with_reducible assumption) (by show ¬ (_ = _); omega)))); obtain ⟨m0, m1, m2, m3, m4, m5⟩ := mq.three); try (obtain ⟨n0, n1, n2, n3, n4, n5⟩ := Own.three (show Own w5 w4.heap.size 52 #[.string t, .int .i64 pos2, .int .i64 err2] by repeat (first | with_reducible assumption | with_reducible exact Own.fresh _ _ _ | (with_reducible apply Own.new'; simp; done) | with_reducible apply Own.drew | with_reducible apply Own.drewN | with_reducible apply Own.alloc | with_reducible apply Own.put | rfl | (refine Own.far ?_ (by first | (simp; done) | (simp; omega) | omega) _) | (with_reducible refine Own.new_ ?_ (by with_reducible assumption)) | (refine Own.fr ?_ (by with_reducible assumption) (by show ¬ (_ = _); omega))))))
          all_goals go_wp2_with fail
          all_goals
            refine wp_world (fun W' => GetsI w w.heap.size t pos2 err2 W') ⟨by repeat (first | with_reducible assumption | with_reducible exact Own.fresh _ _ _ | (with_reducible apply Own.new'; simp; done) | with_reducible apply Own.drew | with_reducible apply Own.drewN | with_reducible apply Own.alloc | with_reducible apply Own.put | rfl | (refine Own.far ?_ (by first | (simp; done) | (simp; omega) | omega) _) | (with_reducible refine Own.new_ ?_ (by with_reducible assumption)) | (refine Own.fr ?_ (by with_reducible assumption) (by show ¬ (_ = _); omega))), by repeat (first | with_reducible assumption | with_reducible exact Own.fresh _ _ _ | (with_reducible apply Own.new'; simp; done) | with_reducible apply Own.drew | with_reducible apply Own.drewN | with_reducible apply Own.alloc | with_reducible apply Own.put | rfl | (refine Own.far ?_ (by first | (simp; done) | (simp; omega) | omega) _) | (with_reducible refine Own.new_ ?_ (by with_reducible assumption)) | (refine Own.fr ?_ (by with_reducible assumption) (by show ¬ (_ = _); omega))), by repeat (first | with_reducible exact Fr.refl _ _ | with_reducible assumption | with_reducible refine Fr.drew ?_ | with_reducible refine Fr.drewN ?_ _ | with_reducible refine Fr.alloc ?_ _ | with_reducible refine Fr.set ?_ (by first | exact fun _ => rfl | (intro hlt; exfalso; simp at hlt; try omega) | (simp; omega)) _ | with_reducible refine Fr.new_ ?_ (by with_reducible assumption) | (with_reducible refine Fr.trans ?_ (by with_reducible assumption) (fun i hi e => by (first | omega | (simp at e; omega))))), hok2⟩ ?_
            rintro W' ⟨o8, q8, n8, hok8⟩
            clear o1 q1 n1 hok
            have HE : ∀ x, Calls Try.prog 34 #[.pointer (some ⟨w.heap.size, 0, none⟩)] (nw W' x) fun e w' => e = .returned (.int .i64 err2) ∧ ∃ y, w' = nw W' y := fun x => Calls.nw_same' (err_any (r := ⟨t, pos2, err2⟩) (Own.new_ o8 (nw_new _ x)))
            have HA : ∀ x, Calls Try.prog 35 #[.pointer (some ⟨w.heap.size, 0, none⟩)] (nw W' x) fun e w' => e = .returned (.int .i64 pos2) ∧ ∃ y, w' = nw W' y := fun x => Calls.nw_same' (at_any (r := ⟨t, pos2, err2⟩) (Own.new_ o8 (nw_new _ x)))
            have HL := left_nw (r := ⟨t, pos2, err2⟩) o8 hok2
            obtain ⟨f0, f1, f2⟩ := q8.nw3
            obtain ⟨r0, r1, r2⟩ := id hok2
            simp only at r0 r1 r2
            refine wp_region_new_lit (by kernel_rfl) (by kernel_rfl) ?_; (repeat (any_goals (first | go_big_quiet_step ((first | (go_at_call 34; exact HE _) | (go_at_call 35; exact HA _) | (go_at_call 36; exact HL _))) | quiet_step ((first | (go_at_call 34; exact HE _) | (go_at_call 35; exact HA _) | (go_at_call 36; exact HL _))) | (refine wpQuiet_step (fun K hK => ?_); go_simp; split <;> (refine hK _ ?_; clear hK K))))); all_goals (refine wpQuiet_nil ?_; intro _ hw'; obtain ⟨xq, hw''⟩ := hw'; subst hw''; have hnq := nw_new _ xq)
            have o9 := o8.new_ hnq
            have q9 := q8.new_ hnq
            have n9 := Fr.new_ n8 hnq
            clear o8 q8 n8 f0 f1 f2 HE HA HL r0 r1 r2
            go_wp2_with fail
            go_roundw
            case rel => exact ⟨k + 1, pos2, err2, by go_num, by omega, by repeat (first | with_reducible assumption | with_reducible exact Own.fresh _ _ _ | (with_reducible apply Own.new'; simp; done) | with_reducible apply Own.drew | with_reducible apply Own.drewN | with_reducible apply Own.alloc | with_reducible apply Own.put | rfl | (with_reducible refine Own.far ?_ (by simp; omega) _) | (with_reducible refine Own.new_ ?_ (by assumption))), by repeat (first | with_reducible assumption | with_reducible exact Own.fresh _ _ _ | (with_reducible apply Own.new'; simp; done) | with_reducible apply Own.drew | with_reducible apply Own.drewN | with_reducible apply Own.alloc | with_reducible apply Own.put | rfl | (with_reducible refine Own.far ?_ (by simp; omega) _) | (with_reducible refine Own.new_ ?_ (by assumption))), by repeat (first | with_reducible exact Fr.refl _ _ | with_reducible assumption | with_reducible refine Fr.drew ?_ | with_reducible refine Fr.drewN ?_ _ | with_reducible refine Fr.alloc ?_ _ | with_reducible refine Fr.set ?_ (by first | exact fun _ => rfl | (intro hlt; exfalso; simp at hlt; try omega) | (simp; omega)) _ | with_reducible refine Fr.new_ ?_ (by assumption)), hok2⟩
            case measure => simp [intOf]; omega
        by_cases k2 : kd = 2
        · subst k2
          obtain ⟨pos2, err2, x, hx, hok2⟩ := step_of (rCount ⟨t, pos, err⟩ kn) (rCount_s _ _) (rCount_ok hok _)
          have HR := Lib.hid (fun ww => refCount_any ⟨t, pos, err⟩ hok kn hkn ww)
          rw [hx] at HR
          have HX := Lib.hid hx
          clear hx
          go_wp2_with fail
          refine (HR.out _).mono ?_
          rintro e w4 ⟨rfl, hn4⟩
          have o4 := (o1.new_ hn4).alloc (.cells #[.string t, .int .i64 pos2, .int .i64 err2] 52)
          have q4 := (q1.new_ hn4).alloc (.cells #[.string t, .int .i64 pos2, .int .i64 err2] 52)
          have n4 := (n1.new_ hn4).alloc (.cells #[.string t, .int .i64 pos2, .int .i64 err2] 52)
          have b4 := Own.fresh w4 52 #[.string t, .int .i64 pos2, .int .i64 err2]
          have hlt4 : w.heap.size + 1 < w4.heap.size := (q1.new_ hn4).lt
          clear hn4
          go_wp2_with fail
          generalize w4.alloc (.cells #[.string t, .int .i64 pos2, .int .i64 err2] 52) = W0 at *
          obtain ⟨g0, g1, g2, g3, g4, g5⟩ := q4.three
          obtain ⟨h0, h1, h2, h3, h4, h5⟩ := b4.three
          go_region_with (go_at_call 44; refine Calls.mono (count_any (r := ⟨t, pos, err⟩) ?_ hok kn hkn) ?_; (focus (show Own _ _ _ _; repeat (first | with_reducible assumption | with_reducible exact Own.fresh _ _ _ | (with_reducible apply Own.new'; simp; done) | with_reducible apply Own.drew | with_reducible apply Own.drewN | with_reducible apply Own.alloc | with_reducible apply Own.put | rfl | (refine Own.far ?_ (by first | (simp; done) | (simp; omega) | omega) _) | (with_reducible refine Own.new_ ?_ (by with_reducible assumption)) | (refine Own.fr ?_ (by with_reducible assumption) (by show ¬ (_ = _); omega))))); rw [HX.out]; rintro e w5 ⟨rfl, ho5, hf5⟩; have o5 : Own w5 w.heap.size 108 #[.string t, .int .i64 pos2, .int .i64 err2] := ho5; clear ho5; try (have mq : Own w5 (w.heap.size + 1) 52 #[.string t, .int .i64 pos, .int .i64 err] := (by repeat (first | with_reducible assumption | with_reducible exact Own.fresh _ _ _ | (with_reducible apply Own.new'; simp; done) | with_reducible apply Own.drew | with_reducible apply Own.drewN | with_reducible apply Own.alloc | with_reducible apply Own.put | rfl | (refine Own.far ?_ (by first | (simp; done) | (simp; omega) | omega) _) | (with_reducible refine Own.new_ ?_ (by with_reducible assumption)) | (refine Own.fr ?_ (by with_reducible assumption) (by show ¬ (_ = _); omega)))); obtain ⟨m0, m1, m2, m3, m4, m5⟩ := mq.three); try (obtain ⟨n0, n1, n2, n3, n4, n5⟩ := Own.three (show Own w5 w4.heap.size 52 #[.string t, .int .i64 pos2, .int .i64 err2] by repeat (first | with_reducible assumption | with_reducible exact Own.fresh _ _ _ | (with_reducible apply Own.new'; simp; done) | with_reducible apply Own.drew | with_reducible apply Own.drewN | with_reducible apply Own.alloc | with_reducible apply Own.put | rfl | (refine Own.far ?_ (by first | (simp; done) | (simp; omega) | omega) _) | (with_reducible refine Own.new_ ?_ (by with_reducible assumption)) | (refine Own.fr ?_ (by with_reducible assumption) (by show ¬ (_ = _); omega))))))
          all_goals go_wp2_with fail
          all_goals
            refine wp_world (fun W' => GetsI w w.heap.size t pos2 err2 W') ⟨by repeat (first | with_reducible assumption | with_reducible exact Own.fresh _ _ _ | (with_reducible apply Own.new'; simp; done) | with_reducible apply Own.drew | with_reducible apply Own.drewN | with_reducible apply Own.alloc | with_reducible apply Own.put | rfl | (refine Own.far ?_ (by first | (simp; done) | (simp; omega) | omega) _) | (with_reducible refine Own.new_ ?_ (by with_reducible assumption)) | (refine Own.fr ?_ (by with_reducible assumption) (by show ¬ (_ = _); omega))), by repeat (first | with_reducible assumption | with_reducible exact Own.fresh _ _ _ | (with_reducible apply Own.new'; simp; done) | with_reducible apply Own.drew | with_reducible apply Own.drewN | with_reducible apply Own.alloc | with_reducible apply Own.put | rfl | (refine Own.far ?_ (by first | (simp; done) | (simp; omega) | omega) _) | (with_reducible refine Own.new_ ?_ (by with_reducible assumption)) | (refine Own.fr ?_ (by with_reducible assumption) (by show ¬ (_ = _); omega))), by repeat (first | with_reducible exact Fr.refl _ _ | with_reducible assumption | with_reducible refine Fr.drew ?_ | with_reducible refine Fr.drewN ?_ _ | with_reducible refine Fr.alloc ?_ _ | with_reducible refine Fr.set ?_ (by first | exact fun _ => rfl | (intro hlt; exfalso; simp at hlt; try omega) | (simp; omega)) _ | with_reducible refine Fr.new_ ?_ (by with_reducible assumption) | (with_reducible refine Fr.trans ?_ (by with_reducible assumption) (fun i hi e => by (first | omega | (simp at e; omega))))), hok2⟩ ?_
            rintro W' ⟨o8, q8, n8, hok8⟩
            clear o1 q1 n1 hok
            have HE : ∀ x, Calls Try.prog 34 #[.pointer (some ⟨w.heap.size, 0, none⟩)] (nw W' x) fun e w' => e = .returned (.int .i64 err2) ∧ ∃ y, w' = nw W' y := fun x => Calls.nw_same' (err_any (r := ⟨t, pos2, err2⟩) (Own.new_ o8 (nw_new _ x)))
            have HA : ∀ x, Calls Try.prog 35 #[.pointer (some ⟨w.heap.size, 0, none⟩)] (nw W' x) fun e w' => e = .returned (.int .i64 pos2) ∧ ∃ y, w' = nw W' y := fun x => Calls.nw_same' (at_any (r := ⟨t, pos2, err2⟩) (Own.new_ o8 (nw_new _ x)))
            have HL := left_nw (r := ⟨t, pos2, err2⟩) o8 hok2
            obtain ⟨f0, f1, f2⟩ := q8.nw3
            obtain ⟨r0, r1, r2⟩ := id hok2
            simp only at r0 r1 r2
            refine wp_region_new_lit (by kernel_rfl) (by kernel_rfl) ?_; (repeat (any_goals (first | go_big_quiet_step ((first | (go_at_call 34; exact HE _) | (go_at_call 35; exact HA _) | (go_at_call 36; exact HL _))) | quiet_step ((first | (go_at_call 34; exact HE _) | (go_at_call 35; exact HA _) | (go_at_call 36; exact HL _))) | (refine wpQuiet_step (fun K hK => ?_); go_simp; split <;> (refine hK _ ?_; clear hK K))))); all_goals (refine wpQuiet_nil ?_; intro _ hw'; obtain ⟨xq, hw''⟩ := hw'; subst hw''; have hnq := nw_new _ xq)
            have o9 := o8.new_ hnq
            have q9 := q8.new_ hnq
            have n9 := Fr.new_ n8 hnq
            clear o8 q8 n8 f0 f1 f2 HE HA HL r0 r1 r2
            go_wp2_with fail
            go_roundw
            case rel => exact ⟨k + 1, pos2, err2, by go_num, by omega, by repeat (first | with_reducible assumption | with_reducible exact Own.fresh _ _ _ | (with_reducible apply Own.new'; simp; done) | with_reducible apply Own.drew | with_reducible apply Own.drewN | with_reducible apply Own.alloc | with_reducible apply Own.put | rfl | (with_reducible refine Own.far ?_ (by simp; omega) _) | (with_reducible refine Own.new_ ?_ (by assumption))), by repeat (first | with_reducible assumption | with_reducible exact Own.fresh _ _ _ | (with_reducible apply Own.new'; simp; done) | with_reducible apply Own.drew | with_reducible apply Own.drewN | with_reducible apply Own.alloc | with_reducible apply Own.put | rfl | (with_reducible refine Own.far ?_ (by simp; omega) _) | (with_reducible refine Own.new_ ?_ (by assumption))), by repeat (first | with_reducible exact Fr.refl _ _ | with_reducible assumption | with_reducible refine Fr.drew ?_ | with_reducible refine Fr.drewN ?_ _ | with_reducible refine Fr.alloc ?_ _ | with_reducible refine Fr.set ?_ (by first | exact fun _ => rfl | (intro hlt; exfalso; simp at hlt; try omega) | (simp; omega)) _ | with_reducible refine Fr.new_ ?_ (by assumption)), hok2⟩
            case measure => simp [intOf]; omega
        by_cases k3 : kd = 3
        · subst k3
          obtain ⟨pos2, err2, x, hx, hok2⟩ := step_of (rText ⟨t, pos, err⟩ kn) (rText_s _ _) (rText_ok hok _)
          have HR := Lib.hid (fun ww => refText_any ⟨t, pos, err⟩ hok kn hkn ww)
          rw [hx] at HR
          have HX := Lib.hid hx
          clear hx
          go_wp2_with fail
          refine (HR.out _).mono ?_
          rintro e w4 ⟨rfl, hn4⟩
          have o4 := (o1.new_ hn4).alloc (.cells #[.string t, .int .i64 pos2, .int .i64 err2] 52)
          have q4 := (q1.new_ hn4).alloc (.cells #[.string t, .int .i64 pos2, .int .i64 err2] 52)
          have n4 := (n1.new_ hn4).alloc (.cells #[.string t, .int .i64 pos2, .int .i64 err2] 52)
          have b4 := Own.fresh w4 52 #[.string t, .int .i64 pos2, .int .i64 err2]
          have hlt4 : w.heap.size + 1 < w4.heap.size := (q1.new_ hn4).lt
          clear hn4
          go_wp2_with fail
          generalize w4.alloc (.cells #[.string t, .int .i64 pos2, .int .i64 err2] 52) = W0 at *
          obtain ⟨g0, g1, g2, g3, g4, g5⟩ := q4.three
          obtain ⟨h0, h1, h2, h3, h4, h5⟩ := b4.three
          go_region_with (go_at_call 40; refine Calls.mono (text_any (r := ⟨t, pos, err⟩) ?_ hok kn hkn) ?_; (focus (show Own _ _ _ _; repeat (first | with_reducible assumption | with_reducible exact Own.fresh _ _ _ | (with_reducible apply Own.new'; simp; done) | with_reducible apply Own.drew | with_reducible apply Own.drewN | with_reducible apply Own.alloc | with_reducible apply Own.put | rfl | (refine Own.far ?_ (by first | (simp; done) | (simp; omega) | omega) _) | (with_reducible refine Own.new_ ?_ (by with_reducible assumption)) | (refine Own.fr ?_ (by with_reducible assumption) (by show ¬ (_ = _); omega))))); rw [HX.out]; rintro e w5 ⟨rfl, ho5, hf5⟩; have o5 : Own w5 w.heap.size 108 #[.string t, .int .i64 pos2, .int .i64 err2] := ho5; clear ho5; try (have mq : Own w5 (w.heap.size + 1) 52 #[.string t, .int .i64 pos, .int .i64 err] := (by repeat (first | with_reducible assumption | with_reducible exact Own.fresh _ _ _ | (with_reducible apply Own.new'; simp; done) | with_reducible apply Own.drew | with_reducible apply Own.drewN | with_reducible apply Own.alloc | with_reducible apply Own.put | rfl | (refine Own.far ?_ (by first | (simp; done) | (simp; omega) | omega) _) | (with_reducible refine Own.new_ ?_ (by with_reducible assumption)) | (refine Own.fr ?_ (by with_reducible assumption) (by show ¬ (_ = _); omega)))); obtain ⟨m0, m1, m2, m3, m4, m5⟩ := mq.three); try (obtain ⟨n0, n1, n2, n3, n4, n5⟩ := Own.three (show Own w5 w4.heap.size 52 #[.string t, .int .i64 pos2, .int .i64 err2] by repeat (first | with_reducible assumption | with_reducible exact Own.fresh _ _ _ | (with_reducible apply Own.new'; simp; done) | with_reducible apply Own.drew | with_reducible apply Own.drewN | with_reducible apply Own.alloc | with_reducible apply Own.put | rfl | (refine Own.far ?_ (by first | (simp; done) | (simp; omega) | omega) _) | (with_reducible refine Own.new_ ?_ (by with_reducible assumption)) | (refine Own.fr ?_ (by with_reducible assumption) (by show ¬ (_ = _); omega))))))
          all_goals go_wp2_with fail
          all_goals
            refine wp_world (fun W' => GetsI w w.heap.size t pos2 err2 W') ⟨by repeat (first | with_reducible assumption | with_reducible exact Own.fresh _ _ _ | (with_reducible apply Own.new'; simp; done) | with_reducible apply Own.drew | with_reducible apply Own.drewN | with_reducible apply Own.alloc | with_reducible apply Own.put | rfl | (refine Own.far ?_ (by first | (simp; done) | (simp; omega) | omega) _) | (with_reducible refine Own.new_ ?_ (by with_reducible assumption)) | (refine Own.fr ?_ (by with_reducible assumption) (by show ¬ (_ = _); omega))), by repeat (first | with_reducible assumption | with_reducible exact Own.fresh _ _ _ | (with_reducible apply Own.new'; simp; done) | with_reducible apply Own.drew | with_reducible apply Own.drewN | with_reducible apply Own.alloc | with_reducible apply Own.put | rfl | (refine Own.far ?_ (by first | (simp; done) | (simp; omega) | omega) _) | (with_reducible refine Own.new_ ?_ (by with_reducible assumption)) | (refine Own.fr ?_ (by with_reducible assumption) (by show ¬ (_ = _); omega))), by repeat (first | with_reducible exact Fr.refl _ _ | with_reducible assumption | with_reducible refine Fr.drew ?_ | with_reducible refine Fr.drewN ?_ _ | with_reducible refine Fr.alloc ?_ _ | with_reducible refine Fr.set ?_ (by first | exact fun _ => rfl | (intro hlt; exfalso; simp at hlt; try omega) | (simp; omega)) _ | with_reducible refine Fr.new_ ?_ (by with_reducible assumption) | (with_reducible refine Fr.trans ?_ (by with_reducible assumption) (fun i hi e => by (first | omega | (simp at e; omega))))), hok2⟩ ?_
            rintro W' ⟨o8, q8, n8, hok8⟩
            clear o1 q1 n1 hok
            have HE : ∀ x, Calls Try.prog 34 #[.pointer (some ⟨w.heap.size, 0, none⟩)] (nw W' x) fun e w' => e = .returned (.int .i64 err2) ∧ ∃ y, w' = nw W' y := fun x => Calls.nw_same' (err_any (r := ⟨t, pos2, err2⟩) (Own.new_ o8 (nw_new _ x)))
            have HA : ∀ x, Calls Try.prog 35 #[.pointer (some ⟨w.heap.size, 0, none⟩)] (nw W' x) fun e w' => e = .returned (.int .i64 pos2) ∧ ∃ y, w' = nw W' y := fun x => Calls.nw_same' (at_any (r := ⟨t, pos2, err2⟩) (Own.new_ o8 (nw_new _ x)))
            have HL := left_nw (r := ⟨t, pos2, err2⟩) o8 hok2
            obtain ⟨f0, f1, f2⟩ := q8.nw3
            obtain ⟨r0, r1, r2⟩ := id hok2
            simp only at r0 r1 r2
            refine wp_region_new_lit (by kernel_rfl) (by kernel_rfl) ?_; (repeat (any_goals (first | go_big_quiet_step ((first | (go_at_call 34; exact HE _) | (go_at_call 35; exact HA _) | (go_at_call 36; exact HL _))) | quiet_step ((first | (go_at_call 34; exact HE _) | (go_at_call 35; exact HA _) | (go_at_call 36; exact HL _))) | (refine wpQuiet_step (fun K hK => ?_); go_simp; split <;> (refine hK _ ?_; clear hK K))))); all_goals (refine wpQuiet_nil ?_; intro _ hw'; obtain ⟨xq, hw''⟩ := hw'; subst hw''; have hnq := nw_new _ xq)
            have o9 := o8.new_ hnq
            have q9 := q8.new_ hnq
            have n9 := Fr.new_ n8 hnq
            clear o8 q8 n8 f0 f1 f2 HE HA HL r0 r1 r2
            go_wp2_with fail
            go_roundw
            case rel => exact ⟨k + 1, pos2, err2, by go_num, by omega, by repeat (first | with_reducible assumption | with_reducible exact Own.fresh _ _ _ | (with_reducible apply Own.new'; simp; done) | with_reducible apply Own.drew | with_reducible apply Own.drewN | with_reducible apply Own.alloc | with_reducible apply Own.put | rfl | (with_reducible refine Own.far ?_ (by simp; omega) _) | (with_reducible refine Own.new_ ?_ (by assumption))), by repeat (first | with_reducible assumption | with_reducible exact Own.fresh _ _ _ | (with_reducible apply Own.new'; simp; done) | with_reducible apply Own.drew | with_reducible apply Own.drewN | with_reducible apply Own.alloc | with_reducible apply Own.put | rfl | (with_reducible refine Own.far ?_ (by simp; omega) _) | (with_reducible refine Own.new_ ?_ (by assumption))), by repeat (first | with_reducible exact Fr.refl _ _ | with_reducible assumption | with_reducible refine Fr.drew ?_ | with_reducible refine Fr.drewN ?_ _ | with_reducible refine Fr.alloc ?_ _ | with_reducible refine Fr.set ?_ (by first | exact fun _ => rfl | (intro hlt; exfalso; simp at hlt; try omega) | (simp; omega)) _ | with_reducible refine Fr.new_ ?_ (by assumption)), hok2⟩
            case measure => simp [intOf]; omega
        by_cases k4 : kd = 4
        · subst k4
          obtain ⟨pos2, err2, x, hx, hok2⟩ := step_of (rBytes ⟨t, pos, err⟩ 32) (rBytes_s _ _) (rBytes_ok hok _)
          have HR := Lib.hid (fun ww => refBytes_any ⟨t, pos, err⟩ hok 32 (by omega) ww)
          rw [hx] at HR
          have HX := Lib.hid hx
          clear hx
          go_wp2_with fail
          refine (HR.out _).mono ?_
          rintro e w4 ⟨rfl, hn4⟩
          have o4 := (o1.new_ hn4).alloc (.cells #[.string t, .int .i64 pos2, .int .i64 err2] 52)
          have q4 := (q1.new_ hn4).alloc (.cells #[.string t, .int .i64 pos2, .int .i64 err2] 52)
          have n4 := (n1.new_ hn4).alloc (.cells #[.string t, .int .i64 pos2, .int .i64 err2] 52)
          have b4 := Own.fresh w4 52 #[.string t, .int .i64 pos2, .int .i64 err2]
          have hlt4 : w.heap.size + 1 < w4.heap.size := (q1.new_ hn4).lt
          clear hn4
          go_wp2_with fail
          generalize w4.alloc (.cells #[.string t, .int .i64 pos2, .int .i64 err2] 52) = W0 at *
          obtain ⟨g0, g1, g2, g3, g4, g5⟩ := q4.three
          obtain ⟨h0, h1, h2, h3, h4, h5⟩ := b4.three
          go_region_with (go_at_call 47; refine Calls.mono (hash_any (r := ⟨t, pos, err⟩) ?_ hok) ?_; (focus (show Own _ _ _ _; repeat (first | with_reducible assumption | with_reducible exact Own.fresh _ _ _ | (with_reducible apply Own.new'; simp; done) | with_reducible apply Own.drew | with_reducible apply Own.drewN | with_reducible apply Own.alloc | with_reducible apply Own.put | rfl | (refine Own.far ?_ (by first | (simp; done) | (simp; omega) | omega) _) | (with_reducible refine Own.new_ ?_ (by with_reducible assumption)) | (refine Own.fr ?_ (by with_reducible assumption) (by show ¬ (_ = _); omega))))); rw [HX.out]; rintro e w5 ⟨rfl, ho5, hf5⟩; have o5 : Own w5 w.heap.size 108 #[.string t, .int .i64 pos2, .int .i64 err2] := ho5; clear ho5; try (have mq : Own w5 (w.heap.size + 1) 52 #[.string t, .int .i64 pos, .int .i64 err] := (by repeat (first | with_reducible assumption | with_reducible exact Own.fresh _ _ _ | (with_reducible apply Own.new'; simp; done) | with_reducible apply Own.drew | with_reducible apply Own.drewN | with_reducible apply Own.alloc | with_reducible apply Own.put | rfl | (refine Own.far ?_ (by first | (simp; done) | (simp; omega) | omega) _) | (with_reducible refine Own.new_ ?_ (by with_reducible assumption)) | (refine Own.fr ?_ (by with_reducible assumption) (by show ¬ (_ = _); omega)))); obtain ⟨m0, m1, m2, m3, m4, m5⟩ := mq.three); try (obtain ⟨n0, n1, n2, n3, n4, n5⟩ := Own.three (show Own w5 w4.heap.size 52 #[.string t, .int .i64 pos2, .int .i64 err2] by repeat (first | with_reducible assumption | with_reducible exact Own.fresh _ _ _ | (with_reducible apply Own.new'; simp; done) | with_reducible apply Own.drew | with_reducible apply Own.drewN | with_reducible apply Own.alloc | with_reducible apply Own.put | rfl | (refine Own.far ?_ (by first | (simp; done) | (simp; omega) | omega) _) | (with_reducible refine Own.new_ ?_ (by with_reducible assumption)) | (refine Own.fr ?_ (by with_reducible assumption) (by show ¬ (_ = _); omega))))))
          all_goals go_wp2_with fail
          all_goals
            refine wp_world (fun W' => GetsI w w.heap.size t pos2 err2 W') ⟨by repeat (first | with_reducible assumption | with_reducible exact Own.fresh _ _ _ | (with_reducible apply Own.new'; simp; done) | with_reducible apply Own.drew | with_reducible apply Own.drewN | with_reducible apply Own.alloc | with_reducible apply Own.put | rfl | (refine Own.far ?_ (by first | (simp; done) | (simp; omega) | omega) _) | (with_reducible refine Own.new_ ?_ (by with_reducible assumption)) | (refine Own.fr ?_ (by with_reducible assumption) (by show ¬ (_ = _); omega))), by repeat (first | with_reducible assumption | with_reducible exact Own.fresh _ _ _ | (with_reducible apply Own.new'; simp; done) | with_reducible apply Own.drew | with_reducible apply Own.drewN | with_reducible apply Own.alloc | with_reducible apply Own.put | rfl | (refine Own.far ?_ (by first | (simp; done) | (simp; omega) | omega) _) | (with_reducible refine Own.new_ ?_ (by with_reducible assumption)) | (refine Own.fr ?_ (by with_reducible assumption) (by show ¬ (_ = _); omega))), by repeat (first | with_reducible exact Fr.refl _ _ | with_reducible assumption | with_reducible refine Fr.drew ?_ | with_reducible refine Fr.drewN ?_ _ | with_reducible refine Fr.alloc ?_ _ | with_reducible refine Fr.set ?_ (by first | exact fun _ => rfl | (intro hlt; exfalso; simp at hlt; try omega) | (simp; omega)) _ | with_reducible refine Fr.new_ ?_ (by with_reducible assumption) | (with_reducible refine Fr.trans ?_ (by with_reducible assumption) (fun i hi e => by (first | omega | (simp at e; omega))))), hok2⟩ ?_
            rintro W' ⟨o8, q8, n8, hok8⟩
            clear o1 q1 n1 hok
            have HE : ∀ x, Calls Try.prog 34 #[.pointer (some ⟨w.heap.size, 0, none⟩)] (nw W' x) fun e w' => e = .returned (.int .i64 err2) ∧ ∃ y, w' = nw W' y := fun x => Calls.nw_same' (err_any (r := ⟨t, pos2, err2⟩) (Own.new_ o8 (nw_new _ x)))
            have HA : ∀ x, Calls Try.prog 35 #[.pointer (some ⟨w.heap.size, 0, none⟩)] (nw W' x) fun e w' => e = .returned (.int .i64 pos2) ∧ ∃ y, w' = nw W' y := fun x => Calls.nw_same' (at_any (r := ⟨t, pos2, err2⟩) (Own.new_ o8 (nw_new _ x)))
            have HL := left_nw (r := ⟨t, pos2, err2⟩) o8 hok2
            obtain ⟨f0, f1, f2⟩ := q8.nw3
            obtain ⟨r0, r1, r2⟩ := id hok2
            simp only at r0 r1 r2
            refine wp_region_new_lit (by kernel_rfl) (by kernel_rfl) ?_; (repeat (any_goals (first | go_big_quiet_step ((first | (go_at_call 34; exact HE _) | (go_at_call 35; exact HA _) | (go_at_call 36; exact HL _))) | quiet_step ((first | (go_at_call 34; exact HE _) | (go_at_call 35; exact HA _) | (go_at_call 36; exact HL _))) | (refine wpQuiet_step (fun K hK => ?_); go_simp; split <;> (refine hK _ ?_; clear hK K))))); all_goals (refine wpQuiet_nil ?_; intro _ hw'; obtain ⟨xq, hw''⟩ := hw'; subst hw''; have hnq := nw_new _ xq)
            have o9 := o8.new_ hnq
            have q9 := q8.new_ hnq
            have n9 := Fr.new_ n8 hnq
            clear o8 q8 n8 f0 f1 f2 HE HA HL r0 r1 r2
            go_wp2_with fail
            go_roundw
            case rel => exact ⟨k + 1, pos2, err2, by go_num, by omega, by repeat (first | with_reducible assumption | with_reducible exact Own.fresh _ _ _ | (with_reducible apply Own.new'; simp; done) | with_reducible apply Own.drew | with_reducible apply Own.drewN | with_reducible apply Own.alloc | with_reducible apply Own.put | rfl | (with_reducible refine Own.far ?_ (by simp; omega) _) | (with_reducible refine Own.new_ ?_ (by assumption))), by repeat (first | with_reducible assumption | with_reducible exact Own.fresh _ _ _ | (with_reducible apply Own.new'; simp; done) | with_reducible apply Own.drew | with_reducible apply Own.drewN | with_reducible apply Own.alloc | with_reducible apply Own.put | rfl | (with_reducible refine Own.far ?_ (by simp; omega) _) | (with_reducible refine Own.new_ ?_ (by assumption))), by repeat (first | with_reducible exact Fr.refl _ _ | with_reducible assumption | with_reducible refine Fr.drew ?_ | with_reducible refine Fr.drewN ?_ _ | with_reducible refine Fr.alloc ?_ _ | with_reducible refine Fr.set ?_ (by first | exact fun _ => rfl | (intro hlt; exfalso; simp at hlt; try omega) | (simp; omega)) _ | with_reducible refine Fr.new_ ?_ (by assumption)), hok2⟩
            case measure => simp [intOf]; omega
        by_cases k5 : kd = 5
        · subst k5
          obtain ⟨pos2, err2, x, hx, hok2⟩ := step_of (rBool ⟨t, pos, err⟩) (rBool_s _) (rBool_ok hok)
          have HR := Lib.hid (fun ww => refBool_any ⟨t, pos, err⟩ hok ww)
          rw [hx] at HR
          have HX := Lib.hid hx
          clear hx
          go_wp2_with fail
          refine (HR.out _).mono ?_
          rintro e w4 ⟨rfl, hn4⟩
          have o4 := (o1.new_ hn4).alloc (.cells #[.string t, .int .i64 pos2, .int .i64 err2] 52)
          have q4 := (q1.new_ hn4).alloc (.cells #[.string t, .int .i64 pos2, .int .i64 err2] 52)
          have n4 := (n1.new_ hn4).alloc (.cells #[.string t, .int .i64 pos2, .int .i64 err2] 52)
          have b4 := Own.fresh w4 52 #[.string t, .int .i64 pos2, .int .i64 err2]
          have hlt4 : w.heap.size + 1 < w4.heap.size := (q1.new_ hn4).lt
          clear hn4
          go_wp2_with fail
          generalize w4.alloc (.cells #[.string t, .int .i64 pos2, .int .i64 err2] 52) = W0 at *
          obtain ⟨g0, g1, g2, g3, g4, g5⟩ := q4.three
          obtain ⟨h0, h1, h2, h3, h4, h5⟩ := b4.three
          go_region_with (go_at_call 41; refine Calls.mono (bool_any (r := ⟨t, pos, err⟩) ?_ hok) ?_; (focus (show Own _ _ _ _; repeat (first | with_reducible assumption | with_reducible exact Own.fresh _ _ _ | (with_reducible apply Own.new'; simp; done) | with_reducible apply Own.drew | with_reducible apply Own.drewN | with_reducible apply Own.alloc | with_reducible apply Own.put | rfl | (refine Own.far ?_ (by first | (simp; done) | (simp; omega) | omega) _) | (with_reducible refine Own.new_ ?_ (by with_reducible assumption)) | (refine Own.fr ?_ (by with_reducible assumption) (by show ¬ (_ = _); omega))))); rw [HX.out]; rintro e w5 ⟨rfl, ho5, hf5⟩; have o5 : Own w5 w.heap.size 108 #[.string t, .int .i64 pos2, .int .i64 err2] := ho5; clear ho5; try (have mq : Own w5 (w.heap.size + 1) 52 #[.string t, .int .i64 pos, .int .i64 err] := (by repeat (first | with_reducible assumption | with_reducible exact Own.fresh _ _ _ | (with_reducible apply Own.new'; simp; done) | with_reducible apply Own.drew | with_reducible apply Own.drewN | with_reducible apply Own.alloc | with_reducible apply Own.put | rfl | (refine Own.far ?_ (by first | (simp; done) | (simp; omega) | omega) _) | (with_reducible refine Own.new_ ?_ (by with_reducible assumption)) | (refine Own.fr ?_ (by with_reducible assumption) (by show ¬ (_ = _); omega)))); obtain ⟨m0, m1, m2, m3, m4, m5⟩ := mq.three); try (obtain ⟨n0, n1, n2, n3, n4, n5⟩ := Own.three (show Own w5 w4.heap.size 52 #[.string t, .int .i64 pos2, .int .i64 err2] by repeat (first | with_reducible assumption | with_reducible exact Own.fresh _ _ _ | (with_reducible apply Own.new'; simp; done) | with_reducible apply Own.drew | with_reducible apply Own.drewN | with_reducible apply Own.alloc | with_reducible apply Own.put | rfl | (refine Own.far ?_ (by first | (simp; done) | (simp; omega) | omega) _) | (with_reducible refine Own.new_ ?_ (by with_reducible assumption)) | (refine Own.fr ?_ (by with_reducible assumption) (by show ¬ (_ = _); omega))))))
          all_goals go_wp2_with fail
          all_goals
            refine wp_world (fun W' => GetsI w w.heap.size t pos2 err2 W') ⟨by repeat (first | with_reducible assumption | with_reducible exact Own.fresh _ _ _ | (with_reducible apply Own.new'; simp; done) | with_reducible apply Own.drew | with_reducible apply Own.drewN | with_reducible apply Own.alloc | with_reducible apply Own.put | rfl | (refine Own.far ?_ (by first | (simp; done) | (simp; omega) | omega) _) | (with_reducible refine Own.new_ ?_ (by with_reducible assumption)) | (refine Own.fr ?_ (by with_reducible assumption) (by show ¬ (_ = _); omega))), by repeat (first | with_reducible assumption | with_reducible exact Own.fresh _ _ _ | (with_reducible apply Own.new'; simp; done) | with_reducible apply Own.drew | with_reducible apply Own.drewN | with_reducible apply Own.alloc | with_reducible apply Own.put | rfl | (refine Own.far ?_ (by first | (simp; done) | (simp; omega) | omega) _) | (with_reducible refine Own.new_ ?_ (by with_reducible assumption)) | (refine Own.fr ?_ (by with_reducible assumption) (by show ¬ (_ = _); omega))), by repeat (first | with_reducible exact Fr.refl _ _ | with_reducible assumption | with_reducible refine Fr.drew ?_ | with_reducible refine Fr.drewN ?_ _ | with_reducible refine Fr.alloc ?_ _ | with_reducible refine Fr.set ?_ (by first | exact fun _ => rfl | (intro hlt; exfalso; simp at hlt; try omega) | (simp; omega)) _ | with_reducible refine Fr.new_ ?_ (by with_reducible assumption) | (with_reducible refine Fr.trans ?_ (by with_reducible assumption) (fun i hi e => by (first | omega | (simp at e; omega))))), hok2⟩ ?_
            rintro W' ⟨o8, q8, n8, hok8⟩
            clear o1 q1 n1 hok
            have HE : ∀ x, Calls Try.prog 34 #[.pointer (some ⟨w.heap.size, 0, none⟩)] (nw W' x) fun e w' => e = .returned (.int .i64 err2) ∧ ∃ y, w' = nw W' y := fun x => Calls.nw_same' (err_any (r := ⟨t, pos2, err2⟩) (Own.new_ o8 (nw_new _ x)))
            have HA : ∀ x, Calls Try.prog 35 #[.pointer (some ⟨w.heap.size, 0, none⟩)] (nw W' x) fun e w' => e = .returned (.int .i64 pos2) ∧ ∃ y, w' = nw W' y := fun x => Calls.nw_same' (at_any (r := ⟨t, pos2, err2⟩) (Own.new_ o8 (nw_new _ x)))
            have HL := left_nw (r := ⟨t, pos2, err2⟩) o8 hok2
            obtain ⟨f0, f1, f2⟩ := q8.nw3
            obtain ⟨r0, r1, r2⟩ := id hok2
            simp only at r0 r1 r2
            refine wp_region_new_lit (by kernel_rfl) (by kernel_rfl) ?_; (repeat (any_goals (first | go_big_quiet_step ((first | (go_at_call 34; exact HE _) | (go_at_call 35; exact HA _) | (go_at_call 36; exact HL _))) | quiet_step ((first | (go_at_call 34; exact HE _) | (go_at_call 35; exact HA _) | (go_at_call 36; exact HL _))) | (refine wpQuiet_step (fun K hK => ?_); go_simp; split <;> (refine hK _ ?_; clear hK K))))); all_goals (refine wpQuiet_nil ?_; intro _ hw'; obtain ⟨xq, hw''⟩ := hw'; subst hw''; have hnq := nw_new _ xq)
            have o9 := o8.new_ hnq
            have q9 := q8.new_ hnq
            have n9 := Fr.new_ n8 hnq
            clear o8 q8 n8 f0 f1 f2 HE HA HL r0 r1 r2
            go_wp2_with fail
            go_roundw
            case rel => exact ⟨k + 1, pos2, err2, by go_num, by omega, by repeat (first | with_reducible assumption | with_reducible exact Own.fresh _ _ _ | (with_reducible apply Own.new'; simp; done) | with_reducible apply Own.drew | with_reducible apply Own.drewN | with_reducible apply Own.alloc | with_reducible apply Own.put | rfl | (with_reducible refine Own.far ?_ (by simp; omega) _) | (with_reducible refine Own.new_ ?_ (by assumption))), by repeat (first | with_reducible assumption | with_reducible exact Own.fresh _ _ _ | (with_reducible apply Own.new'; simp; done) | with_reducible apply Own.drew | with_reducible apply Own.drewN | with_reducible apply Own.alloc | with_reducible apply Own.put | rfl | (with_reducible refine Own.far ?_ (by simp; omega) _) | (with_reducible refine Own.new_ ?_ (by assumption))), by repeat (first | with_reducible exact Fr.refl _ _ | with_reducible assumption | with_reducible refine Fr.drew ?_ | with_reducible refine Fr.drewN ?_ _ | with_reducible refine Fr.alloc ?_ _ | with_reducible refine Fr.set ?_ (by first | exact fun _ => rfl | (intro hlt; exfalso; simp at hlt; try omega) | (simp; omega)) _ | with_reducible refine Fr.new_ ?_ (by assumption)), hok2⟩
            case measure => simp [intOf]; omega
        by_cases k6 : kd = 6
        · subst k6
          by_cases he : err = 0
          · have HX : Hid (rFail ⟨t, pos, err⟩ 7 = ⟨t, pos, 7⟩) := if_pos he
            subst he
            go_wp2_with fail
            refine (fail_any (r := ⟨t, pos, 0⟩) o1 7).mono ?_
            rw [HX.out]
            rintro e w5 ⟨rfl, ho5, hf5⟩
            have o5 : Own w5 w.heap.size 108 #[.string t, .int .i64 pos, .int .i64 7] := ho5
            clear ho5
            have mq : Own w5 (w.heap.size + 1) 52 #[.string t, .int .i64 pos, .int .i64 0] := by repeat (first | with_reducible assumption | with_reducible exact Own.fresh _ _ _ | (with_reducible apply Own.new'; simp; done) | with_reducible apply Own.drew | with_reducible apply Own.drewN | with_reducible apply Own.alloc | with_reducible apply Own.put | rfl | (refine Own.far ?_ (by first | (simp; done) | (simp; omega) | omega) _) | (with_reducible refine Own.new_ ?_ (by with_reducible assumption)) | (refine Own.fr ?_ (by with_reducible assumption) (by show ¬ (_ = _); omega)))
            obtain ⟨m0, m1, m2, m3, m4, m5⟩ := mq.three
            have hok2 : Rd.ok ⟨t, pos, 7⟩ := hok
            go_wp2_with fail
            refine wp_world (fun W' => GetsI w w.heap.size t pos 7 W') ⟨by repeat (first | with_reducible assumption | with_reducible exact Own.fresh _ _ _ | (with_reducible apply Own.new'; simp; done) | with_reducible apply Own.drew | with_reducible apply Own.drewN | with_reducible apply Own.alloc | with_reducible apply Own.put | rfl | (refine Own.far ?_ (by first | (simp; done) | (simp; omega) | omega) _) | (with_reducible refine Own.new_ ?_ (by with_reducible assumption)) | (refine Own.fr ?_ (by with_reducible assumption) (by show ¬ (_ = _); omega))), by repeat (first | with_reducible assumption | with_reducible exact Own.fresh _ _ _ | (with_reducible apply Own.new'; simp; done) | with_reducible apply Own.drew | with_reducible apply Own.drewN | with_reducible apply Own.alloc | with_reducible apply Own.put | rfl | (refine Own.far ?_ (by first | (simp; done) | (simp; omega) | omega) _) | (with_reducible refine Own.new_ ?_ (by with_reducible assumption)) | (refine Own.fr ?_ (by with_reducible assumption) (by show ¬ (_ = _); omega))), by repeat (first | with_reducible exact Fr.refl _ _ | with_reducible assumption | with_reducible refine Fr.drew ?_ | with_reducible refine Fr.drewN ?_ _ | with_reducible refine Fr.alloc ?_ _ | with_reducible refine Fr.set ?_ (by first | exact fun _ => rfl | (intro hlt; exfalso; simp at hlt; try omega) | (simp; omega)) _ | with_reducible refine Fr.new_ ?_ (by with_reducible assumption) | (with_reducible refine Fr.trans ?_ (by with_reducible assumption) (fun i hi e => by (first | omega | (simp at e; omega))))), hok2⟩ ?_
            rintro W' ⟨o8, q8, n8, hok8⟩
            clear o1 q1 n1 hok
            have HE : ∀ x, Calls Try.prog 34 #[.pointer (some ⟨w.heap.size, 0, none⟩)] (nw W' x) fun e w' => e = .returned (.int .i64 7) ∧ ∃ y, w' = nw W' y := fun x => Calls.nw_same' (err_any (r := ⟨t, pos, 7⟩) (Own.new_ o8 (nw_new _ x)))
            have HA : ∀ x, Calls Try.prog 35 #[.pointer (some ⟨w.heap.size, 0, none⟩)] (nw W' x) fun e w' => e = .returned (.int .i64 pos) ∧ ∃ y, w' = nw W' y := fun x => Calls.nw_same' (at_any (r := ⟨t, pos, 7⟩) (Own.new_ o8 (nw_new _ x)))
            have HL := left_nw (r := ⟨t, pos, 7⟩) o8 hok2
            obtain ⟨f0, f1, f2⟩ := q8.nw3
            obtain ⟨r0, r1, r2⟩ := id hok2
            simp only at r0 r1 r2
            refine wp_region_new_lit (by kernel_rfl) (by kernel_rfl) ?_; (repeat (any_goals (first | go_big_quiet_step ((first | (go_at_call 34; exact HE _) | (go_at_call 35; exact HA _) | (go_at_call 36; exact HL _))) | quiet_step ((first | (go_at_call 34; exact HE _) | (go_at_call 35; exact HA _) | (go_at_call 36; exact HL _))) | (refine wpQuiet_step (fun K hK => ?_); go_simp; split <;> (refine hK _ ?_; clear hK K))))); all_goals (refine wpQuiet_nil ?_; intro _ hw'; obtain ⟨xq, hw''⟩ := hw'; subst hw''; have hnq := nw_new _ xq)
            have o9 := o8.new_ hnq
            have q9 := q8.new_ hnq
            have n9 := Fr.new_ n8 hnq
            clear o8 q8 n8 f0 f1 f2 HE HA HL r0 r1 r2
            go_wp2_with fail
            go_roundw
            case rel => exact ⟨k + 1, pos, 7, by go_num, by omega, by repeat (first | with_reducible assumption | with_reducible exact Own.fresh _ _ _ | (with_reducible apply Own.new'; simp; done) | with_reducible apply Own.drew | with_reducible apply Own.drewN | with_reducible apply Own.alloc | with_reducible apply Own.put | rfl | (with_reducible refine Own.far ?_ (by simp; omega) _) | (with_reducible refine Own.new_ ?_ (by assumption))), by repeat (first | with_reducible assumption | with_reducible exact Own.fresh _ _ _ | (with_reducible apply Own.new'; simp; done) | with_reducible apply Own.drew | with_reducible apply Own.drewN | with_reducible apply Own.alloc | with_reducible apply Own.put | rfl | (with_reducible refine Own.far ?_ (by simp; omega) _) | (with_reducible refine Own.new_ ?_ (by assumption))), by repeat (first | with_reducible exact Fr.refl _ _ | with_reducible assumption | with_reducible refine Fr.drew ?_ | with_reducible refine Fr.drewN ?_ _ | with_reducible refine Fr.alloc ?_ _ | with_reducible refine Fr.set ?_ (by first | exact fun _ => rfl | (intro hlt; exfalso; simp at hlt; try omega) | (simp; omega)) _ | with_reducible refine Fr.new_ ?_ (by assumption)), hok2⟩
            case measure => simp [intOf]; omega
          · have HX : Hid (rFail ⟨t, pos, err⟩ 7 = ⟨t, pos, err⟩) := if_neg he
            have hz : (err == 0) = false := by rw [beq_eq_false_iff_ne]; exact he
            clear he
            go_wp2_with fail
            refine (fail_any (r := ⟨t, pos, err⟩) o1 7).mono ?_
            rw [HX.out]
            rintro e w5 ⟨rfl, ho5, hf5⟩
            have o5 : Own w5 w.heap.size 108 #[.string t, .int .i64 pos, .int .i64 err] := ho5
            clear ho5
            have mq : Own w5 (w.heap.size + 1) 52 #[.string t, .int .i64 pos, .int .i64 err] := by repeat (first | with_reducible assumption | with_reducible exact Own.fresh _ _ _ | (with_reducible apply Own.new'; simp; done) | with_reducible apply Own.drew | with_reducible apply Own.drewN | with_reducible apply Own.alloc | with_reducible apply Own.put | rfl | (refine Own.far ?_ (by first | (simp; done) | (simp; omega) | omega) _) | (with_reducible refine Own.new_ ?_ (by with_reducible assumption)) | (refine Own.fr ?_ (by with_reducible assumption) (by show ¬ (_ = _); omega)))
            obtain ⟨m0, m1, m2, m3, m4, m5⟩ := mq.three
            have hok2 : Rd.ok ⟨t, pos, err⟩ := hok
            go_wp2_with fail
            refine wp_world (fun W' => GetsI w w.heap.size t pos err W') ⟨by repeat (first | with_reducible assumption | with_reducible exact Own.fresh _ _ _ | (with_reducible apply Own.new'; simp; done) | with_reducible apply Own.drew | with_reducible apply Own.drewN | with_reducible apply Own.alloc | with_reducible apply Own.put | rfl | (refine Own.far ?_ (by first | (simp; done) | (simp; omega) | omega) _) | (with_reducible refine Own.new_ ?_ (by with_reducible assumption)) | (refine Own.fr ?_ (by with_reducible assumption) (by show ¬ (_ = _); omega))), by repeat (first | with_reducible assumption | with_reducible exact Own.fresh _ _ _ | (with_reducible apply Own.new'; simp; done) | with_reducible apply Own.drew | with_reducible apply Own.drewN | with_reducible apply Own.alloc | with_reducible apply Own.put | rfl | (refine Own.far ?_ (by first | (simp; done) | (simp; omega) | omega) _) | (with_reducible refine Own.new_ ?_ (by with_reducible assumption)) | (refine Own.fr ?_ (by with_reducible assumption) (by show ¬ (_ = _); omega))), by repeat (first | with_reducible exact Fr.refl _ _ | with_reducible assumption | with_reducible refine Fr.drew ?_ | with_reducible refine Fr.drewN ?_ _ | with_reducible refine Fr.alloc ?_ _ | with_reducible refine Fr.set ?_ (by first | exact fun _ => rfl | (intro hlt; exfalso; simp at hlt; try omega) | (simp; omega)) _ | with_reducible refine Fr.new_ ?_ (by with_reducible assumption) | (with_reducible refine Fr.trans ?_ (by with_reducible assumption) (fun i hi e => by (first | omega | (simp at e; omega))))), hok2⟩ ?_
            rintro W' ⟨o8, q8, n8, hok8⟩
            clear o1 q1 n1 hok
            have HE : ∀ x, Calls Try.prog 34 #[.pointer (some ⟨w.heap.size, 0, none⟩)] (nw W' x) fun e w' => e = .returned (.int .i64 err) ∧ ∃ y, w' = nw W' y := fun x => Calls.nw_same' (err_any (r := ⟨t, pos, err⟩) (Own.new_ o8 (nw_new _ x)))
            have HA : ∀ x, Calls Try.prog 35 #[.pointer (some ⟨w.heap.size, 0, none⟩)] (nw W' x) fun e w' => e = .returned (.int .i64 pos) ∧ ∃ y, w' = nw W' y := fun x => Calls.nw_same' (at_any (r := ⟨t, pos, err⟩) (Own.new_ o8 (nw_new _ x)))
            have HL := left_nw (r := ⟨t, pos, err⟩) o8 hok2
            obtain ⟨f0, f1, f2⟩ := q8.nw3
            obtain ⟨r0, r1, r2⟩ := id hok2
            simp only at r0 r1 r2
            refine wp_region_new_lit (by kernel_rfl) (by kernel_rfl) ?_; (repeat (any_goals (first | go_big_quiet_step ((first | (go_at_call 34; exact HE _) | (go_at_call 35; exact HA _) | (go_at_call 36; exact HL _))) | quiet_step ((first | (go_at_call 34; exact HE _) | (go_at_call 35; exact HA _) | (go_at_call 36; exact HL _))) | (refine wpQuiet_step (fun K hK => ?_); go_simp; split <;> (refine hK _ ?_; clear hK K))))); all_goals (refine wpQuiet_nil ?_; intro _ hw'; obtain ⟨xq, hw''⟩ := hw'; subst hw''; have hnq := nw_new _ xq)
            have o9 := o8.new_ hnq
            have q9 := q8.new_ hnq
            have n9 := Fr.new_ n8 hnq
            clear o8 q8 n8 f0 f1 f2 HE HA HL r0 r1 r2
            go_wp2_with fail
            go_roundw
            case rel => exact ⟨k + 1, pos, err, by go_num, by omega, by repeat (first | with_reducible assumption | with_reducible exact Own.fresh _ _ _ | (with_reducible apply Own.new'; simp; done) | with_reducible apply Own.drew | with_reducible apply Own.drewN | with_reducible apply Own.alloc | with_reducible apply Own.put | rfl | (with_reducible refine Own.far ?_ (by simp; omega) _) | (with_reducible refine Own.new_ ?_ (by assumption))), by repeat (first | with_reducible assumption | with_reducible exact Own.fresh _ _ _ | (with_reducible apply Own.new'; simp; done) | with_reducible apply Own.drew | with_reducible apply Own.drewN | with_reducible apply Own.alloc | with_reducible apply Own.put | rfl | (with_reducible refine Own.far ?_ (by simp; omega) _) | (with_reducible refine Own.new_ ?_ (by assumption))), by repeat (first | with_reducible exact Fr.refl _ _ | with_reducible assumption | with_reducible refine Fr.drew ?_ | with_reducible refine Fr.drewN ?_ _ | with_reducible refine Fr.alloc ?_ _ | with_reducible refine Fr.set ?_ (by first | exact fun _ => rfl | (intro hlt; exfalso; simp at hlt; try omega) | (simp; omega)) _ | with_reducible refine Fr.new_ ?_ (by assumption)), hok2⟩
            case measure => simp [intOf]; omega
        have b1 : (kd == 1) = false := by rw [beq_eq_false_iff_ne]; exact k1
        have b2 : (kd == 2) = false := by rw [beq_eq_false_iff_ne]; exact k2
        have b3 : (kd == 3) = false := by rw [beq_eq_false_iff_ne]; exact k3
        have b4 : (kd == 4) = false := by rw [beq_eq_false_iff_ne]; exact k4
        have b5 : (kd == 5) = false := by rw [beq_eq_false_iff_ne]; exact k5
        have b6 : (kd == 6) = false := by rw [beq_eq_false_iff_ne]; exact k6
        clear k1 k2 k3 k4 k5 k6
        obtain ⟨pos2, err2, x, hx, hok2⟩ := step_of (rBytes ⟨t, pos, err⟩ kn) (rBytes_s _ _) (rBytes_ok hok _)
        have HR := Lib.hid (fun ww => refBytes_any ⟨t, pos, err⟩ hok kn hkn ww)
        rw [hx] at HR
        have HX := Lib.hid hx
        clear hx
        go_wp2_with fail
        refine (HR.out _).mono ?_
        rintro e w4 ⟨rfl, hn4⟩
        have o4 := (o1.new_ hn4).alloc (.cells #[.string t, .int .i64 pos2, .int .i64 err2] 52)
        have q4 := (q1.new_ hn4).alloc (.cells #[.string t, .int .i64 pos2, .int .i64 err2] 52)
        have n4 := (n1.new_ hn4).alloc (.cells #[.string t, .int .i64 pos2, .int .i64 err2] 52)
        have b4 := Own.fresh w4 52 #[.string t, .int .i64 pos2, .int .i64 err2]
        have hlt4 : w.heap.size + 1 < w4.heap.size := (q1.new_ hn4).lt
        clear hn4
        go_wp2_with fail
        generalize w4.alloc (.cells #[.string t, .int .i64 pos2, .int .i64 err2] 52) = W0 at *
        obtain ⟨g0, g1, g2, g3, g4, g5⟩ := q4.three
        obtain ⟨h0, h1, h2, h3, h4, h5⟩ := b4.three
        go_region_with (go_at_call 50; refine Calls.mono (bytes_any (r := ⟨t, pos, err⟩) ?_ hok kn hkn) ?_; (focus (show Own _ _ _ _; repeat (first | with_reducible assumption | with_reducible exact Own.fresh _ _ _ | (with_reducible apply Own.new'; simp; done) | with_reducible apply Own.drew | with_reducible apply Own.drewN | with_reducible apply Own.alloc | with_reducible apply Own.put | rfl | (refine Own.far ?_ (by first | (simp; done) | (simp; omega) | omega) _) | (with_reducible refine Own.new_ ?_ (by with_reducible assumption)) | (refine Own.fr ?_ (by with_reducible assumption) (by show ¬ (_ = _); omega))))); rw [HX.out]; rintro e w5 ⟨rfl, ho5, hf5⟩; have o5 : Own w5 w.heap.size 108 #[.string t, .int .i64 pos2, .int .i64 err2] := ho5; clear ho5; try (have mq : Own w5 (w.heap.size + 1) 52 #[.string t, .int .i64 pos, .int .i64 err] := (by repeat (first | with_reducible assumption | with_reducible exact Own.fresh _ _ _ | (with_reducible apply Own.new'; simp; done) | with_reducible apply Own.drew | with_reducible apply Own.drewN | with_reducible apply Own.alloc | with_reducible apply Own.put | rfl | (refine Own.far ?_ (by first | (simp; done) | (simp; omega) | omega) _) | (with_reducible refine Own.new_ ?_ (by with_reducible assumption)) | (refine Own.fr ?_ (by with_reducible assumption) (by show ¬ (_ = _); omega)))); obtain ⟨m0, m1, m2, m3, m4, m5⟩ := mq.three); try (obtain ⟨n0, n1, n2, n3, n4, n5⟩ := Own.three (show Own w5 w4.heap.size 52 #[.string t, .int .i64 pos2, .int .i64 err2] by repeat (first | with_reducible assumption | with_reducible exact Own.fresh _ _ _ | (with_reducible apply Own.new'; simp; done) | with_reducible apply Own.drew | with_reducible apply Own.drewN | with_reducible apply Own.alloc | with_reducible apply Own.put | rfl | (refine Own.far ?_ (by first | (simp; done) | (simp; omega) | omega) _) | (with_reducible refine Own.new_ ?_ (by with_reducible assumption)) | (refine Own.fr ?_ (by with_reducible assumption) (by show ¬ (_ = _); omega))))))
        all_goals go_wp2_with fail
        all_goals
          refine wp_world (fun W' => GetsI w w.heap.size t pos2 err2 W') ⟨by repeat (first | with_reducible assumption | with_reducible exact Own.fresh _ _ _ | (with_reducible apply Own.new'; simp; done) | with_reducible apply Own.drew | with_reducible apply Own.drewN | with_reducible apply Own.alloc | with_reducible apply Own.put | rfl | (refine Own.far ?_ (by first | (simp; done) | (simp; omega) | omega) _) | (with_reducible refine Own.new_ ?_ (by with_reducible assumption)) | (refine Own.fr ?_ (by with_reducible assumption) (by show ¬ (_ = _); omega))), by repeat (first | with_reducible assumption | with_reducible exact Own.fresh _ _ _ | (with_reducible apply Own.new'; simp; done) | with_reducible apply Own.drew | with_reducible apply Own.drewN | with_reducible apply Own.alloc | with_reducible apply Own.put | rfl | (refine Own.far ?_ (by first | (simp; done) | (simp; omega) | omega) _) | (with_reducible refine Own.new_ ?_ (by with_reducible assumption)) | (refine Own.fr ?_ (by with_reducible assumption) (by show ¬ (_ = _); omega))), by repeat (first | with_reducible exact Fr.refl _ _ | with_reducible assumption | with_reducible refine Fr.drew ?_ | with_reducible refine Fr.drewN ?_ _ | with_reducible refine Fr.alloc ?_ _ | with_reducible refine Fr.set ?_ (by first | exact fun _ => rfl | (intro hlt; exfalso; simp at hlt; try omega) | (simp; omega)) _ | with_reducible refine Fr.new_ ?_ (by with_reducible assumption) | (with_reducible refine Fr.trans ?_ (by with_reducible assumption) (fun i hi e => by (first | omega | (simp at e; omega))))), hok2⟩ ?_
          rintro W' ⟨o8, q8, n8, hok8⟩
          clear o1 q1 n1 hok
          have HE : ∀ x, Calls Try.prog 34 #[.pointer (some ⟨w.heap.size, 0, none⟩)] (nw W' x) fun e w' => e = .returned (.int .i64 err2) ∧ ∃ y, w' = nw W' y := fun x => Calls.nw_same' (err_any (r := ⟨t, pos2, err2⟩) (Own.new_ o8 (nw_new _ x)))
          have HA : ∀ x, Calls Try.prog 35 #[.pointer (some ⟨w.heap.size, 0, none⟩)] (nw W' x) fun e w' => e = .returned (.int .i64 pos2) ∧ ∃ y, w' = nw W' y := fun x => Calls.nw_same' (at_any (r := ⟨t, pos2, err2⟩) (Own.new_ o8 (nw_new _ x)))
          have HL := left_nw (r := ⟨t, pos2, err2⟩) o8 hok2
          obtain ⟨f0, f1, f2⟩ := q8.nw3
          obtain ⟨r0, r1, r2⟩ := id hok2
          simp only at r0 r1 r2
          refine wp_region_new_lit (by kernel_rfl) (by kernel_rfl) ?_; (repeat (any_goals (first | go_big_quiet_step ((first | (go_at_call 34; exact HE _) | (go_at_call 35; exact HA _) | (go_at_call 36; exact HL _))) | quiet_step ((first | (go_at_call 34; exact HE _) | (go_at_call 35; exact HA _) | (go_at_call 36; exact HL _))) | (refine wpQuiet_step (fun K hK => ?_); go_simp; split <;> (refine hK _ ?_; clear hK K))))); all_goals (refine wpQuiet_nil ?_; intro _ hw'; obtain ⟨xq, hw''⟩ := hw'; subst hw''; have hnq := nw_new _ xq)
          have o9 := o8.new_ hnq
          have q9 := q8.new_ hnq
          have n9 := Fr.new_ n8 hnq
          clear o8 q8 n8 f0 f1 f2 HE HA HL r0 r1 r2
          go_wp2_with fail
          go_roundw
          case rel => exact ⟨k + 1, pos2, err2, by go_num, by omega, by repeat (first | with_reducible assumption | with_reducible exact Own.fresh _ _ _ | (with_reducible apply Own.new'; simp; done) | with_reducible apply Own.drew | with_reducible apply Own.drewN | with_reducible apply Own.alloc | with_reducible apply Own.put | rfl | (with_reducible refine Own.far ?_ (by simp; omega) _) | (with_reducible refine Own.new_ ?_ (by assumption))), by repeat (first | with_reducible assumption | with_reducible exact Own.fresh _ _ _ | (with_reducible apply Own.new'; simp; done) | with_reducible apply Own.drew | with_reducible apply Own.drewN | with_reducible apply Own.alloc | with_reducible apply Own.put | rfl | (with_reducible refine Own.far ?_ (by simp; omega) _) | (with_reducible refine Own.new_ ?_ (by assumption))), by repeat (first | with_reducible exact Fr.refl _ _ | with_reducible assumption | with_reducible refine Fr.drew ?_ | with_reducible refine Fr.drewN ?_ _ | with_reducible refine Fr.alloc ?_ _ | with_reducible refine Fr.set ?_ (by first | exact fun _ => rfl | (intro hlt; exfalso; simp at hlt; try omega) | (simp; omega)) _ | with_reducible refine Fr.new_ ?_ (by assumption)), hok2⟩
          case measure => simp [intOf]; omega
      · obtain ⟨e3, hE⟩ : ∃ e3, rEnd ⟨t, pos, err⟩ = ⟨t, pos, e3⟩ := by unfold rEnd; split <;> exact ⟨_, rfl⟩
        have HE := Lib.hid (fun ww hh => end_any (b := w.heap.size) (r := ⟨t, pos, err⟩) (w := ww) hh hok)
        have HR := Lib.hid (fun ww => refEnd_any ⟨t, pos, err⟩ ww)
        rw [hE] at HE HR
        simp only [Rd.val] at HR
        clear hE
        have hfd := fun v => field_err t pos e3 v
        obtain ⟨i0, i1, i2, i3, i4, i5⟩ := q1.three
        have hz1 : w.heap.size + 1 < wr.heap.size := q1.lt
        go_wp2_with fail
        go_region_with (first | (go_at_call 33; refine (awake_any _).mono ?_; rintro e w5 ⟨rfl, hn5⟩; have o5 : Own w5 w.heap.size 108 #[.string t, .int .i64 pos, .int .i64 err] := (by repeat (first | with_reducible assumption | with_reducible exact Own.fresh _ _ _ | (with_reducible apply Own.new'; simp; done) | with_reducible apply Own.drew | with_reducible apply Own.drewN | with_reducible apply Own.alloc | with_reducible apply Own.put | rfl | (refine Own.far ?_ (by first | (simp; done) | (simp; omega) | omega) _) | (with_reducible refine Own.new_ ?_ (by with_reducible assumption)) | (refine Own.fr ?_ (by with_reducible assumption) (by show ¬ (_ = _); omega)))); have q5 : Own w5 (w.heap.size + 1) 52 #[.string t, .int .i64 pos, .int .i64 err] := (by repeat (first | with_reducible assumption | with_reducible exact Own.fresh _ _ _ | (with_reducible apply Own.new'; simp; done) | with_reducible apply Own.drew | with_reducible apply Own.drewN | with_reducible apply Own.alloc | with_reducible apply Own.put | rfl | (refine Own.far ?_ (by first | (simp; done) | (simp; omega) | omega) _) | (with_reducible refine Own.new_ ?_ (by with_reducible assumption)) | (refine Own.fr ?_ (by with_reducible assumption) (by show ¬ (_ = _); omega)))); obtain ⟨m0, m1, m2, m3, m4, m5⟩ := q5.three) | (go_at_call 42; refine Calls.mono (HE.out _ ?_) ?_; (focus (show Own _ _ _ _; repeat (first | with_reducible assumption | with_reducible exact Own.fresh _ _ _ | (with_reducible apply Own.new'; simp; done) | with_reducible apply Own.drew | with_reducible apply Own.drewN | with_reducible apply Own.alloc | with_reducible apply Own.put | rfl | (refine Own.far ?_ (by first | (simp; done) | (simp; omega) | omega) _) | (with_reducible refine Own.new_ ?_ (by with_reducible assumption)) | (refine Own.fr ?_ (by with_reducible assumption) (by show ¬ (_ = _); omega))))); rintro e w6 ⟨rfl, ho6, hf6⟩; have q6 : Own w6 (w.heap.size + 1) 52 #[.string t, .int .i64 pos, .int .i64 err] := (by repeat (first | with_reducible assumption | with_reducible exact Own.fresh _ _ _ | (with_reducible apply Own.new'; simp; done) | with_reducible apply Own.drew | with_reducible apply Own.drewN | with_reducible apply Own.alloc | with_reducible apply Own.put | rfl | (refine Own.far ?_ (by first | (simp; done) | (simp; omega) | omega) _) | (with_reducible refine Own.new_ ?_ (by with_reducible assumption)) | (refine Own.fr ?_ (by with_reducible assumption) (by show ¬ (_ = _); omega)))); obtain ⟨n0, n1', n2, n3, n4, n5⟩ := q6.three) | (go_at_call 51; refine Calls.mono (HR.out _) ?_; rintro e w7 ⟨rfl, hn7⟩))
        all_goals go_wp2
        all_goals go_ret
        all_goals exact ⟨rfl, by repeat (first | with_reducible exact Fr.refl _ _ | with_reducible assumption | with_reducible refine Fr.drew ?_ | with_reducible refine Fr.drewN ?_ _ | with_reducible refine Fr.alloc ?_ _ | with_reducible refine Fr.set ?_ (by first | exact fun _ => rfl | (intro hlt; exfalso; simp at hlt; try omega) | (simp; omega)) _ | with_reducible refine Fr.new_ ?_ (by with_reducible assumption) | (with_reducible refine Fr.trans ?_ (by with_reducible assumption) (fun i hi e => by (first | omega | (simp at e; omega)))))⟩
    · obtain ⟨e3, hE⟩ : ∃ e3, rEnd ⟨t, pos, err⟩ = ⟨t, pos, e3⟩ := by unfold rEnd; split <;> exact ⟨_, rfl⟩
      have HE := Lib.hid (fun ww hh => end_any (b := w.heap.size) (r := ⟨t, pos, err⟩) (w := ww) hh hok)
      have HR := Lib.hid (fun ww => refEnd_any ⟨t, pos, err⟩ ww)
      rw [hE] at HE HR
      simp only [Rd.val] at HR
      clear hE
      have hfd := fun v => field_err t pos e3 v
      obtain ⟨i0, i1, i2, i3, i4, i5⟩ := q1.three
      have hz1 : w.heap.size + 1 < wr.heap.size := q1.lt
      go_wp2_with fail
      go_region_with (first | (go_at_call 33; refine (awake_any _).mono ?_; rintro e w5 ⟨rfl, hn5⟩; have o5 : Own w5 w.heap.size 108 #[.string t, .int .i64 pos, .int .i64 err] := (by repeat (first | with_reducible assumption | with_reducible exact Own.fresh _ _ _ | (with_reducible apply Own.new'; simp; done) | with_reducible apply Own.drew | with_reducible apply Own.drewN | with_reducible apply Own.alloc | with_reducible apply Own.put | rfl | (refine Own.far ?_ (by first | (simp; done) | (simp; omega) | omega) _) | (with_reducible refine Own.new_ ?_ (by with_reducible assumption)) | (refine Own.fr ?_ (by with_reducible assumption) (by show ¬ (_ = _); omega)))); have q5 : Own w5 (w.heap.size + 1) 52 #[.string t, .int .i64 pos, .int .i64 err] := (by repeat (first | with_reducible assumption | with_reducible exact Own.fresh _ _ _ | (with_reducible apply Own.new'; simp; done) | with_reducible apply Own.drew | with_reducible apply Own.drewN | with_reducible apply Own.alloc | with_reducible apply Own.put | rfl | (refine Own.far ?_ (by first | (simp; done) | (simp; omega) | omega) _) | (with_reducible refine Own.new_ ?_ (by with_reducible assumption)) | (refine Own.fr ?_ (by with_reducible assumption) (by show ¬ (_ = _); omega)))); obtain ⟨m0, m1, m2, m3, m4, m5⟩ := q5.three) | (go_at_call 42; refine Calls.mono (HE.out _ ?_) ?_; (focus (show Own _ _ _ _; repeat (first | with_reducible assumption | with_reducible exact Own.fresh _ _ _ | (with_reducible apply Own.new'; simp; done) | with_reducible apply Own.drew | with_reducible apply Own.drewN | with_reducible apply Own.alloc | with_reducible apply Own.put | rfl | (refine Own.far ?_ (by first | (simp; done) | (simp; omega) | omega) _) | (with_reducible refine Own.new_ ?_ (by with_reducible assumption)) | (refine Own.fr ?_ (by with_reducible assumption) (by show ¬ (_ = _); omega))))); rintro e w6 ⟨rfl, ho6, hf6⟩; have q6 : Own w6 (w.heap.size + 1) 52 #[.string t, .int .i64 pos, .int .i64 err] := (by repeat (first | with_reducible assumption | with_reducible exact Own.fresh _ _ _ | (with_reducible apply Own.new'; simp; done) | with_reducible apply Own.drew | with_reducible apply Own.drewN | with_reducible apply Own.alloc | with_reducible apply Own.put | rfl | (refine Own.far ?_ (by first | (simp; done) | (simp; omega) | omega) _) | (with_reducible refine Own.new_ ?_ (by with_reducible assumption)) | (refine Own.fr ?_ (by with_reducible assumption) (by show ¬ (_ = _); omega)))); obtain ⟨n0, n1', n2, n3, n4, n5⟩ := q6.three) | (go_at_call 51; refine Calls.mono (HR.out _) ?_; rintro e w7 ⟨rfl, hn7⟩))
      all_goals go_wp2
      all_goals go_ret
      all_goals exact ⟨rfl, by repeat (first | with_reducible exact Fr.refl _ _ | with_reducible assumption | with_reducible refine Fr.drew ?_ | with_reducible refine Fr.drewN ?_ _ | with_reducible refine Fr.alloc ?_ _ | with_reducible refine Fr.set ?_ (by first | exact fun _ => rfl | (intro hlt; exfalso; simp at hlt; try omega) | (simp; omega)) _ | with_reducible refine Fr.new_ ?_ (by with_reducible assumption) | (with_reducible refine Fr.trans ?_ (by with_reducible assumption) (fun i hi e => by (first | omega | (simp at e; omega)))))⟩
end Go.Proofs.Ytlefmnoaejpllaa
