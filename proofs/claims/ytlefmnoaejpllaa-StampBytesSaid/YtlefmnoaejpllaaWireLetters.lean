/- awake of chapter 3; WireChecks, WireLetters: walks. -/
import Derived.Test.YtlefmnoaejpllaaWireEnd
import Derived.Test.YtlefmnoaejpllaaOpen
namespace Go.Proofs.Ytlefmnoaejpllaa
open Go.RowKit
set_option linter.unusedVariables false

theorem numB_258 : numB (clip 2) 258 = ⟨#[48, 49, 48, 50]⟩ := by decide +kernel
theorem rNumber_258 : rNumber ⟨⟨#[48, 49, 48, 50]⟩, 0, 0⟩ 2 = (⟨⟨#[48, 49, 48, 50]⟩, 4, 0⟩, 258) := by rfl
theorem rEnd_4 : rEnd ⟨⟨#[48, 49, 48, 50]⟩, 4, 0⟩ = ⟨⟨#[48, 49, 48, 50]⟩, 4, 0⟩ := by rfl
theorem Fr.into {w w1 w2 : World} {b : Nat} (h : New w w1) (k : Fr (· = b) w1 w2) (hb : w.heap.size ≤ b) : New w w2 := Fr.trans h k fun i hi e => by omega
theorem awake_any (w : World) : Calls Try.prog 33 #[] w fun e w' => e = .returned (.bool true) ∧ New w w' := by
  go_enter Try.func33, Try.ntmps33
  go_wp2_with fail
  refine (number_any 258 (by omega) 2 _).mono ?_
  rw [numB_258]
  rintro e w1 ⟨rfl, hn1⟩
  go_wp2_with fail
  refine (newReader_any _ _).mono ?_
  rintro e w2 ⟨rfl, h2⟩
  have ho : OwnR w2 w1.heap.size ⟨⟨#[48, 49, 48, 50]⟩, 0, 0⟩ := by rw [h2]; exact OwnR.fresh _ _
  have hn2 : New w w2 := by rw [h2]; exact hn1.alloc _
  have hb := hn1.size
  clear h2
  have hrd : Rd.ok ⟨⟨#[48, 49, 48, 50]⟩, 0, 0⟩ := ⟨by decide, by decide, by decide⟩
  go_wp2_with fail
  refine (rdNumber_any ho hrd 2).mono ?_
  rw [rNumber_258]
  rintro e w3 ⟨rfl, ho3, hf3⟩
  have hrd3 : Rd.ok ⟨⟨#[48, 49, 48, 50]⟩, 4, 0⟩ := ⟨by decide, by decide, by decide⟩
  go_wp2_with fail
  refine (end_any ho3 hrd3).mono ?_
  rw [rEnd_4]
  rintro e w4 ⟨rfl, ho4, hf4⟩
  go_wp2
  go_ret
  exact ⟨rfl, Fr.into (Fr.into hn2 hf3 hb) hf4 hb⟩

theorem wireChecks_walk (s : ByteArray) (hs : s.size ≤ 140737488351232) (w : World) : Calls Try.prog 8 #[.string s] w fun e w' => e = .returned (.bool true) ∧ New w w' := by
  have hk := few03_size s
  have hf := fun ww => few_any s (by omega) ww
  obtain ⟨t, ht⟩ : ∃ t, few03 s = t := ⟨_, rfl⟩
  rw [ht] at hk hf
  have HF := Lib.hid hf
  clear ht hf
  go_enter Try.func8, Try.ntmps8
  go_wp2_with (first | (go_at_call 33; refine (awake_any _).mono ?_; rintro e w1 ⟨rfl, hn1⟩) | (go_at_call 29; refine (HF.out _).mono ?_; rintro e wq ⟨rfl, rfl⟩) | (go_at_call 37; refine (fnv_any t (by omega) _).mono ?_; rintro e wq ⟨rfl, rfl⟩) | (go_at_call 38; refine (refFnv_any t (by omega) _).mono ?_; rintro e wq ⟨rfl, rfl⟩))
  go_ret
  exact ⟨rfl, hn1⟩

theorem rNumber_err {r : Rd} (h : r.ok) (k : Int) (he : r.err = 0) : (rNumber r k).1.err = 0 ∨ (rNumber r k).1.pos = r.pos := by
  unfold rNumber
  rw [if_pos he]
  split
  · exact .inr rfl
  · split
    · exact .inr rfl
    · split
      · exact .inl rfl
      · exact .inr rfl
set_option maxRecDepth 100000 in
set_option maxHeartbeats 2000000 in
theorem wireLetters_walk (s : ByteArray) (hs : s.size ≤ 140737488351232) (k : Int) (hk : (Lit.int .i64 k).wf = true) (w : World) : Calls Try.prog 7 #[.string s, .int .i64 k] w fun e w' => e = .returned (.bool true) ∧ New w w' := by
  have hk2 := few03_size s
  have hf := fun ww => few_any s (by omega) ww
  obtain ⟨t, ht⟩ : ∃ t, few03 s = t := ⟨_, rfl⟩
  rw [ht] at hk2 hf
  have HF := Lib.hid hf
  clear ht hf
  have hrd : Rd.ok ⟨t, 0, 0⟩ := ⟨by simp only; omega, by simp, by simp⟩
  have hok := rNumber_ok hrd k
  have hss := rNumber_s ⟨t, 0, 0⟩ k
  have herr := rNumber_err hrd k rfl
  have HN := fun ww (hh : OwnR ww ww.heap.size ⟨t, 0, 0⟩) => hh
  obtain ⟨⟨q, n⟩, hq⟩ : ∃ q, rNumber ⟨t, 0, 0⟩ k = q := ⟨_, rfl⟩
  obtain ⟨qs, qp, qe⟩ := q
  rw [hq] at hok hss herr
  simp only at hss herr
  obtain rfl := hss
  go_enter Try.func7, Try.ntmps7
  go_wp2_with fail
  refine (HF.out _).mono ?_
  rintro e wq ⟨rfl, rfl⟩
  go_wp2_with fail
  refine (newReader_any _ _).mono ?_
  rintro e w2 ⟨rfl, h2⟩
  have ho : OwnR w2 w.heap.size ⟨qs, 0, 0⟩ := by rw [h2]; exact OwnR.fresh _ _
  have hn2 : New w w2 := by rw [h2]; exact (Fr.refl _ _).alloc _
  clear h2
  go_wp2_with fail
  refine (rdNumber_any ho hrd k).mono ?_
  rw [hq]
  rintro e w3 ⟨rfl, ho3, hf3⟩
  have hn3 := Fr.into hn2 hf3 (Nat.le_refl _)
  go_wp2_with fail
  refine (refRdNumber_any ⟨qs, 0, 0⟩ hrd k _).mono ?_
  rw [hq]
  rintro e w4 ⟨rfl, hn4⟩
  have ho4 := ho3.new_ hn4
  have ho4' := ho4.alloc (.cells #[.string qs, .int .i64 qp, .int .i64 qe] 52)
  have hn5 := (hn3.new_ hn4).alloc (.cells #[.string qs, .int .i64 qp, .int .i64 qe] 52)
  have hb := Own.fresh w4 52 #[.string qs, .int .i64 qp, .int .i64 qe]
  clear ho hf3 ho3 hn2 hn4
  go_wp2_with fail
  generalize w4.alloc (.cells #[.string qs, .int .i64 qp, .int .i64 qe] 52) = W at *
  obtain ⟨f0, f1, f2⟩ := hb.nw3
  have HE : ∀ x, Calls Try.prog 34 #[.pointer (some ⟨w.heap.size, 0, none⟩)] (nw W x) fun e w' => e = .returned (.int .i64 qe) ∧ ∃ y, w' = nw W y := fun x => Calls.nw_same' (err_any (r := ⟨qs, qp, qe⟩) (Own.new_ ho4' (nw_new _ x)))
  have HA : ∀ x, Calls Try.prog 35 #[.pointer (some ⟨w.heap.size, 0, none⟩)] (nw W x) fun e w' => e = .returned (.int .i64 qp) ∧ ∃ y, w' = nw W y := fun x => Calls.nw_same' (at_any (r := ⟨qs, qp, qe⟩) (Own.new_ ho4' (nw_new _ x)))
  have HL : ∀ x, Calls Try.prog 36 #[.pointer (some ⟨w.heap.size, 0, none⟩)] (nw W x) fun e w' => e = .returned (.int .i64 (qs.size - qp)) ∧ ∃ y, w' = nw W y := by
    intro x
    refine Calls.nw_of ((left_any (r := ⟨qs, qp, qe⟩) (Own.new_ ho4' (nw_new _ x)) hok).mono ?_)
    rintro e w' ⟨rfl, n, rfl⟩
    exact ⟨rfl, (Fr.refl _ _).drewN _⟩
  obtain ⟨r0, r1, r2⟩ := hok
  simp only at r0 r1 r2
  have hd : (qe == 0) = true ∨ ((qe == 0) = false ∧ (qp == 0) = true) := by
    rcases herr with rfl | rfl
    · exact .inl rfl
    · by_cases h : qe = 0
      · subst h; exact .inl rfl
      · exact .inr ⟨by simpa using h, rfl⟩
  clear ho4 herr hb HF HN hrd hq hn3
  rcases hd with hd | ⟨hd, hd2⟩
  all_goals
    refine wp_region_new_lit (by kernel_rfl) (by kernel_rfl) ?_; (repeat (any_goals (first | go_big_quiet_step ((first | (go_at_call 33; exact Calls.nw_of (awake_any _)) | (go_at_call 34; exact HE _) | (go_at_call 35; exact HA _) | (go_at_call 36; exact HL _))) | quiet_step ((first | (go_at_call 33; exact Calls.nw_of (awake_any _)) | (go_at_call 34; exact HE _) | (go_at_call 35; exact HA _) | (go_at_call 36; exact HL _))) | (refine wpQuiet_step (fun K hK => ?_); go_simp; split <;> (refine hK _ ?_; clear hK K))))); all_goals (refine wpQuiet_nil ?_; intro _ hw'; obtain ⟨xq, hw''⟩ := hw'; subst hw''; have hnq := nw_new _ xq)
    go_wp2
    go_ret
    exact ⟨rfl, Fr.new_ hn5 hnq⟩
end Go.Proofs.Ytlefmnoaejpllaa
