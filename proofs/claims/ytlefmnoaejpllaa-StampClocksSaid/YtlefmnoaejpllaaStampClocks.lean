/- The walk of the law StampClocks: a clock tells a time behind all that it saw, its own, until there is none. -/
import Derived.Test.YtlefmnoaejpllaaStampG
import Derived.LoopTactic
namespace Go.Proofs.Ytlefmnoaejpllaa
open Go.RowKit
set_option linter.unusedVariables false

/-- What holds at each round's head. -/
def ClockI (w : World) (bc : Nat) (who : Int) (v : Value) (wr : World) : Prop :=
  ∃ seen : Int, v = .int .u64 seen ∧ 0 ≤ seen ∧ seen ≤ 281474976710655 ∧ Own wr bc 103 #[.int .i64 who, .int .u64 seen] ∧ New w wr

set_option maxRecDepth 100000 in
set_option maxHeartbeats 4000000 in
theorem stampClocks_walk (who : Int) (hw : (Lit.int .i64 who).wf = true) (l : ESl EStamp) {w : World} (hl : ESl33.facts w l) (asks : ESl Int) (ha : ESl3.facts w asks) :
    Calls Try.prog 4 #[.int .i64 who, .slice l.adr l.len l.cap, .slice asks.adr asks.len asks.cap] w fun e w' => e = .returned (.bool true) ∧ New w w' := by
  obtain ⟨A, n, cap, V⟩ := l
  obtain ⟨hs, hnc, hcap, hV⟩ := hl
  obtain ⟨A2, n2, cap2, U⟩ := asks
  obtain ⟨hs2, hnc2, hcap2, hU⟩ := ha
  simp only at hs hnc hcap hV hs2 hnc2 hcap2 hU
  unfold maxLen at hcap hcap2
  by_cases hwho : who < 0 ∨ 16 ≤ who
  · rcases (by omega : who < 0 ∨ (¬ who < 0 ∧ 15 < who)) with h | ⟨h, h2⟩
    all_goals
      go_enter Try.func4, Try.ntmps4
      go_wp2_with (first | (go_at_call 18; refine (new_no who hwho _).mono ?_; rintro e w1 ⟨rfl, rfl⟩) | (go_at_call 15; refine (awake04 _).mono ?_; rintro e w2 ⟨rfl, hn⟩))
      go_ret
      exact ⟨rfl, hn⟩
  · have w0 : ¬ who < 0 := by omega
    have w1 : ¬ 15 < who := by omega
    go_enter Try.func4, Try.ntmps4
    go_wp2_with fail
    refine (new_yes who (by omega) (by omega) _).mono ?_
    rintro e w1 ⟨rfl, rfl⟩
    go_wp2_with fail
    refine (awake04 _).mono ?_
    rintro e w2 ⟨rfl, hn⟩
    have oc := (Own.fresh w 103 #[.int .i64 who, .int .u64 0]).new_ hn
    have hn0 : New w w2 := ((Fr.refl _ _).alloc _).new_ hn
    clear hn
    go_wp2_with fail
    go_loopw [9, 10] (fun s i wr => ∃ k : Nat, i = .int .i64 k ∧ k ≤ n ∧ ClockI w w.heap.size who s wr) (fun _ i _ => n - (intOf i).toNat)
    case atStart => exact ⟨0, rfl, by omega, 0, rfl, by omega, by omega, oc, hn0⟩
    case round =>
      obtain ⟨k, rfl, hkn, seen, rfl, s0, s1, oc, hnr⟩ := hrel
      by_cases hlt : k < n
      · by_cases hl2 : k < 60
        · obtain ⟨sb, so, rfl, hc⟩ := (hs.new_ hnr).2 k hlt
          have d0 := hc 0 _ rfl
          have d1 := hc 1 _ rfl
          rw [Nat.add_zero] at d0
          go_wp2_with fail
          refine (see_any oc).mono ?_
          rintro e w3 ⟨rfl, oc3, f3⟩
          have hn3 : New w w3 := hnr.trans f3 (by omega)
          clear f3 hnr oc d0 d1 hc
          obtain ⟨sb', so', hso, hc⟩ := (hs.new_ hn3).2 k hlt
          injection hso with hso
          injection hso with hsb hso
          subst hsb hso
          have d0 := hc 0 _ rfl
          have d1 := hc 1 _ rfl
          rw [Nat.add_zero] at d0
          go_wp2_with fail
          refine (ref_any _ _ _).mono ?_
          rintro e w4 ⟨rfl, hn4⟩
          go_wp2_with fail
          refine (refCheck_any _ _ (bounds_u64 (hV k hlt).1).1 _).mono ?_
          rintro e w5 ⟨rfl, hn5⟩
          have oc5 := (oc3.new_ hn4).new_ hn5
          have hn6 := (hn3.new_ hn4).new_ hn5
          clear oc3 hn3 hn4 hn5 d0 d1 hc
          obtain ⟨sb', so', hso, hc⟩ := (hs.new_ hn6).2 k hlt
          injection hso with hso
          injection hso with hsb hso
          subst hsb hso
          have d0 := hc 0 _ rfl
          have d1 := hc 1 _ rfl
          rw [Nat.add_zero] at d0
          have hx : ∃ s, seenI seen (V k).count (V k).who = s ∧ 0 ≤ s ∧ s ≤ 281474976710655 ∧ (((checkI (V k).count (V k).who == 0) = false ∧ s = seen) ∨ ((checkI (V k).count (V k).who == 0) = true ∧ seen < (V k).count ∧ (V k).count = s) ∨ ((checkI (V k).count (V k).who == 0) = true ∧ (V k).count ≤ seen ∧ s = seen)) := by
            have h1 : seen ≤ seenI seen (V k).count (V k).who := seenI_le
            refine ⟨_, rfl, by omega, seenI_most s1, ?_⟩
            unfold seenI checkI
            by_cases hg : Good (V k).count (V k).who
            · rw [if_pos hg, if_pos hg]
              rcases (by omega : seen < (V k).count ∨ (V k).count ≤ seen) with h | h
              · exact .inr (.inl ⟨rfl, h, by omega⟩)
              · exact .inr (.inr ⟨rfl, h, by omega⟩)
            · rw [if_neg hg, if_neg hg]
              exact .inl ⟨rfl, rfl⟩
          obtain ⟨s, hs1, t0, t1, hx⟩ := hx
          rw [hs1] at oc5
          clear hs1 hc
          rcases hx with ⟨b, rfl⟩ | ⟨b, h, rfl⟩ | ⟨b, h, rfl⟩
          all_goals go_wp2_with fail
          all_goals
            obtain ⟨wo, rfl⟩ : ∃ wo : World, wo = w5 := ⟨_, rfl⟩
            go_loopw [9, 12] (fun sv jv wr' => ∃ j : Nat, jv = .int .i64 j ∧ j ≤ n2 ∧ ClockI w w.heap.size who sv wr') (fun _ jv _ => n2 - (intOf jv).toNat)
            case atStart => exact ⟨0, rfl, by omega, _, rfl, by omega, by omega, oc5, hn6⟩
            case round =>
              clear d0 d1 b oc5 hn6 t0 t1
              try clear h
              obtain ⟨j, rfl, hjn, s, rfl, s0, s1, oc, hnr⟩ := hrel
              have hnz : ((n : Int) == 0) = false := by rw [beq_eq_false_iff_ne]; omega
              by_cases hj : j < n2
              · by_cases hj3 : j < 3
                · obtain ⟨sc, sp, rfl, hc⟩ := (hs2.new_ hnr).2 j hj
                  have d0 := hc 0 _ rfl
                  rw [Nat.add_zero, Nat.mul_one] at d0
                  clear hc
                  go_wp2_with fail
                  · by_cases hm : 281474976710655 ≤ s
                    · refine (next_no oc hm).mono ?_
                      rintro e w6 ⟨rfl, hn6⟩
                      have oc6 := oc.new_ hn6
                      have hn7 := hnr.new_ hn6
                      clear oc hnr hn6 d0
                      go_wp2
                      go_roundw
                      case rel => exact ⟨j + 1, by go_num, by omega, s, rfl, s0, s1, oc6.alloc _, hn7.alloc _⟩
                      case measure => simp [intOf]; omega
                    · refine (next_yes oc s0 (by omega)).mono ?_
                      rintro e w6 ⟨rfl, oc6, f6⟩
                      have hn7 := hnr.trans f6 (by omega)
                      clear oc hnr f6 d0
                      go_wp2
                      go_roundw
                      case rel => exact ⟨j + 1, by go_num, by omega, s + 1, rfl, by omega, by omega, oc6.alloc _, hn7.alloc _⟩
                      case measure => simp [intOf]; omega
                  · clear d0
                    refine (seen_some oc).mono ?_
                    rintro e w6 ⟨rfl, rfl⟩
                    go_wp2
                    go_roundw
                    case rel => exact ⟨k + 1, by go_num, by omega, s, rfl, s0, s1, oc, hnr⟩
                    case measure => simp [intOf]; omega
                · go_wp2_with fail
                  refine (seen_some oc).mono ?_
                  rintro e w6 ⟨rfl, rfl⟩
                  go_wp2
                  go_roundw
                  case rel => exact ⟨k + 1, by go_num, by omega, s, rfl, s0, s1, oc, hnr⟩
                  case measure => simp [intOf]; omega
              · go_wp2_with fail
                refine (seen_some oc).mono ?_
                rintro e w6 ⟨rfl, rfl⟩
                go_wp2
                go_roundw
                case rel => exact ⟨k + 1, by go_num, by omega, s, rfl, s0, s1, oc, hnr⟩
                case measure => simp [intOf]; omega
        · go_wp2_with fail
          refine (next_nil _).mono ?_
          rintro e w6 ⟨rfl, hn6⟩
          go_wp2_with fail
          refine (see_nil _ _ _).mono ?_
          rintro e w7 ⟨rfl, hn7⟩
          go_wp2_with fail
          refine (seen_nil _).mono ?_
          rintro e w8 ⟨rfl, rfl⟩
          go_wp2
          go_ret
          exact ⟨rfl, by repeat (first | with_reducible exact Fr.refl _ _ | with_reducible assumption | with_reducible refine Fr.drew ?_ | with_reducible refine Fr.drewN ?_ _ | with_reducible refine Fr.alloc ?_ _ | with_reducible refine Fr.set ?_ (by first | exact fun _ => rfl | (intro hlt; exfalso; simp at hlt; try omega) | (simp; omega)) _ | with_reducible refine Fr.new_ ?_ (by assumption))⟩
      · go_wp2_with fail
        refine (next_nil _).mono ?_
        rintro e w6 ⟨rfl, hn6⟩
        go_wp2_with fail
        refine (see_nil _ _ _).mono ?_
        rintro e w7 ⟨rfl, hn7⟩
        go_wp2_with fail
        refine (seen_nil _).mono ?_
        rintro e w8 ⟨rfl, rfl⟩
        go_wp2
        go_ret
        exact ⟨rfl, by repeat (first | with_reducible exact Fr.refl _ _ | with_reducible assumption | with_reducible refine Fr.drew ?_ | with_reducible refine Fr.drewN ?_ _ | with_reducible refine Fr.alloc ?_ _ | with_reducible refine Fr.set ?_ (by first | exact fun _ => rfl | (intro hlt; exfalso; simp at hlt; try omega) | (simp; omega)) _ | with_reducible refine Fr.new_ ?_ (by assumption))⟩
end Go.Proofs.Ytlefmnoaejpllaa
