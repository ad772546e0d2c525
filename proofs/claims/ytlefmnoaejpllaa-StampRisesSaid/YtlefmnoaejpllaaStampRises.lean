/- The walk of the law StampRises: a clock's times rise, all its own. -/
import Derived.Test.YtlefmnoaejpllaaStampG
import Derived.LoopTactic
import Derived.Laws.BitsAllLaws
namespace Go.Proofs.Ytlefmnoaejpllaa
open Go.RowKit
set_option linter.unusedVariables false

theorem i64_and15 (x : Int) : ∃ k, bits .and .i64 x 15 = k ∧ 0 ≤ k ∧ k < 16 := by
  refine ⟨_, rfl, ?_⟩
  unfold bits
  simp only [IntKind.bits]
  have h : (BitVec.ofInt 64 x &&& BitVec.ofInt 64 15).toNat < 16 := by
    rw [BitVec.toNat_and]
    have : (BitVec.ofInt 64 15).toNat = 15 := by decide
    rw [this]
    exact Nat.lt_of_le_of_lt Nat.and_le_right (by omega)
  show 0 ≤ IntKind.i64.wrap (((BitVec.ofInt 64 x &&& BitVec.ofInt 64 15).toNat : Nat) : Int) ∧ IntKind.i64.wrap (((BitVec.ofInt 64 x &&& BitVec.ofInt 64 15).toNat : Nat) : Int) < 16
  rw [IntKind.wrap_i64]
  omega

/-- What holds at each round's head. -/
def RisesI (w : World) (bc bl : Nat) (kk : Int) (n k : Nat) (wr : World) : Prop :=
  ∃ seen cl cw : Int, k ≤ n ∧ 0 ≤ seen ∧ seen ≤ 281474976710655 ∧ 0 ≤ cl ∧ cl ≤ seen ∧ (cl = 0 ∨ cw = kk) ∧ Own wr bc 103 #[.int .i64 kk, .int .u64 seen] ∧ Own wr bl 33 #[.int .u64 cl, .int .i64 cw] ∧ New w wr

theorem stampRises_walk (who : Int) (hw : (Lit.int .i64 who).wf = true) (l : ESl EStamp) {w : World} (hl : ESl33.facts w l) :
    Calls Try.prog 5 #[.int .i64 who, .slice l.adr l.len l.cap] w fun e w' => e = .returned (.bool true) ∧ New w w' := by
  obtain ⟨A, n, cap, V⟩ := l
  obtain ⟨hs, hnc, hcap, hV⟩ := hl
  obtain ⟨kk, hk, k0, k1⟩ := i64_and15 who
  simp only at hs hnc hcap hV
  unfold maxLen at hcap
  go_enter Try.func5, Try.ntmps5
  go_wp2_with fail
  refine (new_yes kk k0 k1 _).mono ?_
  rintro e w1 ⟨rfl, rfl⟩
  go_wp2_with fail
  refine (awake04 _).mono ?_
  rintro e w2 ⟨rfl, hn⟩
  have oc := (Own.fresh w 103 #[.int .i64 kk, .int .u64 0]).new_ hn
  have hn0 : New w w2 := ((Fr.refl _ _).alloc _).new_ hn
  have hne : w.heap.size < w2.heap.size := oc.lt
  clear hn hk
  go_wp2_with fail
  go_loopw [9] (fun i wr => ∃ k : Nat, i = .int .i64 k ∧ RisesI w w.heap.size w2.heap.size kk n k wr) (fun i _ => n - (intOf i).toNat)
  case atStart => exact ⟨0, rfl, 0, 0, 0, by omega, by omega, by omega, by omega, by omega, .inl rfl, oc.alloc _, by repeat (first | with_reducible assumption | with_reducible exact Own.fresh _ _ _ | (with_reducible refine Own.new' ?_; simp; done) | with_reducible refine Own.drew ?_ | with_reducible refine Own.drewN ?_ _ | with_reducible refine Own.alloc ?_ _ | with_reducible apply Own.put | rfl | with_reducible refine Own.far ?_ (by simp; omega) _ | with_reducible refine Own.new_ ?_ (by assumption)), by repeat (first | with_reducible exact Fr.refl _ _ | with_reducible assumption | with_reducible refine Fr.drew ?_ | with_reducible refine Fr.drewN ?_ _ | with_reducible refine Fr.alloc ?_ _ | with_reducible refine Fr.set ?_ (by first | exact fun _ => rfl | (intro hlt; exfalso; simp at hlt; try omega) | (simp; omega)) _ | with_reducible refine Fr.new_ ?_ (by assumption))⟩
  case round =>
    obtain ⟨k, rfl, seen, cl, cw, hkn, s0, s1, c0, c1, c2, oc, ol, hnr⟩ := hrel
    by_cases hlt : k < n
    · by_cases hl2 : k < 60
      · obtain ⟨sb, so, rfl, hc⟩ := (hs.new_ hnr).nw k hlt
        obtain ⟨d0, e0⟩ := hc 0 _ rfl
        obtain ⟨d1, e1⟩ := hc 1 _ rfl
        rw [Nat.add_zero] at d0 e0
        obtain ⟨o0, o1, o2, o3⟩ := oc.two
        obtain ⟨p0, p1, p2, p3⟩ := ol.two
        go_wp2_with fail
        refine (see_any oc).mono ?_
        rintro e w3 ⟨rfl, oc3, f3⟩
        clear o0 o1 o2 o3 p0 p1 p2 p3 d0 d1 e0 e1 hc
        obtain ⟨s, hs1, g0, g1, g2⟩ : ∃ s, seenI seen (V k).count (V k).who = s ∧ seen ≤ s ∧ (Good (V k).count (V k).who → (V k).count ≤ s) ∧ s ≤ 281474976710655 :=
          ⟨_, rfl, seenI_le, seenI_good, seenI_most s1⟩
        rw [hs1] at oc3
        clear hs1
        have ol3 := ol.fr f3 (by omega)
        have hn3 : New w w3 := hnr.trans f3 (by omega)
        clear f3 hnr oc ol
        by_cases hm : 281474976710655 ≤ s
        · obtain rfl : s = 281474976710655 := by omega
          go_wp2_with fail
          refine (next_no oc3 (by omega)).mono ?_
          rintro e w4 ⟨rfl, hn4⟩
          have oc4 := oc3.new_ hn4
          go_wp2_with fail
          refine (seen_some (who := kk) (seen := 281474976710655) (by repeat (first | with_reducible assumption | with_reducible exact Own.fresh _ _ _ | (with_reducible refine Own.new' ?_; simp; done) | with_reducible refine Own.drew ?_ | with_reducible refine Own.drewN ?_ _ | with_reducible refine Own.alloc ?_ _ | with_reducible apply Own.put | rfl | with_reducible refine Own.far ?_ (by simp; omega) _ | with_reducible refine Own.new_ ?_ (by assumption)))).mono ?_
          rintro e w5 ⟨rfl, rfl⟩
          go_wp2
          go_ret
          exact ⟨rfl, by repeat (first | with_reducible exact Fr.refl _ _ | with_reducible assumption | with_reducible refine Fr.drew ?_ | with_reducible refine Fr.drewN ?_ _ | with_reducible refine Fr.alloc ?_ _ | with_reducible refine Fr.set ?_ (by first | exact fun _ => rfl | (intro hlt; exfalso; simp at hlt; try omega) | (simp; omega)) _ | with_reducible refine Fr.new_ ?_ (by assumption))⟩
        · go_wp2_with fail
          refine (next_yes oc3 (by omega) (by omega)).mono ?_
          rintro e w4 ⟨rfl, oc4, f4⟩
          have ol4 := ol3.fr f4 (by omega)
          have hn4 : New w w4 := hn3.trans f4 (by omega)
          clear f4 oc3 ol3 hn3
          have hlt4 : w.heap.size < w4.heap.size ∧ w2.heap.size < w4.heap.size := ⟨oc4.lt, ol4.lt⟩
          have ol5 := ol4.alloc (.cells #[.int .u64 (s + 1), .int .i64 kk] 33)
          have on5 := Own.fresh w4 33 #[.int .u64 (s + 1), .int .i64 kk]
          have hn5 : New w (w4.alloc (.cells #[.int .u64 (s + 1), .int .i64 kk] 33)) := hn4.alloc _
          obtain ⟨sb', so', hso, hc⟩ := (hs.new_ hn5).nw k hlt
          injection hso with hso
          injection hso with hsb hso
          subst hsb hso
          obtain ⟨d0, e0⟩ := hc 0 _ rfl
          obtain ⟨d1, e1⟩ := hc 1 _ rfl
          rw [Nat.add_zero] at d0 e0
          obtain ⟨q0, q1⟩ := ol5.nw2
          obtain ⟨r0, r1⟩ := on5.nw2
          have b1 : decide (s + 1 ≤ cl) = false := by rw [decide_eq_false_iff_not]; omega
          have b2 : decide (0 ≤ orI (cmpI cl (s + 1)) (cmpI cw kk)) = false := by
            rw [decide_eq_false_iff_not]
            rw [show cmpI cl (s + 1) = -1 from if_pos (by omega)]
            unfold orI; rw [if_neg (by omega)]; omega
          have hx : (∃ z, (checkI (V k).count (V k).who == 0) = true ∧ decide (0 ≤ orI (cmpI (V k).count (s + 1)) (cmpI (V k).who kk)) = z ∧ z = false) ∨ (checkI (V k).count (V k).who == 0) = false := by
            by_cases hg : Good (V k).count (V k).who
            · refine .inl ⟨_, by rw [beq_iff_eq]; exact if_pos hg, rfl, ?_⟩
              have := g1 hg
              rw [decide_eq_false_iff_not]
              rw [show cmpI (V k).count (s + 1) = -1 from if_pos (by omega)]
              unfold orI; rw [if_neg (by omega)]; omega
            · refine .inr ?_
              rw [beq_eq_false_iff_ne]
              rw [show checkI (V k).count (V k).who = 40 from if_neg hg]
              omega
          clear hc g1
          rcases hx with ⟨z, b3, b4, rfl⟩ | b3
          all_goals
            go_wp2_with fail
            refine wp_region_new_lit (by kernel_rfl) (by kernel_rfl) ?_; (repeat (any_goals (first | go_big_quiet_step ((first | (go_at_call 24; exact Calls.nw_of (compare_any _ _ _ _ _)) | (go_at_call 25; exact Calls.nw_of (check_any _ _ _)))) | quiet_step ((first | (go_at_call 24; exact Calls.nw_of (compare_any _ _ _ _ _)) | (go_at_call 25; exact Calls.nw_of (check_any _ _ _)))) | (refine wpQuiet_step (fun K hK => ?_); go_simp; split <;> (refine hK _ ?_; clear hK K))))); all_goals (refine wpQuiet_nil ?_; intro _ hw'; obtain ⟨xq, hw''⟩ := hw'; subst hw''; have hnq := nw_new _ xq)
            have ol6 := ol5.new_ hnq
            have on6 := on5.new_ hnq
            have oc6 := (oc4.alloc (.cells #[.int .u64 (s + 1), .int .i64 kk] 33)).new_ hnq
            have hn6 := hn5.new_ hnq
            have hz := hn0.size
            clear ol5 on5 oc4 ol4 hn5 hn4 d0 d1 q0 q1 r0 r1 e0 e1 b1 b2
            obtain ⟨p0, p1, p2, p3⟩ := ol6.two
            obtain ⟨r0, r1, r2, r3⟩ := on6.two
            go_wp2
            go_roundw
            case rel =>
              refine ⟨k + 1, by go_num, s + 1, s + 1, kk, by omega, by omega, by omega, by omega, by omega, .inr rfl, ?_, ?_, ?_⟩
              · repeat (first | with_reducible assumption | with_reducible exact Own.fresh _ _ _ | (with_reducible refine Own.new' ?_; simp; done) | with_reducible refine Own.drew ?_ | with_reducible refine Own.drewN ?_ _ | with_reducible refine Own.alloc ?_ _ | with_reducible apply Own.put | rfl | with_reducible refine Own.far ?_ (by simp; omega) _ | with_reducible refine Own.new_ ?_ (by assumption))
              · repeat (first | with_reducible assumption | with_reducible exact Own.fresh _ _ _ | (with_reducible refine Own.new' ?_; simp; done) | with_reducible refine Own.drew ?_ | with_reducible refine Own.drewN ?_ _ | with_reducible refine Own.alloc ?_ _ | with_reducible apply Own.put | rfl | with_reducible refine Own.far ?_ (by simp; omega) _ | with_reducible refine Own.new_ ?_ (by assumption))
              · repeat (first | with_reducible exact Fr.refl _ _ | with_reducible assumption | with_reducible refine Fr.drew ?_ | with_reducible refine Fr.drewN ?_ _ | with_reducible refine Fr.alloc ?_ _ | with_reducible refine Fr.set ?_ (by first | exact fun _ => rfl | (intro hlt; exfalso; simp at hlt; try omega) | (simp; omega)) _ | with_reducible refine Fr.new_ ?_ (by assumption))
            case measure => simp [intOf]; omega
      · go_wp2
        go_ret
        exact ⟨rfl, by repeat (first | with_reducible exact Fr.refl _ _ | with_reducible assumption | with_reducible refine Fr.drew ?_ | with_reducible refine Fr.drewN ?_ _ | with_reducible refine Fr.alloc ?_ _ | with_reducible refine Fr.set ?_ (by first | exact fun _ => rfl | (intro hlt; exfalso; simp at hlt; try omega) | (simp; omega)) _ | with_reducible refine Fr.new_ ?_ (by assumption))⟩
    · go_wp2
      go_ret
      exact ⟨rfl, by repeat (first | with_reducible exact Fr.refl _ _ | with_reducible assumption | with_reducible refine Fr.drew ?_ | with_reducible refine Fr.drewN ?_ _ | with_reducible refine Fr.alloc ?_ _ | with_reducible refine Fr.set ?_ (by first | exact fun _ => rfl | (intro hlt; exfalso; simp at hlt; try omega) | (simp; omega)) _ | with_reducible refine Fr.new_ ?_ (by assumption))⟩
end Go.Proofs.Ytlefmnoaejpllaa
