/- WireFraming: the walk. -/
import Derived.Test.YtlefmnoaejpllaaWireRefUnfr
import Derived.LoopTactic
namespace Go.Proofs.Ytlefmnoaejpllaa
open Go.RowKit
set_option linter.unusedVariables false

/-- The frames of the first so many texts. -/
def framesB (V : Nat → ByteArray) : Nat → ByteArray
  | 0 => .empty
  | i + 1 => framesB V i ++ frameB (few03 (V i))
theorem frameB_size (s : ByteArray) : (frameB s).size = 16 + s.size := by
  unfold frameB
  rw [ByteArray.size_append, ByteArray.size_append, numB_size, numB_size]
theorem framesB_size (V : Nat → ByteArray) (i : Nat) : (framesB V i).size ≤ 516 * i := by
  induction i with
  | zero => simp [framesB]
  | succ i ih =>
    have := few03_size (V i)
    rw [framesB, ByteArray.size_append, frameB_size]
    omega
theorem framesB_split (V : Nat → ByteArray) (j : Nat) : ∀ i, j ≤ i → ∃ c, framesB V i = framesB V j ++ c := by
  intro i h
  induction i with
  | zero =>
    obtain rfl : j = 0 := by omega
    exact ⟨.empty, (ByteArray.append_empty).symm⟩
  | succ i ih =>
    rcases Nat.lt_or_ge i j with hlt | hge
    · obtain rfl : j = i + 1 := by omega
      exact ⟨.empty, (ByteArray.append_empty).symm⟩
    · obtain ⟨c, hc⟩ := ih hge
      exact ⟨c ++ frameB (few03 (V i)), by rw [framesB, hc, ByteArray.append_assoc]⟩
theorem framesB_at (V : Nat → ByteArray) (i j : Nat) (h : j < i) (hi : i ≤ 6) : unfr (framesB V i) (framesB V j).size = (few03 (V j), ((framesB V (j + 1)).size : Int), 0) := by
  obtain ⟨c, hc⟩ := framesB_split V (j + 1) i h
  have hs := few03_size (V j)
  have hz := framesB_size V i
  rw [hc] at hz ⊢
  rw [framesB] at hz ⊢
  rw [unfr_at _ _ _ (by omega) (by omega)]
  simp only [Prod.mk.injEq, true_and, and_true]
  rw [ByteArray.size_append, frameB_size]
  omega

set_option maxRecDepth 100000 in
set_option maxHeartbeats 4000000 in
theorem wireFraming_walk (l : ESl ByteArray) {w : World} (hl : ESl9.facts w l) (more : ByteArray) (hmore : more.size ≤ 140737488351232) (at_ : Int) (hat : (Lit.int .i64 at_).wf = true) : Calls Try.prog 11 #[.slice l.adr l.len l.cap, .string more, .int .i64 at_] w fun e w' => e = .returned (.bool true) ∧ New w w' := by
  obtain ⟨A, n, cap, V⟩ := l
  obtain ⟨hsl, hnc, hcap, hV⟩ := hl
  simp only at hsl hnc hcap hV
  unfold maxLen at hcap hV
  have hmz := few03_size more
  have HM := Lib.hid (fun ww => few_any more (by omega) ww)
  obtain ⟨m, hm⟩ : ∃ m, few03 more = m := ⟨_, rfl⟩
  rw [hm] at hmz HM
  clear hm
  go_enter Try.func11, Try.ntmps11
  go_wp2_with fail
  go_loopw [7, 8, 9] (fun sv kv iv wr => ∃ i : Nat, iv = .int .i64 i ∧ kv = .int .i64 i ∧ i ≤ n ∧ i ≤ 6 ∧ sv = .string (framesB V i) ∧ New w wr) (fun _ _ iv _ => n - (intOf iv).toNat)
  case atStart => exact ⟨0, rfl, rfl, by omega, by omega, rfl, Fr.refl _ _⟩
  case round =>
    obtain ⟨i, rfl, rfl, hin, hi6, rfl, n1⟩ := hrel
    have hfz := framesB_size V i
    obtain ⟨all, hall⟩ : ∃ all, framesB V i = all := ⟨_, rfl⟩
    rw [hall] at hfz
    rw [hall]
    have HALL := Lib.hid hall
    clear hall
    by_cases hlt : i < n ∧ i < 6
    · obtain ⟨hl1, hl2⟩ := hlt
      obtain ⟨sb, so, rfl, hc⟩ := (hsl.new_ n1).nw i hl1
      obtain ⟨d0, e0⟩ := hc 0 _ rfl
      simp only [Nat.mul_one, Nat.add_zero] at d0 e0
      have hv := hV i hl1
      have hz1 := few03_size (V i)
      have hz2 := frameB_size (few03 (V i))
      have HF := Lib.hid (fun x => Calls.nw_same' (w := wr) (x := x) (few_any (V i) (by omega) (nw wr x)))
      have HG := Lib.hid (fun x => Calls.nw_of (w := wr) (x := x) (frame_any (few03 (V i)) (by omega) (nw wr x)))
      have HR := Lib.hid (fun x => Calls.nw_of (w := wr) (x := x) (refFrame_any (few03 (V i)) (by omega) (nw wr x)))
      have HF2 := Lib.hid (fun ww => few_any (V i) (by omega) ww)
      have HR2 := Lib.hid (fun ww => refFrame_any (few03 (V i)) (by omega) ww)
      have HS : Hid (framesB V (i + 1) = all ++ frameB (few03 (V i))) := by show _ = _; rw [framesB, HALL.out]
      obtain ⟨fr, hfr⟩ : ∃ fr, frameB (few03 (V i)) = fr := ⟨_, rfl⟩
      rw [hfr] at HG HR HR2 HS hz2
      obtain ⟨t, ht⟩ : ∃ t, few03 (V i) = t := ⟨_, rfl⟩
      rw [ht] at HF HG HR HF2 HR2 hz1 hz2
      obtain ⟨vi, hvi⟩ : ∃ vi, V i = vi := ⟨_, rfl⟩
      rw [hvi] at d0 e0 HF HF2 hv
      clear hc hfr ht hvi
      go_wp2_with fail
      refine wp_region_new_lit (by kernel_rfl) (by kernel_rfl) ?_; (repeat (any_goals (first | go_big_quiet_step ((first | (go_at_call 29; exact HF.out _) | (go_at_call 52; exact HG.out _) | (go_at_call 53; exact HR.out _))) | quiet_step ((first | (go_at_call 29; exact HF.out _) | (go_at_call 52; exact HG.out _) | (go_at_call 53; exact HR.out _))) | (refine wpQuiet_step (fun K hK => ?_); go_simp; split <;> (refine hK _ ?_; clear hK K))))); all_goals (refine wpQuiet_nil ?_; intro _ hw'; obtain ⟨xq, hw''⟩ := hw'; subst hw''; have hnq := nw_new _ xq)
      have g0 := e0 xq
      have n2 := Fr.new_ n1 hnq
      clear d0 e0 n1 hnq HF HG HR
      generalize nw wr xq = W1 at *
      go_wp2_with fail
      refine (HF2.out _).mono ?_
      rintro e wq ⟨rfl, rfl⟩
      go_wp2_with fail
      refine (HR2.out _).mono ?_
      rintro e w3 ⟨rfl, hn3⟩
      have n3 := Fr.new_ n2 hn3
      go_wp2_with fail
      go_roundw
      case rel => exact ⟨i + 1, by go_num, by go_num, by omega, by omega, by rw [HS.out], n3⟩
      case measure => simp [intOf]; omega
    · have hend : (i < n ∧ i = 6) ∨ ¬ i < n := by omega
      rcases hend with ⟨hl1, hl2⟩ | hl1
      all_goals
        have HL := Lib.hid hlt
        clear hlt
        have HAT := Lib.hid (fun j (hj : j < i) => framesB_at V i j hj hi6)
        rw [HALL.out] at HAT
        go_wp2_with fail
        go_loopw [10, 11] (fun pv jv wr2 => ∃ j p : Nat, jv = .int .i64 j ∧ j ≤ i ∧ pv = .int .i64 p ∧ Hid (p = (framesB V j).size) ∧ p ≤ 3096 ∧ New w wr2) (fun _ jv _ => i - (intOf jv).toNat)
        case atStart => exact ⟨0, 0, rfl, by omega, rfl, by show _ = _; simp [framesB], by omega, n1⟩
        case round =>
          obtain ⟨j, p, rfl, hji, rfl, HP, hp, n5⟩ := hrel
          by_cases hj : j < i
          · have hu := HAT.out j hj
            rw [← HP.out] at hu
            have HX := Lib.hid (fun ww => unframe_any all (by omega) (p : Int) ww)
            rw [hu] at HX
            have hv := hV j (by omega)
            have hz1 := few03_size (V j)
            have hz3 := framesB_size V (j + 1)
            have hz4 : (framesB V (j + 1)).size = p + 16 + (few03 (V j)).size := by rw [framesB, ByteArray.size_append, frameB_size, ← HP.out]; omega
            obtain ⟨p2, hp2⟩ : ∃ p2, (framesB V (j + 1)).size = p2 := ⟨_, rfl⟩
            have HP2 := Lib.hid hp2
            rw [hp2] at HX hz3 hz4
            obtain ⟨t, ht⟩ : ∃ t, few03 (V j) = t := ⟨_, rfl⟩
            have HF2 := Lib.hid (fun ww => few_any (V j) (by omega) ww)
            rw [ht] at HX HF2 hz1 hz4
            obtain ⟨sb, so, rfl, hc⟩ := (hsl.new_ n5).nw j (by omega)
            obtain ⟨d0, e0⟩ := hc 0 _ rfl
            simp only [Nat.mul_one, Nat.add_zero] at d0 e0
            obtain ⟨vj, hvj⟩ : ∃ vj, V j = vj := ⟨_, rfl⟩
            rw [hvj] at d0 e0 HF2 hv
            have hpp : p < p2 := by omega
            clear hc ht hvj hu hp2 hz4
            go_wp2_with fail
            refine (HX.out _).mono ?_
            rintro e w6 ⟨rfl, g6⟩
            have g0 : w6.cell? ⟨sb, so + j, none⟩ = some (.string vj) := e0 ⟨w6, g6⟩
            have n6 := Fr.new_ n5 g6
            clear e0 d0 n5 g6
            go_wp2_with (go_at_call 29; refine (HF2.out _).mono ?_; rintro e wq ⟨rfl, rfl⟩)
            go_roundw
            case rel => exact ⟨j + 1, p2, by go_num, by omega, rfl, HP2.out.symm, by omega, n6⟩
            case measure => simp [intOf]; omega
          · obtain rfl : j = i := by omega
            have hpa := HP.out
            rw [HALL.out] at hpa
            have hpe : ((p : Int) == (all.size : Int)) = true := by simp [hpa]
            have hms : (all ++ m).size = all.size + m.size := ByteArray.size_append
            have HU := Lib.hid (fun ww => unframe_any (all ++ m) (by omega) at_ ww)
            have HR := Lib.hid (fun ww => refUnframe_any (all ++ m) (by omega) at_ ww)
            obtain ⟨⟨u1, u2, u3⟩, hu⟩ : ∃ u, unfr (all ++ m) at_ = u := ⟨_, rfl⟩
            rw [hu] at HU HR
            clear hu hpa hms
            go_wp2_with fail
            refine (HM.out _).mono ?_
            rintro e wq ⟨rfl, rfl⟩
            go_wp2_with fail
            refine (HU.out _).mono ?_
            rintro e w6 ⟨rfl, g6⟩
            have n6 := Fr.new_ n5 g6
            go_wp2_with fail
            refine (HM.out _).mono ?_
            rintro e wq ⟨rfl, rfl⟩
            go_wp2_with fail
            refine (HR.out _).mono ?_
            rintro e w7 ⟨rfl, g7⟩
            have n7 := Fr.new_ n6 g7
            go_wp2_with fail
            refine (awake_any _).mono ?_
            rintro e w8 ⟨rfl, g8⟩
            have n8 := Fr.new_ n7 g8
            go_wp2
            go_ret
            exact ⟨rfl, n8⟩
end Go.Proofs.Ytlefmnoaejpllaa
