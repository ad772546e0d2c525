/- WireGives: the walk. -/
import Derived.Test.YtlefmnoaejpllaaWireHash
import Derived.LoopTactic
import Derived.Deep.RegionWith
namespace Go.Proofs.Ytlefmnoaejpllaa
open Go.RowKit
set_option linter.unusedVariables false

theorem boolB_size (y : Bool) : (boolB y).size = 1 := by cases y <;> rfl
theorem u64_of (n : Int) : ∃ m : Nat, IntKind.u64.wrap n = (m : Int) ∧ m ≤ 18446744073709551615 := ⟨(n % 18446744073709551616).toNat, by rw [IntKind.wrap_u64]; omega, by omega⟩
set_option maxRecDepth 100000 in
set_option maxHeartbeats 4000000 in
theorem wireGives_walk (l : ESl EGive) {w : World} (hl : ESl93.facts w l) : Calls Try.prog 13 #[.slice l.adr l.len l.cap] w fun e w' => e = .returned (.bool true) ∧ New w w' := by
  obtain ⟨A, n, cap, V⟩ := l
  obtain ⟨hsl, hnc, hcap, hV⟩ := hl
  simp only at hsl hnc hcap hV
  unfold maxLen at hcap
  go_enter Try.func13, Try.ntmps13
  go_wp2_with fail
  refine (newWriter_any _).mono ?_
  rintro e w2 ⟨rfl, hw2, hn2⟩
  go_wp2_with fail
  go_loopw [4, 5] (fun sv i wr => ∃ (k : Nat) (c : ByteArray), i = .int .i64 k ∧ k ≤ n ∧ sv = .string c ∧ c.size ≤ 1000 * k ∧ k ≤ 20 ∧ WrB wr w.heap.size w.heap.size c ∧ New w wr) (fun _ i _ => n - (intOf i).toNat)
  case atStart => exact ⟨0, .empty, rfl, by omega, rfl, by simp, by omega, hw2, hn2⟩
  case round =>
    obtain ⟨k, c, rfl, hkn, rfl, hcs, hk20, o1, n1⟩ := hrel
    by_cases hlt : k < n
    · by_cases hl2 : k < 20
      · obtain ⟨sb, so, rfl, hc⟩ := (hsl.new_ n1).nw k hlt
        obtain ⟨hw1, hw3, hw4⟩ := hV k hlt
        obtain ⟨d0, e0⟩ := hc 0 _ rfl
        obtain ⟨d1, e1⟩ := hc 1 _ rfl
        obtain ⟨d2, e2⟩ := hc 2 _ rfl
        rw [Nat.add_zero] at d0 e0
        obtain ⟨kd, hkd⟩ : ∃ kd, (V k).kind = kd := ⟨_, rfl⟩
        obtain ⟨kn, hkn1⟩ : ∃ kn, (V k).n = kn := ⟨_, rfl⟩
        obtain ⟨ks, hks⟩ : ∃ ks, (V k).s = ks := ⟨_, rfl⟩
        rw [hkd] at d0 e0 hw1
        rw [hkn1] at d1 e1 hw3
        rw [hks] at d2 e2 hw4
        have hkn := wf_i64 hw3
        have hz1 := few03_size ks
        unfold maxLen at hw4
        have HF := Lib.hid (fun x => Calls.nw_same' (w := wr) (x := x) (few_any ks (by omega) (nw wr x)))
        obtain ⟨t, ht⟩ : ∃ t, few03 ks = t := ⟨_, rfl⟩
        rw [ht] at HF hz1
        clear hc hkd hkn1 hks hw1 hw3 hw4 ht
        go_wp2_with fail
        refine wp_region_new_lit (by kernel_rfl) (by kernel_rfl) ?_; (repeat (any_goals (first | go_big_quiet_step ((go_at_call 29; exact HF.out _)) | quiet_step ((go_at_call 29; exact HF.out _)) | (refine wpQuiet_step (fun K hK => ?_); go_simp; split <;> (refine hK _ ?_; clear hK K))))); all_goals (refine wpQuiet_nil ?_; intro _ hw'; obtain ⟨xq, hw''⟩ := hw'; subst hw''; have hnq := nw_new _ xq)
        have o2 := o1.new_ hnq
        have n2 := Fr.new_ n1 hnq
        have hB : w.heap.size ≤ (nw wr xq).heap.size := n2.size
        have g0 := e0 xq
        clear d0 d1 d2 e0 e1 e2 o1 n1 HF hnq
        generalize nw wr xq = W1 at *
        by_cases k1 : kd = 1
        · subst k1
          obtain ⟨m, hm, hm2⟩ := u64_of kn
          have hcl := numB_size (clip t.size) m
          have hc8 := (clip_cases t.size).1
          go_wp2_with fail
          refine (wrNumber_any o2 hB m hm2 t.size (by omega)).mono ?_
          rintro e w4 ⟨rfl, o4, f4⟩
          have n4 := Fr.upto n2 f4 (Nat.le_refl _)
          clear f4 o2 n2
          go_wp2_with fail
          refine (refNumber_any m hm2 t.size _).mono ?_
          rintro e w5 ⟨rfl, hn5⟩
          have o5 := o4.new_ hn5
          have n5 := Fr.new_ n4 hn5
          go_wp2_with fail
          go_roundw
          case rel => exact ⟨k + 1, c ++ numB (clip t.size) m, by go_num, by omega, rfl, by (rw [ByteArray.size_append]; omega), by omega, o5, n5⟩
          case measure => simp [intOf]; omega
        by_cases k2 : kd = 2
        · subst k2
          have hcl := numB_size 4 (max kn 0).toNat
          rcases (by omega : kn < 0 ∨ 0 ≤ kn) with hs | hs
          · have hm0 : (max kn 0).toNat = 0 := by omega
            have HW := Lib.hid (wrCount_any o2 hB kn hkn.2 (by omega))
            rw [hm0] at HW hcl
            clear hm0
            go_wp2_with fail
            refine (HW.out).mono ?_
            rintro e w4 ⟨rfl, o4, f4⟩
            have n4 := Fr.upto n2 f4 (Nat.le_refl _)
            clear f4 o2 n2
            go_wp2_with fail
            rw [show max kn 0 = ((0 : Nat) : Int) by omega]
            refine (refNumber_any 0 (by omega) 4 _).mono ?_
            rw [clip4]
            rintro e w5 ⟨rfl, hn5⟩
            have o5 := o4.new_ hn5
            have n5 := Fr.new_ n4 hn5
            go_wp2_with fail
            go_roundw
            case rel => exact ⟨k + 1, c ++ numB 4 0, by go_num, by omega, rfl, by (rw [ByteArray.size_append]; omega), by omega, o5, n5⟩
            case measure => simp [intOf]; omega
          · obtain ⟨m, rfl⟩ := Int.eq_ofNat_of_zero_le hs
            have hm0 : (max (m : Int) 0).toNat = m := by omega
            have HW := Lib.hid (wrCount_any o2 hB m hkn.2 (by omega))
            rw [hm0] at HW hcl
            clear hm0
            go_wp2_with fail
            refine (HW.out).mono ?_
            rintro e w4 ⟨rfl, o4, f4⟩
            have n4 := Fr.upto n2 f4 (Nat.le_refl _)
            clear f4 o2 n2
            go_wp2_with fail
            refine (refNumber_any m (by omega) 4 _).mono ?_
            rw [clip4]
            rintro e w5 ⟨rfl, hn5⟩
            have o5 := o4.new_ hn5
            have n5 := Fr.new_ n4 hn5
            go_wp2_with fail
            go_roundw
            case rel => exact ⟨k + 1, c ++ numB 4 m, by go_num, by omega, rfl, by (rw [ByteArray.size_append]; omega), by omega, o5, n5⟩
            case measure => simp [intOf]; omega
        by_cases k3 : kd = 3
        · subst k3
          have hcl : (textB t).size = 8 + t.size := by unfold textB; rw [ByteArray.size_append, numB_size]
          have HR : Hid _ := Lib.hid (refTextS_any t (by omega))
          rw [show numB 4 t.size ++ t = textB t from rfl] at HR
          go_wp2_with fail
          refine (wrText_any o2 hB t (by omega)).mono ?_
          rintro e w4 ⟨rfl, o4, f4⟩
          have n4 := Fr.upto n2 f4 (Nat.le_refl _)
          clear f4 o2 n2
          go_wp2_with fail
          refine (HR.out _).mono ?_
          rintro e w5 ⟨rfl, hn5⟩
          have o5 := o4.new_ hn5
          have n5 := Fr.new_ n4 hn5
          go_wp2_with fail
          go_roundw
          case rel => exact ⟨k + 1, c ++ textB t, by go_num, by omega, rfl, by (rw [ByteArray.size_append]; omega), by omega, o5, n5⟩
          case measure => simp [intOf]; omega
        by_cases k4 : kd = 4
        · subst k4
          have hcl := hashB_size t
          go_wp2_with fail
          refine (wrHash_any o2 hB t (by omega) (by omega)).mono ?_
          rintro e w4 ⟨rfl, o4, f4⟩
          have n4 := Fr.upto n2 f4 (Nat.le_refl _)
          clear f4 o2 n2
          go_wp2_with fail
          refine (refHashS_any t (by omega) _).mono ?_
          rintro e w5 ⟨rfl, rfl⟩
          have o5 := o4
          have n5 := n4
          go_wp2_with fail
          go_roundw
          case rel => exact ⟨k + 1, c ++ hashB t, by go_num, by omega, rfl, by (rw [ByteArray.size_append]; omega), by omega, o5, n5⟩
          case measure => simp [intOf]; omega
        by_cases k5 : kd = 5
        · subst k5
          obtain ⟨y, hy⟩ : ∃ y, (bits .and .i64 kn 1 == 1) = y := ⟨_, rfl⟩
          have hcl := boolB_size y
          go_wp2_with fail
          refine (wrBool_any o2 hB y (by omega)).mono ?_
          rintro e w4 ⟨rfl, o4, f4⟩
          have n4 := Fr.upto n2 f4 (Nat.le_refl _)
          clear f4 o2 n2
          go_wp2_with fail
          refine (refBoolS_any y _).mono ?_
          rintro e w5 ⟨rfl, rfl⟩
          have o5 := o4
          have n5 := n4
          go_wp2_with fail
          go_roundw
          case rel => exact ⟨k + 1, c ++ boolB y, by go_num, by omega, rfl, by (rw [ByteArray.size_append]; omega), by omega, o5, n5⟩
          case measure => simp [intOf]; omega
        have b1 : (kd == 1) = false := by rw [beq_eq_false_iff_ne]; exact k1
        have b2 : (kd == 2) = false := by rw [beq_eq_false_iff_ne]; exact k2
        have b3 : (kd == 3) = false := by rw [beq_eq_false_iff_ne]; exact k3
        have b4 : (kd == 4) = false := by rw [beq_eq_false_iff_ne]; exact k4
        have b5 : (kd == 5) = false := by rw [beq_eq_false_iff_ne]; exact k5
        clear k1 k2 k3 k4 k5
        go_wp2_with fail
        refine (wrBytes_any o2 hB t (by omega)).mono ?_
        rintro e w4 ⟨rfl, o4, f4⟩
        have n4 := Fr.upto n2 f4 (Nat.le_refl _)
        clear f4 o2 n2
        have o5 := o4
        have n5 := n4
        go_wp2_with fail
        go_roundw
        case rel => exact ⟨k + 1, c ++ t, by go_num, by omega, rfl, by (rw [ByteArray.size_append]; omega), by omega, o5, n5⟩
        case measure => simp [intOf]; omega
      · go_wp2_with fail
        refine (awake_any _).mono ?_
        rintro e w3 ⟨rfl, hn3⟩
        have r3 := (o1.new_ hn3).reads
        have n3 := Fr.new_ n1 hn3
        go_wp2_with fail
        refine (wrAll_any r3).mono ?_
        rintro e w4 ⟨rfl, r4, f4⟩
        have n4 := Fr.upto n3 f4 (Nat.le_refl _)
        go_wp2_with fail
        refine (wrLen_any r4).mono ?_
        rintro e w5 ⟨rfl, rfl⟩
        go_wp2
        go_ret
        exact ⟨rfl, n4⟩
    · go_wp2_with fail
      refine (awake_any _).mono ?_
      rintro e w3 ⟨rfl, hn3⟩
      have r3 := (o1.new_ hn3).reads
      have n3 := Fr.new_ n1 hn3
      go_wp2_with fail
      refine (wrAll_any r3).mono ?_
      rintro e w4 ⟨rfl, r4, f4⟩
      have n4 := Fr.upto n3 f4 (Nat.le_refl _)
      go_wp2_with fail
      refine (wrLen_any r4).mono ?_
      rintro e w5 ⟨rfl, rfl⟩
      go_wp2
      go_ret
      exact ⟨rfl, n4⟩
end Go.Proofs.Ytlefmnoaejpllaa
