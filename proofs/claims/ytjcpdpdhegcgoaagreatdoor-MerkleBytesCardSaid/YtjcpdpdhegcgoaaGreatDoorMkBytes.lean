/- Manifests that may be are told as bytes, and read again; others, and other bytes, are refused. -/
import Derived.Test.YtjcpdpdhegcgoaaGreatDoorMkManifest
import Derived.Test.YtjcpdpdhegcgoaaGreatDoorOpen
namespace Go.Proofs.YtjcpdpdhegcgoaaGreatDoor
open Go.RowKit
set_option linter.unusedVariables false
set_option linter.unusedSimpArgs false

set_option maxRecDepth 100000 in
set_option maxHeartbeats 16000000 in
theorem merkleBytes_core {w : World} {z : Int} {A : Option Addr} {len cap : Nat} {V : Nat → ByteArray} {s : ByteArray} (hz : (Lit.int .i64 z).wf = true) (hsl : Sl w 1 A len fun i => [.string (V i)]) (hlc : len ≤ cap) (hcm : cap ≤ maxLen) (hs : s.size ≤ 140737488351232) :
    Calls Tryz.prog 7 #[.agg #[.int .i64 z, .slice A len cap], .string s] w fun e W => e = .returned (.bool true) ∧ New w W := by
  obtain ⟨n, hn⟩ : ∃ n, n = min len 300 := ⟨_, rfl⟩
  obtain ⟨l, hl⟩ : ∃ l, l = (List.range n).map V := ⟨_, rfl⟩
  have hn300 : n ≤ 300 := by omega
  have hnlen : n ≤ len := by omega
  have hnc : n ≤ cap := by omega
  have hslt : SlT w A n l := by
    refine ⟨by rw [hl]; simp, Nat.le_trans hnlen hsl.1, fun i hi => ?_⟩
    obtain ⟨b, o, e, hc⟩ := hsl.2 i (by omega)
    refine ⟨b, o, e, fun j v hv => hc j v ?_⟩
    rw [← hv, hl]
    simp [List.getD, hi]
  have hmx : (len : Int) ≤ 9223372036854775807 := by have := hsl.1; simp [maxLen] at this; omega
  have o0 := Own.fresh w 38 #[.int .i64 z, .slice A len cap]
  have m0 : New w (w.alloc (.cells #[.int .i64 z, .slice A len cap] 38)) := (Fr.refl _ _).alloc _
  have x0 := o0.cell 0
  have x1 := o0.cell 1
  have x2 := o0.free 0
  have x3 := o0.free 1
  simp only [List.getElem?_toArray, List.getElem?_cons_zero, List.getElem?_cons_succ] at x0 x1
  by_cases h300 : 300 < len
  · have h300' : (300 : Int) < (len : Int) := by omega
    have hc300 : (300 : Int) ≤ (cap : Int) := by omega
    obtain rfl : n = 300 := by omega
    have b1 := Own.fresh w 38 #[.int .i64 z, .slice A 300 cap]
    have m1 : New w (w.alloc (.cells #[.int .i64 z, .slice A 300 cap] 38)) := (Fr.refl _ _).alloc _
    have HM := Lib.hid (And.intro b1 (And.intro m1 (hslt.new_ m1)))
    clear b1 m1 o0 m0 hslt hsl hl hn
    go_enter Tryz.func7, Tryz.ntmps7
    go_wp2_with fail
    refine (mk_encode hz HM.out.2.2 hnc hcm (by omega)).mono ?_
    rintro e W2 ⟨n2, (⟨rfl, hok⟩ | ⟨rfl, hno⟩)⟩
    · exact absurd hok.n1 (by have e := HM.out.2.2.1; omega)
    · have HM2 := Lib.hid (And.intro (HM.out.1.new_ n2) (And.intro (HM.out.2.1.new_ n2) (HM.out.2.2.new_ n2)))
      have HNO := Lib.hid hno
      clear hno n2 x0 x1 x2 x3 HM
      have x0 := HM2.out.1.cell 0
      have x1 := HM2.out.1.cell 1
      simp only [List.getElem?_toArray, List.getElem?_cons_zero, List.getElem?_cons_succ] at x0 x1
      go_wp2_with fail
      refine (ref_check HM2.out.2.2 hnc hcm (by omega)).mono ?_
      rintro e wq ⟨rfl, (⟨rfl, hok⟩ | ⟨rfl, -⟩)⟩
      · exact absurd hok HNO.out
      · go_wp2_with fail
        refine merkle_awake.mono ?_
        rintro e W3 ⟨rfl, n3⟩
        have HM3 := Lib.hid (And.intro (HM2.out.1.new_ n3) (And.intro (HM2.out.2.1.new_ n3) (HM2.out.2.2.new_ n3)))
        clear n3 x0 x1 HM2
        have x0 := HM3.out.1.cell 0
        have x1 := HM3.out.1.cell 1
        simp only [List.getElem?_toArray, List.getElem?_cons_zero, List.getElem?_cons_succ] at x0 x1
        go_wp2_with fail
        refine (mk_check hz HM3.out.2.2 hnc hcm (by omega)).mono ?_
        rintro e W4 ⟨n4, (⟨rfl, hok⟩ | ⟨rfl, -⟩)⟩
        · exact absurd hok HNO.out
        · have HN4 := Lib.hid (HM3.out.2.1.new_ n4)
          clear n4 x0 x1 HM3
          go_wp2_with fail
          refine (mk_decode (s := s) (by omega)).mono ?_
          rintro e Wd ⟨nd, zd, vd, erd, ld, rfl, td, hd⟩
          have HND := Lib.hid (HN4.out.new_ nd)
          obtain ⟨Ad, cd, rfl⟩ := td.form
          have ok0 := Own.fresh Wd 38 #[.int .i64 zd, .slice Ad ld.length cd]
          have nk0 : New Wd (Wd.alloc (.cells #[.int .i64 zd, .slice Ad ld.length cd] 38)) := (Fr.refl _ _).alloc _
          have y0 := ok0.cell 0
          have y1 := ok0.cell 1
          simp only [List.getElem?_toArray, List.getElem?_cons_zero, List.getElem?_cons_succ] at y0 y1
          have HK0 := Lib.hid (And.intro nk0 td)
          clear nd ok0 nk0 td
          rcases hd with ⟨her, hend, hokd, hzd, hld⟩ | ⟨her, hzd, hld, -⟩
          · have hsd : manB zd ld = s := by rw [hzd, hld]; exact dec_back (by omega) hend
            have hzz := hokd.z0
            have hzz2 := hokd.z1
            have hzw : (Lit.int .i64 zd).wf = true := by
              have h1 : IntKind.i64.min = -9223372036854775808 := rfl
              have h2 : IntKind.i64.max = 9223372036854775807 := rfl
              simp only [Lit.wf, Bool.and_eq_true, decide_eq_true_eq]
              rw [h1, h2]
              exact ⟨by omega, by omega⟩
            have hnd := hokd.n1
            have HSD := Lib.hid (And.intro hsd hokd)
            clear hend hokd hzd hld hsd
            subst her
            go_wp2_with fail
            refine (mk_encode hzw ((SlT.of_txl HK0.out.2 (by simp [maxLen]; omega)).new_ HK0.out.1) HK0.out.2.cap.1 HK0.out.2.cap.2 (by omega)).mono ?_
            rintro e We ⟨ne, (⟨rfl, -⟩ | ⟨rfl, hno⟩)⟩
            · rw [HSD.out.1]
              have HNE := Lib.hid ((HND.out.new_ HK0.out.1).new_ ne)
              clear ne
              go_wp2_with fail
              go_ret
              exact ⟨rfl, HNE.out⟩
            · exact absurd HSD.out.2 hno
          · subst hzd hld
            have her2 : (erd != 0) = true := by rw [bne_iff_ne]; exact her
            go_wp2_with fail
            go_ret
            exact ⟨rfl, HND.out.new_ HK0.out.1⟩
  · have h300' : ¬ (300 : Int) < (len : Int) := by omega
    obtain rfl : n = len := by omega
    have HM := Lib.hid (And.intro o0 (And.intro m0 (hslt.new_ m0)))
    clear o0 m0 hslt hsl hl hn
    go_enter Tryz.func7, Tryz.ntmps7
    go_wp2_with fail
    refine (mk_encode hz HM.out.2.2 hnc hcm (by omega)).mono ?_
    rintro e W2 ⟨n2, (⟨rfl, hok⟩ | ⟨rfl, hno⟩)⟩
    · have HM2 := Lib.hid (And.intro (HM.out.1.new_ n2) (And.intro (HM.out.2.1.new_ n2) (HM.out.2.2.new_ n2)))
      have HOK := Lib.hid hok
      clear hok n2 x0 x1 x2 x3 HM
      have x0 := HM2.out.1.cell 0
      have x1 := HM2.out.1.cell 1
      simp only [List.getElem?_toArray, List.getElem?_cons_zero, List.getElem?_cons_succ] at x0 x1
      obtain ⟨t, ht⟩ : ∃ t, t = manB z l := ⟨_, rfl⟩
      rw [← ht]
      have HTT := Lib.hid ht
      clear ht
      go_wp2_with fail
      refine (ref_check HM2.out.2.2 hnc hcm (by omega)).mono ?_
      rintro e wq ⟨rfl, (⟨rfl, -⟩ | ⟨rfl, hno⟩)⟩
      · go_wp2_with fail
        refine merkle_awake.mono ?_
        rintro e W3 ⟨rfl, n3⟩
        have HM3 := Lib.hid (And.intro (HM2.out.1.new_ n3) (And.intro (HM2.out.2.1.new_ n3) (HM2.out.2.2.new_ n3)))
        clear n3 x0 x1 HM2
        have x0 := HM3.out.1.cell 0
        have x1 := HM3.out.1.cell 1
        simp only [List.getElem?_toArray, List.getElem?_cons_zero, List.getElem?_cons_succ] at x0 x1
        go_wp2_with fail
        refine (mk_check hz HM3.out.2.2 hnc hcm (by omega)).mono ?_
        rintro e W4 ⟨n4, (⟨rfl, -⟩ | ⟨rfl, hno⟩)⟩
        · have HM4 := Lib.hid (And.intro (HM3.out.1.new_ n4) (And.intro (HM3.out.2.1.new_ n4) (HM3.out.2.2.new_ n4)))
          clear n4 x0 x1 HM3
          obtain ⟨zn, hzn⟩ := Int.eq_ofNat_of_zero_le HOK.out.z0
          have hz8 : zn ≤ 8192 := by have := HOK.out.z1; omega
          have hn8 : n ≤ 256 := by have := HOK.out.n1; have := HM4.out.2.2.1; omega
          have hts : t.size = 16 + 32 * l.length := by
            rw [HTT.out]
            unfold manB
            rw [ByteArray.size_append, ByteArray.size_append, numB_size, numB_size, hashsB_size]
          have hnl : l.length ≤ 256 := HOK.out.n1
          have htz : t.size ≤ 9223372036854775807 := by omega
          subst hzn
          clear hts hnl
          go_wp2_with fail
          refine (mk_decode (s := t) htz).mono ?_
          rintro e W5 ⟨n5, zk, vk, erk, lk, rfl, tk, hk⟩
          have hfo := dec_forth HOK.out
          rw [← HTT.out] at hfo
          rcases hk with ⟨her, -, -, hzk, hlk⟩ | ⟨-, -, -, hbad⟩
          · rw [hfo.1] at hzk
            rw [hfo.2.1] at hlk
            subst her hzk hlk
            obtain ⟨Ak, ck, rfl⟩ := tk.form
            obtain ⟨q, hq⟩ : ∃ q, q = lk.length := ⟨_, rfl⟩
            rw [← hq] at tk ⊢
            have HQ := Lib.hid hq
            have o5 := Own.fresh W5 38 #[.int .i64 zn, .slice Ak q ck]
            have m5 : New W5 (W5.alloc (.cells #[.int .i64 zn, .slice Ak q ck] 38)) := (Fr.refl _ _).alloc _
            obtain ⟨W6, hW6⟩ : ∃ W6, W6 = W5.alloc (.cells #[.int .i64 zn, .slice Ak q ck] 38) := ⟨_, rfl⟩
            have hq256 : q ≤ 256 := by have := HOK.out.n1; omega
            have h6 : Own W6 W5.heap.size 38 #[.int .i64 zn, .slice Ak q ck] ∧ SlT W6 Ak q lk ∧ q ≤ ck ∧ Own W6 w.heap.size 38 #[.int .i64 zn, .slice A n cap] ∧ New w W6 ∧ SlT W6 A n lk := by
              rw [← hW6] at o5 m5
              have tc := tk.cap
              have hsl := SlT.of_txl tk (by simp [maxLen]; omega)
              exact ⟨o5, hsl.new_ m5, tc.1, (HM4.out.1.new_ n5).new_ m5, (HM4.out.2.1.new_ n5).new_ m5, (HM4.out.2.2.new_ n5).new_ m5⟩
            have HM6 := Lib.hid h6
            have y0 := h6.1.nw 0
            have y1 := h6.1.nw 1
            have x0 := h6.2.2.2.1.nw 0
            have x1 := h6.2.2.2.1.nw 1
            simp only [List.getElem?_toArray, List.getElem?_cons_zero, List.getElem?_cons_succ] at y0 y1 x0 x1
            have N1 := fun x => Calls.nw_of (x := x) (w := W6) (refNumber_any zn (by omega) 4 (nw W6 x))
            have N2 := fun x => Calls.nw_of (x := x) (w := W6) (refNumber_any n (by omega) 4 (nw W6 x))
            rw [show clip 4 = 4 from rfl] at N1 N2
            have hzi : (zn : Int) ≤ 8192 := by omega
            have hns1 := numB_size 4 zn
            have hns2 := numB_size 4 n
            have hni : (n : Int) ≤ 256 := by omega
            clear o5 m5 tk n5 HM4 hfo h6 hq
            go_wp2_with fail
            rw [show W5.alloc (.cells #[.int .i64 zn, .slice Ak q ck] 38) = W6 from hW6.symm]
            refine wp_region_new_lit (by kernel_rfl) (by kernel_rfl) ?_; (repeat (any_goals (first | go_big_quiet_step ((first | (go_at_call 37; with_reducible exact N1 _) | (go_at_call 37; with_reducible exact N2 _))) | quiet_step ((first | (go_at_call 37; with_reducible exact N1 _) | (go_at_call 37; with_reducible exact N2 _))) | (refine wpQuiet_step (fun K hK => ?_); go_simp; split <;> (refine hK _ ?_; clear hK K))))); all_goals (refine wpQuiet_nil ?_; intro _ hw'; obtain ⟨xq, hw''⟩ := hw'; subst hw''; have hnq := nw_new _ xq)
            clear N1 N2 x0 x1 y0 y1 hW6
            have HM7 := Lib.hid (And.intro (HM6.out.1.new_ hnq) (And.intro (HM6.out.2.1.new_ hnq) (And.intro HM6.out.2.2.1 (And.intro (HM6.out.2.2.2.1.new_ hnq) (And.intro (HM6.out.2.2.2.2.1.new_ hnq) (HM6.out.2.2.2.2.2.new_ hnq))))))
            clear hnq HM6
            generalize nw W6 xq = W7 at HM7 ⊢
            have y0 := HM7.out.1.cell 0
            have y1 := HM7.out.1.cell 1
            have x0 := HM7.out.2.2.2.1.cell 0
            have x1 := HM7.out.2.2.2.1.cell 1
            simp only [List.getElem?_toArray, List.getElem?_cons_zero, List.getElem?_cons_succ] at y0 y1 x0 x1
            obtain ⟨hd0, hhd0⟩ : ∃ hd0, hd0 = numB 4 zn ++ numB 4 n := ⟨_, rfl⟩
            have HH0 := Lib.hid hhd0
            have hd0s : hd0.size = 16 := by rw [hhd0, ByteArray.size_append, numB_size, numB_size]
            go_wp2_with fail
            rw [← hhd0]
            clear hhd0 hns1 hns2
            go_loopw [11, 10] (fun iv tv wr => ∃ k : Nat, iv = .int .i64 k ∧ k ≤ n ∧ tv = .string (hd0 ++ hashsB (lk.take k)) ∧ wr = W7) (fun iv _ _ => n - (intOf iv).toNat)
            case atStart =>
              refine ⟨0, rfl, Nat.zero_le _, ?_, rfl⟩
              have e : hd0 ++ hashsB (lk.take 0) = hd0 := by
                apply ByteArray.ext
                apply Array.ext'
                simp [hashsB]
              rw [e]
            case round =>
              obtain ⟨k, rfl, hkn, rfl, rfl⟩ := hrel
              have hbz : (hd0 ++ hashsB (lk.take k)).size ≤ 300000 := by
                rw [ByteArray.size_append, hashsB_size, List.length_take]
                omega
              by_cases hlt : k < n
              · have hlt2 : (k : Int) < (n : Int) := by omega
                obtain ⟨sb, so, hAe, hcc⟩ := HM7.out.2.2.2.2.2.2.2 k hlt
                have c0 := hcc 0 _ rfl
                simp only [Nat.mul_one, Nat.add_zero] at c0
                have hkl : k < lk.length := by rw [← HM7.out.2.2.2.2.2.1]; exact hlt
                have hgd : lk.getD k .empty = lk[k] := by simp [List.getD, hkl]
                rw [hgd] at c0
                have hsk : lk[k].size = 32 := HOK.out.each _ (List.getElem_mem hkl)
                have htk : lk.take (k + 1) = lk.take k ++ [lk[k]] := by rw [List.take_add_one, List.getElem?_eq_getElem hkl]; rfl
                have hbs : hd0 ++ hashsB (lk.take (k + 1)) = hd0 ++ hashsB (lk.take k) ++ lk[k] := by rw [htk, hashsB_snoc, hashB_self hsk, ByteArray.append_assoc]
                obtain ⟨u, hu⟩ : ∃ u, lk[k] = u := ⟨_, rfl⟩
                rw [hu] at c0 hbs hsk
                obtain ⟨tx, htx⟩ : ∃ tx, tx = hd0 ++ hashsB (lk.take k) := ⟨_, rfl⟩
                rw [← htx] at hbs hbz ⊢
                have HBS := Lib.hid hbs
                have HAe := Lib.hid hAe
                clear hcc hgd htk hu hkl hbs htx
                subst hAe
                go_wp2_with fail
                refine ⟨⟨k + 1, by go_num, by omega, by rw [HBS.out], by trivial⟩, by simp [intOf]; omega⟩
              · obtain rfl : k = n := by omega
                have hlt2 : ¬ (k : Int) < (k : Int) := by omega
                have e : hd0 ++ hashsB (lk.take k) = t := by
                  rw [HTT.out, HH0.out, List.take_of_length_le (by rw [← HM7.out.2.2.2.2.2.1]; exact Nat.le_refl _)]
                  unfold manB
                  rw [Int.toNat_natCast, ← HM7.out.2.2.2.2.2.1]
                rw [e]
                clear e hbz
                go_wp2_with fail
                refine (same_eq HM7.out.2.1 HM7.out.2.2.2.2.2 (by omega) HM7.out.2.2.1 hnc).mono ?_
                rintro e W8 ⟨rfl, n8⟩
                have HN8 := Lib.hid (HM7.out.2.2.2.2.1.new_ n8)
                clear n8 x0 x1 y0 y1 HM7
                go_wp2_with fail
                refine (mk_decode (s := s) (by omega)).mono ?_
                rintro e Wd ⟨nd, zd, vd, erd, ld, rfl, td, hd⟩
                have HND := Lib.hid (HN8.out.new_ nd)
                obtain ⟨Ad, cd, rfl⟩ := td.form
                have ok0 := Own.fresh Wd 38 #[.int .i64 zd, .slice Ad ld.length cd]
                have nk0 : New Wd (Wd.alloc (.cells #[.int .i64 zd, .slice Ad ld.length cd] 38)) := (Fr.refl _ _).alloc _
                have y0 := ok0.cell 0
                have y1 := ok0.cell 1
                simp only [List.getElem?_toArray, List.getElem?_cons_zero, List.getElem?_cons_succ] at y0 y1
                have HK0 := Lib.hid (And.intro nk0 td)
                clear nd ok0 nk0 td
                rcases hd with ⟨her, hend, hokd, hzd, hld⟩ | ⟨her, hzd, hld, -⟩
                · have hsd : manB zd ld = s := by rw [hzd, hld]; exact dec_back (by omega) hend
                  have hzz := hokd.z0
                  have hzz2 := hokd.z1
                  have hzw : (Lit.int .i64 zd).wf = true := by
                    have h1 : IntKind.i64.min = -9223372036854775808 := rfl
                    have h2 : IntKind.i64.max = 9223372036854775807 := rfl
                    simp only [Lit.wf, Bool.and_eq_true, decide_eq_true_eq]
                    rw [h1, h2]
                    exact ⟨by omega, by omega⟩
                  have hnd := hokd.n1
                  have HSD := Lib.hid (And.intro hsd hokd)
                  clear hend hokd hzd hld hsd
                  subst her
                  go_wp2_with fail
                  refine (mk_encode hzw ((SlT.of_txl HK0.out.2 (by simp [maxLen]; omega)).new_ HK0.out.1) HK0.out.2.cap.1 HK0.out.2.cap.2 (by omega)).mono ?_
                  rintro e We ⟨ne, (⟨rfl, -⟩ | ⟨rfl, hno⟩)⟩
                  · rw [HSD.out.1]
                    have HNE := Lib.hid ((HND.out.new_ HK0.out.1).new_ ne)
                    clear ne
                    go_wp2_with fail
                    go_ret
                    exact ⟨rfl, HNE.out⟩
                  · exact absurd HSD.out.2 hno
                · subst hzd hld
                  have her2 : (erd != 0) = true := by rw [bne_iff_ne]; exact her
                  go_wp2_with fail
                  go_ret
                  exact ⟨rfl, HND.out.new_ HK0.out.1⟩
          · exact absurd ⟨hfo.2.2, by rw [hfo.1, hfo.2.1]; exact HOK.out⟩ hbad
        · exact absurd HOK.out hno
      · exact absurd HOK.out hno
    · have HM2 := Lib.hid (And.intro (HM.out.1.new_ n2) (And.intro (HM.out.2.1.new_ n2) (HM.out.2.2.new_ n2)))
      have HNO := Lib.hid hno
      clear hno n2 x0 x1 x2 x3 HM
      have x0 := HM2.out.1.cell 0
      have x1 := HM2.out.1.cell 1
      simp only [List.getElem?_toArray, List.getElem?_cons_zero, List.getElem?_cons_succ] at x0 x1
      go_wp2_with fail
      refine (ref_check HM2.out.2.2 hnc hcm (by omega)).mono ?_
      rintro e wq ⟨rfl, (⟨rfl, hok⟩ | ⟨rfl, -⟩)⟩
      · exact absurd hok HNO.out
      · go_wp2_with fail
        refine merkle_awake.mono ?_
        rintro e W3 ⟨rfl, n3⟩
        have HM3 := Lib.hid (And.intro (HM2.out.1.new_ n3) (And.intro (HM2.out.2.1.new_ n3) (HM2.out.2.2.new_ n3)))
        clear n3 x0 x1 HM2
        have x0 := HM3.out.1.cell 0
        have x1 := HM3.out.1.cell 1
        simp only [List.getElem?_toArray, List.getElem?_cons_zero, List.getElem?_cons_succ] at x0 x1
        go_wp2_with fail
        refine (mk_check hz HM3.out.2.2 hnc hcm (by omega)).mono ?_
        rintro e W4 ⟨n4, (⟨rfl, hok⟩ | ⟨rfl, -⟩)⟩
        · exact absurd hok HNO.out
        · have HN4 := Lib.hid (HM3.out.2.1.new_ n4)
          clear n4 x0 x1 HM3
          go_wp2_with fail
          refine (mk_decode (s := s) (by omega)).mono ?_
          rintro e Wd ⟨nd, zd, vd, erd, ld, rfl, td, hd⟩
          have HND := Lib.hid (HN4.out.new_ nd)
          obtain ⟨Ad, cd, rfl⟩ := td.form
          have ok0 := Own.fresh Wd 38 #[.int .i64 zd, .slice Ad ld.length cd]
          have nk0 : New Wd (Wd.alloc (.cells #[.int .i64 zd, .slice Ad ld.length cd] 38)) := (Fr.refl _ _).alloc _
          have y0 := ok0.cell 0
          have y1 := ok0.cell 1
          simp only [List.getElem?_toArray, List.getElem?_cons_zero, List.getElem?_cons_succ] at y0 y1
          have HK0 := Lib.hid (And.intro nk0 td)
          clear nd ok0 nk0 td
          rcases hd with ⟨her, hend, hokd, hzd, hld⟩ | ⟨her, hzd, hld, -⟩
          · have hsd : manB zd ld = s := by rw [hzd, hld]; exact dec_back (by omega) hend
            have hzz := hokd.z0
            have hzz2 := hokd.z1
            have hzw : (Lit.int .i64 zd).wf = true := by
              have h1 : IntKind.i64.min = -9223372036854775808 := rfl
              have h2 : IntKind.i64.max = 9223372036854775807 := rfl
              simp only [Lit.wf, Bool.and_eq_true, decide_eq_true_eq]
              rw [h1, h2]
              exact ⟨by omega, by omega⟩
            have hnd := hokd.n1
            have HSD := Lib.hid (And.intro hsd hokd)
            clear hend hokd hzd hld hsd
            subst her
            go_wp2_with fail
            refine (mk_encode hzw ((SlT.of_txl HK0.out.2 (by simp [maxLen]; omega)).new_ HK0.out.1) HK0.out.2.cap.1 HK0.out.2.cap.2 (by omega)).mono ?_
            rintro e We ⟨ne, (⟨rfl, -⟩ | ⟨rfl, hno⟩)⟩
            · rw [HSD.out.1]
              have HNE := Lib.hid ((HND.out.new_ HK0.out.1).new_ ne)
              clear ne
              go_wp2_with fail
              go_ret
              exact ⟨rfl, HNE.out⟩
            · exact absurd HSD.out.2 hno
          · subst hzd hld
            have her2 : (erd != 0) = true := by rw [bne_iff_ne]; exact her
            go_wp2_with fail
            go_ret
            exact ⟨rfl, HND.out.new_ HK0.out.1⟩
theorem merkleBytes_walk {w : World} (y : EManifest) (hy : y.facts w) (s : ByteArray) (hs : s.size ≤ 140737488351232) :
    Calls Tryz.prog 7 #[.agg y.cells.toArray, .string s] w fun e W => e = .returned (.bool true) ∧ New w W := by
  obtain ⟨z, A, len, cap, V⟩ := y
  obtain ⟨hz, hsl, hlc, hcm, -⟩ := hy
  exact merkleBytes_core hz hsl hlc hcm hs
end Go.Proofs.YtjcpdpdhegcgoaaGreatDoor
