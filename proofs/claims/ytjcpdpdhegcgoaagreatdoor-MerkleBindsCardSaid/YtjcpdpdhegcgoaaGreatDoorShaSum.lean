/- The digest of bytes. -/
import Derived.Test.YtjcpdpdhegcgoaaGreatDoorShaNum
namespace Go.Proofs.YtjcpdpdhegcgoaaGreatDoor
open Go.RowKit
set_option linter.unusedVariables false

/-- The bytes of the first numbers. -/
def outB (M : ShaS) : Nat → ByteArray
  | 0 => ⟨#[]⟩
  | 1 => ⟨#[]⟩ ++ ⟨(bytesN 8 M.a.toNat).toArray⟩
  | 2 => ⟨#[]⟩ ++ ⟨(bytesN 8 M.a.toNat).toArray⟩ ++ ⟨(bytesN 8 M.b.toNat).toArray⟩
  | 3 => ⟨#[]⟩ ++ ⟨(bytesN 8 M.a.toNat).toArray⟩ ++ ⟨(bytesN 8 M.b.toNat).toArray⟩ ++ ⟨(bytesN 8 M.c.toNat).toArray⟩
  | _ => ⟨#[]⟩ ++ ⟨(bytesN 8 M.a.toNat).toArray⟩ ++ ⟨(bytesN 8 M.b.toNat).toArray⟩ ++ ⟨(bytesN 8 M.c.toNat).toArray⟩ ++ ⟨(bytesN 8 M.d.toNat).toArray⟩
theorem num_size (n : Nat) : (⟨(bytesN 8 n).toArray⟩ : ByteArray).size = 8 := by rw [← data_len]; exact bytesN_length 8 n
theorem outB_size (M : ShaS) (i : Nat) (h : i ≤ 4) : (outB M i).size = 8 * i := by
  have : i = 0 ∨ i = 1 ∨ i = 2 ∨ i = 3 ∨ i = 4 := by omega
  rcases this with rfl | rfl | rfl | rfl | rfl <;> simp only [outB, ByteArray.size_append, num_size] <;> rfl
theorem outB_out (M : ShaS) : (outB M 4).data.toList = M.out := by
  have h4 : ∀ a b : ByteArray, (a ++ b).data.toList = a.data.toList ++ b.data.toList := by intro a b; simp
  simp only [outB, h4, ShaS.out]
  rfl
theorem num8_any (x : W64) (w : World) : Calls Tryz.prog 76 #[U x, .int .i64 8] w fun e w' => e = .returned (.string ⟨(bytesN 8 x.toNat).toArray⟩) ∧ New w w' := shaNumber_any x.toNat 8 (by have := x.isLt; omega) (by omega) (by omega) w
theorem shaB_eq (s : ByteArray) (M : ShaS) (h : shaBlocks ((s.data.toList.length + 144) / 128) shaStart (s.data.toList ++ padL s.data.toList.length) = M) : outB M 4 = shaB s := by
  apply ByteArray.ext
  apply Array.ext'
  rw [outB_out]
  show M.out = (shaL s.data.toList)
  unfold shaL
  rw [h]
set_option maxRecDepth 100000 in
set_option maxHeartbeats 2000000 in
theorem sum_any (s : ByteArray) (hs : s.size ≤ 140737488352000) (w : World) :
    Calls Tryz.prog 77 #[.string s] w fun e w' => e = .returned (.string (shaB s)) ∧ New w w' := by
  go_enter Tryz.func77, Tryz.ntmps77
  go_wp2_with fail
  refine (start_any _).mono ?_
  rintro e w1 ⟨rfl, g1⟩
  have hg1 := g1.size
  go_wp2_with fail
  go_loopw [4] (fun rv wr => ∃ (i : Nat) (r : ByteArray), rv = .string r ∧ r.size ≤ 140737488352000 ∧ Hid (r.data.toList = s.data.toList.drop (128 * i) ∧ 128 * i ≤ s.size) ∧ Own wr w1.heap.size 140 (shaBlocks i shaStart s.data.toList).cells ∧ New w wr) (fun rv _ => strLen rv)
  case atStart => exact ⟨0, s, rfl, hs, ⟨by simp, by omega⟩, Own.fresh w1 _ _, by repeat (first | with_reducible exact Fr.refl _ _ | with_reducible assumption | with_reducible refine Fr.drew ?_ | with_reducible refine Fr.drewN ?_ _ | with_reducible refine Fr.alloc ?_ _ | with_reducible refine Fr.set ?_ (by first | exact fun _ => rfl | (intro hlt; exfalso; simp at hlt; try omega) | (simp; omega)) _ | with_reducible refine Fr.new_ ?_ (by with_reducible assumption) | (with_reducible refine Fr.trans ?_ (by with_reducible assumption) (fun i hi e => by (first | omega | (simp at e; omega)))))⟩
  case round =>
    obtain ⟨i, r, rfl, hr, HR, ho, hn⟩ := hrel
    obtain ⟨H, hH⟩ : ∃ H, shaBlocks i shaStart s.data.toList = H := ⟨_, rfl⟩
    rw [hH] at ho
    have HH := Lib.hid hH
    clear hH
    by_cases hlt : 128 ≤ r.size
    · have hlt2 : (128 : Int) ≤ (r.size : Int) := by omega
      obtain ⟨⟨x0, x1, x2, x3, x4, x5, x6, x7⟩, xf⟩ := ho.eight
      have hmx := mix_any H (r.extract 0 128) (by rw [ByteArray.size_extract]; omega)
      obtain ⟨M, hM⟩ : ∃ M, shaMix H (r.extract 0 128).data.toList = M := ⟨_, rfl⟩
      rw [hM] at hmx
      have HM := Lib.hid hM
      clear hM
      go_wp2_with fail
      go_region_with (go_at_call 98; refine (hmx _).mono ?_; rintro e w2 ⟨rfl, g2⟩; have mq : Own w2 w1.heap.size 140 H.cells := (by repeat (first | with_reducible assumption | with_reducible exact Own.fresh _ _ _ | (with_reducible apply Own.new'; simp; done) | with_reducible apply Own.drew | with_reducible apply Own.drewN | with_reducible apply Own.alloc | with_reducible apply Own.put | ((with_reducible apply Own.off); (focus (first | (simp; done) | (simp; omega) | omega))) | (with_reducible refine Own.new_ ?_ (by with_reducible assumption)) | rfl | (refine Own.fr ?_ (by with_reducible assumption) (by show ¬ (_ = _); omega)))); obtain ⟨⟨m0, m1, m2, m3, m4, m5, m6, m7⟩, mf⟩ := mq.eight)
      all_goals go_wp2_with fail
      refine ⟨⟨_, _, _, _, _, _, _, _, _, _, ?rel, rfl⟩, ?measure⟩
      case rel =>
        refine ⟨i + 1, _, rfl, by rw [ByteArray.size_extract]; omega, ?_, ?_, by repeat (first | with_reducible exact Fr.refl _ _ | with_reducible assumption | with_reducible refine Fr.drew ?_ | with_reducible refine Fr.drewN ?_ _ | with_reducible refine Fr.alloc ?_ _ | with_reducible refine Fr.set ?_ (by first | exact fun _ => rfl | (intro hlt; exfalso; simp at hlt; try omega) | (simp; omega)) _ | with_reducible refine Fr.new_ ?_ (by with_reducible assumption) | (with_reducible refine Fr.trans ?_ (by with_reducible assumption) (fun i hi e => by (first | omega | (simp at e; omega)))))⟩
        · obtain ⟨h1, h2⟩ := HR.out
          have hl := congrArg List.length h1
          rw [data_len, List.length_drop, data_len] at hl
          refine ⟨?_, by omega⟩
          rw [extract_list, h1, List.drop_drop, List.take_of_length_le (by rw [List.length_drop, data_len]; omega)]
          rfl
        · have e : (shaBlocks (i + 1) shaStart s.data.toList).cells = (shaMix H (r.extract 0 128).data.toList).cells := by
            rw [shaBlocks_next, HH.out, ← HR.out.1, extract_list]
            rfl
          rw [e]
          rw [HM.out]
          exact Own.put8 mq
      case measure =>
        show strLen (.string (r.extract 128 r.size)) < strLen (.string r)
        simp only [strLen]
        rw [ByteArray.size_extract]
        omega
    · have hlt2 : (r.size : Int) < 128 := by omega
      have hsz : (r ++ ⟨#[128]⟩ : ByteArray).size = r.size + 1 := by rw [ByteArray.size_append]; rfl
      obtain ⟨⟨x0, x1, x2, x3, x4, x5, x6, x7⟩, xf⟩ := ho.eight
      have hnum : ∀ w, Calls Tryz.prog 76 #[.int .u64 (IntKind.u64.wrap (IntKind.u64.wrap (s.size : Int) * 8)), .int .i64 8] w fun e w' => e = .returned (.string ⟨(bytesN 8 (8 * s.size)).toArray⟩) ∧ New w w' := fun w => by
        have h := shaNumber_any (8 * s.size) 8 (by omega) (by omega) (by omega) w
        rwa [show ((8 * s.size : Nat) : Int) = IntKind.u64.wrap (IntKind.u64.wrap (s.size : Int) * 8) by rw [IntKind.wrap_u64, IntKind.wrap_u64]; omega] at h
      obtain ⟨nb, hnb⟩ : ∃ nb : ByteArray, ⟨(bytesN 8 (8 * s.size)).toArray⟩ = nb := ⟨_, rfl⟩
      have hnl : nb.data.toList = bytesN 8 (8 * s.size) := by rw [← hnb]
      have hnz : nb.size = 8 := by rw [← data_len, hnl, bytesN_length]
      rw [hnb] at hnum
      have HNL := Lib.hid hnl
      clear hnb hnl
      by_cases h112 : r.size < 112
      · have h112' : (r.size : Int) < 112 := by omega
        go_wp2_with fail
        rw [show (120 : Int) - ((r.size : Int) + 1) = ((119 - r.size : Nat) : Int) by omega]
        refine (zerosS_any _ (by omega) _).mono ?_
        rintro e w2 ⟨rfl, g2⟩
        obtain ⟨z, hz⟩ : ∃ z : ByteArray, ⟨(List.replicate (119 - r.size) (0 : UInt8)).toArray⟩ = z := ⟨_, rfl⟩
        have hzl : z.data.toList = List.replicate (119 - r.size) 0 := by rw [← hz]
        have hzz : z.size = 119 - r.size := by rw [← data_len, hzl, List.length_replicate]
        rw [hz]
        have HZL := Lib.hid hzl
        have ho2 := ho.new_ g2
        have hn2 := hn.new_ g2
        have hbz : (r ++ ⟨#[128]⟩ ++ z ++ nb : ByteArray).size = 128 := by
          rw [ByteArray.size_append, ByteArray.size_append, hsz, hzz, hnz]
          omega
        have hmx := mix_any H (r ++ ⟨#[128]⟩ ++ z ++ nb) hbz
        obtain ⟨M, hM⟩ : ∃ M, shaMix H (r ++ ⟨#[128]⟩ ++ z ++ nb : ByteArray).data.toList = M := ⟨_, rfl⟩
        rw [hM] at hmx
        have HM := Lib.hid hM
        have HFIN : shaBlocks ((s.data.toList.length + 144) / 128) shaStart (s.data.toList ++ padL s.data.toList.length) = M := by
          obtain ⟨h1, h2⟩ := HR.out
          have hl := congrArg List.length h1
          rw [data_len, List.length_drop, data_len] at hl
          have h4 : ∀ a b : ByteArray, (a ++ b).data.toList = a.data.toList ++ b.data.toList := by intro a b; simp
          rw [shaL_last s.data.toList i r.size (by rw [data_len]; omega) (by omega), if_pos h112, HH.out, ← h1, ← HM.out, h4, h4, h4, HZL.out, HNL.out, data_len]
        clear hM hzl hz ho hn g2 x0 x1 x2 x3 x4 x5 x6 x7 xf hbz
        obtain ⟨⟨x0, x1, x2, x3, x4, x5, x6, x7⟩, xf⟩ := ho2.eight
        go_wp2_with fail
        go_region_with (first | (go_at_call 76; (with_reducible refine (hnum _).mono ?_); rintro e w3 ⟨rfl, g3⟩; have mq : Own w3 w1.heap.size 140 H.cells := (by repeat (first | with_reducible assumption | with_reducible exact Own.fresh _ _ _ | (with_reducible apply Own.new'; simp; done) | with_reducible apply Own.drew | with_reducible apply Own.drewN | with_reducible apply Own.alloc | with_reducible apply Own.put | ((with_reducible apply Own.off); (focus (first | (simp; done) | (simp; omega) | omega))) | (with_reducible refine Own.new_ ?_ (by with_reducible assumption)) | rfl | (refine Own.fr ?_ (by with_reducible assumption) (by show ¬ (_ = _); omega)))); obtain ⟨⟨m0, m1, m2, m3, m4, m5, m6, m7⟩, mf⟩ := mq.eight) | (go_at_call 98; (with_reducible refine (hmx _).mono ?_); rintro e w4 ⟨rfl, g4⟩; have mk : Own w4 w1.heap.size 140 H.cells := (by repeat (first | with_reducible assumption | with_reducible exact Own.fresh _ _ _ | (with_reducible apply Own.new'; simp; done) | with_reducible apply Own.drew | with_reducible apply Own.drewN | with_reducible apply Own.alloc | with_reducible apply Own.put | ((with_reducible apply Own.off); (focus (first | (simp; done) | (simp; omega) | omega))) | (with_reducible refine Own.new_ ?_ (by with_reducible assumption)) | rfl | (refine Own.fr ?_ (by with_reducible assumption) (by show ¬ (_ = _); omega)))); obtain ⟨⟨k0, k1, k2, k3, k4, k5, k6, k7⟩, kf⟩ := mk.eight))
        all_goals go_wp2_with fail
        all_goals
          refine wp_world (fun W => Own W w1.heap.size 140 M.cells ∧ New w W) ⟨Own.put8 mk, ?_⟩ ?_
          · repeat (first | with_reducible exact Fr.refl _ _ | with_reducible assumption | with_reducible refine Fr.drew ?_ | with_reducible refine Fr.drewN ?_ _ | with_reducible refine Fr.alloc ?_ _ | with_reducible refine Fr.set ?_ (by first | exact fun _ => rfl | (intro hlt; exfalso; simp at hlt; try omega) | (simp; omega)) _ | with_reducible refine Fr.new_ ?_ (by with_reducible assumption) | (with_reducible refine Fr.trans ?_ (by with_reducible assumption) (fun i hi e => by (first | omega | (simp at e; omega)))))
          rintro W5 ⟨ho5, hn5⟩
          have HO := Lib.hid HFIN
          go_loopw [5, 49] (fun ov iv wr => ∃ i : Nat, i ≤ 4 ∧ iv = .int .i64 i ∧ ov = .string (outB M i) ∧ Own wr w1.heap.size 140 M.cells ∧ New w wr) (fun _ iv _ => 4 - (intOf iv).toNat)
          case atStart => exact ⟨0, by omega, rfl, rfl, ho5, hn5⟩
          case round =>
            clear ho5 hn5
            obtain ⟨j, hj, rfl, rfl, ho6, hn6⟩ := hrel
            have hsj := outB_size M j hj
            obtain ⟨⟨y0, y1, y2, y3, y4, y5, y6, y7⟩, yf⟩ := ho6.eight
            have hcase : j = 0 ∨ j = 1 ∨ j = 2 ∨ j = 3 ∨ j = 4 := by omega
            rcases hcase with rfl | rfl | rfl | rfl | rfl
            · have hns := num_size M.a.toNat
              go_wp2_with fail
              refine (num8_any M.a _).mono ?_
              rintro e w7 ⟨rfl, g7⟩
              go_wp2_with fail
              go_roundw
              case rel => exact ⟨1, by omega, by go_num, rfl, ho6.new_ g7, hn6.new_ g7⟩
              case measure => simp [intOf]
            · have hns := num_size M.b.toNat
              go_wp2_with fail
              refine (num8_any M.b _).mono ?_
              rintro e w7 ⟨rfl, g7⟩
              go_wp2_with fail
              go_roundw
              case rel => exact ⟨2, by omega, by go_num, rfl, ho6.new_ g7, hn6.new_ g7⟩
              case measure => simp [intOf]
            · have hns := num_size M.c.toNat
              go_wp2_with fail
              refine (num8_any M.c _).mono ?_
              rintro e w7 ⟨rfl, g7⟩
              go_wp2_with fail
              go_roundw
              case rel => exact ⟨3, by omega, by go_num, rfl, ho6.new_ g7, hn6.new_ g7⟩
              case measure => simp [intOf]
            · have hns := num_size M.d.toNat
              go_wp2_with fail
              refine (num8_any M.d _).mono ?_
              rintro e w7 ⟨rfl, g7⟩
              go_wp2_with fail
              go_roundw
              case rel => exact ⟨4, by omega, by go_num, rfl, ho6.new_ g7, hn6.new_ g7⟩
              case measure => simp [intOf]
            · go_wp2_with fail
              go_ret
              exact ⟨ret_str (shaB_eq s M HO.out), hn6⟩
      · have h112' : (112 : Int) ≤ (r.size : Int) := by omega
        have hrep : ∀ w, Calls Tryz.prog 84 #[.string ⟨#[0]⟩, .int .i64 (IntKind.i64.wrap (128 - ((r.size : Int) + 1)))] w fun e w' => e = .returned (.string ⟨(List.replicate (127 - r.size) (0 : UInt8)).toArray⟩) ∧ New w w' := fun w => by
          have h := zerosS_any (127 - r.size) (by omega) w
          rwa [show ((127 - r.size : Nat) : Int) = IntKind.i64.wrap (128 - ((r.size : Int) + 1)) by rw [IntKind.wrap_i64]; omega] at h
        obtain ⟨z, hz⟩ : ∃ z : ByteArray, ⟨(List.replicate (127 - r.size) (0 : UInt8)).toArray⟩ = z := ⟨_, rfl⟩
        have hzl : z.data.toList = List.replicate (127 - r.size) 0 := by rw [← hz]
        have hzz : z.size = 127 - r.size := by rw [← data_len, hzl, List.length_replicate]
        rw [hz] at hrep
        have HZL := Lib.hid hzl
        have hbz : (r ++ ⟨#[128]⟩ ++ z : ByteArray).size = 128 := by
          rw [ByteArray.size_append, hsz, hzz]
          omega
        have hmx := mix_any H (r ++ ⟨#[128]⟩ ++ z) hbz
        obtain ⟨H2, hM⟩ : ∃ M, shaMix H (r ++ ⟨#[128]⟩ ++ z : ByteArray).data.toList = M := ⟨_, rfl⟩
        rw [hM] at hmx
        have HM2 := Lib.hid hM
        clear hM hzl hz hbz
        go_wp2_with fail
        go_region_with (first | (go_at_call 84; (with_reducible refine (hrep _).mono ?_); rintro e w3 ⟨rfl, g3⟩; have mq : Own w3 w1.heap.size 140 H.cells := (by repeat (first | with_reducible assumption | with_reducible exact Own.fresh _ _ _ | (with_reducible apply Own.new'; simp; done) | with_reducible apply Own.drew | with_reducible apply Own.drewN | with_reducible apply Own.alloc | with_reducible apply Own.put | ((with_reducible apply Own.off); (focus (first | (simp; done) | (simp; omega) | omega))) | (with_reducible refine Own.new_ ?_ (by with_reducible assumption)) | rfl | (refine Own.fr ?_ (by with_reducible assumption) (by show ¬ (_ = _); omega)))); obtain ⟨⟨m0, m1, m2, m3, m4, m5, m6, m7⟩, mf⟩ := mq.eight) | (go_at_call 98; (with_reducible refine (hmx _).mono ?_); rintro e w4 ⟨rfl, g4⟩; have mk : Own w4 w1.heap.size 140 H.cells := (by repeat (first | with_reducible assumption | with_reducible exact Own.fresh _ _ _ | (with_reducible apply Own.new'; simp; done) | with_reducible apply Own.drew | with_reducible apply Own.drewN | with_reducible apply Own.alloc | with_reducible apply Own.put | ((with_reducible apply Own.off); (focus (first | (simp; done) | (simp; omega) | omega))) | (with_reducible refine Own.new_ ?_ (by with_reducible assumption)) | rfl | (refine Own.fr ?_ (by with_reducible assumption) (by show ¬ (_ = _); omega)))); obtain ⟨⟨k0, k1, k2, k3, k4, k5, k6, k7⟩, kf⟩ := mk.eight))
        all_goals
          go_wp2_with fail
          refine (zerosS_any 120 (by omega) _).mono ?_
          rintro e w6 ⟨rfl, g6⟩
          have ho2 : Own w6 w1.heap.size 140 H2.cells := (Own.put8 mk).new_ g6
          have hn2 : New w w6 := by repeat (first | with_reducible exact Fr.refl _ _ | with_reducible assumption | with_reducible refine Fr.drew ?_ | with_reducible refine Fr.drewN ?_ _ | with_reducible refine Fr.alloc ?_ _ | with_reducible refine Fr.set ?_ (by first | exact fun _ => rfl | (intro hlt; exfalso; simp at hlt; try omega) | (simp; omega)) _ | with_reducible refine Fr.new_ ?_ (by with_reducible assumption) | (with_reducible refine Fr.trans ?_ (by with_reducible assumption) (fun i hi e => by (first | omega | (simp at e; omega)))))
          obtain ⟨z2, hz2⟩ : ∃ z : ByteArray, ⟨(List.replicate 120 (0 : UInt8)).toArray⟩ = z := ⟨_, rfl⟩
          have hzl2 : z2.data.toList = List.replicate 120 0 := by rw [← hz2]
          have hzz2 : z2.size = 120 := by rw [← data_len, hzl2, List.length_replicate]
          rw [hz2]
          have HZL2 := Lib.hid hzl2
          have hbz2 : (⟨#[]⟩ ++ z2 ++ nb : ByteArray).size = 128 := by
            rw [ByteArray.size_append, ByteArray.size_append, hzz2, hnz]
            rfl
          have hmx2 := mix_any H2 (⟨#[]⟩ ++ z2 ++ nb) hbz2
          obtain ⟨M, hM⟩ : ∃ M, shaMix H2 (⟨#[]⟩ ++ z2 ++ nb : ByteArray).data.toList = M := ⟨_, rfl⟩
          rw [hM] at hmx2
          have HM := Lib.hid hM
          have HFIN : shaBlocks ((s.data.toList.length + 144) / 128) shaStart (s.data.toList ++ padL s.data.toList.length) = M := by
            obtain ⟨h1, h2⟩ := HR.out
            have hl := congrArg List.length h1
            rw [data_len, List.length_drop, data_len] at hl
            have h4 : ∀ a b : ByteArray, (a ++ b).data.toList = a.data.toList ++ b.data.toList := by intro a b; simp
            rw [shaL_last s.data.toList i r.size (by rw [data_len]; omega) (by omega), if_neg h112, HH.out, ← h1, ← HM.out, ← HM2.out, h4, h4, h4, h4, HZL.out, HZL2.out, HNL.out, data_len]
            rfl
          clear hM hzl2 hz2 hbz2 hmx hrep g6 mk k0 k1 k2 k3 k4 k5 k6 k7 kf
          try clear mq m0 m1 m2 m3 m4 m5 m6 m7 mf
          try clear g4
          try clear g3
          clear x0 x1 x2 x3 x4 x5 x6 x7 xf ho hn
          obtain ⟨⟨x0, x1, x2, x3, x4, x5, x6, x7⟩, xf⟩ := ho2.eight
          go_wp2_with fail
          go_region_with (first | (go_at_call 76; (with_reducible refine (hnum _).mono ?_); rintro e w3 ⟨rfl, g3⟩; have mq : Own w3 w1.heap.size 140 H2.cells := (by repeat (first | with_reducible assumption | with_reducible exact Own.fresh _ _ _ | (with_reducible apply Own.new'; simp; done) | with_reducible apply Own.drew | with_reducible apply Own.drewN | with_reducible apply Own.alloc | with_reducible apply Own.put | ((with_reducible apply Own.off); (focus (first | (simp; done) | (simp; omega) | omega))) | (with_reducible refine Own.new_ ?_ (by with_reducible assumption)) | rfl | (refine Own.fr ?_ (by with_reducible assumption) (by show ¬ (_ = _); omega)))); obtain ⟨⟨m0, m1, m2, m3, m4, m5, m6, m7⟩, mf⟩ := mq.eight) | (go_at_call 98; (with_reducible refine (hmx2 _).mono ?_); rintro e w4 ⟨rfl, g4⟩; have mk : Own w4 w1.heap.size 140 H2.cells := (by repeat (first | with_reducible assumption | with_reducible exact Own.fresh _ _ _ | (with_reducible apply Own.new'; simp; done) | with_reducible apply Own.drew | with_reducible apply Own.drewN | with_reducible apply Own.alloc | with_reducible apply Own.put | ((with_reducible apply Own.off); (focus (first | (simp; done) | (simp; omega) | omega))) | (with_reducible refine Own.new_ ?_ (by with_reducible assumption)) | rfl | (refine Own.fr ?_ (by with_reducible assumption) (by show ¬ (_ = _); omega)))); obtain ⟨⟨k0, k1, k2, k3, k4, k5, k6, k7⟩, kf⟩ := mk.eight))
          all_goals go_wp2_with fail
          all_goals
            refine wp_world (fun W => Own W w1.heap.size 140 M.cells ∧ New w W) ⟨Own.put8 mk, ?_⟩ ?_
            · repeat (first | with_reducible exact Fr.refl _ _ | with_reducible assumption | with_reducible refine Fr.drew ?_ | with_reducible refine Fr.drewN ?_ _ | with_reducible refine Fr.alloc ?_ _ | with_reducible refine Fr.set ?_ (by first | exact fun _ => rfl | (intro hlt; exfalso; simp at hlt; try omega) | (simp; omega)) _ | with_reducible refine Fr.new_ ?_ (by with_reducible assumption) | (with_reducible refine Fr.trans ?_ (by with_reducible assumption) (fun i hi e => by (first | omega | (simp at e; omega)))))
            rintro W5 ⟨ho5, hn5⟩
            have HO := Lib.hid HFIN
            go_loopw [5, 49] (fun ov iv wr => ∃ i : Nat, i ≤ 4 ∧ iv = .int .i64 i ∧ ov = .string (outB M i) ∧ Own wr w1.heap.size 140 M.cells ∧ New w wr) (fun _ iv _ => 4 - (intOf iv).toNat)
            case atStart => exact ⟨0, by omega, rfl, rfl, ho5, hn5⟩
            case round =>
              clear ho5 hn5
              obtain ⟨j, hj, rfl, rfl, ho6, hn6⟩ := hrel
              have hsj := outB_size M j hj
              obtain ⟨⟨y0, y1, y2, y3, y4, y5, y6, y7⟩, yf⟩ := ho6.eight
              have hcase : j = 0 ∨ j = 1 ∨ j = 2 ∨ j = 3 ∨ j = 4 := by omega
              rcases hcase with rfl | rfl | rfl | rfl | rfl
              · have hns := num_size M.a.toNat
                go_wp2_with fail
                refine (num8_any M.a _).mono ?_
                rintro e w7 ⟨rfl, g7⟩
                go_wp2_with fail
                go_roundw
                case rel => exact ⟨1, by omega, by go_num, rfl, ho6.new_ g7, hn6.new_ g7⟩
                case measure => simp [intOf]
              · have hns := num_size M.b.toNat
                go_wp2_with fail
                refine (num8_any M.b _).mono ?_
                rintro e w7 ⟨rfl, g7⟩
                go_wp2_with fail
                go_roundw
                case rel => exact ⟨2, by omega, by go_num, rfl, ho6.new_ g7, hn6.new_ g7⟩
                case measure => simp [intOf]
              · have hns := num_size M.c.toNat
                go_wp2_with fail
                refine (num8_any M.c _).mono ?_
                rintro e w7 ⟨rfl, g7⟩
                go_wp2_with fail
                go_roundw
                case rel => exact ⟨3, by omega, by go_num, rfl, ho6.new_ g7, hn6.new_ g7⟩
                case measure => simp [intOf]
              · have hns := num_size M.d.toNat
                go_wp2_with fail
                refine (num8_any M.d _).mono ?_
                rintro e w7 ⟨rfl, g7⟩
                go_wp2_with fail
                go_roundw
                case rel => exact ⟨4, by omega, by go_num, rfl, ho6.new_ g7, hn6.new_ g7⟩
                case measure => simp [intOf]
              · go_wp2_with fail
                go_ret
                exact ⟨ret_str (shaB_eq s M HO.out), hn6⟩
end Go.Proofs.YtjcpdpdhegcgoaaGreatDoor
