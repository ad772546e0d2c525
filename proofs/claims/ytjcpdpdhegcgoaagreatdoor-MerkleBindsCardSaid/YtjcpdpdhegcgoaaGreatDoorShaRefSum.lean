/- The reference's digest of bytes. -/
import Derived.Test.YtjcpdpdhegcgoaaGreatDoorShaNum
namespace Go.Proofs.YtjcpdpdhegcgoaaGreatDoor
open Go.RowKit
set_option linter.unusedVariables false

/-- A one-byte slice of the call's own, told as a string. -/
theorem byteS_string (w : World) (c : UInt8) (x : Int) (hx : (c.toNat : Int) = x) : (convert 82 9 (.slice (some ⟨w.heap.size, 0, none⟩) 1 1)).run Tryz.prog (w.alloc (.cells #[.int .u8 x] 5)) = .ok (.string ⟨#[c]⟩) (w.alloc (.cells #[.int .u8 x] 5)) := by
  subst hx
  exact run_convert_bytes_back (P := Tryz.prog) (w.alloc (.cells #[.int .u8 c.toNat] 5)) 82 9 5 ⟨w.heap.size, 0, none⟩ 1 [c] Tryz.underlying82 Tryz.underlying5 Tryz.underlying9 (fun j hj => by
    obtain rfl : j = 0 := by simpa using hj
    exact (Own.fresh w 5 #[.int .u8 c.toNat]).cell 0)
theorem app_list (a b : ByteArray) : (a ++ b).data.toList = a.data.toList ++ b.data.toList := by simp

set_option maxRecDepth 100000 in
set_option maxHeartbeats 1000000 in
theorem padded_any (s : ByteArray) (hs : s.size ≤ 140737488351232) (w : World) :
    Calls Tryz.prog 99 #[.string s] w fun e w' => (∃ t : ByteArray, e = .returned (.string t) ∧ t.data.toList = s.data.toList ++ padL s.data.toList.length) ∧ New w w' := by
  have hmul : IntKind.u64.wrap (IntKind.u64.wrap (s.size : Int) * 8) = ((8 * s.size : Nat) : Int) := by rw [IntKind.wrap_u64, IntKind.wrap_u64]; omega
  obtain ⟨K, hK⟩ : ∃ K, (239 - s.size % 128) % 128 = K := ⟨_, rfl⟩
  have HK := Lib.hid hK
  have hK2 : K < 128 := by omega
  clear hK
  go_enter Tryz.func99, Tryz.ntmps99
  go_wp2_with fail
  go_loop [0] (fun sv => ∃ (k : Nat) (r : ByteArray), k ≤ K ∧ sv = .string r ∧ r.size = s.size + 1 + k ∧ Hid (r.data.toList = s.data.toList ++ 128 :: List.replicate k 0)) (fun sv => K + s.size + 1 - strLen sv)
  case atStart => exact ⟨0, s ++ ⟨#[128]⟩, by omega, rfl, by rw [ByteArray.size_append]; rfl, by show _ = _; rw [app_list]; rfl⟩
  case round =>
    obtain ⟨k, r, hk, rfl, hr, HR⟩ := hrel
    have hrz : (r.size : Int) ≤ 140737488351361 := by omega
    by_cases hkk : k = K
    · subst hkk
      have hm : (r.size : Int) % 128 = 112 := by have := HK.out; omega
      go_wp2_with fail
      go_loopw [3, 4, 5] (fun nv tv iv wr => ∃ i y : Nat, i ≤ 8 ∧ iv = .int .i64 i ∧ nv = .int .u64 (y : Int) ∧ Hid (y = 8 * s.size / 256 ^ i) ∧ y ≤ 18446744073709551615 ∧ tv = .string ⟨(bytesN i (8 * s.size)).toArray⟩ ∧ New w wr) (fun _ _ iv _ => 8 - (intOf iv).toNat)
      case atStart => exact ⟨0, 8 * s.size, by omega, rfl, by congr 1; omega, by show _ = _; rw [Nat.pow_zero, Nat.div_one], by omega, rfl, Fr.refl _ _⟩
      case round =>
        obtain ⟨i, y, hi, rfl, rfl, HY, hy, rfl, hn⟩ := hrel
        have hbl := data_len ⟨(bytesN i (8 * s.size)).toArray⟩
        have hbl2 : (⟨(bytesN i (8 * s.size)).toArray⟩ : ByteArray).size = i := by rw [← hbl]; exact bytesN_length _ _
        clear hbl
        by_cases hlt : i < 8
        · have hlt2 : (i : Int) < 8 := by omega
          have hc := byteS_string wr (UInt8.ofNat (y % 256)) ((y : Int) % 256) (by simp)
          have hy2 : (y : Int) ≤ 18446744073709551615 := by omega
          have hb3 : (y : Int) % 256 < 256 := by omega
          have hb4 : 0 ≤ (y : Int) % 256 := by omega
          go_wp2_with fail
          go_roundw
          case rel =>
            refine ⟨i + 1, y / 256, by omega, by go_num, by simp, ?_, by omega, ?_, by repeat (first | with_reducible exact Fr.refl _ _ | with_reducible assumption | with_reducible refine Fr.drew ?_ | with_reducible refine Fr.drewN ?_ _ | with_reducible refine Fr.alloc ?_ _ | with_reducible refine Fr.set ?_ (by first | exact fun _ => rfl | (intro hlt; exfalso; simp at hlt; try omega) | (simp; omega)) _ | with_reducible refine Fr.new_ ?_ (by with_reducible assumption) | (with_reducible refine Fr.trans ?_ (by with_reducible assumption) (fun i hi e => by (first | omega | (simp at e; omega)))))⟩
            · show _ = _
              rw [HY.out, Nat.div_div_eq_div_mul, ← Nat.pow_succ]
            · have e : (⟨#[UInt8.ofNat (y % 256)]⟩ ++ ⟨(bytesN i (8 * s.size)).toArray⟩ : ByteArray) = ⟨(bytesN (i + 1) (8 * s.size)).toArray⟩ := by
                apply ByteArray.ext
                apply Array.ext'
                rw [app_list, bytesN_top, ← HY.out]
                rfl
              rw [e]
          case measure => simp [intOf]; omega
        · obtain rfl : i = 8 := by omega
          have hz9 : (r ++ ⟨#[0, 0, 0, 0, 0, 0, 0, 0]⟩ : ByteArray).size = r.size + 8 := by rw [ByteArray.size_append]; rfl
          go_wp2_with fail
          go_ret
          refine ⟨⟨_, rfl, ?_⟩, hn⟩
          show (r ++ ⟨#[0, 0, 0, 0, 0, 0, 0, 0]⟩ ++ ⟨(bytesN 8 (8 * s.size)).toArray⟩ : ByteArray).data.toList = _
          rw [app_list, app_list, HR.out]
          unfold padL
          rw [data_len, HK.out]
          simp
    · obtain ⟨m, hm⟩ : ∃ m : Nat, r.size % 128 = m := ⟨_, rfl⟩
      have hm2 : (r.size : Int) % 128 = (m : Int) := by omega
      have hm3 : ¬ (m : Int) = 112 := by have := HK.out; omega
      clear hm
      go_wp2_with fail
      go_round
      case rel =>
        refine ⟨k + 1, r ++ ⟨#[0]⟩, by omega, rfl, by rw [ByteArray.size_append, hr]; rfl, ?_⟩
        show _ = _
        rw [app_list, HR.out, List.replicate_succ']
        simp
      case measure =>
        have e : (r ++ ⟨#[0]⟩ : ByteArray).size = r.size + 1 := by rw [ByteArray.size_append]; rfl
        simp only [strLen, e]
        omega
/-- The i-th byte of a digest. -/
def ShaS.word (s : ShaS) : Nat → W64
  | 0 => s.a
  | 1 => s.b
  | 2 => s.c
  | _ => s.d
def outF (M : ShaS) (i : Nat) : UInt8 := UInt8.ofNat ((M.word (i / 8)).toNat / 256 ^ (7 - i % 8) % 256)
theorem bytesN_get (k n j : Nat) (h : j < (bytesN k n).length) : (bytesN k n)[j] = UInt8.ofNat (n / 256 ^ (k - 1 - j) % 256) := by
  induction k generalizing j with
  | zero => exact absurd h (by rw [bytesN_length]; omega)
  | succ k ih =>
    rw [bytesN_length] at h
    simp only [bytesN_top]
    cases j with
    | zero => simp
    | succ j =>
      rw [List.getElem_cons_succ, ih j (by rw [bytesN_length]; omega)]
      congr 4
      omega
theorem out_list (M : ShaS) : M.out = (List.range 32).map (outF M) := by
  apply List.ext_getElem
  · simp [ShaS.out, bytesN_length]
  · intro j h1 h2
    rw [List.getElem_map, List.getElem_range]
    have hj : j < 32 := by simpa using h2
    unfold outF
    have hq : j / 8 = 0 ∨ j / 8 = 1 ∨ j / 8 = 2 ∨ j / 8 = 3 := by omega
    simp only [ShaS.out]
    rcases hq with e | e | e | e
    · rw [e, List.getElem_append_left (by simp [bytesN_length]; omega), List.getElem_append_left (by simp [bytesN_length]; omega), List.getElem_append_left (by simp [bytesN_length]; omega), bytesN_get]
      congr 4; omega
    · rw [e, List.getElem_append_left (by simp [bytesN_length]; omega), List.getElem_append_left (by simp [bytesN_length]; omega), List.getElem_append_right (by simp [bytesN_length]; omega), bytesN_get]
      congr 4; simp only [bytesN_length]; omega
    · rw [e, List.getElem_append_left (by simp [bytesN_length]; omega), List.getElem_append_right (by simp [bytesN_length]; omega), bytesN_get]
      congr 4; simp only [List.length_append, bytesN_length]; omega
    · rw [e, List.getElem_append_right (by simp [bytesN_length]; omega), bytesN_get]
      congr 4; simp only [List.length_append, bytesN_length]; omega
set_option maxRecDepth 100000 in
set_option maxHeartbeats 2000000 in
theorem refSum_any (s : ByteArray) (hs : s.size ≤ 140737488351232) (w : World) :
    Calls Tryz.prog 78 #[.string s] w fun e w' => e = .returned (.string (shaB s)) ∧ New w w' := by
  go_enter Tryz.func78, Tryz.ntmps78
  go_wp2_with fail
  refine (padded_any s hs _).mono ?_
  rintro e w1 ⟨⟨t, rfl, ht⟩, g1⟩
  have hN : t.size = (s.size + 144) / 128 * 128 := by
    rw [← data_len, ht, List.length_append, padL_length, data_len]
  obtain ⟨N, hN2⟩ : ∃ N, (s.size + 144) / 128 = N := ⟨_, rfl⟩
  rw [hN2] at hN
  have HT := Lib.hid ht
  have HN := Lib.hid hN2
  have hN3 : N ≤ 1099511627776 := by omega
  clear ht hN2
  go_wp2_with fail
  refine (refStart_any _).mono ?_
  rintro e w2 ⟨rfl, g2⟩
  have hg1 := g1.size
  have hg2 := g2.size
  go_wp2_with fail
  go_loopw [5] (fun iv wr => ∃ i : Nat, i ≤ N ∧ iv = .int .i64 ((128 * i : Nat) : Int) ∧ Own wr w2.heap.size 140 (shaBlocks i shaStart t.data.toList).cells ∧ New w wr) (fun iv _ => (128 * N - (intOf iv).toNat))
  case atStart => exact ⟨0, by omega, rfl, Own.fresh w2 _ _, by repeat (first | with_reducible exact Fr.refl _ _ | with_reducible assumption | with_reducible refine Fr.drew ?_ | with_reducible refine Fr.drewN ?_ _ | with_reducible refine Fr.alloc ?_ _ | with_reducible refine Fr.set ?_ (by first | exact fun _ => rfl | (intro hlt; exfalso; simp at hlt; try omega) | (simp; omega)) _ | with_reducible refine Fr.new_ ?_ (by with_reducible assumption) | (with_reducible refine Fr.trans ?_ (by with_reducible assumption) (fun i hi e => by (first | omega | (simp at e; omega)))))⟩
  case round =>
    obtain ⟨i, hi, rfl, ho, hn⟩ := hrel
    obtain ⟨H, hH⟩ : ∃ H, shaBlocks i shaStart t.data.toList = H := ⟨_, rfl⟩
    rw [hH] at ho
    have HH := Lib.hid hH
    clear hH
    obtain ⟨⟨x0, x1, x2, x3, x4, x5, x6, x7⟩, xf⟩ := ho.eight
    obtain ⟨p, hp⟩ : ∃ p, 128 * i = p := ⟨_, rfl⟩
    rw [hp]
    have hpt : (p : Int) ≤ (t.size : Int) := by rw [hN]; omega
    by_cases hlt : i < N
    · have hlt2 : (p : Int) + 128 ≤ (t.size : Int) := by rw [hN]; omega
      have hlt3 : (p : Int) < (t.size : Int) := by omega
      have htz : (t.size : Int) ≤ 140737488355328 := by rw [hN]; have := HN.out; omega
      have hwr : IntKind.i64.wrap ((p : Int) + 128) = (p : Int) + 128 := by rw [IntKind.wrap_i64]; omega
      clear hN
      have hmx := refMix_any H (t.extract p (p + 128)) (by rw [ByteArray.size_extract]; omega)
      obtain ⟨M, hM⟩ : ∃ M, shaMix H (t.extract p (p + 128)).data.toList = M := ⟨_, rfl⟩
      rw [hM] at hmx
      have HM := Lib.hid hM
      clear hM
      go_wp2_with fail
      go_region_with (go_at_call 101; (with_reducible refine (hmx _).mono ?_); rintro e w4 ⟨rfl, g4⟩; have mk : Own w4 w2.heap.size 140 H.cells := (by repeat (first | with_reducible assumption | with_reducible exact Own.fresh _ _ _ | (with_reducible apply Own.new'; simp; done) | with_reducible apply Own.drew | with_reducible apply Own.drewN | with_reducible apply Own.alloc | with_reducible apply Own.put | ((with_reducible apply Own.off); (focus (first | (simp; done) | (simp; omega) | omega))) | (with_reducible refine Own.new_ ?_ (by with_reducible assumption)) | rfl | (refine Own.fr ?_ (by with_reducible assumption) (by show ¬ (_ = _); omega)))); obtain ⟨⟨k0, k1, k2, k3, k4, k5, k6, k7⟩, kf⟩ := mk.eight)
      all_goals
        go_wp2_with fail
        go_roundw
        case rel =>
          refine ⟨i + 1, by omega, by congr 1; omega, ?_, by repeat (first | with_reducible exact Fr.refl _ _ | with_reducible assumption | with_reducible refine Fr.drew ?_ | with_reducible refine Fr.drewN ?_ _ | with_reducible refine Fr.alloc ?_ _ | with_reducible refine Fr.set ?_ (by first | exact fun _ => rfl | (intro hlt; exfalso; simp at hlt; try omega) | (simp; omega)) _ | with_reducible refine Fr.new_ ?_ (by with_reducible assumption) | (with_reducible refine Fr.trans ?_ (by with_reducible assumption) (fun i hi e => by (first | omega | (simp at e; omega)))))⟩
          have e : (shaBlocks (i + 1) shaStart t.data.toList).cells = M.cells := by
            rw [shaBlocks_next, HH.out, ← HM.out, extract_list, hp, show p + 128 - p = 128 by omega]
          rw [e]
          exact Own.put8 mk
        case measure => simp [intOf]; omega
    · obtain rfl : i = N := by omega
      have hpz : (p : Int) = (t.size : Int) := by rw [hN]; omega
      have HFIN : H.out = shaL s.data.toList := by
        unfold shaL
        rw [← HT.out, data_len, HN.out, HH.out]
      have hpn : p = t.size := by omega
      subst hpn
      go_wp2_with fail
      go_loopw [6, 7] (fun ov iv wr => ∃ j : Nat, j ≤ 32 ∧ iv = .int .i64 j ∧ ov = .string ⟨((List.range j).map (outF H)).toArray⟩ ∧ Own wr w2.heap.size 140 H.cells ∧ New w wr) (fun _ iv _ => 32 - (intOf iv).toNat)
      case atStart => exact ⟨0, by omega, rfl, rfl, ho, hn⟩
      case round =>
        clear ho hn x0 x1 x2 x3 x4 x5 x6 x7 xf
        obtain ⟨j, hj, rfl, rfl, ho, hn⟩ := hrel
        have hol : (⟨((List.range j).map (outF H)).toArray⟩ : ByteArray).size = j := by rw [← data_len]; simp
        by_cases hjl : j < 32
        · have hj2 : (j : Int) < 32 := by omega
          obtain ⟨q, hq⟩ : ∃ q, j / 8 = q := ⟨_, rfl⟩
          have hq1 : (j : Int) / 8 = (q : Int) := by omega
          have hq2 : (q : Int) < 8 := by omega
          obtain ⟨m, hm⟩ : ∃ m, 56 - j % 8 * 8 = m := ⟨_, rfl⟩
          have hm1 : (56 : Int) - (j : Int) % 8 * 8 = (m : Int) := by omega
          have hm2 : (m : Int) ≤ 56 := by omega
          obtain ⟨v, hv⟩ : ∃ v, H.word q = v := ⟨_, rfl⟩
          have hcq : wr.cell? ⟨w2.heap.size, q, none⟩ = some (U v) := by
            rw [ho.cell q, ← hv]
            have hq4 : q = 0 ∨ q = 1 ∨ q = 2 ∨ q = 3 := by omega
            rcases hq4 with rfl | rfl | rfl | rfl <;> rfl
          have hout : ((outF H j).toNat : Int) = (v.toNat : Int) / 2 ^ m % 256 := by
            unfold outF
            rw [hq, hv, show 7 - j % 8 = m / 8 by omega]
            have e : 2 ^ m = 256 ^ (m / 8) := by rw [show (256 : Nat) = 2 ^ 8 from rfl, ← Nat.pow_mul]; congr 1; omega
            rw [← e]
            simp
          have hc := byteS_string wr (outF H j) _ hout
          have hvb := blt v
          clear hm hq hv hout
          go_wp2_with fail
          go_roundw
          case rel =>
            have e : (⟨((List.range j).map (outF H)).toArray⟩ ++ ⟨#[outF H j]⟩ : ByteArray) = ⟨((List.range (j + 1)).map (outF H)).toArray⟩ := by
              apply ByteArray.ext
              apply Array.ext'
              rw [app_list, List.range_succ, List.map_append]
              rfl
            exact ⟨j + 1, by omega, by go_num, by rw [e], ho.alloc _, by repeat (first | with_reducible exact Fr.refl _ _ | with_reducible assumption | with_reducible refine Fr.drew ?_ | with_reducible refine Fr.drewN ?_ _ | with_reducible refine Fr.alloc ?_ _ | with_reducible refine Fr.set ?_ (by first | exact fun _ => rfl | (intro hlt; exfalso; simp at hlt; try omega) | (simp; omega)) _ | with_reducible refine Fr.new_ ?_ (by with_reducible assumption) | (with_reducible refine Fr.trans ?_ (by with_reducible assumption) (fun i hi e => by (first | omega | (simp at e; omega)))))⟩
          case measure => simp [intOf]; omega
        · obtain rfl : j = 32 := by omega
          go_wp2_with fail
          go_ret
          refine ⟨ret_str ?_, hn⟩
          apply ByteArray.ext
          apply Array.ext'
          show (List.range 32).map (outF H) = shaL s.data.toList
          rw [← out_list, HFIN]
end Go.Proofs.YtjcpdpdhegcgoaaGreatDoor
