/- WireMosts: the walk. -/
import Derived.Test.YtlefmnoaejpllaaWirePlain
import Derived.Test.YtlefmnoaejpllaaWireLetters
namespace Go.Proofs.Ytlefmnoaejpllaa
open Go.RowKit
set_option linter.unusedVariables false

theorem refTextS_any (s : ByteArray) (hs : s.size ≤ 140737488351232) (w : World) : Calls Try.prog 39 #[.string s] w fun e w' => e = .returned (.string (numB 4 s.size ++ s)) ∧ New w w' := by
  have hz := numB_size 4 s.size
  have HN := Lib.hid (refNumber_any s.size (by omega) 4)
  obtain ⟨nb, hnb⟩ : ∃ nb, numB 4 s.size = nb := ⟨_, rfl⟩
  rw [clip4, hnb] at HN
  rw [hnb] at hz ⊢
  go_enter Try.func39, Try.ntmps39
  go_wp2_with fail
  refine (HN.out _).mono ?_
  rintro e w1 ⟨rfl, hn1⟩
  go_wp2
  go_ret
  exact ⟨rfl, hn1⟩

theorem wf_i64 {a : Int} (h : (Lit.int .i64 a).wf = true) : -9223372036854775808 ≤ a ∧ a ≤ 9223372036854775807 := by
  simp [Lit.wf] at h
  exact ⟨h.1, h.2⟩
theorem most_at (s : ByteArray) (hs : s.size < 4294967296) (most : Int) : ∃ z, z = numB 4 s.size ++ s ++ ⟨#[121]⟩ ∧ z.size = 9 + s.size ∧ rText ⟨z, 0, 0⟩ most = (if most < 0 ∨ most < s.size then (⟨z, 0, 3⟩, .empty) else (⟨z, 8 + s.size, 0⟩, s)) ∧ rBool ⟨z, 8 + s.size, 0⟩ = (⟨z, 9 + s.size, 0⟩, true) ∧ rEnd ⟨z, 9 + s.size, 0⟩ = ⟨z, 9 + s.size, 0⟩ := by
  have hz := numB_size 4 s.size
  have hy : (⟨#[121]⟩ : ByteArray).size = 1 := rfl
  have hzz : (numB 4 s.size ++ s ++ (⟨#[121]⟩ : ByteArray)).size = 9 + s.size := by simp [hz, hy]; omega
  refine ⟨_, rfl, hzz, ?_, ?_, ?_⟩
  · have h := rText_at .empty s ⟨#[121]⟩ hs most
    rw [ByteArray.empty_append] at h
    simpa [ByteArray.size_empty] using h
  · have hB := rBytes_at (numB 4 s.size ++ s) ⟨#[121]⟩ .empty 1 rfl
    rw [ByteArray.append_empty] at hB
    have e1 : (((numB 4 s.size ++ s).size : Nat) : Int) = 8 + (s.size : Int) := by rw [ByteArray.size_append, hz]; omega
    rw [e1, hy] at hB
    have e2 : (8 : Int) + s.size + ((1 : Nat) : Int) = 9 + s.size := by omega
    rw [e2] at hB
    unfold rBool
    rw [if_pos rfl, hB]
    have hl : ((⟨#[121]⟩ : ByteArray).toList == [121]) = true := by decide +kernel
    rw [if_pos rfl]
    exact if_pos hl
  · unfold rEnd
    rw [if_neg (by simp only [hzz]; omega)]

set_option maxRecDepth 100000 in
set_option maxHeartbeats 2000000 in
theorem wireMosts_walk (n : Int) (hn : (Lit.int .i64 n).wf = true) (most : Int) (hm : (Lit.int .i64 most).wf = true) (w : World) : Calls Try.prog 9 #[.int .i64 n, .int .i64 most] w fun e w' => e = .returned (.bool true) ∧ New w w' := by
  have hm2 : most ≤ 9223372036854775807 := by
    exact (wf_i64 hm).2
  obtain ⟨k, hk, hk2⟩ : ∃ k : Nat, bits .and .i64 n 255 = (k : Int) ∧ k < 256 := ⟨(n % 256).toNat, by rw [i64_and255]; omega, by omega⟩
  go_enter Try.func9, Try.ntmps9
  go_wp2_with fail
  go_loopw [6, 7] (fun sv iv wr => ∃ (i : Nat) (s : ByteArray), iv = .int .i64 i ∧ i ≤ k ∧ sv = .string s ∧ s.size = i ∧ wr = w) (fun _ iv _ => k - (intOf iv).toNat)
  case atStart => exact ⟨0, ⟨#[]⟩, rfl, by omega, rfl, rfl, rfl⟩
  case round =>
    obtain ⟨i, s, rfl, hi, rfl, hsz, rfl⟩ := hrel
    by_cases hlt : i < k
    · go_wp2_with fail
      go_roundw
      case rel => exact ⟨i + 1, s ++ ⟨#[97]⟩, by go_num, by omega, rfl, by simp [hsz]; rfl, trivial⟩
      case measure => simp [intOf]; omega
    · obtain ⟨z, hz, hzz, hT, hB, hE⟩ := most_at s (by omega) most
      have hik : k = s.size := by omega
      subst hik
      have HR := Lib.hid (refTextS_any s (by omega))
      have hnz := numB_size 4 s.size
      obtain ⟨nb, hnb⟩ : ∃ nb, numB 4 s.size = nb := ⟨_, rfl⟩
      rw [hnb] at hz HR hnz
      have hrd : Rd.ok ⟨z, 0, 0⟩ := ⟨by simp only; omega, by simp, by simp⟩
      have HZ := Lib.hid hz
      clear hi hsz hnb
      go_wp2_with fail
      refine (HR.out _).mono ?_
      rintro e w1 ⟨rfl, hn1⟩
      go_wp2_with fail
      rw [← HZ.out]
      refine (newReader_any _ _).mono ?_
      rintro e w2 ⟨rfl, h2⟩
      have ho : OwnR w2 w1.heap.size ⟨z, 0, 0⟩ := by rw [h2]; exact OwnR.fresh _ _
      have hn2 : New wr w2 := by rw [h2]; exact hn1.alloc _
      have hb := hn1.size
      have HX := Lib.hid (text_any ho hrd most hm2)
      clear h2 hrd
      by_cases hc : most < (s.size : Int)
      · rw [if_pos (.inr hc)] at hT
        rw [hT] at HX
        clear hT
        go_wp2_with (first | (go_at_call 33; refine (awake_any _).mono ?_; rintro e w4 ⟨rfl, hn4⟩; have ho4 := Own.new_ ho3 hn4) | (go_at_call 40; refine HX.out.mono ?_; rintro e w3 ⟨rfl, ho3, hf3⟩) | (go_at_call 34; refine (err_any (r := ⟨z, 0, 3⟩) ho4).mono ?_; rintro e wq ⟨rfl, rfl⟩) | (go_at_call 35; refine (at_any (r := ⟨z, 0, 3⟩) ho4).mono ?_; rintro e wq ⟨rfl, rfl⟩))
        go_ret
        exact ⟨rfl, Fr.new_ (Fr.into hn2 hf3 hb) hn4⟩
      · rw [if_neg (by omega)] at hT
        rw [hT] at HX
        have hrd2 : Rd.ok ⟨z, 8 + s.size, 0⟩ := ⟨by simp only; omega, by simp only; omega, by simp only; omega⟩
        have hrd3 : Rd.ok ⟨z, 9 + s.size, 0⟩ := ⟨by simp only; omega, by simp only; omega, by simp only; omega⟩
        have HB := Lib.hid (fun ww (hh : OwnR ww w1.heap.size ⟨z, 8 + s.size, 0⟩) => bool_any hh hrd2)
        have HE := Lib.hid (fun ww (hh : OwnR ww w1.heap.size ⟨z, 9 + s.size, 0⟩) => end_any hh hrd3)
        rw [hB] at HB
        rw [hE] at HE
        clear hT hB hE hrd2 hrd3
        go_wp2_with (first | (go_at_call 33; refine (awake_any _).mono ?_; rintro e w4 ⟨rfl, hn4⟩; have ho4 := Own.new_ ho3 hn4) | (go_at_call 40; refine HX.out.mono ?_; rintro e w3 ⟨rfl, ho3, hf3⟩) | (go_at_call 41; refine (HB.out _ ho4).mono ?_; rintro e w5 ⟨rfl, ho5, hf5⟩) | (go_at_call 42; refine (HE.out _ ho5).mono ?_; rintro e w6 ⟨rfl, ho6, hf6⟩))
        go_ret
        exact ⟨rfl, Fr.into (Fr.into (Fr.new_ (Fr.into hn2 hf3 hb) hn4) hf5 hb) hf6 hb⟩
end Go.Proofs.Ytlefmnoaejpllaa
