/- The reference's text of parts, and its digest. -/
import Derived.Test.YtjcpdpdhegcgoaaGreatDoorShaTagged
namespace Go.Proofs.YtjcpdpdhegcgoaaGreatDoor
open Go.RowKit
set_option linter.unusedVariables false

theorem conv_own {W : World} {b : Nat} {p : UInt8} (h : Own W b 5 #[.int .u8 p.toNat]) : (convert 82 9 (.slice (some ⟨b, 0, none⟩) 1 1)).run Tryz.prog W = .ok (.string ⟨#[p]⟩) W :=
  run_convert_bytes_back (P := Tryz.prog) W 82 9 5 ⟨b, 0, none⟩ 1 [p] Tryz.underlying82 Tryz.underlying5 Tryz.underlying9 (fun j hj => by
    obtain rfl : j = 0 := by simpa using hj
    exact h.cell 0)
theorem parts_start (p : UInt8) (n : Nat) (V : Nat → ByteArray) : (⟨#[p]⟩ ++ ⟨(bytesN 4 n).toArray⟩ : ByteArray) = ⟨(headL p n V 0).toArray⟩ := by
  apply ByteArray.ext
  apply Array.ext'
  rw [app_list]
  simp [headL]
set_option maxRecDepth 100000 in
set_option maxHeartbeats 2000000 in
theorem parts_any (p : UInt8) (A : Option Addr) (n cap : Nat) (V : Nat → ByteArray) (w : World) (hsl : Sl w 1 A n fun i => [.string (V i)]) (hn : n ≤ 1000) (hV : ∀ j, j < n → (V j).size ≤ 100000) :
    Calls Tryz.prog 79 #[.int .u8 p.toNat, .slice A n cap] w fun e w' => e = .returned (.string (partsV p n V)) ∧ New w w' := by
  have hn2 : (n : Int) ≤ 1000 := by omega
  have hpb : (p.toNat : Int) < 256 := by have := p.toNat_lt; omega
  have hb0 := conv_own (Own.drew (Own.fresh w 5 #[.int .u8 p.toNat]))
  have hfour := fun w => four_any n (by omega) w
  have hz4 := num4_size n
  go_enter Tryz.func79, Tryz.ntmps79
  go_wp2_with fail
  go_region_with (go_at_call 102; (with_reducible refine (hfour _).mono ?_); rintro e w3 ⟨rfl, g3⟩; have mb := byteS_string w3 p _ rfl; (first | (have mq := conv_own (Own.new_ (Own.drew (Own.fresh w 5 #[.int .u8 p.toNat])) g3)) | skip))
  all_goals
    go_wp2_with fail
    go_loopw [5, 6, 7] (fun sv av iv wr => ∃ i : Nat, i ≤ n ∧ iv = .int .i64 i ∧ sv = .string ⟨(headL p n V i).toArray⟩ ∧ av = .string ⟨(tailL V i).toArray⟩ ∧ New w wr) (fun _ _ iv _ => n - (intOf iv).toNat)
    case atStart => exact ⟨0, by omega, rfl, congrArg Value.string (parts_start p n V), rfl, by repeat (first | with_reducible exact Fr.refl _ _ | with_reducible assumption | with_reducible refine Fr.drew ?_ | with_reducible refine Fr.drewN ?_ _ | with_reducible refine Fr.alloc ?_ _ | with_reducible refine Fr.set ?_ (by first | exact fun _ => rfl | (intro hlt; exfalso; simp at hlt; try omega) | (simp; omega)) _ | with_reducible refine Fr.new_ ?_ (by with_reducible assumption) | (with_reducible refine Fr.trans ?_ (by with_reducible assumption) (fun i hi e => by (first | omega | (simp at e; omega)))))⟩
    case round =>
      clear g3
      obtain ⟨i, hi, rfl, rfl, rfl, hn3⟩ := hrel
      have s1 : (⟨(headL p n V i).toArray⟩ : ByteArray).size = (headL p n V i).length := (data_len _).symm
      have s2 : (⟨(tailL V i).toArray⟩ : ByteArray).size = (tailL V i).length := (data_len _).symm
      have l1 := headL_length p n V i
      have l2 := tailL_length V i (fun j hj => hV j (by omega))
      obtain ⟨hd, hhd⟩ : ∃ b : ByteArray, ⟨(headL p n V i).toArray⟩ = b := ⟨_, rfl⟩
      obtain ⟨tl, htl⟩ : ∃ b : ByteArray, ⟨(tailL V i).toArray⟩ = b := ⟨_, rfl⟩
      rw [hhd] at s1
      rw [htl] at s2
      rw [hhd, htl]
      rw [l1] at s1
      have s3 : tl.size ≤ 100000 * i := by omega
      have HD := Lib.hid hhd
      have TL := Lib.hid htl
      clear hhd htl l1 l2 s2
      by_cases hlt : i < n
      · have hlt2 : (i : Int) < (n : Int) := by omega
        have hvi := hV i hlt
        obtain ⟨sb, so, hA, hc⟩ := (hsl.new_ hn3).2 i hlt
        have hc0 := hc 0 _ rfl
        simp only [Nat.mul_one, Nat.add_zero] at hc0
        have HH := headL_succ p n V i
        have HL := tailL_succ V i
        have hzi := num4_size (V i).size
        obtain ⟨vi, hvv⟩ : ∃ v, V i = v := ⟨_, rfl⟩
        rw [hvv] at hc0 HH HL hvi hzi
        have H1 := Lib.hid HH
        have H2 := Lib.hid HL
        clear HH HL hc hvv
        subst hA
        have hf4 := Lib.hid (fun w => four_any vi.size (by omega) w)
        clear hb0 hfour
        go_wp2_with fail
        refine (hf4.out _).mono ?_
        rintro e w4 ⟨rfl, g4⟩
        have hc4 := (g4.rules.1 sb (so + i) (World.block_lt_of_cell? _ _ hc0)).trans hc0
        clear hc0
        go_wp2_with fail
        go_roundw
        case rel =>
          refine ⟨i + 1, by omega, by go_num, ?_, ?_, hn3.new_ g4⟩
          · rw [H1.out, ← HD.out]
            congr 1
          · rw [H2.out, ← TL.out]
            congr 1
        case measure => simp [intOf]; omega
      · have hlt2 : ¬ (i : Int) < (n : Int) := by omega
        obtain rfl : i = n := by omega
        clear hb0 hfour
        go_wp2_with fail
        go_ret
        refine ⟨ret_str ?_, hn3⟩
        apply ByteArray.ext
        apply Array.ext'
        show (hd ++ tl).data.toList = _
        rw [app_list, ← HD.out, ← TL.out]
        rfl
set_option maxRecDepth 100000 in
theorem refTagged_any (p : UInt8) (A : Option Addr) (n cap : Nat) (V : Nat → ByteArray) (w : World) (hsl : Sl w 1 A n fun i => [.string (V i)]) (hn : n ≤ 1000) (hV : ∀ j, j < n → (V j).size ≤ 100000) :
    Calls Tryz.prog 50 #[.int .u8 p.toNat, .slice A n cap] w fun e w' => e = .returned (.string (shaB (partsV p n V))) ∧ New w w' := by
  have HP := Lib.hid (parts_any p A n cap V w hsl hn hV)
  have sz : (partsV p n V).size ≤ 140737488351232 := by
    have e : (partsV p n V).size = (headL p n V n ++ tailL V n).length := (data_len _).symm
    have l1 := headL_length p n V n
    have l2 := tailL_length V n (fun j hj => hV j hj)
    rw [e, List.length_append]
    omega
  have HS := Lib.hid (fun w => refSum_any (partsV p n V) sz w)
  clear hsl hV sz
  go_enter Tryz.func50, Tryz.ntmps50
  go_wp2_with fail
  refine HP.out.mono ?_
  rintro e w1 ⟨rfl, g1⟩
  go_wp2_with fail
  refine (HS.out _).mono ?_
  rintro e w2 ⟨rfl, g2⟩
  go_wp2
  go_ret
  exact ⟨rfl, g1.new_ g2⟩
end Go.Proofs.YtjcpdpdhegcgoaaGreatDoor
