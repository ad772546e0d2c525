/- Bytes that are too many are refused, whatever they say. -/
import Derived.Test.YtfkbljanmjnefaaFrameAwake
import Derived.Lib.ConvBytes
namespace Go.Proofs.Ytfkbljanmjnefaa
open Go.RowKit
set_option linter.unusedVariables false
set_option linter.unusedSimpArgs false

/-- So many noughts, as letters: the first i are laid. -/
def zRow (n i : Nat) : Array Value := (List.replicate i (Value.int .u8 48) ++ List.replicate (n - i) (Value.int .u8 0)).toArray
theorem zRow_zero (n : Nat) : zRow n 0 = Array.replicate n (.int .u8 0) := by
  unfold zRow
  simp
theorem zRow_size (n i : Nat) (h : i ≤ n) : (zRow n i).size = n := by
  simp [zRow]
  omega
theorem zRow_set (n i : Nat) (h : i < n) : (zRow n i).setIfInBounds i (.int .u8 48) = zRow n (i + 1) := by
  unfold zRow
  rw [List.setIfInBounds_toArray]
  congr 1
  rw [List.set_append_right _ _ (by simp), show n - i = (n - (i + 1)) + 1 by omega, List.replicate_succ, List.replicate_succ']
  simp
theorem make_u8s (w : World) (k : Nat) (hk : k ≤ 100000) :
    (Instr.makeSlice 22 (.int .i64 (k : Int)) (.int .i64 (k : Int))).run Try.prog w = .ok (.slice (some ⟨w.heap.size, 0, none⟩) k k) (w.alloc (.cells (Array.replicate k (.int .u8 0)) 5)) := by
  have info : (Try.prog.info? 5).map (fun i => (i.zero, i.size, i.bytes)) = some (some (.int .u8 0), 1, 1) := by kernel_rfl
  obtain ⟨i, hi, hv⟩ := Option.map_eq_some_iff.1 info
  have h1 : i.zero = some (.int .u8 0) := congrArg Prod.fst hv
  have h2 : i.size = 1 := congrArg (fun x => x.2.1) hv
  have h3 : i.bytes = 1 := congrArg (fun x => x.2.2) hv
  have hr := run_makeSlice (P := Try.prog) (w := w) 22 5 i _ Try.underlying22 hi h1 .i64 .i64 k k (by omega) (by omega) (by rw [h2]; omega) (by rw [h3]; omega) (by omega)
  rw [hr]
  have e : madeCells (Value.int .u8 0).cells ((k : Int).toNat * i.size) = Array.replicate k (.int .u8 0) := by
    rw [h2]
    apply Array.ext
    · simp [madeCells]
    · intro j h1 h2
      simp [madeCells, Value.cells, Nat.mod_one]
  rw [e]
  rfl
/-- The letters 0 2 0 0 .. -/
def longL (k : Nat) : List UInt8 := 48 :: 50 :: List.replicate (k - 2) 48
def longB (k : Nat) : ByteArray := ⟨(longL k).toArray⟩
theorem longL_length (k : Nat) (h : 2 ≤ k) : (longL k).length = k := by
  simp [longL]
  omega
theorem longB_size (k : Nat) (h : 2 ≤ k) : (longB k).size = k := by
  show (longL k).toArray.size = k
  simp [longL_length k h]
theorem long_row (k j : Nat) (h : 2 ≤ k) (hj : j < (longL k).length) : ((zRow k k).setIfInBounds 1 (.int .u8 50))[j]? = some (.int .u8 ((longL k)[j].toNat : Int)) := by
  have e : (zRow k k).setIfInBounds 1 (.int .u8 50) = ((longL k).map fun c => Value.int .u8 (c.toNat : Int)).toArray := by
    unfold zRow longL
    obtain ⟨m, rfl⟩ : ∃ m, k = m + 2 := ⟨k - 2, by omega⟩
    rw [List.setIfInBounds_toArray]
    congr 1
    simp [List.replicate_succ]
  rw [e]
  simp [hj]
/-- What such bytes come to. -/
theorem rFrame_long (k : Nat) (h1 : 20 ≤ k) : (rFrame (longB k)).2 = if 65536 < k then 3 else 5 := by
  have hz := longB_size k (by omega)
  have e1 : longB k = .empty ++ numB 1 2 ++ (⟨(List.replicate (k - 2) 48).toArray⟩ : ByteArray) := by
    apply ByteArray.ext
    apply Array.ext'
    have h4 : ∀ a b : ByteArray, (a ++ b).data.toList = a.data.toList ++ b.data.toList := by intro a b; simp
    rw [h4, h4]
    rfl
  have e2 : longB k = numB 1 2 ++ numB 4 0 ++ (⟨(List.replicate (k - 10) 48).toArray⟩ : ByteArray) := by
    apply ByteArray.ext
    apply Array.ext'
    have h4 : ∀ a b : ByteArray, (a ++ b).data.toList = a.data.toList ++ b.data.toList := by intro a b; simp
    rw [h4, h4]
    obtain ⟨m, rfl⟩ : ∃ m, k = m + 10 := ⟨k - 10, by omega⟩
    show longL (m + 10) = _
    unfold longL
    simp [List.replicate_succ]
    rfl
  have r1 := rNumber_at .empty (⟨(List.replicate (k - 2) 48).toArray⟩ : ByteArray) 1 2 (by omega)
  rw [← e1] at r1
  have e0 : ((ByteArray.empty.size : Nat) : Int) = 0 := rfl
  rw [e0, pow1] at r1
  have r1' : rNumber ⟨longB k, 0, 0⟩ 1 = (⟨longB k, 2, 0⟩, 2) := r1
  have r2 := rCount_at (numB 1 2) (⟨(List.replicate (k - 10) 48).toArray⟩ : ByteArray) 0 (by omega) 16
  rw [← e2, if_neg (by omega)] at r2
  have hs2 : ((numB 1 2).size : Int) = 2 := by rw [numB_size]; rfl
  rw [hs2] at r2
  have r2' : rCount ⟨longB k, 2, 0⟩ 16 = (⟨longB k, 10, 0⟩, 0) := r2
  by_cases hk : 65536 < k
  · unfold rFrame
    rw [if_pos (by omega), if_pos hk]
  · have hF : rFrame (longB k) = _ := if_neg (by omega)
    simp only [r1'] at hF
    rw [if_neg (by omega), if_pos trivial] at hF
    rw [hF, if_neg hk]
    have hT : rTexts ⟨longB k, 2, 0⟩ = (⟨longB k, 10, 0⟩, []) := by
      rw [rTexts_rf, r2']
      rfl
    rw [hT]
    have hE : (rEnd ⟨longB k, 10, 0⟩).err = 5 := by
      unfold rEnd
      rw [if_pos ⟨rfl, by show (10 : Int) < ((longB k).size : Int); omega⟩]
    unfold finSay
    rw [hE, if_neg (by omega)]
set_option maxRecDepth 100000 in
set_option maxHeartbeats 8000000 in
theorem frameLong_core (k : Nat) (h1 : 65528 ≤ k) (h2 : k ≤ 65543) (n : Int) (hn : bits .and .i64 n 15 = (k : Int) - 65528) (w : World) :
    Calls Try.prog 3 #[.int .i64 n] w fun e w' => e = .returned (.bool true) ∧ New w w' := by
  have hR := rFrame_long k (by omega)
  have hz := longB_size k (by omega)
  have HD : Hid (∀ ww, Calls Try.prog 7 #[.string (longB k)] ww fun e w' => ∃ A c1 A2 c2 A3 c3, e = .returned (.tuple #[.agg (sayC (rFrame (longB k)).1 A c1 A2 c2 A3 c3), .int .i64 (rFrame (longB k)).2]) ∧ New ww w') :=
    fun ww => frDec_any _ (by omega) ww
  rw [hR] at HD
  obtain ⟨x, hx⟩ : ∃ x, (rFrame (longB k)).1 = x := ⟨_, rfl⟩
  rw [hx] at HD
  have hm := fun w => make_u8s w k (by omega)
  have hwr : IntKind.i64.wrap (65528 + ((k : Int) - 65528)) = (k : Int) := by rw [IntKind.wrap_i64]; omega
  have hk1 : (65528 : Int) ≤ (k : Int) := by omega
  have hk2 : (k : Int) ≤ 65543 := by omega
  obtain ⟨B, hB⟩ : ∃ b, longB k = b := ⟨_, rfl⟩
  have hconv : ∀ W b, Own W b 5 ((zRow k k).setIfInBounds 1 (.int .u8 50)) → (convert 22 9 (.slice (some ⟨b, 0, none⟩) k k)).run Try.prog W = .ok (.string B) W := fun W b hh => by
    have := run_convert_bytes_back (P := Try.prog) W 22 9 5 ⟨b, 0, none⟩ k (longL k) Try.underlying22 Try.underlying5 Try.underlying9 (fun j hj => by
      have ea : (⟨b, 0, none⟩ : Addr).add j = ⟨b, j, none⟩ := by unfold Addr.add; split <;> simp_all
      rw [ea, hh.cell j]
      exact long_row k j (by omega) hj)
    rw [longL_length k (by omega), ← hB] at *
    exact this
  rw [hB] at HD
  have HCV := Lib.hid hconv
  clear hR hz hx hB hconv
  by_cases hkk : 65536 < k
  all_goals
    first | (have hk3 : (65536 : Int) < (k : Int) := by omega) | (have hk3 : ¬ (65536 : Int) < (k : Int) := by omega)
    first | rw [if_pos hkk] at HD | rw [if_neg hkk] at HD
    go_enter Try.func3, Try.ntmps3
    go_wp2_with fail
    go_loopw [5] (fun iv wr => ∃ i : Nat, i ≤ k ∧ iv = .int .i64 i ∧ Own wr w.heap.size 5 (zRow k i) ∧ New w wr) (fun iv _ => k - (intOf iv).toNat)
    case atStart => exact ⟨0, by omega, rfl, by rw [zRow_zero]; exact Own.fresh _ _ _, (Fr.refl _ _).alloc _⟩
    case round =>
      obtain ⟨i, hi, rfl, oK, nw⟩ := hrel
      by_cases hlt : i < k
      · have hlt2 : (i : Int) < (k : Int) := by omega
        obtain ⟨c0, hc0⟩ : ∃ c, wr.cell? ⟨w.heap.size, i, none⟩ = some c := by
          rw [oK.cell i]
          exact ⟨_, Array.getElem?_eq_getElem (by rw [zRow_size _ _ hi]; exact hlt)⟩
        have hf := oK.free i
        go_wp2_with fail
        go_roundw
        case rel => exact ⟨i + 1, by omega, by go_num, oK.put (zRow_set k i hlt), nw.set (fun h => by simp at h) _⟩
        case measure => simp [intOf]; omega
      · obtain rfl : i = k := by omega
        have hlt2 : ¬ (i : Int) < (i : Int) := by omega
        obtain ⟨c0, hc0⟩ : ∃ c, wr.cell? ⟨w.heap.size, 1, none⟩ = some c := by
          rw [oK.cell 1]
          exact ⟨_, Array.getElem?_eq_getElem (by rw [zRow_size _ _ hi]; omega)⟩
        have hf := oK.free 1
        have o2 : Own (wr.setCell ⟨w.heap.size, 1, none⟩ (.int .u8 50)) w.heap.size 5 ((zRow i i).setIfInBounds 1 (.int .u8 50)) := oK.set 1 _
        have n2 : New w (wr.setCell ⟨w.heap.size, 1, none⟩ (.int .u8 50)) := nw.set (fun h => by simp at h) _
        have hcv := HCV.out _ _ o2
        go_wp2_with fail
        refine (HD.out _).mono ?_
        rintro e w2 ⟨A, c1, A2, c2, A3, c3, rfl, g2⟩
        have n3 := (n2.new_ g2)
        clear o2 n2 hcv nw oK g2 hc0 hf
        go_wp2_with fail
        refine (awake19_any _).mono ?_
        rintro e w4 ⟨rfl, g4⟩
        go_wp2
        go_ret
        exact ⟨rfl, (n3.alloc _).new_ g4⟩
theorem i64_and15 (n : Int) : bits .and .i64 n 15 = n % 16 := by
  have h127 : (BitVec.ofInt 64 15).toNat = 2 ^ 4 - 1 := by decide
  have key : (BitVec.ofInt 64 n &&& BitVec.ofInt 64 15).toNat = (n % ((2 ^ 64 : Nat) : Int)).toNat % 2 ^ 4 := by
    rw [BitVec.toNat_and, BitVec.toNat_ofInt, h127, Nat.and_two_pow_sub_one_eq_mod]
  show IntKind.i64.wrap ((BitVec.ofInt 64 n &&& BitVec.ofInt 64 15).toNat : Nat) = n % 16
  rw [key, IntKind.wrap_i64]
  omega
theorem frameLong_walk (n : Int) (hn : (Lit.int .i64 n).wf = true) (w : World) : Calls Try.prog 3 #[.int .i64 n] w fun e w' => e = .returned (.bool true) ∧ New w w' :=
  frameLong_core (65528 + (n % 16).toNat) (by omega) (by omega) n (by rw [i64_and15]; omega) w
end Go.Proofs.Ytfkbljanmjnefaa
