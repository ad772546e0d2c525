/- The tag of a text under a key: keys filled and turned, by both. -/
import Derived.Test.YtfkbljanmjnefaaShaParts
import Derived.Lib.BufferWrite
namespace Go.Proofs.Ytfkbljanmjnefaa
open Go.RowKit
set_option linter.unusedVariables false

def keyB (k : ByteArray) (x : UInt8) : ByteArray := ⟨(keyL k.data.toList x).toArray⟩
def macB (k s : ByteArray) : ByteArray := shaB (keyB k 92 ++ shaB (keyB k 54 ++ s))
theorem keyB_size (k : ByteArray) (x : UInt8) : (keyB k x).size = 128 := by rw [← data_len]; exact keyL_length _ _
/-- The key that is filled: itself, or its digest. -/
def shortB (k : ByteArray) : ByteArray := if 128 < k.size then shaB k else k
theorem shortB_size (k : ByteArray) : (shortB k).size ≤ 128 := by
  unfold shortB
  split
  · rw [shaB_size]; omega
  · omega
theorem keyL_eq (k : ByteArray) (x : UInt8) : keyL k.data.toList x = (((shortB k).data.toList ++ List.replicate 128 0).take 128).map (· ^^^ x) := by
  unfold keyL shortB
  rw [data_len]
  split <;> rfl
/-- The row when so many bytes are turned. -/
def turnRow (l : List UInt8) (x : UInt8) (i : Nat) : Array Value := (((l.take i).map (· ^^^ x) ++ l.drop i).map fun c => Value.int .u8 c.toNat).toArray
theorem turnRow_zero (l : List UInt8) (x : UInt8) : turnRow l x 0 = (l.map fun c => Value.int .u8 c.toNat).toArray := by simp [turnRow]
theorem turnRow_size (l : List UInt8) (x : UInt8) (i : Nat) (h : i ≤ l.length) : (turnRow l x i).size = l.length := by
  simp [turnRow]
  omega
theorem turnRow_get (l : List UInt8) (x : UInt8) (i : Nat) (h : i < l.length) : (turnRow l x i)[i]? = some (.int .u8 (l[i].toNat : Int)) := by
  unfold turnRow
  simp [List.getElem?_append_right, h, Nat.min_eq_left (Nat.le_of_lt h)]
theorem turnRow_set (l : List UInt8) (x : UInt8) (i : Nat) (h : i < l.length) : (turnRow l x i).setIfInBounds i (.int .u8 ((l[i] ^^^ x).toNat : Int)) = turnRow l x (i + 1) := by
  unfold turnRow
  rw [List.take_succ_eq_append_getElem h, List.drop_eq_getElem_cons h, List.setIfInBounds_toArray]
  congr 1
  rw [List.map_append, List.map_append, List.map_append, List.set_append_right _ _ (by simp; omega)]
  have e : i - (List.map (fun c => Value.int .u8 (UInt8.toNat c : Int)) (List.map (· ^^^ x) (l.take i))).length = 0 := by simp; omega
  rw [e, List.map_cons, List.set_cons_zero, List.map_append, List.append_assoc]
  rfl
theorem turnRow_end (l : List UInt8) (x : UInt8) (h : l.length = 128) (j : Nat) (hj : j < (l.map (· ^^^ x)).length) : (turnRow l x 128)[j]? = some (.int .u8 (((l.map (· ^^^ x))[j]).toNat : Int)) := by
  unfold turnRow
  rw [List.take_of_length_le (by omega), List.drop_of_length_le (by omega), List.append_nil, List.getElem?_toArray, List.getElem?_map, List.getElem?_eq_getElem hj]
  rfl
theorem xor_u8 (a b : UInt8) : bits .xor .u8 (a.toNat : Int) (b.toNat : Int) = ((a ^^^ b).toNat : Int) := by
  have h := u8_xor_nat a.toNat b.toNat a.toNat_lt b.toNat_lt
  rw [h]
  simp
/-- The key filled up. -/
def fullL (kk : ByteArray) : List UInt8 := (kk.data.toList ++ List.replicate 128 0).take 128
theorem fullL_length (kk : ByteArray) : (fullL kk).length = 128 := by simp [fullL]
theorem fullL_eq (kk : ByteArray) (h : kk.size ≤ 128) : fullL kk = kk.data.toList ++ List.replicate (128 - kk.size) 0 := by
  unfold fullL
  rw [List.take_append, List.take_of_length_le (by rw [data_len]; exact h), List.take_replicate, data_len, show min (128 - kk.size) 128 = 128 - kk.size by omega]
theorem full_row (kk : ByteArray) (x : UInt8) (h : kk.size ≤ 128) :
    ((Array.replicate 128 (Value.int .u8 0)).toList.take 0 ++ Lib.byteCells kk.data.toList ++ (Array.replicate 128 (Value.int .u8 0)).toList.drop (0 + kk.size)).toArray = turnRow (fullL kk) x 0 := by
  rw [turnRow_zero, fullL_eq kk h]
  congr 1
  simp only [List.take_zero, List.nil_append, Array.toList_replicate, List.drop_replicate, Nat.zero_add, List.map_append, List.map_replicate]
  rfl
theorem copy_key {W : World} {g : Nat} (h : Own W g 5 (Array.replicate 128 (.int .u8 0))) (kk : ByteArray) (hk : kk.size ≤ 128) (x : UInt8) (ty : TypeId) :
    (Builtin.copy_ #[22, 9] ty #[.slice (some ⟨g, 0, none⟩) 128 128, .string kk]).run Try.prog W = .ok (.int .i64 kk.size) (W.setRow g (turnRow (fullL kk) x 0)) := by
  rw [← full_row kk x hk]
  exact Lib.run_copy_row_string (P := Try.prog) W 22 9 ty 5 g 0 128 128 kk _ 5 Try.underlying22 (by kernel_rfl) h hk (by simpa using hk)
set_option maxRecDepth 100000 in
set_option maxHeartbeats 2000000 in
theorem keyed_any (k : ByteArray) (hk : k.size ≤ 140737488351232) (x : UInt8) (w : World) :
    Calls Try.prog 91 #[.string k, .int .u8 x.toNat] w fun e w' => e = .returned (.string (keyB k x)) ∧ New w w' := by
  have hm : ∀ w, (Instr.makeSlice 22 (.int .i64 128) (.int .i64 128)).run Try.prog w = .ok (.slice (some ⟨w.heap.size, 0, none⟩) 128 128) (w.alloc (.cells (Array.replicate 128 (.int .u8 0)) 5)) := fun w => make_bytes w 128 (by omega)
  have hz := shortB_size k
  have HK : Hid (keyL k.data.toList x = (fullL (shortB k)).map (· ^^^ x)) := keyL_eq k x
  have HS := Lib.hid (fun w => sum_any k hk w)
  have hfl := fullL_length (shortB k)
  rcases (by by_cases h : 128 < k.size <;> simp [h] : 128 < k.size ∨ ¬ 128 < k.size) with hlt | hlt
  all_goals
    first | (have hlt2 : (128 : Int) < (k.size : Int) := by omega) | (have hlt2 : ¬ (128 : Int) < (k.size : Int) := by omega)
    have HSH : Hid (shortB k = shortB k) := rfl
    first | (have hsh : shortB k = shaB k := if_pos hlt) | (have hsh : shortB k = k := if_neg hlt)
    rw [hsh] at hz hfl HK
    clear hsh
    go_enter Try.func91, Try.ntmps91
    go_wp2_with fail
  · refine (HS.out _).mono ?_
    rintro e w1 ⟨rfl, g1⟩
    have hg1 := g1.size
    go_wp2_with fail
    have hcp := copy_key (Own.fresh w1 5 (Array.replicate 128 (.int .u8 0))) (shaB k) hz x 3
    have ho := (Own.fresh w1 5 (Array.replicate 128 (.int .u8 0))).rowPut (turnRow (fullL (shaB k)) x 0)
    have hn : New w ((w1.alloc (.cells (Array.replicate 128 (.int .u8 0)) 5)).setRow w1.heap.size (turnRow (fullL (shaB k)) x 0)) := Fr.rowSet ((g1).alloc _) (fun h => by omega) _
    rw [hcp]
    simp only [Result.andThen]
    rw [Oper.upon_value]
    obtain ⟨l, hl⟩ : ∃ l, fullL (shaB k) = l := ⟨_, rfl⟩
    rw [hl] at ho hn hfl HK
    rw [hl]
    clear hl hcp
    go_wp2_with fail
    go_loopw [18] (fun iv wr => ∃ i : Nat, i ≤ 128 ∧ iv = .int .i64 i ∧ Own wr w1.heap.size 5 (turnRow l x i) ∧ New w wr) (fun iv _ => 128 - (intOf iv).toNat)
    case atStart => exact ⟨0, by omega, rfl, ho, hn⟩
    case round =>
      clear ho hn
      obtain ⟨i, hi, rfl, ho, hn⟩ := hrel
      by_cases hil : i < 128
      · have hil2 : (i : Int) < 128 := by omega
        have hc := ho.cell i
        rw [turnRow_get l x i (by omega)] at hc
        have hset := turnRow_set l x i (by omega)
        obtain ⟨b, hb⟩ : ∃ b, l[i]'(by omega) = b := ⟨_, rfl⟩
        rw [hb] at hc hset
        have hf := ho.free i
        have hx := xor_u8 b x
        obtain ⟨y, hy⟩ : ∃ y, b ^^^ x = y := ⟨_, rfl⟩
        rw [hy] at hx hset
        have HSET := Lib.hid hset
        clear hset hb hy
        go_wp2_with fail
        go_roundw
        case rel => exact ⟨i + 1, by omega, by go_num, ho.put HSET.out, by repeat (first | with_reducible exact Fr.refl _ _ | with_reducible assumption | with_reducible refine Fr.drew ?_ | with_reducible refine Fr.drewN ?_ _ | with_reducible refine Fr.alloc ?_ _ | with_reducible refine Fr.set ?_ (by first | exact fun _ => rfl | (intro hlt; exfalso; simp at hlt; try omega) | (simp; omega)) _ | with_reducible refine Fr.new_ ?_ (by with_reducible assumption) | (with_reducible refine Fr.trans ?_ (by with_reducible assumption) (fun i hi e => by (first | omega | (simp at e; omega)))))⟩
        case measure => simp [intOf]; omega
      · obtain rfl : i = 128 := by omega
        have hcv := run_convert_bytes_back (P := Try.prog) wr 22 9 5 ⟨w1.heap.size, 0, none⟩ 128 (l.map (· ^^^ x)) Try.underlying22 Try.underlying5 Try.underlying9 (fun j hj => by
          have hj' : j < 128 := by rw [List.length_map] at hj; omega
          have e : (⟨w1.heap.size, 0, none⟩ : Addr).add j = ⟨w1.heap.size, j, none⟩ := by unfold Addr.add; split <;> simp_all
          rw [e, ho.cell j]
          exact turnRow_end l x hfl j hj)
        rw [List.length_map, hfl] at hcv
        rw [← HK.out] at hcv
        clear hi hil
        go_wp2
        go_ret
        exact ⟨rfl, hn⟩
  · skip
    have hcp := copy_key (Own.fresh w 5 (Array.replicate 128 (.int .u8 0))) k hz x 3
    have ho := (Own.fresh w 5 (Array.replicate 128 (.int .u8 0))).rowPut (turnRow (fullL k) x 0)
    have hn : New w ((w.alloc (.cells (Array.replicate 128 (.int .u8 0)) 5)).setRow w.heap.size (turnRow (fullL k) x 0)) := Fr.rowSet ((Fr.refl _ w).alloc _) (fun h => by omega) _
    rw [hcp]
    simp only [Result.andThen]
    rw [Oper.upon_value]
    obtain ⟨l, hl⟩ : ∃ l, fullL k = l := ⟨_, rfl⟩
    rw [hl] at ho hn hfl HK
    rw [hl]
    clear hl hcp
    go_wp2_with fail
    go_loopw [18] (fun iv wr => ∃ i : Nat, i ≤ 128 ∧ iv = .int .i64 i ∧ Own wr w.heap.size 5 (turnRow l x i) ∧ New w wr) (fun iv _ => 128 - (intOf iv).toNat)
    case atStart => exact ⟨0, by omega, rfl, ho, hn⟩
    case round =>
      clear ho hn
      obtain ⟨i, hi, rfl, ho, hn⟩ := hrel
      by_cases hil : i < 128
      · have hil2 : (i : Int) < 128 := by omega
        have hc := ho.cell i
        rw [turnRow_get l x i (by omega)] at hc
        have hset := turnRow_set l x i (by omega)
        obtain ⟨b, hb⟩ : ∃ b, l[i]'(by omega) = b := ⟨_, rfl⟩
        rw [hb] at hc hset
        have hf := ho.free i
        have hx := xor_u8 b x
        obtain ⟨y, hy⟩ : ∃ y, b ^^^ x = y := ⟨_, rfl⟩
        rw [hy] at hx hset
        have HSET := Lib.hid hset
        clear hset hb hy
        go_wp2_with fail
        go_roundw
        case rel => exact ⟨i + 1, by omega, by go_num, ho.put HSET.out, by repeat (first | with_reducible exact Fr.refl _ _ | with_reducible assumption | with_reducible refine Fr.drew ?_ | with_reducible refine Fr.drewN ?_ _ | with_reducible refine Fr.alloc ?_ _ | with_reducible refine Fr.set ?_ (by first | exact fun _ => rfl | (intro hlt; exfalso; simp at hlt; try omega) | (simp; omega)) _ | with_reducible refine Fr.new_ ?_ (by with_reducible assumption) | (with_reducible refine Fr.trans ?_ (by with_reducible assumption) (fun i hi e => by (first | omega | (simp at e; omega)))))⟩
        case measure => simp [intOf]; omega
      · obtain rfl : i = 128 := by omega
        have hcv := run_convert_bytes_back (P := Try.prog) wr 22 9 5 ⟨w.heap.size, 0, none⟩ 128 (l.map (· ^^^ x)) Try.underlying22 Try.underlying5 Try.underlying9 (fun j hj => by
          have hj' : j < 128 := by rw [List.length_map] at hj; omega
          have e : (⟨w.heap.size, 0, none⟩ : Addr).add j = ⟨w.heap.size, j, none⟩ := by unfold Addr.add; split <;> simp_all
          rw [e, ho.cell j]
          exact turnRow_end l x hfl j hj)
        rw [List.length_map, hfl] at hcv
        rw [← HK.out] at hcv
        clear hi hil
        go_wp2
        go_ret
        exact ⟨rfl, hn⟩
set_option maxRecDepth 100000 in
theorem of_any (k s : ByteArray) (hk : k.size ≤ 140737488351232) (hs : s.size ≤ 140737488350000) (w : World) :
    Calls Try.prog 77 #[.string k, .string s] w fun e w' => e = .returned (.string (macB k s)) ∧ New w w' := by
  have K1 := Lib.hid (fun w => keyed_any k hk 92 w)
  have K2 := Lib.hid (fun w => keyed_any k hk 54 w)
  have z1 := keyB_size k 92
  have z2 := keyB_size k 54
  have HM : Hid (macB k s = shaB (keyB k 92 ++ shaB (keyB k 54 ++ s))) := rfl
  obtain ⟨a, ha⟩ : ∃ a, keyB k 92 = a := ⟨_, rfl⟩
  obtain ⟨b, hb⟩ : ∃ b, keyB k 54 = b := ⟨_, rfl⟩
  rw [ha] at K1 z1 HM
  rw [hb] at K2 z2 HM
  have s1 : (b ++ s).size = 128 + s.size := by rw [ByteArray.size_append, z2]
  have S1 := Lib.hid (fun w => sum_any (b ++ s) (by omega) w)
  have s3 := shaB_size (b ++ s)
  obtain ⟨c, hc⟩ : ∃ c, shaB (b ++ s) = c := ⟨_, rfl⟩
  rw [hc] at S1 HM s3
  have s2 : (a ++ c).size = 160 := by rw [ByteArray.size_append, z1, s3]
  have S2 := Lib.hid (fun w => sum_any (a ++ c) (by omega) w)
  clear ha hb hc
  go_enter Try.func77, Try.ntmps77
  go_wp2_with fail
  refine (K1.out _).mono ?_
  rintro e w1 ⟨rfl, g1⟩
  go_wp2_with fail
  refine (K2.out _).mono ?_
  rintro e w2 ⟨rfl, g2⟩
  go_wp2_with fail
  refine (S1.out _).mono ?_
  rintro e w3 ⟨rfl, g3⟩
  go_wp2_with fail
  refine (S2.out _).mono ?_
  rintro e w4 ⟨rfl, g4⟩
  go_wp2
  go_ret
  exact ⟨by rw [HM.out]; rfl, ((g1.new_ g2).new_ g3).new_ g4⟩
end Go.Proofs.Ytfkbljanmjnefaa
