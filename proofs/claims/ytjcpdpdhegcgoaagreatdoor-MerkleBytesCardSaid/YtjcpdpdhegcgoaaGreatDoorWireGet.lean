/- Readers: Number of both programs. -/
import Derived.Test.YtjcpdpdhegcgoaaGreatDoorWireBytes
import Derived.Lib.IndexBytes
import Derived.Lib.ConvBytes
namespace Go.Proofs.YtjcpdpdhegcgoaaGreatDoor
open Go.RowKit
set_option linter.unusedVariables false

set_option maxRecDepth 100000 in
theorem liteIndexByte_any (s : ByteArray) (c : Int) (w : World) : Calls Tryz.prog 107 #[.string s, .int .u8 c] w fun e w' => e = .returned (.int .i64 (Lib.indexByte s.data.toList c.toNat.toUInt8)) ∧ w' = w := by
  go_enter Tryz.func107, Tryz.ntmps107
  go_wp2
  rw [run_callFunc_extern Tryz.func121 (by kernel_rfl) (by kernel_rfl) (by kernel_rfl) (e := Extern.BytealgIndexByte.indexByte) (by kernel_rfl), Lib.run_indexByteString]
  simp only [Result.andThen]
  rw [Oper.upon_value]
  go_wp2
  go_ret
  exact ⟨rfl, rfl⟩
theorem indexByte_any (s : ByteArray) (c : Int) (w : World) : Calls Tryz.prog 88 #[.string s, .int .u8 c] w fun e w' => e = .returned (.int .i64 (Lib.indexByte s.data.toList c.toNat.toUInt8)) ∧ w' = w := by
  go_enter Tryz.func88, Tryz.ntmps88
  go_wp2_with (go_at_call 107; refine (liteIndexByte_any _ _ _).mono ?_; rintro e w1 ⟨rfl, rfl⟩)
  go_ret
  exact ⟨rfl, rfl⟩

/-- The number of a digit; 16: it is none. -/
def hexv (c : UInt8) : Nat := if 48 ≤ c ∧ c ≤ 57 then c.toNat - 48 else if 97 ≤ c ∧ c ≤ 102 then c.toNat - 87 else 16
def digsB : ByteArray := ⟨#[48, 49, 50, 51, 52, 53, 54, 55, 56, 57, 97, 98, 99, 100, 101, 102]⟩
theorem hexv_all : ∀ n : Fin 256, Lib.indexByte digsB.data.toList (UInt8.ofNat n.val) = if hexv (UInt8.ofNat n.val) < 16 then (hexv (UInt8.ofNat n.val) : Int) else -1 := by decide +kernel
theorem hexv_index (c : UInt8) : Lib.indexByte digsB.data.toList c = if hexv c < 16 then (hexv c : Int) else -1 := by
  have h := hexv_all ⟨c.toNat, c.toNat_lt⟩
  simpa using h
theorem idx_yes (c : UInt8) (d : Nat) (hd : hexv c = d) (h : d < 16) (w : World) : Calls Tryz.prog 88 #[.string ⟨#[48, 49, 50, 51, 52, 53, 54, 55, 56, 57, 97, 98, 99, 100, 101, 102]⟩, .int .u8 c.toNat] w fun e w' => e = .returned (.int .i64 (d : Int)) ∧ w = w' := by
  refine (indexByte_any _ _ _).mono ?_
  rintro e w' ⟨rfl, rfl⟩
  refine ⟨ret_int ?_, rfl⟩
  rw [show ((c.toNat : Int)).toNat.toUInt8 = c by simp]
  have := hexv_index c
  rw [hd, if_pos h] at this
  exact this
theorem idx_no (c : UInt8) (h : ¬ hexv c < 16) (w : World) : Calls Tryz.prog 88 #[.string ⟨#[48, 49, 50, 51, 52, 53, 54, 55, 56, 57, 97, 98, 99, 100, 101, 102]⟩, .int .u8 c.toNat] w fun e w' => e = .returned (.int .i64 (-1)) ∧ w = w' := by
  refine (indexByte_any _ _ _).mono ?_
  rintro e w' ⟨rfl, rfl⟩
  refine ⟨ret_int ?_, rfl⟩
  rw [show ((c.toNat : Int)).toNat.toUInt8 = c by simp]
  have := hexv_index c
  rw [if_neg h] at this
  exact this
def valStep (o : Option Nat) (c : UInt8) : Option Nat := o.bind fun n => if hexv c < 16 then some (n * 16 + hexv c) else none
def numL (l : List UInt8) : Option Nat := l.foldl valStep (some 0)
def rNumber (r : Rd) (k : Int) : Rd × Nat :=
  if r.err = 0 then
    if k < 0 ∨ 8 < k then (r.withErr 1, 0)
    else if r.s.size - r.pos < 2 * k then (r.withErr 4, 0)
    else match numL (r.s.extract r.pos.toNat (r.pos + 2 * k).toNat).data.toList with
      | some n => (⟨r.s, r.pos + 2 * k, 0⟩, n)
      | none => (r.withErr 6, 0)
  else (r, 0)

theorem numL_snoc (l : List UInt8) (c : UInt8) : numL (l ++ [c]) = valStep (numL l) c := by
  unfold numL
  rw [List.foldl_append, List.foldl_cons, List.foldl_nil]
theorem fold_none (l : List UInt8) : l.foldl valStep none = none := by
  induction l with
  | nil => rfl
  | cons c l ih => exact ih
theorem numL_none {l : List UInt8} (i : Nat) (h : numL (l.take i) = none) : numL l = none := by
  unfold numL at *
  rw [← List.take_append_drop i l, List.foldl_append, h, fold_none]
/-- '[]byte(t)': a new block of t's bytes. -/
theorem conv_bytes (w : World) (t : ByteArray) : ∃ W2 c, (convert 9 82 (.string t)).run Tryz.prog w = .ok (.slice (some ⟨w.heap.size, 0, none⟩) t.size c) W2 ∧ New w W2 ∧ (∀ j (hj : j < t.size), W2.cell? ⟨w.heap.size, j, none⟩ = some (.int .u8 t[j].toNat)) := by
  refine ⟨_, _, Lib.run_convert_string_bytes (P := Tryz.prog) w 9 82 5 t (u := .string) Tryz.underlying9 Tryz.underlying82 Tryz.underlying5, ⟨rfl, rfl, rfl, by rw [Lib.bytesWorld_size]; omega, fun k hk _ => Lib.bytesWorld_at_old w _ t k hk⟩, fun j hj => ?_⟩
  rw [Lib.bytesWorld_cell w _ t j hj]
  have : t.data.toList.getD j 0 = t[j] := by
    rw [List.getD_eq_getElem?_getD, List.getElem?_eq_getElem (by simpa using hj)]
    rfl
  rw [this]
theorem or_nib (n d : Nat) (hn : n ≤ 1152921504606846975) (hd : d < 16) : bits .or .u64 ((n : Int) * 16) (d : Int) = ((n * 16 + d : Nat) : Int) := by
  have h := u64_or_nat (n * 16) d (by omega) (by omega)
  have e : n * 16 ||| d = n * 16 + d := by
    have h2 := Nat.shiftLeft_add_eq_or_of_lt (i := 4) (b := d) (by simpa using hd) n
    rw [Nat.shiftLeft_eq] at h2
    exact h2.symm
  rw [e] at h
  rw [← h]
  simp

set_option maxRecDepth 100000 in
set_option maxHeartbeats 1000000 in
theorem rdNumber_core {b : Nat} {s : ByteArray} {pos : Int} {w : World} (h : OwnR w b ⟨s, pos, 0⟩) (hr : Rd.ok ⟨s, pos, 0⟩) (k : Int) (h0 : 0 ≤ k) (h1 : k ≤ 8) (r1 : Rd) (t : ByteArray) (e : rBytes ⟨s, pos, 0⟩ (2 * k) = (r1, t)) (hlim : t.size ≤ 16)
    (hz1 : t.size = 0 ∨ r1 = ⟨s, pos + 2 * k, 0⟩) (HP : Hid (rNumber ⟨s, pos, 0⟩ k = match numL t.data.toList with | some n => (r1, n) | none => (⟨s, pos, 6⟩, 0))) :
    Calls Tryz.prog 64 #[.pointer (some ⟨b, 0, none⟩), .int .i64 k] w fun e w' => e = .returned (.int .u64 (rNumber ⟨s, pos, 0⟩ k).2) ∧ OwnR w' b (rNumber ⟨s, pos, 0⟩ k).1 ∧ Fr (· = b) w w' := by
  obtain ⟨g0, g1, g2, g3, g4, g5⟩ := Own.three h
  have hB := bytes_any h hr (2 * k) (by omega)
  rw [e] at hB
  have HB := Lib.hid hB
  have HZ1 := Lib.hid hz1
  clear hz1 hB e
  go_enter Tryz.func64, Tryz.ntmps64
  go_wp2_with (first | (go_at_call 65; refine (ok_zero h rfl).mono ?_; rintro e w1 ⟨rfl, rfl⟩) | (go_at_call 85; refine HB.out.mono ?_; rintro e w1 ⟨rfl, ho, hf⟩; obtain ⟨W2, cap, hcv, hn2, hc2⟩ := conv_bytes w1 t))
  have hne : b < w1.heap.size := ho.lt
  have ho2 : OwnR W2 b r1 := Own.new_ ho hn2
  have hf2 : Fr (· = b) w W2 := hf.new_ hn2
  have hls : t.data.toList.length = t.size := by simp
  go_loopw [6, 31] (fun nv iv wr => ∃ i n : Nat, iv = .int .i64 i ∧ nv = .int .u64 n ∧ i ≤ t.size ∧ n < 16 ^ i ∧ wr = W2 ∧ Hid (numL (t.data.toList.take i) = some n)) (fun _ iv _ => t.size - (intOf iv).toNat)
  case atStart => exact ⟨0, 0, rfl, rfl, by omega, by simp, rfl, rfl⟩
  case round =>
    obtain ⟨i, n, rfl, rfl, hi, hn16, rfl, HN⟩ := hrel
    by_cases hlt : i < t.size
    · have hc := hc2 i hlt
      have hn60 : n ≤ 1152921504606846975 := by
        have h15 : 16 ^ i ≤ 16 ^ 15 := Nat.pow_le_pow_right (by omega) (by omega)
        have : (16 : Nat) ^ 15 = 1152921504606846976 := by decide
        omega
      have HS := take_snoc t i hlt
      obtain ⟨c, hcc⟩ : ∃ c, t[i] = c := ⟨_, rfl⟩
      rw [hcc] at hc HS
      have HS2 := Lib.hid HS
      clear HS hcc hc2
      by_cases hd : hexv c < 16
      · obtain ⟨d, hdd⟩ : ∃ d, hexv c = d := ⟨_, rfl⟩
        have HD := Lib.hid hdd
        rw [hdd] at hd
        clear hdd
        have hor := or_nib n d hn60 hd
        go_wp2_with fail
        refine (idx_yes c d HD.out hd _).mono ?_
        rintro e w3 ⟨rfl, rfl⟩
        go_wp2_with fail
        go_roundw
        case rel =>
          refine ⟨i + 1, n * 16 + d, by go_num, by simp, by omega, ?_, trivial, ?_⟩
          · rw [Nat.pow_succ]; omega
          · show _ = _
            rw [HS2.out, numL_snoc, HN.out]
            unfold valStep
            simp [HD.out, hd]
        case measure => simp [intOf]; omega
      · obtain rfl : r1 = ⟨s, pos + 2 * k, 0⟩ := by
          rcases HZ1.out with e | e
          · omega
          · exact e
        have HZ : Hid (numL t.data.toList = none) := by
          refine numL_none (i + 1) ?_
          rw [HS2.out, numL_snoc, HN.out]
          unfold valStep
          simp [hd]
        go_wp2_with fail
        refine (idx_no c hd _).mono ?_
        rintro e w3 ⟨rfl, rfl⟩
        go_wp2_with fail
        refine (fail_any ho2 6).mono ?_
        rintro e w3 ⟨rfl, ho3, hf3⟩
        have ho3' : OwnR w3 b ⟨s, pos + 2 * k, 6⟩ := ho3
        clear ho3
        go_wp2_with fail
        refine (back_some ho3' rfl _).mono ?_
        rintro e w4 ⟨rfl, ho4, hf4⟩
        go_wp2
        go_ret
        rw [HP.out, HZ.out]
        refine ⟨rfl, ho4, ?_⟩
        exact (hf2.trans hf3 (fun _ _ e => e)).trans hf4 (fun _ _ e => e)
    · have HI : Hid (i = t.size) := by show _ = _; omega
      go_wp2
      go_ret
      have hz := HN.out
      rw [List.take_of_length_le (by rw [HI.out, hls]; omega)] at hz
      rw [HP.out, hz]
      exact ⟨rfl, ho2, hf2⟩

set_option maxRecDepth 100000 in
theorem rdNumber_any {b : Nat} {r : Rd} {w : World} (h : OwnR w b r) (hr : r.ok) (k : Int) :
    Calls Tryz.prog 64 #[.pointer (some ⟨b, 0, none⟩), .int .i64 k] w fun e w' => e = .returned (.int .u64 (rNumber r k).2) ∧ OwnR w' b (rNumber r k).1 ∧ Fr (· = b) w w' := by
  obtain ⟨s, pos, err⟩ := r
  by_cases he : err = 0
  · subst he
    obtain ⟨q0, q1, q2⟩ := id hr
    simp only at q0 q1 q2
    rcases (by omega : k < 0 ∨ (¬ k < 0 ∧ 8 < k) ∨ (0 ≤ k ∧ k ≤ 8 ∧ (s.size : Int) - pos < 2 * k) ∨ (0 ≤ k ∧ k ≤ 8 ∧ 2 * k ≤ s.size - pos)) with h0 | ⟨h0, h1⟩ | ⟨h0, h1, h2⟩ | ⟨h0, h1, h2⟩
    · have HP : Hid (rNumber ⟨s, pos, 0⟩ k = (⟨s, pos, 1⟩, 0)) := by
        show _ = _
        unfold rNumber
        rw [if_pos rfl, if_pos (.inl h0)]
        rfl
      go_enter Tryz.func64, Tryz.ntmps64
      go_wp2_with fail
      refine (fail_any h 1).mono ?_
      rintro e w3 ⟨rfl, ho3, hf3⟩
      have ho3' : OwnR w3 b ⟨s, pos, 1⟩ := ho3
      clear ho3
      go_wp2_with fail
      refine (ok_some ho3' rfl).mono ?_
      rintro e w4 ⟨rfl, rfl⟩
      go_wp2_with fail
      go_ret
      rw [HP.out]
      exact ⟨rfl, ho3', hf3⟩
    · have HP : Hid (rNumber ⟨s, pos, 0⟩ k = (⟨s, pos, 1⟩, 0)) := by
        show _ = _
        unfold rNumber
        rw [if_pos rfl, if_pos (.inr h1)]
        rfl
      go_enter Tryz.func64, Tryz.ntmps64
      go_wp2_with fail
      refine (fail_any h 1).mono ?_
      rintro e w3 ⟨rfl, ho3, hf3⟩
      have ho3' : OwnR w3 b ⟨s, pos, 1⟩ := ho3
      clear ho3
      go_wp2_with fail
      refine (ok_some ho3' rfl).mono ?_
      rintro e w4 ⟨rfl, rfl⟩
      go_wp2_with fail
      go_ret
      rw [HP.out]
      exact ⟨rfl, ho3', hf3⟩
    · refine rdNumber_core h hr k h0 h1 ⟨s, pos, 4⟩ .empty ?_ (by simp) (.inl (by simp)) ?_
      · unfold rBytes
        rw [if_pos rfl, if_neg (by omega), if_pos (by simp only; omega)]
        rfl
      · show _ = _
        unfold rNumber
        rw [if_pos rfl, if_neg (by omega), if_pos (by simp only; omega)]
        rfl
    · refine rdNumber_core h hr k h0 h1 ⟨s, pos + 2 * k, 0⟩ (s.extract pos.toNat (pos + 2 * k).toNat) ?_ (by simp; omega) (.inr rfl) ?_
      · unfold rBytes
        rw [if_pos rfl, if_neg (by omega), if_neg (by simp only; omega)]
      · show _ = _
        unfold rNumber
        rw [if_pos rfl, if_neg (by omega), if_neg (by simp only; omega)]
        rfl
  · have hz : (err == 0) = false := by rw [beq_eq_false_iff_ne]; exact he
    have HP : Hid (rNumber ⟨s, pos, err⟩ k = (⟨s, pos, err⟩, 0)) := if_neg he
    have HF : Hid (rFail ⟨s, pos, err⟩ 1 = ⟨s, pos, err⟩) := if_neg he
    clear he
    rcases (by omega : k < 0 ∨ (¬ k < 0 ∧ 8 < k) ∨ (¬ k < 0 ∧ ¬ 8 < k)) with h0 | ⟨h0, h1⟩ | ⟨h0, h1⟩
    · go_enter Tryz.func64, Tryz.ntmps64
      go_wp2_with fail
      refine (fail_any h 1).mono ?_
      rintro e w3 ⟨rfl, ho3, hf3⟩
      rw [HF.out] at ho3
      go_wp2_with fail
      refine (ok_some ho3 hz).mono ?_
      rintro e w4 ⟨rfl, rfl⟩
      go_wp2_with fail
      go_ret
      rw [HP.out]
      exact ⟨rfl, ho3, hf3⟩
    · go_enter Tryz.func64, Tryz.ntmps64
      go_wp2_with fail
      refine (fail_any h 1).mono ?_
      rintro e w3 ⟨rfl, ho3, hf3⟩
      rw [HF.out] at ho3
      go_wp2_with fail
      refine (ok_some ho3 hz).mono ?_
      rintro e w4 ⟨rfl, rfl⟩
      go_wp2_with fail
      go_ret
      rw [HP.out]
      exact ⟨rfl, ho3, hf3⟩
    · go_enter Tryz.func64, Tryz.ntmps64
      go_wp2_with fail
      refine (ok_some h hz).mono ?_
      rintro e w4 ⟨rfl, rfl⟩
      go_wp2_with fail
      go_ret
      rw [HP.out]
      exact ⟨rfl, h, Fr.refl _ _⟩
end Go.Proofs.YtjcpdpdhegcgoaaGreatDoor
