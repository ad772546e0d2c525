/- The reference's numbers behind a block. -/
import Derived.Test.YtjcpdpdhegcgoaaGreatDoorShaMix
namespace Go.Proofs.YtjcpdpdhegcgoaaGreatDoor
open Go.RowKit
set_option linter.unusedVariables false

/-- Eighty words. -/
def rowV (f : Nat → W64) : Array Value := ((List.range 80).map fun j => U (f j)).toArray
theorem rowV_size (f : Nat → W64) : (rowV f).size = 80 := by simp [rowV]
theorem rowV_get (f : Nat → W64) (j : Nat) (hj : j < 80) : (rowV f)[j]? = some (U (f j)) := by simp [rowV, hj]
theorem rowV_set (f : Nat → W64) (a : Nat) (ha : a < 80) (v : W64) : (rowV f).setIfInBounds a (U v) = rowV (fun j => if j = a then v else f j) := by
  apply Array.ext_getElem?
  intro j
  rw [Array.getElem?_setIfInBounds]
  by_cases hj : j < 80
  · rw [rowV_get _ j hj, rowV_get _ j hj]
    by_cases h : a = j
    · subst h
      simp [rowV_size, ha]
    · rw [if_neg h, if_neg (fun e => h e.symm)]
  · rw [Array.getElem?_eq_none (by rw [rowV_size]; omega), Array.getElem?_eq_none (by rw [rowV_size]; omega)]
    split <;> first | rfl | (split <;> first | rfl | (rename_i h _; rw [rowV_size] at *; omega))
theorem Own.row {w : World} {b : Nat} {t : TypeId} {f : Nat → W64} (h : Own w b t (rowV f)) : (∀ i, i < 80 → w.cell? ⟨b, i, none⟩ = some (U (f i))) ∧ ∀ i, w.frozen? ⟨b, i, none⟩ = false :=
  ⟨fun i hi => by rw [h.cell i, rowV_get f i hi], fun i => h.free i⟩
theorem saltV_row : saltV = rowV (fun j => salts.getD j 0) := by rw [saltV_eq]; rfl
theorem zero_row : zero80 = rowV (fun _ => 0#64) := by unfold zero80; kernel_rfl
theorem turn_c (x : W64) (n : Nat) (h1 : 0 < n) (h2 : n < 64) (w : World) : Calls Tryz.prog 116 #[U x, .int .i64 (n : Int)] w fun e w' => e = .returned (U (rotr x n)) ∧ ∃ m, w' = w.drewN m := Calls.drew_of (turn_any x n h1 h2 w)
theorem turn_1 (x : W64) (w : World) : Calls Tryz.prog 116 #[U x, .int .i64 1] w fun e w' => e = .returned (U (rotr x 1)) ∧ ∃ m, w' = w.drewN m := turn_c x 1 (by omega) (by omega) w
theorem turn_8 (x : W64) (w : World) : Calls Tryz.prog 116 #[U x, .int .i64 8] w fun e w' => e = .returned (U (rotr x 8)) ∧ ∃ m, w' = w.drewN m := turn_c x 8 (by omega) (by omega) w
theorem turn_19 (x : W64) (w : World) : Calls Tryz.prog 116 #[U x, .int .i64 19] w fun e w' => e = .returned (U (rotr x 19)) ∧ ∃ m, w' = w.drewN m := turn_c x 19 (by omega) (by omega) w
theorem turn_61 (x : W64) (w : World) : Calls Tryz.prog 116 #[U x, .int .i64 61] w fun e w' => e = .returned (U (rotr x 61)) ∧ ∃ m, w' = w.drewN m := turn_c x 61 (by omega) (by omega) w
theorem turn_14 (x : W64) (w : World) : Calls Tryz.prog 116 #[U x, .int .i64 14] w fun e w' => e = .returned (U (rotr x 14)) ∧ ∃ m, w' = w.drewN m := turn_c x 14 (by omega) (by omega) w
theorem turn_18 (x : W64) (w : World) : Calls Tryz.prog 116 #[U x, .int .i64 18] w fun e w' => e = .returned (U (rotr x 18)) ∧ ∃ m, w' = w.drewN m := turn_c x 18 (by omega) (by omega) w
theorem turn_41 (x : W64) (w : World) : Calls Tryz.prog 116 #[U x, .int .i64 41] w fun e w' => e = .returned (U (rotr x 41)) ∧ ∃ m, w' = w.drewN m := turn_c x 41 (by omega) (by omega) w
theorem turn_28 (x : W64) (w : World) : Calls Tryz.prog 116 #[U x, .int .i64 28] w fun e w' => e = .returned (U (rotr x 28)) ∧ ∃ m, w' = w.drewN m := turn_c x 28 (by omega) (by omega) w
theorem turn_34 (x : W64) (w : World) : Calls Tryz.prog 116 #[U x, .int .i64 34] w fun e w' => e = .returned (U (rotr x 34)) ∧ ∃ m, w' = w.drewN m := turn_c x 34 (by omega) (by omega) w
theorem turn_39 (x : W64) (w : World) : Calls Tryz.prog 116 #[U x, .int .i64 39] w fun e w' => e = .returned (U (rotr x 39)) ∧ ∃ m, w' = w.drewN m := turn_c x 39 (by omega) (by omega) w
theorem turns_28 (x : W64) (w : World) : Calls Tryz.prog 116 #[U x, .int .i64 28] w fun e w' => e = .returned (U (rotr x 28)) ∧ w = w' := turn_any x 28 (by omega) (by omega) w
theorem turns_34 (x : W64) (w : World) : Calls Tryz.prog 116 #[U x, .int .i64 34] w fun e w' => e = .returned (U (rotr x 34)) ∧ w = w' := turn_any x 34 (by omega) (by omega) w
theorem turns_39 (x : W64) (w : World) : Calls Tryz.prog 116 #[U x, .int .i64 39] w fun e w' => e = .returned (U (rotr x 39)) ∧ w = w' := turn_any x 39 (by omega) (by omega) w
theorem Own.as {w : World} {b : Nat} {t : TypeId} {c c' : Array Value} (h : Own w b t c) (e : c = c') : Own w b t c' := e ▸ h
/-- Word j when i bytes are taken. -/
def partW (l : List UInt8) (i j : Nat) : W64 := wordL ((l.drop (8 * j)).take (min 8 (i - 8 * j)))
theorem partW_zero (l : List UInt8) (j : Nat) : partW l 0 j = 0#64 := by
  unfold partW
  rw [show min 8 (0 - 8 * j) = 0 by omega]
  rfl
theorem partW_full (l : List UInt8) (j : Nat) (h : j < 16) : partW l 128 j = blockW l j := by
  unfold partW blockW
  rw [show min 8 (128 - 8 * j) = 8 by omega]
theorem partW_same (l : List UInt8) (i j : Nat) (h : j ≠ i / 8) : partW l (i + 1) j = partW l i j := by
  unfold partW
  congr 2
  omega
theorem partW_next (l : List UInt8) (i : Nat) (h : i < l.length) : partW l (i + 1) (i / 8) = partW l i (i / 8) * 256#64 + BitVec.ofNat 64 (l[i]).toNat := by
  unfold partW
  rw [show min 8 (i + 1 - 8 * (i / 8)) = i % 8 + 1 by omega, show min 8 (i - 8 * (i / 8)) = i % 8 by omega, List.take_succ_eq_append_getElem (by simp; omega), wordL_snoc]
  have e : (List.drop (8 * (i / 8)) l)[i % 8]'(by simp; omega) = l[i] := by
    rw [List.getElem_drop]
    congr 1
    omega
  rw [e]

theorem Own.rowPut {w : World} {b : Nat} {t : TypeId} {c : Array Value} (h : Own w b t c) (c' : Array Value) : Own (w.setRow b c') b t c' := setRow_heap w b c c' t (0, 0) h
theorem Own.rowFar {w : World} {b k : Nat} {t : TypeId} {c c' : Array Value} (hp : b ≠ k) (h : Own w b t c) : Own (w.setRow k c') b t c := h.of_eq (setRow_other w k b c' hp)
theorem Fr.rowSet {F : Nat → Prop} {a w : World} (h : Fr F a w) {b : Nat} (hp : b < a.heap.size → F b) (c : Array Value) : Fr F a (w.setRow b c) :=
  ⟨h.os, h.tape, h.output, by have := h.size; simp [World.setRow]; omega, fun i hi hn => (setRow_other w b i c (fun e => hn (by subst e; exact hp hi))).trans (h.block i hi hn)⟩
theorem store80 {W : World} {b : Nat} {c : Array Value} (h : Own W b 160 c) (hc : c.size = 80) (c' : Array Value) (hc' : c'.size = 80) (h1 : c'.all (·.oneCell') = true) :
    (storeCells ⟨b, 0, none⟩ c'.toList).run Tryz.prog W = .ok () (W.setRow b c') := by
  have := run_storeVar_row (P := Tryz.prog) W b 160 160 c c' h (by rw [hc']; exact (zero_of_info info80).2) (by rw [hc, hc']) h1
  cases hq : Tryz.prog.info? 160 with
  | none => have hi := (zero_of_info info80).2; simp [hq] at hi
  | some i =>
    have hs : c'.size = i.size := by have hi := (zero_of_info info80).2; simp [hq] at hi; omega
    simpa [storeVar, sizeOf, typeInfo, hq, Value.cells, hs] using this
theorem shr7_ (x : W64) : (x.toNat : Int) / (128 : Int) = ((x >>> 7).toNat : Int) := bshr_ x 7
theorem shr6_ (x : W64) : (x.toNat : Int) / (64 : Int) = ((x >>> 6).toNat : Int) := bshr_ x 6
/-- What holds at each head: the two rows begin at w1's end. -/
def RMix (w w1 : World) (s : ShaS) (f : Nat → W64) (W : World) : Prop :=
  Own W w.heap.size 140 s.cells ∧ Own W (w.heap.size + 1) 140 #[.int .u64 0, .int .u64 0, .int .u64 0, .int .u64 0, .int .u64 0, .int .u64 0, .int .u64 0, .int .u64 0] ∧
  Own W w1.heap.size 160 (rowV f) ∧ Own W (w1.heap.size + 1) 160 (rowV fun j => salts.getD j 0) ∧ New w W
set_option maxRecDepth 100000 in
set_option maxHeartbeats 2000000 in
theorem refMix_any (s : ShaS) (t : ByteArray) (ht : t.size = 128) (w : World) :
    Calls Tryz.prog 101 #[.agg s.cells, .string t] w fun e w' => e = .returned (.agg (shaMix s t.data.toList).cells) ∧ New w w' := by
  go_enter Tryz.func101, Tryz.ntmps101
  go_wp2_with fail
  first
    | (rw [(zero_of_info info80).1]; simp only [Result.andThen]; rw [Oper.upon_value]; go_wp2_with fail)
    | skip
  refine (refSalts_any _).mono ?_
  rintro e w1 ⟨rfl, g1⟩
  have ho1 : Own w1 w.heap.size 140 s.cells := by repeat (first | with_reducible assumption | with_reducible exact Own.fresh _ _ _ | (with_reducible apply Own.new'; simp; done) | with_reducible apply Own.drew | with_reducible apply Own.drewN | with_reducible apply Own.alloc | with_reducible apply Own.put | ((with_reducible apply Own.off); (focus (first | (simp; done) | (simp; omega) | omega))) | (with_reducible refine Own.new_ ?_ (by with_reducible assumption)) | rfl | (refine Own.fr ?_ (by with_reducible assumption) (by show ¬ (_ = _); omega)))
  have hz1 : Own w1 (w.heap.size + 1) 140 #[.int .u64 0, .int .u64 0, .int .u64 0, .int .u64 0, .int .u64 0, .int .u64 0, .int .u64 0, .int .u64 0] := by repeat (first | with_reducible assumption | with_reducible exact Own.fresh _ _ _ | (with_reducible apply Own.new'; simp; done) | with_reducible apply Own.drew | with_reducible apply Own.drewN | with_reducible apply Own.alloc | with_reducible apply Own.put | ((with_reducible apply Own.off); (focus (first | (simp; done) | (simp; omega) | omega))) | (with_reducible refine Own.new_ ?_ (by with_reducible assumption)) | rfl | (refine Own.fr ?_ (by with_reducible assumption) (by show ¬ (_ = _); omega)))
  have hn1 : New w w1 := by repeat (first | with_reducible exact Fr.refl _ _ | with_reducible assumption | with_reducible refine Fr.drew ?_ | with_reducible refine Fr.drewN ?_ _ | with_reducible refine Fr.alloc ?_ _ | with_reducible refine Fr.set ?_ (by first | exact fun _ => rfl | (intro hlt; exfalso; simp at hlt; try omega) | (simp; omega)) _ | with_reducible refine Fr.new_ ?_ (by with_reducible assumption) | (with_reducible refine Fr.trans ?_ (by with_reducible assumption) (fun i hi e => by (first | omega | (simp at e; omega)))))
  have hl1 := hz1.lt
  clear g1
  go_wp2_with fail
  first
    | (rw [(zero_of_info info80).1]; simp only [Result.andThen]; rw [Oper.upon_value]; go_wp2_with fail; rw [(zero_of_info info80).1]; simp only [Result.andThen]; rw [Oper.upon_value]; go_wp2_with fail)
    | (rw [show Tryz.zeroCells160 = zero80 by kernel_rfl])
  have hw1 : Own ((w1.alloc (.cells zero80 160)).alloc (.cells zero80 160)) w1.heap.size 160 zero80 := (Own.fresh w1 _ _).alloc _
  have hk1 : Own ((w1.alloc (.cells zero80 160)).alloc (.cells zero80 160)) (w1.heap.size + 1) 160 zero80 := Own.new' (by simp)
  rw [store80 hw1 (by decide) zero80 (by decide) (by kernel_rfl)]
  simp only [Result.andThen]
  rw [Oper.upon_skip]
  have hk2 := Own.rowFar (c' := zero80) (k := w1.heap.size) (by omega) hk1
  have hw2 := hw1.rowPut zero80
  go_wp2_with fail
  rw [store80 hk2 (by decide) saltV (by decide) (by kernel_rfl)]
  simp only [Result.andThen]
  rw [Oper.upon_skip]
  have hw3 := Own.rowFar (c' := saltV) (k := w1.heap.size + 1) (by omega) hw2
  have hk3 := hk2.rowPut saltV
  have hw4 := hw3.as (zero_row.trans (congrArg rowV (funext fun j => (partW_zero t.data.toList j).symm)))
  have hk4 := hk3.as saltV_row
  have ho4 := Own.rowFar (c' := saltV) (k := w1.heap.size + 1) (by omega) (Own.rowFar (c' := zero80) (k := w1.heap.size) (by omega) ((ho1.alloc (.cells zero80 160)).alloc (.cells zero80 160)))
  have hz4 := Own.rowFar (c' := saltV) (k := w1.heap.size + 1) (by omega) (Own.rowFar (c' := zero80) (k := w1.heap.size) (by omega) ((hz1.alloc (.cells zero80 160)).alloc (.cells zero80 160)))
  have hn4 := Fr.rowSet (b := w1.heap.size + 1) (Fr.rowSet (b := w1.heap.size) ((hn1.alloc (.cells zero80 160)).alloc (.cells zero80 160)) (fun h => by omega) zero80) (fun h => by omega) saltV
  clear hw1 hk1 hw2 hk2 hw3 hk3 ho1 hz1 hn1
  go_wp2_with fail
  go_loopw [7] (fun iv wr => ∃ i : Nat, i ≤ 128 ∧ iv = .int .i64 i ∧ RMix w w1 s (partW t.data.toList i) wr) (fun iv _ => 128 - (intOf iv).toNat)
  case atStart => exact ⟨0, by omega, rfl, ho4, hz4, hw4, hk4, hn4⟩
  case round =>
    clear ho4 hz4 hw4 hk4 hn4
    obtain ⟨i, hi, rfl, ho, hz, hw, hk, hn⟩ := hrel
    by_cases hlt : i < 128
    · have hlt2 : (i : Int) < 128 := by omega
      have hd : ((i : Int) / 8) = ((i / 8 : Nat) : Int) := by omega
      obtain ⟨a, ha⟩ : ∃ a, i / 8 = a := ⟨_, rfl⟩
      rw [ha] at hd
      have ha80 : (a : Int) < 80 := by omega
      have ra := hw.row.1 a (by omega)
      have rfa := hw.row.2 a
      obtain ⟨v, hv⟩ : ∃ v, partW t.data.toList i a = v := ⟨_, rfl⟩
      rw [hv] at ra
      have vb := blt v
      have HV := Lib.hid hv
      have HA := Lib.hid ha
      have hb : (t[i].toNat : Int) < 256 := by have := t[i].toNat_lt; omega
      clear hv ha
      go_wp2_with fail
      apply wp_region_cut 13; (focus (simp only [List.take_succ_cons, List.take_zero]; exact rfl)); (focus (simp only [List.drop_succ_cons, List.drop_zero]; exact rfl)); (focus kernel_rfl); (focus kernel_rfl); (focus kernel_rfl); (focus kernel_rfl); (focus kernel_rfl); (focus kernel_rfl)
      repeat (go_big_quiet_step (fail))
      refine wpQuiet_nil ?_; rintro _ ⟨nq, rfl⟩ _ _
      go_wp2_with fail
      rw [word_step]
      go_roundw
      case rel =>
        have e : (rowV (partW t.data.toList i)).setIfInBounds a (U (v * 256#64 + BitVec.ofNat 64 t[i].toNat)) = rowV (partW t.data.toList (i + 1)) := by
          rw [rowV_set _ a (by omega)]
          congr 1
          funext j
          by_cases h : j = a
          · rw [if_pos h, h, ← HA.out, partW_next _ _ (by simp; omega), HA.out, HV.out]
            rfl
          · rw [if_neg h, partW_same _ _ _ (by rw [HA.out]; exact h)]
        exact ⟨i + 1, by omega, by go_num, by repeat (first | with_reducible assumption | with_reducible exact Own.fresh _ _ _ | (with_reducible apply Own.new'; simp; done) | with_reducible apply Own.drew | with_reducible apply Own.drewN | with_reducible apply Own.alloc | with_reducible apply Own.put | ((with_reducible apply Own.off); (focus (first | (simp; done) | (simp; omega) | omega))) | (with_reducible refine Own.new_ ?_ (by with_reducible assumption)) | rfl | (refine Own.fr ?_ (by with_reducible assumption) (by show ¬ (_ = _); omega))), by repeat (first | with_reducible assumption | with_reducible exact Own.fresh _ _ _ | (with_reducible apply Own.new'; simp; done) | with_reducible apply Own.drew | with_reducible apply Own.drewN | with_reducible apply Own.alloc | with_reducible apply Own.put | ((with_reducible apply Own.off); (focus (first | (simp; done) | (simp; omega) | omega))) | (with_reducible refine Own.new_ ?_ (by with_reducible assumption)) | rfl | (refine Own.fr ?_ (by with_reducible assumption) (by show ¬ (_ = _); omega))), (hw.drewN nq).put e, by repeat (first | with_reducible assumption | with_reducible exact Own.fresh _ _ _ | (with_reducible apply Own.new'; simp; done) | with_reducible apply Own.drew | with_reducible apply Own.drewN | with_reducible apply Own.alloc | with_reducible apply Own.put | ((with_reducible apply Own.off); (focus (first | (simp; done) | (simp; omega) | omega))) | (with_reducible refine Own.new_ ?_ (by with_reducible assumption)) | rfl | (refine Own.fr ?_ (by with_reducible assumption) (by show ¬ (_ = _); omega))), by repeat (first | with_reducible exact Fr.refl _ _ | with_reducible assumption | with_reducible refine Fr.drew ?_ | with_reducible refine Fr.drewN ?_ _ | with_reducible refine Fr.alloc ?_ _ | with_reducible refine Fr.set ?_ (by first | exact fun _ => rfl | (intro hlt; exfalso; simp at hlt; try omega) | (simp; omega)) _ | with_reducible refine Fr.new_ ?_ (by with_reducible assumption) | (with_reducible refine Fr.trans ?_ (by with_reducible assumption) (fun i hi e => by (first | omega | (simp at e; omega)))))⟩
      case measure => simp [intOf]; omega
    · obtain rfl : i = 128 := by omega
      have hw5 := hw.as (c' := rowV fun j => if j < 16 then shaW t.data.toList s j else 0#64) (congrArg rowV (funext fun j => by
        by_cases h : j < 16
        · rw [if_pos h, partW_full _ _ h, shaW_low _ _ _ h]
        · rw [if_neg h]
          unfold partW
          rw [show min 8 (128 - 8 * j) = 0 by omega]
          rfl))
      clear hw
      go_wp2_with fail
      go_loopw [8] (fun iv wr => ∃ i : Nat, i ≤ 80 ∧ 16 ≤ i ∧ iv = .int .i64 i ∧ RMix w w1 s (fun j => if j < i then shaW t.data.toList s j else 0#64) wr) (fun iv _ => 80 - (intOf iv).toNat)
      case atStart => exact ⟨16, by omega, by omega, rfl, ho, hz, hw5, hk, hn⟩
      case round =>
        clear ho hz hw5 hk hn hi hlt
        obtain ⟨i, hi, hi16, rfl, ho, hz, hw, hk, hn⟩ := hrel
        by_cases hlt : i < 80
        · have hlt2 : (i : Int) < 80 := by omega
          obtain ⟨f, hf⟩ : ∃ f : Nat → W64, f = fun j => if j < i then shaW t.data.toList s j else 0#64 := ⟨_, rfl⟩
          rw [← hf] at hw
          obtain ⟨a, ha⟩ : ∃ a, i - 16 = a := ⟨_, rfl⟩
          obtain ⟨b, hb⟩ : ∃ a, i - 15 = a := ⟨_, rfl⟩
          obtain ⟨c, hc⟩ : ∃ a, i - 7 = a := ⟨_, rfl⟩
          obtain ⟨d, hd⟩ : ∃ a, i - 2 = a := ⟨_, rfl⟩
          have ha1 : IntKind.i64.wrap ((i : Int) - 16) = (a : Int) := by rw [IntKind.wrap_i64]; omega
          have hb1 : IntKind.i64.wrap ((i : Int) - 15) = (b : Int) := by rw [IntKind.wrap_i64]; omega
          have hc1 : IntKind.i64.wrap ((i : Int) - 7) = (c : Int) := by rw [IntKind.wrap_i64]; omega
          have hd1 : IntKind.i64.wrap ((i : Int) - 2) = (d : Int) := by rw [IntKind.wrap_i64]; omega
          have ha2 : (a : Int) < 80 := by omega
          have hb2 : (b : Int) < 80 := by omega
          have hc2 : (c : Int) < 80 := by omega
          have hd2 : (d : Int) < 80 := by omega
          have HF := Lib.hid hf
          have HA := Lib.hid ha
          have HB := Lib.hid hb
          have HC := Lib.hid hc
          have HD := Lib.hid hd
          clear hf ha hb hc hd
          have rb := hw.row.1 b (by omega)
          have rd := hw.row.1 d (by omega)
          go_wp2_with fail
          go_quiet (fail)
          have hM : RMix w w1 s f (wr.drewN nq) := ⟨ho.drewN _, hz.drewN _, hw.drewN _, hk.drewN _, hn.drewN _⟩
          go_wp2_with fail
          refine wp_world (RMix w w1 s f) hM ?_
          clear hM ho hz hw hk hn rb rd nq
          rintro W3 ⟨ho, hz, hw, hk, hn⟩
          have ra := hw.row.1 a (by omega)
          have rc := hw.row.1 c (by omega)
          have ri := hw.row.1 i (by omega)
          have rfi := hw.row.2 i
          apply wp_region_cut 29; (focus (simp only [List.take_succ_cons, List.take_zero]; exact rfl)); (focus (simp only [List.drop_succ_cons, List.drop_zero]; exact rfl)); (focus kernel_rfl); (focus kernel_rfl); (focus kernel_rfl); (focus kernel_rfl); (focus kernel_rfl); (focus kernel_rfl)
          repeat (go_big_quiet_step (fail))
          go_big_quiet_want; go_big_quiet_op; apply Exists.intro; refine ⟨fun _ => ?_, ?_⟩; (focus (with_reducible exact Calls.quiet_of (turn_1 (f b) _))); go_big_quiet_on
          repeat (go_big_quiet_step (fail))
          go_big_quiet_want; go_big_quiet_op; apply Exists.intro; refine ⟨fun _ => ?_, ?_⟩; (focus (with_reducible exact Calls.quiet_of (turn_8 (f b) _))); go_big_quiet_on
          repeat (go_big_quiet_step (fail))
          go_big_quiet_want; go_big_quiet_op; apply Exists.intro; refine ⟨fun _ => ?_, ?_⟩; (focus (with_reducible exact Calls.quiet_of (turn_19 (f d) _))); go_big_quiet_on
          repeat (go_big_quiet_step (fail))
          go_big_quiet_want; go_big_quiet_op; apply Exists.intro; refine ⟨fun _ => ?_, ?_⟩; (focus (with_reducible exact Calls.quiet_of (turn_61 (f d) _))); go_big_quiet_on
          repeat (go_big_quiet_step (fail))
          refine wpQuiet_nil ?_; rintro _ ⟨nq, rfl⟩ _ _
          go_wp2_with fail
          simp only [bx_, shr7_, shr6_, wadd_]
          go_roundw
          case rel =>
            have hv : f a + (rotr (f b) 1 ^^^ rotr (f b) 8 ^^^ f b >>> 7) + f c + (rotr (f d) 19 ^^^ rotr (f d) 61 ^^^ f d >>> 6) = shaW t.data.toList s i := by
              rw [shaW_next _ _ _ hi16, HA.out, HB.out, HC.out, HD.out, HF.out]
              have := HA.out
              have := HB.out
              have := HC.out
              have := HD.out
              simp only [show a < i by omega, show b < i by omega, show c < i by omega, show d < i by omega, if_true]
              rfl
            rw [hv]
            have e : (rowV f).setIfInBounds i (U (shaW t.data.toList s i)) = rowV (fun j => if j < i + 1 then shaW t.data.toList s j else 0#64) := by
              rw [rowV_set _ i hlt, HF.out]
              congr 1
              funext j
              by_cases h : j = i
              · subst h
                rw [if_pos rfl, if_pos (by omega)]
              · rw [if_neg h]
                show (if j < i then _ else _) = _
                by_cases h2 : j < i
                · rw [if_pos h2, if_pos (by omega)]
                · rw [if_neg h2, if_neg (by omega)]
            exact ⟨i + 1, by omega, by omega, by go_num, by repeat (first | with_reducible assumption | with_reducible exact Own.fresh _ _ _ | (with_reducible apply Own.new'; simp; done) | with_reducible apply Own.drew | with_reducible apply Own.drewN | with_reducible apply Own.alloc | with_reducible apply Own.put | ((with_reducible apply Own.off); (focus (first | (simp; done) | (simp; omega) | omega))) | (with_reducible refine Own.new_ ?_ (by with_reducible assumption)) | rfl | (refine Own.fr ?_ (by with_reducible assumption) (by show ¬ (_ = _); omega))), by repeat (first | with_reducible assumption | with_reducible exact Own.fresh _ _ _ | (with_reducible apply Own.new'; simp; done) | with_reducible apply Own.drew | with_reducible apply Own.drewN | with_reducible apply Own.alloc | with_reducible apply Own.put | ((with_reducible apply Own.off); (focus (first | (simp; done) | (simp; omega) | omega))) | (with_reducible refine Own.new_ ?_ (by with_reducible assumption)) | rfl | (refine Own.fr ?_ (by with_reducible assumption) (by show ¬ (_ = _); omega))), (hw.drewN nq).put e, by repeat (first | with_reducible assumption | with_reducible exact Own.fresh _ _ _ | (with_reducible apply Own.new'; simp; done) | with_reducible apply Own.drew | with_reducible apply Own.drewN | with_reducible apply Own.alloc | with_reducible apply Own.put | ((with_reducible apply Own.off); (focus (first | (simp; done) | (simp; omega) | omega))) | (with_reducible refine Own.new_ ?_ (by with_reducible assumption)) | rfl | (refine Own.fr ?_ (by with_reducible assumption) (by show ¬ (_ = _); omega))), by repeat (first | with_reducible exact Fr.refl _ _ | with_reducible assumption | with_reducible refine Fr.drew ?_ | with_reducible refine Fr.drewN ?_ _ | with_reducible refine Fr.alloc ?_ _ | with_reducible refine Fr.set ?_ (by first | exact fun _ => rfl | (intro hlt; exfalso; simp at hlt; try omega) | (simp; omega)) _ | with_reducible refine Fr.new_ ?_ (by with_reducible assumption) | (with_reducible refine Fr.trans ?_ (by with_reducible assumption) (fun i hi e => by (first | omega | (simp at e; omega)))))⟩
          case measure => simp [intOf]; omega
        · obtain rfl : i = 80 := by omega
          obtain ⟨f, hf⟩ : ∃ f : Nat → W64, f = fun j => if j < 80 then shaW t.data.toList s j else 0#64 := ⟨_, rfl⟩
          rw [← hf] at hw
          have HF := Lib.hid hf
          clear hf hi hi16 hlt
          obtain ⟨⟨y0, y1, y2, y3, y4, y5, y6, y7⟩, yf⟩ := ho.eight
          go_wp2_with fail
          go_quiet (fail)
          have hM : RMix w w1 s f (wr.drewN nq) := ⟨ho.drewN _, hz.drewN _, hw.drewN _, hk.drewN _, hn.drewN _⟩
          go_wp2_with fail
          go_loopw [11, 12, 13, 14, 15, 16, 17, 18, 19] (fun va vb vc vd ve vf vg vh iv wr => ∃ (i : Nat) (x : ShaS), i ≤ 80 ∧ iv = .int .i64 i ∧ va = U x.a ∧ vb = U x.b ∧ vc = U x.c ∧ vd = U x.d ∧ ve = U x.e ∧ vf = U x.f ∧ vg = U x.g ∧ vh = U x.h ∧ Hid ((shaRun t.data.toList s i).2 = x) ∧ RMix w w1 s f wr) (fun _ _ _ _ _ _ _ _ iv _ => 80 - (intOf iv).toNat)
          case atStart => exact ⟨0, s, by omega, rfl, rfl, rfl, rfl, rfl, rfl, rfl, rfl, rfl, rfl, hM⟩
          case round =>
            clear ho hz hw hk hn hM y0 y1 y2 y3 y4 y5 y6 y7 yf nq
            obtain ⟨i, x, hi, rfl, rfl, rfl, rfl, rfl, rfl, rfl, rfl, rfl, HX, hM⟩ := hrel
            obtain ⟨ho, hz, hw, hk, hn⟩ := id hM
            by_cases hlt : i < 80
            · have hlt2 : (i : Int) < 80 := by omega
              obtain ⟨v, hv⟩ : ∃ v, f i = v := ⟨_, rfl⟩
              obtain ⟨k, hkk⟩ : ∃ v, salts.getD i 0 = v := ⟨_, rfl⟩
              have rw_ := hw.row.1 i hlt
              have rk := hk.row.1 i hlt
              rw [hv] at rw_
              rw [hkk] at rk
              have HV := Lib.hid hv
              have HK := Lib.hid hkk
              have hxe := blt x.e
              clear hv hkk
              go_wp2_with fail
              refine wp_region_quiet_lit (by kernel_rfl) (by kernel_rfl) ?_
              repeat (go_big_quiet_step (fail))
              go_big_quiet_want; go_big_quiet_op; apply Exists.intro; refine ⟨fun _ => ?_, ?_⟩; (focus (with_reducible exact Calls.quiet_of (turn_14 x.e _))); go_big_quiet_on
              repeat (go_big_quiet_step (fail))
              go_big_quiet_want; go_big_quiet_op; apply Exists.intro; refine ⟨fun _ => ?_, ?_⟩; (focus (with_reducible exact Calls.quiet_of (turn_18 x.e _))); go_big_quiet_on
              repeat (go_big_quiet_step (fail))
              go_big_quiet_want; go_big_quiet_op; apply Exists.intro; refine ⟨fun _ => ?_, ?_⟩; (focus (with_reducible exact Calls.quiet_of (turn_41 x.e _))); go_big_quiet_on
              repeat (go_big_quiet_step (fail))
              refine wpQuiet_nil ?_
              rintro _ ⟨nq, rfl⟩
              simp only [bx_, ba_, bnot_, wadd_]
              obtain ⟨T, hT⟩ : ∃ T, x.h + (rotr x.e 14 ^^^ rotr x.e 18 ^^^ rotr x.e 41) + ((x.e &&& x.f) ^^^ (~~~x.e &&& x.g)) + k + v = T := ⟨_, rfl⟩
              rw [hT]
              have HT := Lib.hid hT
              have hM2 : RMix w w1 s f (wr.drewN nq) := ⟨ho.drewN _, hz.drewN _, hw.drewN _, hk.drewN _, hn.drewN _⟩
              clear hT hM ho hz hw hk hn rw_ rk
              go_wp2_with fail
              refine (turns_28 x.a _).mono ?_
              rintro e w2 ⟨rfl, rfl⟩
              go_wp2_with fail
              refine (turns_34 x.a _).mono ?_
              rintro e w2 ⟨rfl, rfl⟩
              go_wp2_with fail
              refine (turns_39 x.a _).mono ?_
              rintro e w2 ⟨rfl, rfl⟩
              go_wp2_with fail
              refine ⟨⟨_, _, _, _, _, _, _, _, _, _, _, _, _, _, _, _, _, _, _, _, _, _, _, _, _, _, _, _, _, _, _, _, _, _, _, _, _, _, _, _, _, _, _, _, _, _, _, _, _, _, _, _, _, _, _, _, _, _, _, _, _, _, _, _, _, _, _, _, _, _, _, _, _, _, ?rel, rfl⟩, ?measure⟩
              case rel =>
                have hs : x.step k v = ⟨T + ((rotr x.a 28 ^^^ rotr x.a 34 ^^^ rotr x.a 39) + ((x.a &&& x.b) ^^^ (x.a &&& x.c) ^^^ (x.b &&& x.c))), x.a, x.b, x.c, x.d + T, x.e, x.f, x.g⟩ := by
                  have e1 : shaT x k v = T := by rw [← HT.out]; rfl
                  unfold ShaS.step
                  rw [e1]
                  rfl
                have hr : (shaRun t.data.toList s (i + 1)).2 = x.step k v := by
                  rw [shaRun_succ]
                  show (shaRun t.data.toList s i).2.step _ _ = _
                  have e2 := HV.out
                  rw [HF.out] at e2
                  have e3 : shaW t.data.toList s i = v := by rw [← e2]; exact (if_pos hlt).symm
                  rw [HX.out, HK.out, e3]
                rw [hs] at hr
                refine ⟨i + 1, _, by omega, by go_num, ?_, rfl, rfl, rfl, ?_, rfl, rfl, rfl, hr, hM2⟩
                · simp only [bx_, ba_, wadd_]
                · simp only [wadd_]
              case measure => simp [intOf]; omega
            · obtain rfl : i = 80 := by omega
              obtain ⟨⟨y0, y1, y2, y3, y4, y5, y6, y7⟩, yf⟩ := ho.eight
              obtain ⟨⟨z0, z1, z2, z3, z4, z5, z6, z7⟩, zf⟩ := hz.eight
              clear hM hw hk HF
              go_wp2_with fail
              refine bodyPost_ret (v := .agg (shaMix s t.data.toList).cells) ?_ rfl ⟨rfl, by repeat (first | with_reducible exact Fr.refl _ _ | with_reducible assumption | with_reducible refine Fr.drew ?_ | with_reducible refine Fr.drewN ?_ _ | with_reducible refine Fr.alloc ?_ _ | with_reducible refine Fr.set ?_ (by first | exact fun _ => rfl | (intro hlt; exfalso; simp at hlt; try omega) | (simp; omega)) _ | with_reducible refine Fr.new_ ?_ (by with_reducible assumption) | (with_reducible refine Fr.trans ?_ (by with_reducible assumption) (fun i hi e => by (first | omega | (simp at e; omega)))))⟩
              simp only [wadd_]
              have hc : (shaMix s t.data.toList).cells = #[U (s.a + x.a), U (s.b + x.b), U (s.c + x.c), U (s.d + x.d), U (s.e + x.e), U (s.f + x.f), U (s.g + x.g), U (s.h + x.h)] := by
                unfold shaMix
                rw [HX.out]
                rfl
              rw [hc]
              refine results_own (b := w.heap.size + 1) rfl _ rfl ?_ Tryz.underlying140 (by kernel_rfl)
              repeat (first | with_reducible assumption | with_reducible exact Own.fresh _ _ _ | (with_reducible apply Own.new'; simp; done) | with_reducible apply Own.drew | with_reducible apply Own.drewN | with_reducible apply Own.alloc | with_reducible apply Own.put | ((with_reducible apply Own.off); (focus (first | (simp; done) | (simp; omega) | omega))) | (with_reducible refine Own.new_ ?_ (by with_reducible assumption)) | rfl | (refine Own.fr ?_ (by with_reducible assumption) (by show ¬ (_ = _); omega)))
end Go.Proofs.YtjcpdpdhegcgoaaGreatDoor
