/- The awake of the Move laws. -/
import Derived.Test.YtedfgbkaijjaeaaMvAdd
import Derived.Test.YtedfgbkaijjaeaaMvNew
import Derived.Test.YtedfgbkaijjaeaaMvGet
import Derived.Test.YtedfgbkaijjaeaaMvTrashP
namespace Go.Proofs.Ytedfgbkaijjaeaa
open Go.RowKit Go.Maps
set_option linter.unusedVariables false
set_option linter.unusedSimpArgs false

def awE : Nat → EnV
  | 0 => aw1
  | 1 => aw2
  | 2 => aw3
  | _ => aw4
def awP : Nat → List EnV
  | 0 => []
  | k + 1 => addE (awP k) (awE k)
def awU : Nat → Nat
  | 0 => 0
  | k + 1 => awU k + (if freshE (awP k) (awE k) = true then (awP k).length - lowE (awP k) (awE k) else 0)
theorem awP_up : ∀ k, UpE (awP k)
  | 0 => List.Pairwise.nil
  | k + 1 => addE_up (awP_up k) _
theorem awP_len : ∀ k, (awP k).length ≤ k
  | 0 => Nat.le_refl _
  | k + 1 => Nat.le_trans (addE_length _ _) (Nat.succ_le_succ (awP_len k))
theorem awE_wf (k : Nat) : WfE (awE k) := by
  unfold awE
  split <;> exact ⟨by decide, by decide⟩
theorem awP_wf : ∀ k, ∀ x ∈ awP k, WfE x
  | 0, x, h => by cases h
  | k + 1, x, h => by
    rcases mem_addE _ _ _ h with rfl | h
    · exact awE_wf k
    · exact awP_wf k x h
set_option maxRecDepth 100000 in
theorem aw_fresh : ∀ k, k < 4 → freshE (awP k) (awE k) = true := by decide +kernel
set_option maxRecDepth 100000 in
theorem aw_u : ∀ k, k < 5 → awU k ≤ 10 := by decide +kernel
set_option maxRecDepth 100000 in
theorem aw_u4 : awU 4 = 1 := by decide +kernel
set_option maxRecDepth 100000 in
theorem aw_end : ((runS (awP 4)).th 16).isSome = true ∧ ((runS (awP 4)).th 32).isSome = true ∧ (((runS (awP 4)).th 16).getD zeroT).parent = 32 ∧ (((runS (awP 4)).th 32).getD zeroT).parent = 0 := by decide +kernel
def AwS (w : World) (t b : Nat) (k : Nat) (W : World) : Prop := (∃ X, TrB W t X (runD noneS (awP k)) (runS (awP k)) (awU k) ∧ (∀ j, X j → w.heap.size ≤ j) ∧ ¬ X b) ∧ Own W b 31 #[.int .i64 1, .int .u64 1, .int .i64 0, .int .u64 16, .int .u64 0, .string ⟨#[97]⟩, .bool true, .string ⟨#[]⟩, .int .i64 0, .string ⟨#[]⟩, .int .i64 1, .int .u64 2, .int .i64 0, .int .u64 32, .int .u64 0, .string ⟨#[98]⟩, .bool true, .string ⟨#[]⟩, .int .i64 0, .string ⟨#[]⟩, .int .i64 2, .int .u64 6, .int .i64 0, .int .u64 32, .int .u64 16, .string ⟨#[98]⟩, .bool false, .string ⟨#[]⟩, .int .i64 0, .string ⟨#[]⟩, .int .i64 2, .int .u64 5, .int .i64 0, .int .u64 16, .int .u64 32, .string ⟨#[97]⟩, .bool false, .string ⟨#[]⟩, .int .i64 0, .string ⟨#[]⟩] ∧ New w W
set_option maxRecDepth 100000 in
set_option maxHeartbeats 8000000 in
theorem awake_any {w : World} : Calls Try.prog 11 #[] w fun e W => e = .returned (.bool true) ∧ New w W := by
  go_enter Try.func11, Try.ntmps11
  go_wp2_with fail
  refine new_any.mono ?_
  rintro e W1 ⟨rfl, n1, X, t1, hX⟩
  obtain ⟨t, ht⟩ : ∃ t, t = w.heap.size + 2 := ⟨_, rfl⟩
  rw [← ht] at t1 ⊢
  have hlt := fun k hk => t1.lt (k := k) hk
  have HA := Lib.hid (show AwS w t W1.heap.size 0 (W1.alloc (.cells #[.int .i64 1, .int .u64 1, .int .i64 0, .int .u64 16, .int .u64 0, .string ⟨#[97]⟩, .bool true, .string ⟨#[]⟩, .int .i64 0, .string ⟨#[]⟩, .int .i64 1, .int .u64 2, .int .i64 0, .int .u64 32, .int .u64 0, .string ⟨#[98]⟩, .bool true, .string ⟨#[]⟩, .int .i64 0, .string ⟨#[]⟩, .int .i64 2, .int .u64 6, .int .i64 0, .int .u64 32, .int .u64 16, .string ⟨#[98]⟩, .bool false, .string ⟨#[]⟩, .int .i64 0, .string ⟨#[]⟩, .int .i64 2, .int .u64 5, .int .i64 0, .int .u64 16, .int .u64 32, .string ⟨#[97]⟩, .bool false, .string ⟨#[]⟩, .int .i64 0, .string ⟨#[]⟩] 31)) from ⟨⟨X, t1.new_ ((Fr.refl _ _).alloc _), hX, fun e => by have := hlt _ e; omega⟩, Own.fresh _ _ _, n1.alloc _⟩)
  clear n1 t1 hX hlt ht
  obtain ⟨b, hb⟩ : ∃ b, b = W1.heap.size := ⟨_, rfl⟩
  go_wp2_with fail
  rw [← hb] at HA ⊢
  clear hb
  go_loopw [3] (fun iv wr => ∃ k : Nat, iv = .int .i64 k ∧ k ≤ 4 ∧ Hid (AwS w t b k wr)) (fun iv _ => 4 - (intOf iv).toNat)
  case atStart => exact ⟨0, rfl, by omega, HA⟩
  case round =>
    clear HA
    obtain ⟨k, rfl, hk, HS⟩ := hrel
    have hstep : ∀ (W' : World), k < 4 → (∃ X, TrB wr t X (runD noneS (awP k)) (runS (awP k)) (awU k) ∧ (∀ j, X j → w.heap.size ≤ j) ∧ ¬ X b ∧ TrTo wr X t W' (runD noneS (addE (awP k) (awE k))) (runS (addE (awP k) (awE k))) (awU k + if freshE (awP k) (awE k) = true then (awP k).length - lowE (awP k) (awE k) else 0)) → AwS w t b (k + 1) W' := by
      rintro W' hk ⟨X, t0, hX, hb, X', t1, f1, hX'⟩
      obtain ⟨-, o0, n0⟩ := HS.out
      have hz := n0.size
      refine ⟨⟨X', t1, fun j hj => ?_, fun e => ?_⟩, o0.fr f1 hb, n0.trans f1 fun j hj e => by have := hX j e; omega⟩
      · rcases hX' j hj with h | h
        · exact hX j h
        · omega
      · rcases hX' _ e with h | h
        · exact hb h
        · have := o0.lt
          omega
    replace hstep := Lib.hid hstep
    have HADD : ∀ X, TrB wr t X (runD noneS (awP k)) (runS (awP k)) (awU k) → k < 4 → Calls Try.prog 15 #[.pointer (some ⟨t, 0, none⟩), (awE k).val] wr fun r W => r = .returned (.bool true) ∧ TrTo wr X t W (runD noneS (addE (awP k) (awE k))) (runS (addE (awP k) (awE k))) (awU k + if freshE (awP k) (awE k) = true then (awP k).length - lowE (awP k) (awE k) else 0) := fun X h hk => by
      have := add_any h (awP_up k) (by have := awP_len k; omega) (awP_wf k) (by have := aw_u k (by omega); omega) (awE_wf k)
      rw [aw_fresh k hk] at this
      rw [aw_fresh k hk]
      exact this
    replace HADD := Lib.hid HADD
    obtain ⟨⟨X, t0, hX, hbX⟩, o0, n0⟩ := HS.out
    have HT := Lib.hid (And.intro t0 (And.intro hX hbX))
    clear t0 hX hbX n0
    rcases (by omega : k = 0 ∨ k = 1 ∨ k = 2 ∨ k = 3 ∨ k = 4) with rfl | rfl | rfl | rfl | rfl
    · have AK : Calls Try.prog 15 #[.pointer (some ⟨t, 0, none⟩), .agg #[.int .i64 1, .int .u64 1, .int .i64 0, .int .u64 16, .int .u64 0, .string ⟨#[97]⟩, .bool true, .string ⟨#[]⟩, .int .i64 0, .string ⟨#[]⟩]] wr fun r W => r = .returned (.bool true) ∧ TrTo wr X t W (runD noneS (addE (awP 0) (awE 0))) (runS (addE (awP 0) (awE 0))) (awU 0 + if freshE (awP 0) (awE 0) = true then (awP 0).length - lowE (awP 0) (awE 0) else 0) := HADD.out X HT.out.1 (by omega)
      replace AK := Lib.hid AK
      have c0 := o0.cell 0
      have c1 := o0.cell 1
      have c2 := o0.cell 2
      have c3 := o0.cell 3
      have c4 := o0.cell 4
      have c5 := o0.cell 5
      have c6 := o0.cell 6
      have c7 := o0.cell 7
      have c8 := o0.cell 8
      have c9 := o0.cell 9
      simp only [List.getElem?_toArray, List.getElem?_cons_zero, List.getElem?_cons_succ] at c0 c1 c2 c3 c4 c5 c6 c7 c8 c9
      clear o0
      go_wp2_with fail
      refine AK.out.mono ?_
      rintro e W2 ⟨rfl, hT⟩
      have HN := Lib.hid (hstep.out W2 (by omega) ⟨X, HT.out.1, HT.out.2.1, HT.out.2.2, hT⟩)
      clear hT c0 c1 c2 c3 c4 c5 c6 c7 c8 c9
      go_wp2_with fail
      go_roundw
      case rel => exact ⟨1, by go_num, by omega, HN⟩
      case measure => simp [intOf]
    · have AK : Calls Try.prog 15 #[.pointer (some ⟨t, 0, none⟩), .agg #[.int .i64 1, .int .u64 2, .int .i64 0, .int .u64 32, .int .u64 0, .string ⟨#[98]⟩, .bool true, .string ⟨#[]⟩, .int .i64 0, .string ⟨#[]⟩]] wr fun r W => r = .returned (.bool true) ∧ TrTo wr X t W (runD noneS (addE (awP 1) (awE 1))) (runS (addE (awP 1) (awE 1))) (awU 1 + if freshE (awP 1) (awE 1) = true then (awP 1).length - lowE (awP 1) (awE 1) else 0) := HADD.out X HT.out.1 (by omega)
      replace AK := Lib.hid AK
      have c0 := o0.cell 10
      have c1 := o0.cell 11
      have c2 := o0.cell 12
      have c3 := o0.cell 13
      have c4 := o0.cell 14
      have c5 := o0.cell 15
      have c6 := o0.cell 16
      have c7 := o0.cell 17
      have c8 := o0.cell 18
      have c9 := o0.cell 19
      simp only [List.getElem?_toArray, List.getElem?_cons_zero, List.getElem?_cons_succ] at c0 c1 c2 c3 c4 c5 c6 c7 c8 c9
      clear o0
      go_wp2_with fail
      refine AK.out.mono ?_
      rintro e W2 ⟨rfl, hT⟩
      have HN := Lib.hid (hstep.out W2 (by omega) ⟨X, HT.out.1, HT.out.2.1, HT.out.2.2, hT⟩)
      clear hT c0 c1 c2 c3 c4 c5 c6 c7 c8 c9
      go_wp2_with fail
      go_roundw
      case rel => exact ⟨2, by go_num, by omega, HN⟩
      case measure => simp [intOf]
    · have AK : Calls Try.prog 15 #[.pointer (some ⟨t, 0, none⟩), .agg #[.int .i64 2, .int .u64 6, .int .i64 0, .int .u64 32, .int .u64 16, .string ⟨#[98]⟩, .bool false, .string ⟨#[]⟩, .int .i64 0, .string ⟨#[]⟩]] wr fun r W => r = .returned (.bool true) ∧ TrTo wr X t W (runD noneS (addE (awP 2) (awE 2))) (runS (addE (awP 2) (awE 2))) (awU 2 + if freshE (awP 2) (awE 2) = true then (awP 2).length - lowE (awP 2) (awE 2) else 0) := HADD.out X HT.out.1 (by omega)
      replace AK := Lib.hid AK
      have c0 := o0.cell 20
      have c1 := o0.cell 21
      have c2 := o0.cell 22
      have c3 := o0.cell 23
      have c4 := o0.cell 24
      have c5 := o0.cell 25
      have c6 := o0.cell 26
      have c7 := o0.cell 27
      have c8 := o0.cell 28
      have c9 := o0.cell 29
      simp only [List.getElem?_toArray, List.getElem?_cons_zero, List.getElem?_cons_succ] at c0 c1 c2 c3 c4 c5 c6 c7 c8 c9
      clear o0
      go_wp2_with fail
      refine AK.out.mono ?_
      rintro e W2 ⟨rfl, hT⟩
      have HN := Lib.hid (hstep.out W2 (by omega) ⟨X, HT.out.1, HT.out.2.1, HT.out.2.2, hT⟩)
      clear hT c0 c1 c2 c3 c4 c5 c6 c7 c8 c9
      go_wp2_with fail
      go_roundw
      case rel => exact ⟨3, by go_num, by omega, HN⟩
      case measure => simp [intOf]
    · have AK : Calls Try.prog 15 #[.pointer (some ⟨t, 0, none⟩), .agg #[.int .i64 2, .int .u64 5, .int .i64 0, .int .u64 16, .int .u64 32, .string ⟨#[97]⟩, .bool false, .string ⟨#[]⟩, .int .i64 0, .string ⟨#[]⟩]] wr fun r W => r = .returned (.bool true) ∧ TrTo wr X t W (runD noneS (addE (awP 3) (awE 3))) (runS (addE (awP 3) (awE 3))) (awU 3 + if freshE (awP 3) (awE 3) = true then (awP 3).length - lowE (awP 3) (awE 3) else 0) := HADD.out X HT.out.1 (by omega)
      replace AK := Lib.hid AK
      have c0 := o0.cell 30
      have c1 := o0.cell 31
      have c2 := o0.cell 32
      have c3 := o0.cell 33
      have c4 := o0.cell 34
      have c5 := o0.cell 35
      have c6 := o0.cell 36
      have c7 := o0.cell 37
      have c8 := o0.cell 38
      have c9 := o0.cell 39
      simp only [List.getElem?_toArray, List.getElem?_cons_zero, List.getElem?_cons_succ] at c0 c1 c2 c3 c4 c5 c6 c7 c8 c9
      clear o0
      go_wp2_with fail
      refine AK.out.mono ?_
      rintro e W2 ⟨rfl, hT⟩
      have HN := Lib.hid (hstep.out W2 (by omega) ⟨X, HT.out.1, HT.out.2.1, HT.out.2.2, hT⟩)
      clear hT c0 c1 c2 c3 c4 c5 c6 c7 c8 c9
      go_wp2_with fail
      go_roundw
      case rel => exact ⟨4, by go_num, by omega, HN⟩
      case measure => simp [intOf]
    · clear hstep HADD o0
      obtain ⟨e1, e2, e3, e4⟩ := aw_end
      have G1 := get_any HT.out.1 (i := 16) (by decide)
      have HG2 := Lib.hid (fun (W' : World) (f : New wr W') => get_any (HT.out.1.new_ f) (i := 32) (by decide))
      have HU := Lib.hid (fun (W' : World) (f : New wr W') => undone_any (HT.out.1.new_ f))
      obtain ⟨x, hx⟩ : ∃ x, x = ((runS (awP 4)).th 16).getD zeroT := ⟨_, rfl⟩
      obtain ⟨y, hy⟩ : ∃ y, y = ((runS (awP 4)).th 32).getD zeroT := ⟨_, rfl⟩
      rw [← hx, e1] at G1
      rw [← hy, e2] at HG2
      rw [aw_u4] at HU
      rw [← hx] at e3
      rw [← hy] at e4
      have hxp : (x.parent : Int) = 32 := by omega
      have hyp : (y.parent : Int) = 0 := by omega
      replace G1 := Lib.hid G1
      have HW := Lib.hid HS.out.2.2
      clear hx hy e1 e2 e3 e4
      go_wp2_with fail
      refine G1.out.mono ?_
      rintro e W2 ⟨rfl, n2⟩
      try unfold ThV.val ThV.cs
      go_wp2_with fail
      refine (HG2.out _ (by repeat (first | with_reducible exact Fr.refl _ _ | with_reducible assumption | with_reducible refine Fr.drew ?_ | with_reducible refine Fr.drewN ?_ _ | with_reducible refine Fr.alloc ?_ _ | with_reducible refine Fr.set ?_ (by first | exact fun _ => rfl | (intro hlt; exfalso; simp at hlt; try omega) | (simp; omega)) _ | with_reducible refine Fr.new_ ?_ (by assumption)))).mono ?_
      rintro e W3 ⟨rfl, n3⟩
      try unfold ThV.val ThV.cs
      have l2 : W2.heap.size < W3.heap.size := Nat.lt_of_lt_of_le (by simp) n3.size
      have o2 : Own W3 W2.heap.size 48 #[.int .u64 (x.id : Int), .int .u64 32, .string x.name, .bool x.dir, .string x.dg, .int .i64 x.size] := (Own.fresh W2 48 #[.int .u64 (x.id : Int), .int .u64 32, .string x.name, .bool x.dir, .string x.dg, .int .i64 x.size]).new_ n3
      have o21 := o2.cell 1
      simp only [List.getElem?_toArray, List.getElem?_cons_zero, List.getElem?_cons_succ] at o21
      have HN3 := Lib.hid (show New wr W3 from (n2.alloc _).new_ n3)
      clear o2 n2 n3
      go_wp2_with fail
      refine (HU.out _ (by have n3 := HN3.out; repeat (first | with_reducible exact Fr.refl _ _ | with_reducible assumption | with_reducible refine Fr.drew ?_ | with_reducible refine Fr.drewN ?_ _ | with_reducible refine Fr.alloc ?_ _ | with_reducible refine Fr.set ?_ (by first | exact fun _ => rfl | (intro hlt; exfalso; simp at hlt; try omega) | (simp; omega)) _ | with_reducible refine Fr.new_ ?_ (by assumption)))).mono ?_
      rintro e W4 ⟨rfl, rfl⟩
      go_wp2_with fail
      go_ret
      have hw := HW.out.new_ HN3.out
      exact ⟨rfl, by repeat (first | with_reducible exact Fr.refl _ _ | with_reducible assumption | with_reducible refine Fr.drew ?_ | with_reducible refine Fr.drewN ?_ _ | with_reducible refine Fr.alloc ?_ _ | with_reducible refine Fr.set ?_ (by first | exact fun _ => rfl | (intro hlt; exfalso; simp at hlt; try omega) | (simp; omega)) _ | with_reducible refine Fr.new_ ?_ (by assumption))⟩
end Go.Proofs.Ytedfgbkaijjaeaa
