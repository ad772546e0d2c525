/- Whether a number is a folder's. -/
import Derived.Test.YtedfgbkaijjaeaaMvTree
namespace Go.Proofs.Ytedfgbkaijjaeaa
open Go.RowKit Go.Maps
set_option linter.unusedVariables false
set_option linter.unusedSimpArgs false

set_option maxRecDepth 100000 in
theorem folder_any {W : World} {t u : Nat} {X : Nat → Prop} {l : List DoV} {s : TkV} (h : TrB W t X l s u) {i : Nat} (hi : i < 18446744073709551616) :
    Calls Try.prog 106 #[.pointer (some ⟨t, 0, none⟩), .int .u64 (i : Int)] W fun e W' => e = .returned (.bool (folderF s.th i)) ∧ W' = W := by
  obtain ⟨lv, mt, mk, n1, n2, V, h1, -, h3, -⟩ := h
  have x1 := h1.cell 1
  simp only [List.getElem?_toArray, List.getElem?_cons_zero, List.getElem?_cons_succ] at x1
  have hl := look_thing h3 hi false
  rw [if_neg (by simp)] at hl
  by_cases h0 : i = 0
  · subst h0
    go_enter Try.func106, Try.ntmps106
    go_wp2
    go_ret
    exact ⟨rfl, rfl⟩
  · have h0' : ((i : Int) == 0) = false := by simp; omega
    have HF := Lib.hid (show folderF s.th i = ((s.th i).getD zeroT).dir by unfold folderF; simp [h0])
    rw [HF.out]
    obtain ⟨x, hx⟩ : ∃ x, x = (s.th i).getD zeroT := ⟨_, rfl⟩
    rw [← hx] at hl ⊢
    clear hx HF h1 h3 h0
    unfold ThV.val ThV.cs at hl
    have hf : (Instr.field 48 (.agg #[.int .u64 (x.id : Int), .int .u64 (x.parent : Int), .string x.name, .bool x.dir, .string x.dg, .int .i64 x.size]) 3).run Try.prog W = .ok (.bool x.dir) W := by kernel_rfl
    go_enter Try.func106, Try.ntmps106
    go_wp2
    go_ret
    exact ⟨rfl, rfl⟩
end Go.Proofs.Ytedfgbkaijjaeaa
