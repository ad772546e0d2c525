/- What a tree holds under a number; how often it took back. -/
import Derived.Test.YtedfgbkaijjaeaaMvTree
namespace Go.Proofs.Ytedfgbkaijjaeaa
open Go.RowKit Go.Maps
set_option linter.unusedVariables false
set_option linter.unusedSimpArgs false

set_option maxRecDepth 100000 in
theorem undone_any {W : World} {t u : Nat} {X : Nat → Prop} {l : List DoV} {s : TkV} (h : TrB W t X l s u) : Calls Try.prog 31 #[.pointer (some ⟨t, 0, none⟩)] W fun e W' => e = .returned (.int .i64 u) ∧ W' = W := by
  obtain ⟨lv, mt, mk, n1, n2, V, h1, -⟩ := h
  have x3 := h1.cell 3
  simp only [List.getElem?_toArray, List.getElem?_cons_zero, List.getElem?_cons_succ] at x3
  go_enter Try.func31, Try.ntmps31
  go_wp2
  go_ret
  exact ⟨rfl, rfl⟩
set_option maxRecDepth 100000 in
theorem get_any {W : World} {t u : Nat} {X : Nat → Prop} {l : List DoV} {s : TkV} (h : TrB W t X l s u) {i : Nat} (hi : i < 18446744073709551616) :
    Calls Try.prog 18 #[.pointer (some ⟨t, 0, none⟩), .int .u64 (i : Int)] W fun e W' => e = .returned (.tuple #[((s.th i).getD zeroT).val, .bool (s.th i).isSome]) ∧ New W W' := by
  obtain ⟨lv, mt, mk, n1, n2, V, h1, -, h3, -⟩ := h
  have ha := h1.new_ (w' := W.alloc (.cells #[.int .u64 0, .int .u64 0, .string ⟨#[]⟩, .bool false, .string ⟨#[]⟩, .int .i64 0] 48)) ((Fr.refl _ _).alloc _)
  have hl := look_thing (MapF.fr h3 (show New W (W.alloc (.cells #[.int .u64 0, .int .u64 0, .string ⟨#[]⟩, .bool false, .string ⟨#[]⟩, .int .i64 0] 48)) from (Fr.refl _ _).alloc _) (fun g => g)) hi true
  rw [if_pos rfl] at hl
  have x1 := ha.cell 1
  have hlt := h1.lt
  simp only [List.getElem?_toArray, List.getElem?_cons_zero, List.getElem?_cons_succ] at x1
  obtain ⟨x, hx⟩ : ∃ x, x = (s.th i).getD zeroT := ⟨_, rfl⟩
  obtain ⟨b, hb⟩ : ∃ b, b = (s.th i).isSome := ⟨_, rfl⟩
  rw [← hx, ← hb] at hl ⊢
  clear hx hb h1 h3 ha
  unfold ThV.val ThV.cs at hl ⊢
  go_enter Try.func18, Try.ntmps18
  go_wp2
  exact bodyPost_ret (v := .tuple #[.agg #[.int .u64 (x.id : Int), .int .u64 (x.parent : Int), .string x.name, .bool x.dir, .string x.dg, .int .i64 x.size], .bool b]) (by simp [results, Try.results18, go_sem, *]) rfl ⟨rfl, ((Fr.refl _ _).alloc _).alloc _⟩
set_option maxRecDepth 100000 in
theorem len_any {W : World} {t u : Nat} {X : Nat → Prop} {l : List DoV} {s : TkV} (h : TrB W t X l s u) : Calls Try.prog 29 #[.pointer (some ⟨t, 0, none⟩)] W fun e W' => e = .returned (.int .i64 l.length) ∧ W' = W := by
  obtain ⟨lv, mt, mk, n1, n2, V, h1, h2, -⟩ := h
  obtain ⟨A, cap, rfl⟩ := h2.form
  have x0 := h1.cell 0
  simp only [List.getElem?_toArray, List.getElem?_cons_zero, List.getElem?_cons_succ] at x0
  clear h1 h2
  go_enter Try.func29, Try.ntmps29
  go_wp2
  go_ret
  exact ⟨rfl, rfl⟩
end Go.Proofs.Ytedfgbkaijjaeaa
