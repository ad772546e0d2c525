/- The statement MoveNil holds: a nil tree answers as the document says. -/
import Derived.Test.YtedfgbkaijjaeaaMvAwake
import Derived.Test.YtedfgbkaijjaeaaMvEntry
import Derived.Test.YtedfgbkaijjaeaaOpen
namespace Go.Proofs.Ytedfgbkaijjaeaa
open Go.RowKit Go.Maps
set_option linter.unusedVariables false
set_option linter.unusedSimpArgs false
attribute [local go_sem] Oper.semAt_some

set_option maxRecDepth 100000 in
set_option maxHeartbeats 8000000 in
theorem moveNil_walk (x : EEntry) {wa : World} (hx : x.facts wa) (id : Int) (hid : (Lit.int .u64 id).wf = true) (w : World) : Calls Try.prog 7 #[.agg x.cells.toArray, .int .u64 id] w fun e w' => e = .returned (.bool true) ∧ New w w' := by
  obtain ⟨⟨k, ⟨c, who⟩, th, par, nm, dir, dig, sz⟩, h⟩ := x
  obtain ⟨-, hh⟩ := hx
  have hh : (Lit.int .u8 h).wf = true := hh
  clear hid
  show Calls Try.prog 7 #[.agg #[.int .i64 k, .int .u64 c, .int .i64 who, .int .u64 th, .int .u64 par, .string nm, .bool dir, .string dig, .int .i64 sz, .int .u8 h], .int .u64 id] w fun e w' => e = .returned (.bool true) ∧ New w w'
  refine (callsIn_wide (n := 4)).1 ?_
  refine callsIn_of_wp_marks Try.func7 rfl trivial ?_
  simp only [Try.ntmps7, List.size_toArray, List.length_cons, List.length_nil, Nat.reduceAdd, Nat.reduceSub, Array.replicate_succ, Array.replicate_zero, List.push_toArray, List.append_toArray, List.nil_append, List.cons_append]
  refine wpIn_wide.2 ?_
  go_wp2_with fail
  obtain ⟨W1, hW1⟩ : ∃ W1, W1 = w.alloc (.cells #[.int .i64 k, .int .u64 c, .int .i64 who, .int .u64 th, .int .u64 par, .string nm, .bool dir, .string dig, .int .i64 sz, .int .u8 h] 28) := ⟨_, rfl⟩
  have oE : Own W1 w.heap.size 28 #[.int .i64 k, .int .u64 c, .int .i64 who, .int .u64 th, .int .u64 par, .string nm, .bool dir, .string dig, .int .i64 sz, .int .u8 h] := hW1 ▸ Own.fresh _ _ _
  have n1 : New w W1 := hW1 ▸ (Fr.refl _ _).alloc _
  rw [← hW1]
  clear hW1
  refine awake_any.mono ?_
  rintro e W2 ⟨rfl, n2⟩
  go_wp2_with fail
  refine get_nil.mono ?_
  rintro e W3 ⟨rfl, n3⟩
  unfold ThV.val ThV.cs
  have H3 := Lib.hid (And.intro (((oE.new_ n2).new_ n3)) ((n1.new_ n2).new_ n3))
  clear oE n1 n2 n3
  go_wp2_with fail
  obtain ⟨W4, hW4⟩ : ∃ W4, W4 = (W3.alloc (.cells #[.int .u64 (zeroT.id : Int), .int .u64 (zeroT.parent : Int), .string zeroT.name, .bool zeroT.dir, .string zeroT.dg, .int .i64 zeroT.size] 48)).alloc (.cells #[.int .i64 0] 3) := ⟨_, rfl⟩
  have oE4 : Own W4 w.heap.size 28 #[.int .i64 k, .int .u64 c, .int .i64 who, .int .u64 th, .int .u64 par, .string nm, .bool dir, .string dig, .int .i64 sz, .int .u8 h] := hW4 ▸ (H3.out.1.alloc _).alloc _
  have oN4 : Own W4 (W3.heap.size + 1) 3 #[.int .i64 0] := hW4 ▸ Own.new' (by simp)
  have n4 : New w W4 := hW4 ▸ (H3.out.2.alloc _).alloc _
  rw [← hW4]
  clear hW4 H3
  refine all_fn.mono ?_
  rintro e W5 ⟨rfl, hW5⟩
  have oB : Own W5 W4.heap.size 42 #[.pointer none] := hW5 ▸ Own.fresh _ _ _
  have oE5 : Own W5 w.heap.size 28 #[.int .i64 k, .int .u64 c, .int .i64 who, .int .u64 th, .int .u64 par, .string nm, .bool dir, .string dig, .int .i64 sz, .int .u8 h] := hW5 ▸ oE4.alloc _
  have oN5 : Own W5 (W3.heap.size + 1) 3 #[.int .i64 0] := hW5 ▸ oN4.alloc _
  have n5 : New w W5 := hW5 ▸ n4.alloc _
  have l1 := oE4.lt
  have l2 := oN4.lt
  clear hW5 oE4 oN4
  have hz4 := n4.size
  clear n4
  have hz5 := n5.size
  go_wp2_with fail
  refine (wpIn_wide (n := 4)).1 ?_
  refine wpIn_rangeFunc_boxedX (b := W4.heap.size) (N := 0) (S := fun xs => xs = []) (Sp := fun _ => False) (T := fun _ => True) (encs := fun x : Value => #[x]) (gf := 64) (lb := #[.pointer (some ⟨W4.heap.size, 0, none⟩)]) rfl (by omega) rfl trivial (enters_of Try.func64 (by kernel_rfl) rfl)
    oB.lt (all_none oB 3 (by omega)) (fun _ => rfl)
    (fun xs Y => Own Y w.heap.size 28 #[.int .i64 k, .int .u64 c, .int .i64 who, .int .u64 th, .int .u64 par, .string nm, .bool dir, .string dig, .int .i64 sz, .int .u8 h] ∧ Own Y (W3.heap.size + 1) 3 #[.int .i64 0] ∧ New w Y)
    (fun c xs Y => False)
    (fun xs Y h => trivial)
    (fun xs Y Z h st => ⟨h.1.stp st (by omega), h.2.1.stp st (by omega), h.2.2.stp st hz5 (.inl hz4)⟩)
    (fun c xs Y Z h st => h)
    ⟨oE5, oN5, n5⟩
    (fun x => { tmps := #[.agg #[.int .i64 k, .int .u64 c, .int .i64 who, .int .u64 th, .int .u64 par, .string nm, .bool dir, .string dig, .int .i64 sz, .int .u8 h], .int .u64 id, .pointer (some ⟨w.heap.size, 0, none⟩), undef, .bool false, .pointer none, .pointer (some ⟨W3.heap.size, 0, none⟩), .bool false, .pointer (some ⟨W3.heap.size + 1, 0, none⟩), .bool true, .bool false, .tuple #[.agg #[.int .u64 (zeroT.id : Int), .int .u64 (zeroT.parent : Int), .string zeroT.name, .bool zeroT.dir, .string zeroT.dg, .int .i64 zeroT.size], .bool false], .pointer none, .int .u64 id, .tuple #[.agg #[.int .u64 (zeroT.id : Int), .int .u64 (zeroT.parent : Int), .string zeroT.name, .bool zeroT.dir, .string zeroT.dg, .int .i64 zeroT.size], .bool false], .agg #[.int .u64 (zeroT.id : Int), .int .u64 (zeroT.parent : Int), .string zeroT.name, .bool zeroT.dir, .string zeroT.dg, .int .i64 zeroT.size], .bool false, .pointer none, .func (.func 64) #[] #[.pointer (some ⟨W4.heap.size, 0, none⟩)], x, undef, undef, undef, undef, undef, undef, undef, undef, undef, undef, undef, undef, undef, undef, undef, undef, undef, undef, undef, undef, undef, undef, undef, undef, undef, undef, undef, undef, undef, undef, undef, undef, undef, undef, undef, undef, undef, undef, undef, undef, undef, undef, undef, undef, undef, undef, undef, undef, undef, undef, undef], defers := [] }) ?assign ?body ?done ?stop
  case assign =>
    intro l x W K hK
    gi_wp2
    exact hK
  case body =>
    intro lp pre x W _ _ hlen
    exact absurd hlen (Nat.not_lt_zero _)
  case stop =>
    intro D c xs W hD hf
    exact hf.elim
  case done =>
    rintro D xs W hD rfl ⟨b1, b2, b3⟩ hK
    have c0 := b1.cell 0
    have c1 := b1.cell 1
    have c2 := b1.cell 2
    have c3 := b1.cell 3
    have c4 := b1.cell 4
    have c5 := b1.cell 5
    have c6 := b1.cell 6
    have c7 := b1.cell 7
    have c8 := b1.cell 8
    have c9 := b1.cell 9
    have d0 : W.cell? ⟨W3.heap.size + 1, 0, none⟩ = some (.int .i64 0) := b2.cell 0
    simp only [List.getElem?_toArray, List.getElem?_cons_zero, List.getElem?_cons_succ] at c0 c1 c2 c3 c4 c5 c6 c7 c8 c9
    have HW := Lib.hid (And.intro b3 hK)
    have HZ := Lib.hid (And.intro hz4 hz5)
    clear b1 b2 b3 hK oB oE5 oN5 n5 hz4 hz5 l1 l2
    go_wp2_with fail
    refine (entry_any hh).mono ?_
    rintro e W6 ⟨rfl, n6⟩
    clear c0 c1 c2 c3 c4 c5 c6 c7 c8 c9 d0
    go_wp2_with fail
    refine add_nil.mono ?_
    rintro e W7 ⟨rfl, n7⟩
    have H7 := Lib.hid (n6.new_ n7)
    clear n6 n7
    go_wp2_with (first
      | (go_at_call 19; refine kids_nil.mono ?_; rintro e w' ⟨rfl, rfl⟩)
      | (go_at_call 16; refine below_nil.mono ?_; rintro e w' ⟨rfl, rfl⟩)
      | (go_at_call 30; refine log_nil.mono ?_; rintro e w' ⟨rfl, rfl⟩)
      | (go_at_call 29; refine len_nil.mono ?_; rintro e w' ⟨rfl, rfl⟩)
      | (go_at_call 31; refine undone_nil.mono ?_; rintro e w' ⟨rfl, rfl⟩))
    refine deep_nil.mono ?_
    rintro e W8 ⟨rfl, n8⟩
    have H8 := Lib.hid (H7.out.new_ n8)
    clear n8
    go_wp2_with fail
    have hK' : W8.heap[D]? = some (.deferred (some [])) := (H8.out.block D (Array.getElem?_eq_some_iff.1 HW.out.2).1 (fun g => g)).trans HW.out.2
    refine ⟨by simp, .inl ⟨_, _, rfl, run_takeDeferred hK', ?_⟩⟩
    have q2 : New w (W8.putObj D (.deferred none)) := (HW.out.1.new_ H8.out).stp (Stp.put (B := W5.heap.size) (b := W4.heap.size) _ hK' rfl hD) HZ.out.2 (.inl HZ.out.1)
    exact ⟨.bool true, by simp [results, Try.results7, go_sem, *], rfl, q2⟩
end Go.Proofs.Ytedfgbkaijjaeaa
