/- What a thing is behind an operation. -/
import Derived.Test.YtedfgbkaijjaeaaMvDeep
import Derived.Test.YtedfgbkaijjaeaaMvFolder
namespace Go.Proofs.Ytedfgbkaijjaeaa
open Go.RowKit Go.Maps
set_option linter.unusedVariables false
set_option linter.unusedSimpArgs false

set_option maxRecDepth 100000 in
set_option maxHeartbeats 8000000 in
theorem next_any {w : World} {t u : Nat} {X : Nat → Prop} {l : List DoV} {s : TkV} (hT : TrB w t X l s u) (hup : ∀ k, Chain s.th k (upT s.th k)) (hbd : Bnd s.th) {o : OpV} (ht : o.thing < 18446744073709551616) (hp : o.parent < 18446744073709551616) :
    Calls Try.prog 80 #[.pointer (some ⟨t, 0, none⟩), o.val] w fun e W => e = .returned (.tuple #[(nextF s.th o).1.val, .bool (nextF s.th o).2]) ∧ New w W := by
  obtain ⟨kd, ct, wh, th, pa, nm, dr, dg, sz⟩ := o
  obtain ⟨r, hr⟩ : ∃ r, r = nextF s.th ⟨kd, ct, wh, th, pa, nm, dr, dg, sz⟩ := ⟨_, rfl⟩
  rw [← hr]
  have HR := Lib.hid hr
  clear hr
  have ht : th < 18446744073709551616 := ht
  have hp : pa < 18446744073709551616 := hp
  have HT := Lib.hid hT
  obtain ⟨lv, mt, mk, n1, n2, V, h1, h2', h3, h4⟩ := hT
  have hv0 : OpV.val ⟨kd, ct, wh, th, pa, nm, dr, dg, sz⟩ = .agg #[.int .i64 kd, .int .u64 (ct : Int), .int .i64 wh, .int .u64 (th : Int), .int .u64 (pa : Int), .string nm, .bool dr, .string dg, .int .i64 sz] := rfl
  rw [hv0]
  obtain ⟨W0, hW0⟩ : ∃ W0, W0 = (w.alloc (.cells #[.int .i64 kd, .int .u64 (ct : Int), .int .i64 wh, .int .u64 (th : Int), .int .u64 (pa : Int), .string nm, .bool dr, .string dg, .int .i64 sz] 26)).alloc (.cells #[.int .u64 0, .int .u64 0, .string ⟨#[]⟩, .bool false, .string ⟨#[]⟩, .int .i64 0] 48) := ⟨_, rfl⟩
  have hN0 : New w W0 := hW0 ▸ ((Fr.refl _ _).alloc _).alloc _
  have oA : Own W0 w.heap.size 26 #[.int .i64 kd, .int .u64 (ct : Int), .int .i64 wh, .int .u64 (th : Int), .int .u64 (pa : Int), .string nm, .bool dr, .string dg, .int .i64 sz] := hW0 ▸ (Own.fresh _ _ _).alloc _
  have oB : Own W0 (w.heap.size + 1) 48 #[.int .u64 0, .int .u64 0, .string ⟨#[]⟩, .bool false, .string ⟨#[]⟩, .int .i64 0] := hW0 ▸ Own.new' (by simp)
  have hs0 : W0.heap.size = w.heap.size + 2 := by rw [hW0]; simp
  have e1 := h1.new_ hN0
  have x1 := e1.cell 1
  have y1 := (e1.alloc (.cells #[.int .u64 0, .int .u64 0, .string ⟨#[]⟩, .bool false, .string ⟨#[]⟩, .int .i64 0] 48)).cell 1
  have x2 := oA.cell 3
  have y2 := (oA.alloc (.cells #[.int .u64 0, .int .u64 0, .string ⟨#[]⟩, .bool false, .string ⟨#[]⟩, .int .i64 0] 48)).cell 3
  have lt1 := e1.lt
  have lt2 := oA.lt
  have hz := hN0.size
  have hl := look_thing (MapF.fr h3 (show New w (W0.alloc (.cells #[.int .u64 0, .int .u64 0, .string ⟨#[]⟩, .bool false, .string ⟨#[]⟩, .int .i64 0] 48)).drew from (hN0.alloc _).drew) (fun g => g)) ht true
  have hl' := look_thing (MapF.fr h3 (show New w W0.drew from hN0.drew) (fun g => g)) ht true
  rw [if_pos rfl] at hl hl'
  simp only [List.getElem?_toArray, List.getElem?_cons_zero, List.getElem?_cons_succ] at x1 y1 x2 y2
  obtain ⟨x, hx⟩ : ∃ x, x = (s.th th).getD zeroT := ⟨_, rfl⟩
  obtain ⟨b, hb⟩ : ∃ b, b = (s.th th).isSome := ⟨_, rfl⟩
  rw [← hx, ← hb] at hl hl'
  have HX := Lib.hid (And.intro hx (And.intro hb (And.intro hup (And.intro hbd (And.intro hN0 (And.intro oA oB))))))
  clear hx hb hup hbd h1 h2' h3 h4 e1 oA oB
  unfold ThV.val ThV.cs at hl hl'
  go_enter Try.func80, Try.ntmps80
  go_wp2_with fail
  rw [← hW0]
  clear hW0
  go_region
  all_goals (
    rename_i ha
    refine ha _ _ ?_
    clear ha
    obtain ⟨hx, hb, hup, hbd, hN0, oA, oB⟩ := HX.out
    refine wp_world (fun W => Own W w.heap.size 26 #[.int .i64 kd, .int .u64 (ct : Int), .int .i64 wh, .int .u64 (th : Int), .int .u64 (pa : Int), .string nm, .bool dr, .string dg, .int .i64 sz] ∧ Own W (w.heap.size + 1) 48 #[.int .u64 0, .int .u64 0, .string ⟨#[]⟩, .bool false, .string ⟨#[]⟩, .int .i64 0] ∧ Own W W0.heap.size 48 x.cs ∧ New w W) ⟨?o1, ?o2, ?o3, ?o4⟩ ?_
    case o1 => repeat (first | with_reducible assumption | with_reducible exact Own.fresh _ _ _ | (with_reducible apply Own.new'; simp; done) | with_reducible apply Own.drew | with_reducible apply Own.drewN | with_reducible apply Own.alloc | with_reducible apply Own.put | rfl | (refine Own.far ?_ (by first | (simp; done) | (simp; omega) | omega) _) | (with_reducible refine Own.new_ ?_ (by with_reducible assumption)) | (refine Own.fr ?_ (by with_reducible assumption) (by show ¬ (_ = _); omega)))
    case o2 => repeat (first | with_reducible assumption | with_reducible exact Own.fresh _ _ _ | (with_reducible apply Own.new'; simp; done) | with_reducible apply Own.drew | with_reducible apply Own.drewN | with_reducible apply Own.alloc | with_reducible apply Own.put | rfl | (refine Own.far ?_ (by first | (simp; done) | (simp; omega) | omega) _) | (with_reducible refine Own.new_ ?_ (by with_reducible assumption)) | (refine Own.fr ?_ (by with_reducible assumption) (by show ¬ (_ = _); omega)))
    case o3 => repeat (first | with_reducible assumption | with_reducible exact Own.fresh _ _ _ | (with_reducible apply Own.new'; simp; done) | with_reducible apply Own.drew | with_reducible apply Own.drewN | with_reducible apply Own.alloc | with_reducible apply Own.put | rfl | (refine Own.far ?_ (by first | (simp; done) | (simp; omega) | omega) _) | (with_reducible refine Own.new_ ?_ (by with_reducible assumption)) | (refine Own.fr ?_ (by with_reducible assumption) (by show ¬ (_ = _); omega)))
    case o4 => repeat (first | with_reducible exact Fr.refl _ _ | with_reducible assumption | with_reducible refine Fr.drew ?_ | with_reducible refine Fr.drewN ?_ _ | with_reducible refine Fr.alloc ?_ _ | with_reducible refine Fr.set ?_ (by first | exact fun _ => rfl | (intro hlt; exfalso; simp at hlt; try omega) | (simp; omega)) _ | with_reducible refine Fr.new_ ?_ (by assumption))
    rintro W1 ⟨o1, o2, o3, hN1⟩
    have hT1 := HT.out.new_ hN1
    rw [hs0] at o3
    obtain ⟨lv, mt, mk, n1, n2, V, h1, -⟩ := hT1
    have x1 := h1.cell 1
    have HO := Lib.hid (And.intro o1 (And.intro o2 (And.intro o3 (And.intro hN1 (And.intro hx (And.intro hb (And.intro hup hbd)))))))
    have a0 := o1.cell 0
    have a2 := o1.cell 2
    have a3 := o1.cell 3
    have a4 := o1.cell 4
    have a5 := o1.cell 5
    have a6 := o1.cell 6
    have a7 := o1.cell 7
    have a8 := o1.cell 8
    have b0 := o3.cell 0
    have b1 := o3.cell 1
    have b2 := o3.cell 2
    have b3 := o3.cell 3
    have b4 := o3.cell 4
    have b5 := o3.cell 5
    have g0 := o3.free 0
    have g1 := o3.free 1
    have g2 := o3.free 2
    have g4 := o3.free 4
    have g5 := o3.free 5
    have c0 := o2.cell 0
    have c1 := o2.cell 1
    have c2 := o2.cell 2
    have c3 := o2.cell 3
    have c4 := o2.cell 4
    have c5 := o2.cell 5
    have g3 := o3.free 3
    have r0 := o2.free 0
    have r1 := o2.free 1
    have r2 := o2.free 2
    have r3 := o2.free 3
    have r4 := o2.free 4
    have r5 := o2.free 5
    have l1 := o1.lt
    have l2 := o2.lt
    have l3 := o3.lt
    simp only [List.getElem?_toArray, List.getElem?_cons_zero, List.getElem?_cons_succ] at a0 a2 a3 a4 a5 a6 a7 a8 b0 b1 b2 b3 b4 b5 c0 c1 c2 c3 c4 c5 x1
    clear o1 o2 o3 h1 hx hb hup hbd oA oB hN0 hl hl' y1 x2 y2 hz
    try simp only [hs0]
    clear hs0 lt1 lt2
    by_cases k1 : kd = 1
    · subst k1
      cases b with
      | true =>
        have hR : r = (x, false) := by
          obtain ⟨-, -, -, -, hx, hb, -⟩ := HO.out
          rw [HR.out]
          try rw [hx]
          unfold nextF
          simp [← hx, ← hb]
        go_wp2_with fail
        exact bodyPost_ret (v := .tuple #[.agg #[.int .u64 (x.id : Int), .int .u64 (x.parent : Int), .string x.name, .bool x.dir, .string x.dg, .int .i64 x.size], .bool false]) (by simp [results, Try.results80, go_sem, *]) rfl ⟨by rw [hR]; (try rfl), by have hN1 := HO.out.2.2.2.1; repeat (first | with_reducible exact Fr.refl _ _ | with_reducible assumption | with_reducible refine Fr.drew ?_ | with_reducible refine Fr.drewN ?_ _ | with_reducible refine Fr.alloc ?_ _ | with_reducible refine Fr.set ?_ (by first | exact fun _ => rfl | (intro hlt; exfalso; simp at hlt; try omega) | (simp; omega)) _ | with_reducible refine Fr.new_ ?_ (by assumption))⟩
      | false =>
        obtain ⟨f, hf⟩ : ∃ f, f = folderF s.th pa := ⟨_, rfl⟩
        have FC := folder_any (HT.out.new_ HO.out.2.2.2.1) hp
        rw [← hf] at FC
        replace FC := Lib.hid FC
        cases f with
        | false =>
          have hR : r = (x, false) := by
            obtain ⟨-, -, -, -, hx, hb, -⟩ := HO.out
            rw [HR.out]
            try rw [hx]
            unfold nextF
            simp [← hx, ← hb, ← hf]
          clear hf
          go_wp2_with (go_at_call 106; refine FC.out.mono ?_; rintro e w' ⟨rfl, rfl⟩)
          exact bodyPost_ret (v := .tuple #[.agg #[.int .u64 (x.id : Int), .int .u64 (x.parent : Int), .string x.name, .bool x.dir, .string x.dg, .int .i64 x.size], .bool false]) (by simp [results, Try.results80, go_sem, *]) rfl ⟨by rw [hR]; (try rfl), by have hN1 := HO.out.2.2.2.1; repeat (first | with_reducible exact Fr.refl _ _ | with_reducible assumption | with_reducible refine Fr.drew ?_ | with_reducible refine Fr.drewN ?_ _ | with_reducible refine Fr.alloc ?_ _ | with_reducible refine Fr.set ?_ (by first | exact fun _ => rfl | (intro hlt; exfalso; simp at hlt; try omega) | (simp; omega)) _ | with_reducible refine Fr.new_ ?_ (by assumption))⟩
        | true =>
          have hR : r = (⟨th, pa, nm, dr, .empty, 0⟩, true) := by
            obtain ⟨-, -, -, -, hx, hb, -⟩ := HO.out
            rw [HR.out]
            try rw [hx]
            unfold nextF
            simp [← hx, ← hb, ← hf]
          clear hf
          go_wp2_with (go_at_call 106; refine FC.out.mono ?_; rintro e w' ⟨rfl, rfl⟩)
          exact bodyPost_ret (v := .tuple #[.agg #[.int .u64 (th : Int), .int .u64 (pa : Int), .string nm, .bool dr, .string ⟨#[]⟩, .int .i64 0], .bool true]) (by simp [results, Try.results80, go_sem, *]) rfl ⟨by rw [hR]; (try rfl), by have hN1 := HO.out.2.2.2.1; repeat (first | with_reducible exact Fr.refl _ _ | with_reducible assumption | with_reducible refine Fr.drew ?_ | with_reducible refine Fr.drewN ?_ _ | with_reducible refine Fr.alloc ?_ _ | with_reducible refine Fr.set ?_ (by first | exact fun _ => rfl | (intro hlt; exfalso; simp at hlt; try omega) | (simp; omega)) _ | with_reducible refine Fr.new_ ?_ (by assumption))⟩
    have k1' : (kd == 1) = false := by simp [k1]
    by_cases k2 : kd = 2
    · subst k2
      cases b with
      | false =>
        have hR : r = (x, false) := by
          obtain ⟨-, -, -, -, hx, hb, -⟩ := HO.out
          rw [HR.out]
          try rw [hx]
          unfold nextF
          simp [← hx, ← hb]
        go_wp2_with fail
        exact bodyPost_ret (v := .tuple #[.agg #[.int .u64 (x.id : Int), .int .u64 (x.parent : Int), .string x.name, .bool x.dir, .string x.dg, .int .i64 x.size], .bool false]) (by simp [results, Try.results80, go_sem, *]) rfl ⟨by rw [hR]; (try rfl), by have hN1 := HO.out.2.2.2.1; repeat (first | with_reducible exact Fr.refl _ _ | with_reducible assumption | with_reducible refine Fr.drew ?_ | with_reducible refine Fr.drewN ?_ _ | with_reducible refine Fr.alloc ?_ _ | with_reducible refine Fr.set ?_ (by first | exact fun _ => rfl | (intro hlt; exfalso; simp at hlt; try omega) | (simp; omega)) _ | with_reducible refine Fr.new_ ?_ (by assumption))⟩
      | true =>
        obtain ⟨f, hf⟩ : ∃ f, f = folderF s.th pa := ⟨_, rfl⟩
        have FC := folder_any (HT.out.new_ HO.out.2.2.2.1) hp
        rw [← hf] at FC
        replace FC := Lib.hid FC
        cases f with
        | false =>
          have hR : r = (x, false) := by
            obtain ⟨-, -, -, -, hx, hb, -⟩ := HO.out
            rw [HR.out]
            try rw [hx]
            unfold nextF
            simp [← hx, ← hb, ← hf]
          clear hf
          go_wp2_with (go_at_call 106; refine FC.out.mono ?_; rintro e w' ⟨rfl, rfl⟩)
          exact bodyPost_ret (v := .tuple #[.agg #[.int .u64 (x.id : Int), .int .u64 (x.parent : Int), .string x.name, .bool x.dir, .string x.dg, .int .i64 x.size], .bool false]) (by simp [results, Try.results80, go_sem, *]) rfl ⟨by rw [hR]; (try rfl), by have hN1 := HO.out.2.2.2.1; repeat (first | with_reducible exact Fr.refl _ _ | with_reducible assumption | with_reducible refine Fr.drew ?_ | with_reducible refine Fr.drewN ?_ _ | with_reducible refine Fr.alloc ?_ _ | with_reducible refine Fr.set ?_ (by first | exact fun _ => rfl | (intro hlt; exfalso; simp at hlt; try omega) | (simp; omega)) _ | with_reducible refine Fr.new_ ?_ (by assumption))⟩
        | true =>
          obtain ⟨bl, hbl⟩ : ∃ bl, bl = decide (th ∈ upT s.th pa) := ⟨_, rfl⟩
          have BC := below_any (o := th) (HT.out.new_ HO.out.2.2.2.1) HO.out.2.2.2.2.2.2.1 HO.out.2.2.2.2.2.2.2 hp
          rw [← hbl] at BC
          replace BC := Lib.hid BC
          cases bl with
          | true =>
            have hbl' : th ∈ upT s.th pa := of_decide_eq_true hbl.symm
            have hR : r = (x, false) := by
              obtain ⟨-, -, -, -, hx, hb, -⟩ := HO.out
              rw [HR.out]
              try rw [hx]
              unfold nextF
              simp [← hx, ← hb, ← hf, hbl']
            clear hf hbl hbl'
            go_wp2_with (go_at_call 106; refine FC.out.mono ?_; rintro e w' ⟨rfl, rfl⟩)
            refine BC.out.mono ?_
            rintro e W2 ⟨rfl, hn2⟩
            clear a0 a2 a3 a4 a5 a6 a7 a8 b0 b1 b2 b3 b4 b5 g0 g1 g2 g3 g4 g5 c0 c1 c2 c3 c4 c5 r0 r1 r2 r3 r4 r5 l1 l2 l3 x1
            obtain ⟨o1, o2, o3, hN1, -⟩ := HO.out
            replace o1 := o1.new_ hn2
            replace o2 := o2.new_ hn2
            replace o3 := o3.new_ hn2
            replace hN1 := hN1.new_ hn2
            have a0 := o1.cell 0
            have a2 := o1.cell 2
            have a3 := o1.cell 3
            have a4 := o1.cell 4
            have a5 := o1.cell 5
            have b0 := o3.cell 0
            have b1 := o3.cell 1
            have b2 := o3.cell 2
            have b3 := o3.cell 3
            have b4 := o3.cell 4
            have b5 := o3.cell 5
            have g0 := o3.free 0
            have g1 := o3.free 1
            have g2 := o3.free 2
            have g3 := o3.free 3
            have g4 := o3.free 4
            have g5 := o3.free 5
            have c0 := o2.cell 0
            have c1 := o2.cell 1
            have c2 := o2.cell 2
            have c3 := o2.cell 3
            have c4 := o2.cell 4
            have c5 := o2.cell 5
            have r0 := o2.free 0
            have r1 := o2.free 1
            have r2 := o2.free 2
            have r3 := o2.free 3
            have r4 := o2.free 4
            have r5 := o2.free 5
            have l1 := o1.lt
            have l2 := o2.lt
            have l3 := o3.lt
            simp only [List.getElem?_toArray, List.getElem?_cons_zero, List.getElem?_cons_succ] at a0 a2 a3 a4 a5 b0 b1 b2 b3 b4 b5 c0 c1 c2 c3 c4 c5
            have HN2 := Lib.hid hN1
            clear o1 o2 o3 hN1 hn2
            go_wp2_with fail
            exact bodyPost_ret (v := .tuple #[.agg #[.int .u64 (x.id : Int), .int .u64 (x.parent : Int), .string x.name, .bool x.dir, .string x.dg, .int .i64 x.size], .bool false]) (by simp [results, Try.results80, go_sem, *]) rfl ⟨by rw [hR]; (try rfl), by have hN1 := HN2.out; repeat (first | with_reducible exact Fr.refl _ _ | with_reducible assumption | with_reducible refine Fr.drew ?_ | with_reducible refine Fr.drewN ?_ _ | with_reducible refine Fr.alloc ?_ _ | with_reducible refine Fr.set ?_ (by first | exact fun _ => rfl | (intro hlt; exfalso; simp at hlt; try omega) | (simp; omega)) _ | with_reducible refine Fr.new_ ?_ (by assumption))⟩
          | false =>
            have hbl' : th ∉ upT s.th pa := of_decide_eq_false hbl.symm
            have hR : r = ({ x with parent := pa, name := nm }, true) := by
              obtain ⟨-, -, -, -, hx, hb, -⟩ := HO.out
              rw [HR.out]
              try rw [hx]
              unfold nextF
              simp [← hx, ← hb, ← hf, hbl']
            clear hf hbl hbl'
            go_wp2_with (go_at_call 106; refine FC.out.mono ?_; rintro e w' ⟨rfl, rfl⟩)
            refine BC.out.mono ?_
            rintro e W2 ⟨rfl, hn2⟩
            clear a0 a2 a3 a4 a5 a6 a7 a8 b0 b1 b2 b3 b4 b5 g0 g1 g2 g3 g4 g5 c0 c1 c2 c3 c4 c5 r0 r1 r2 r3 r4 r5 l1 l2 l3 x1
            obtain ⟨o1, o2, o3, hN1, -⟩ := HO.out
            replace o1 := o1.new_ hn2
            replace o2 := o2.new_ hn2
            replace o3 := o3.new_ hn2
            replace hN1 := hN1.new_ hn2
            have a0 := o1.cell 0
            have a2 := o1.cell 2
            have a3 := o1.cell 3
            have a4 := o1.cell 4
            have a5 := o1.cell 5
            have b0 := o3.cell 0
            have b1 := o3.cell 1
            have b2 := o3.cell 2
            have b3 := o3.cell 3
            have b4 := o3.cell 4
            have b5 := o3.cell 5
            have g0 := o3.free 0
            have g1 := o3.free 1
            have g2 := o3.free 2
            have g3 := o3.free 3
            have g4 := o3.free 4
            have g5 := o3.free 5
            have c0 := o2.cell 0
            have c1 := o2.cell 1
            have c2 := o2.cell 2
            have c3 := o2.cell 3
            have c4 := o2.cell 4
            have c5 := o2.cell 5
            have r0 := o2.free 0
            have r1 := o2.free 1
            have r2 := o2.free 2
            have r3 := o2.free 3
            have r4 := o2.free 4
            have r5 := o2.free 5
            have l1 := o1.lt
            have l2 := o2.lt
            have l3 := o3.lt
            simp only [List.getElem?_toArray, List.getElem?_cons_zero, List.getElem?_cons_succ] at a0 a2 a3 a4 a5 b0 b1 b2 b3 b4 b5 c0 c1 c2 c3 c4 c5
            have HN2 := Lib.hid hN1
            clear o1 o2 o3 hN1 hn2
            go_wp2_with fail
            go_region
            all_goals (
              rename_i ha3
              refine ha3 _ _ ?_
              clear ha3
              go_wp2_with fail
              exact bodyPost_ret (v := .tuple #[.agg #[.int .u64 (x.id : Int), .int .u64 (pa : Int), .string nm, .bool x.dir, .string x.dg, .int .i64 x.size], .bool true]) (by simp [results, Try.results80, go_sem, *]) rfl ⟨by rw [hR]; (try rfl), by have hN1 := HN2.out; repeat (first | with_reducible exact Fr.refl _ _ | with_reducible assumption | with_reducible refine Fr.drew ?_ | with_reducible refine Fr.drewN ?_ _ | with_reducible refine Fr.alloc ?_ _ | with_reducible refine Fr.set ?_ (by first | exact fun _ => rfl | (intro hlt; exfalso; simp at hlt; try omega) | (simp; omega)) _ | with_reducible refine Fr.new_ ?_ (by assumption))⟩)
    have k2' : (kd == 2) = false := by simp [k2]
    by_cases k3 : kd = 3
    · subst k3
      have hR : r = ({ x with parent := 1 }, b) := by
        obtain ⟨-, -, -, -, hx, hb, -⟩ := HO.out
        rw [HR.out]
        try rw [hx]
        unfold nextF
        simp [← hx, ← hb]
      go_wp2_with fail
      exact bodyPost_ret (v := .tuple #[.agg #[.int .u64 (x.id : Int), .int .u64 1, .string x.name, .bool x.dir, .string x.dg, .int .i64 x.size], .bool b]) (by simp [results, Try.results80, go_sem, *]) rfl ⟨by rw [hR]; (try rfl), by have hN1 := HO.out.2.2.2.1; repeat (first | with_reducible exact Fr.refl _ _ | with_reducible assumption | with_reducible refine Fr.drew ?_ | with_reducible refine Fr.drewN ?_ _ | with_reducible refine Fr.alloc ?_ _ | with_reducible refine Fr.set ?_ (by first | exact fun _ => rfl | (intro hlt; exfalso; simp at hlt; try omega) | (simp; omega)) _ | with_reducible refine Fr.new_ ?_ (by assumption))⟩
    have k3' : (kd == 3) = false := by simp [k3]
    obtain ⟨xi, xp, xn, xd, xg, xs⟩ := x
    simp only at b0 b1 b2 b3 b4 b5
    cases xd with
    | true =>
      have hR : r = (⟨xi, xp, xn, true, xg, xs⟩, false) := by
        obtain ⟨-, -, -, -, hx, hb, -⟩ := HO.out
        rw [HR.out]
        try rw [hx]
        unfold nextF
        simp [← hx, ← hb, k1, k2, k3]
      go_wp2_with fail
      exact bodyPost_ret (v := .tuple #[.agg #[.int .u64 (xi : Int), .int .u64 (xp : Int), .string xn, .bool true, .string xg, .int .i64 xs], .bool false]) (by simp [results, Try.results80, go_sem, *]) rfl ⟨by rw [hR]; (try rfl), by have hN1 := HO.out.2.2.2.1; repeat (first | with_reducible exact Fr.refl _ _ | with_reducible assumption | with_reducible refine Fr.drew ?_ | with_reducible refine Fr.drewN ?_ _ | with_reducible refine Fr.alloc ?_ _ | with_reducible refine Fr.set ?_ (by first | exact fun _ => rfl | (intro hlt; exfalso; simp at hlt; try omega) | (simp; omega)) _ | with_reducible refine Fr.new_ ?_ (by assumption))⟩
    | false =>
      have hR : r = (⟨xi, xp, xn, false, dg, sz⟩, b) := by
        obtain ⟨-, -, -, -, hx, hb, -⟩ := HO.out
        rw [HR.out]
        try rw [hx]
        unfold nextF
        simp [← hx, ← hb, k1, k2, k3]
      go_wp2_with fail
      go_region
      all_goals (
        rename_i ha3
        refine ha3 _ _ ?_
        clear ha3
        go_wp2_with fail
        exact bodyPost_ret (v := .tuple #[.agg #[.int .u64 (xi : Int), .int .u64 (xp : Int), .string xn, .bool false, .string dg, .int .i64 sz], .bool b]) (by simp [results, Try.results80, go_sem, *]) rfl ⟨by rw [hR]; (try rfl), by have hN1 := HO.out.2.2.2.1; repeat (first | with_reducible exact Fr.refl _ _ | with_reducible assumption | with_reducible refine Fr.drew ?_ | with_reducible refine Fr.drewN ?_ _ | with_reducible refine Fr.alloc ?_ _ | with_reducible refine Fr.set ?_ (by first | exact fun _ => rfl | (intro hlt; exfalso; simp at hlt; try omega) | (simp; omega)) _ | with_reducible refine Fr.new_ ?_ (by assumption))⟩))
end Go.Proofs.Ytedfgbkaijjaeaa
