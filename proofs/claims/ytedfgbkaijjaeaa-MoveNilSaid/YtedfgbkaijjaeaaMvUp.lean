/- The way up from a thing, ranged over. -/
import Derived.Test.YtedfgbkaijjaeaaMvPut
import Derived.Test.YtedfgbkaijjaeaaRangeBoxX
namespace Go.Proofs.Ytedfgbkaijjaeaa
open Go.RowKit Go.Maps Go.Shelf
set_option linter.unusedVariables false
set_option linter.unusedSimpArgs false
attribute [local go_sem] Oper.semAt_some

set_option maxHeartbeats 1000000 in
theorem up_fn {w : World} {v : Option Addr} {i : Nat} : Calls Try.prog 54 #[.pointer v, .int .u64 (i : Int)] w fun e W => e = .returned (.func (.func 81) #[] #[.pointer (some ⟨w.heap.size + 1, 0, none⟩), .pointer (some ⟨w.heap.size, 0, none⟩)]) ∧ W = (w.alloc (.cells #[.pointer v] 42)).alloc (.cells #[.int .u64 (i : Int)] 22) := by
  go_enter Try.func54, Try.ntmps54
  go_wp2
  go_ret
  exact ⟨rfl, rfl⟩
/-- How far it is up from the number in block b. -/
def upLen (th : Ths) (b : Nat) (W : World) : Nat := match W.cell? ⟨b, 0, none⟩ with
  | some (.int .u64 (.ofNat k)) => (upT th k).length
  | _ => 0
theorem upLen_of {th : Ths} {b : Nat} {W : World} {k : Nat} (h : W.cell? ⟨b, 0, none⟩ = some (.int .u64 (k : Int))) : upLen th b W = (upT th k).length := by
  unfold upLen
  rw [h]
set_option maxRecDepth 100000 in
set_option maxHeartbeats 4000000 in
theorem up_stops {w : World} {t u b tb i : Nat} {X : Nat → Prop} {l : List DoV} {s : TkV} (hT : TrB w t X l s u) (hB : Own w b 22 #[.int .u64 (i : Int)]) (hTb : Own w tb 42 #[.pointer (some ⟨t, 0, none⟩)]) (hbX : ¬ X b) (hne : b ≠ tb)
    (hup : ∀ k, Chain s.th k (upT s.th k)) (hbd : Bnd s.th) (hi : i < 18446744073709551616) (n : Nat) (hn : 1 ≤ n) :
    BoxStops Fence.wide n Try.prog 81 #[.pointer (some ⟨b, 0, none⟩), .pointer (some ⟨tb, 0, none⟩)] (fun x : Nat => #[.int .u64 (x : Int)]) (fun x => x < 18446744073709551616) (fun xs => xs = upT s.th i) (fun pre => ∃ post, upT s.th i = pre ++ post) (upT s.th i).length b
      (fun Y => TrB Y t X l s u ∧ Own Y tb 42 #[.pointer (some ⟨t, 0, none⟩)]) w := by
  intro lp J Jx W hN hK hJ hJx hY hj0
  have hb := hB.new_ hN
  refine callsIn_of_wp Try.func81 rfl trivial ?_ rfl
  simp only [Try.ntmps81, List.size_toArray, List.length_cons, List.length_nil, Nat.reduceAdd, Nat.reduceSub, Array.replicate_succ, Array.replicate_zero, List.push_toArray, List.append_toArray, List.nil_append, List.cons_append]
  gi_wp2
  gi_loopw [5] (fun nv wr => ∃ (k : Nat) (pre rest : List Nat), Own wr b 22 #[.int .u64 (k : Int)] ∧ k < 18446744073709551616 ∧ upT s.th i = pre ++ rest ∧ rest = upT s.th k ∧ J pre wr) (fun _ wr => upLen s.th b wr)
  case atStart => exact ⟨i, [], _, hb, hi, rfl, rfl, hj0⟩
  case round =>
    obtain ⟨k, pre, rest, hb1, hk, hpr, hrest, hJ1⟩ := hrel
    have c0 : wr.cell? ⟨b, 0, none⟩ = some (.int .u64 (k : Int)) := hb1.cell 0
    have hls := upLen_of (th := s.th) c0
    have hch := hup k
    rcases (by omega : k = 0 ∨ k = 1 ∨ 2 ≤ k) with h0 | h0 | h2
    · subst h0
      have hr0 : upT s.th i = pre := by
        rw [hpr, hrest, chain_one hch (show Chain s.th 0 [] from Nat.zero_le _), List.append_nil]
      have HJ := Lib.hid (And.intro hJ1 hr0)
      clear hJ1 hr0 hpr hrest hch
      gi_wp2
      refine ⟨fun _ h => (by cases h), ?_⟩
      gi_wp2
      go_end0
      exact ⟨⟨_, rfl⟩, .inl ⟨pre, HJ.out.2.symm, HJ.out.1⟩⟩
    · subst h0
      have hr0 : upT s.th i = pre := by
        rw [hpr, hrest, chain_one hch (show Chain s.th 1 [] from Nat.le_refl _), List.append_nil]
      have HJ := Lib.hid (And.intro hJ1 hr0)
      clear hJ1 hr0 hpr hrest hch
      gi_wp2
      refine ⟨fun _ h => (by cases h), ?_⟩
      gi_wp2
      go_end0
      exact ⟨⟨_, rfl⟩, .inl ⟨pre, HJ.out.2.symm, HJ.out.1⟩⟩
    · have hk0 : ((k : Int) != 0) = true := by rw [bne_iff_ne]; omega
      have hk1 : ((k : Int) != 1) = true := by rw [bne_iff_ne]; omega
      obtain ⟨rest', hr1, hr2⟩ : ∃ rest', upT s.th k = k :: rest' ∧ match s.th k with
          | none => rest' = []
          | some x => Chain s.th x.parent rest' := by
        cases hu : upT s.th k with
        | nil => rw [hu] at hch; exact absurd (show k ≤ 1 from hch) (by omega)
        | cons a c =>
          rw [hu] at hch
          obtain ⟨e, _, h⟩ := hch
          subst e
          exact ⟨c, rfl, h⟩
      obtain ⟨fn, tmps, assign, body, hy, hR⟩ := hY pre k wr hJ1 hk (by rw [hpr, hrest, hr1]; simp) hb1.lt
      have HK := Lib.hid (And.intro hpr (And.intro hrest (And.intro hr1 (And.intro hr2 (And.intro hls hup)))))
      clear hpr hrest hr1 hr2 hch hls hJ1 hY hup
      gi_wp2
      refine hR.mono ?_
      rintro e W3 (⟨rfl, hJ3, hk3⟩ | ⟨rfl, hJx3⟩)
      · have hb3 := hb1.of_eq hk3
        obtain ⟨hT3, ht3⟩ := hK _ _ hJ3
        have c3 : W3.cell? ⟨b, 0, none⟩ = some (.int .u64 (k : Int)) := hb3.cell 0
        clear hR hy hk3
        obtain ⟨lv, mt, mk, n1, n2, V, h1, h2', h3, h4⟩ := hT3
        have ha := h1.new_ (w' := W3.alloc (.cells #[.int .u64 0, .int .u64 0, .string ⟨#[]⟩, .bool false, .string ⟨#[]⟩, .int .i64 0] 48)) ((Fr.refl _ _).alloc _)
        have hl := look_thing (MapF.fr h3 (show New W3 (W3.alloc (.cells #[.int .u64 0, .int .u64 0, .string ⟨#[]⟩, .bool false, .string ⟨#[]⟩, .int .i64 0] 48)).drew from ((Fr.refl _ _).alloc _).drew) (fun g => g)) hk true
        have hl' := look_thing (MapF.fr h3 (show New W3 W3.drew from (Fr.refl _ _).drew) (fun g => g)) hk true
        rw [if_pos rfl] at hl hl'
        have x1 := ha.cell 1
        have xt := (ht3.alloc (.cells #[.int .u64 0, .int .u64 0, .string ⟨#[]⟩, .bool false, .string ⟨#[]⟩, .int .i64 0] 48)).cell 0
        have xb := (hb3.alloc (.cells #[.int .u64 0, .int .u64 0, .string ⟨#[]⟩, .bool false, .string ⟨#[]⟩, .int .i64 0] 48)).cell 0
        have x1' := h1.cell 1
        have xt' := ht3.cell 0
        simp only [List.getElem?_toArray, List.getElem?_cons_zero, List.getElem?_cons_succ] at x1 xt xb x1' xt'
        have fb := hb3.free 0
        have hbl := hb3.lt
        have htl := ht3.lt
        have h1l := h1.lt
        cases hth : s.th k with
        | none =>
          rw [hth] at hl hl'
          have HJ := Lib.hid (And.intro hJ3 hth)
          clear hJ3 hth h1 h2' h3 h4 ha
          unfold ThV.val ThV.cs at hl hl'
          simp only [Option.getD_none, Option.isSome_none] at hl hl'
          gi_wp2
          refine wpIn_wide.2 ?_
          go_wp2
          go_region
          gi_wp2
          all_goals refine bodyPost_ret (results_none rfl _ _ _) rfl ?_
          all_goals have hJ4 := HJ.out.1
          all_goals have hr2 := HK.out.2.2.2.1
          all_goals rw [HJ.out.2] at hr2
          all_goals refine ⟨⟨_, rfl⟩, .inl ⟨pre ++ [k], by rw [HK.out.1, HK.out.2.1, HK.out.2.2.1, hr2], hJ _ _ _ hJ4 ?_⟩⟩
          all_goals (repeat (first | with_reducible exact Fr.refl _ _ | with_reducible assumption | with_reducible refine Fr.drew ?_ | with_reducible refine Fr.drewN ?_ _ | with_reducible refine Fr.alloc ?_ _ | with_reducible refine Fr.set ?_ (by first | exact fun _ => rfl | (intro hlt; exfalso; simp at hlt; try omega) | (simp; omega)) _ | with_reducible refine Fr.new_ ?_ (by assumption)))
        | some x =>
          rw [hth] at hl hl'
          have HJ := Lib.hid (And.intro hJ3 (And.intro hth (And.intro hb3 hbd)))
          clear hJ3 hth h1 h2' h3 h4 ha hb3 hbd
          unfold ThV.val ThV.cs at hl hl'
          simp only [Option.getD_some, Option.isSome_some] at hl hl'
          gi_wp2
          refine wpIn_wide.2 ?_
          go_wp2
          go_region
          gi_wp2
          all_goals (
            obtain ⟨hJ3, hth, hb3, hbd⟩ := HJ.out
            obtain ⟨hpr, hrest, hr1, hr2, hls, hup⟩ := HK.out
            rw [hth] at hr2
            have hxp := (hbd k x hth).2
            have hru : rest' = upT s.th x.parent := chain_one hr2 (hup x.parent)
            have hf : ∀ Y, Y = ((W3.setCell ⟨b, 0, none⟩ (.int .u64 (x.parent : Int))).alloc (.cells #[.int .u64 (x.id : Int), .int .u64 (x.parent : Int), .string x.name, .bool x.dir, .string x.dg, .int .i64 x.size] 48)).drew → Fr (fun k => k = b) W3 Y ∧ Own Y b 22 #[.int .u64 (x.parent : Int)] := fun Y e => by
              subst e
              exact ⟨((Fr.set (F := fun k => k = b) (p := ⟨b, 0, none⟩) (Fr.refl _ W3) (fun _ => rfl) _).alloc _).drew, ((hb3.put rfl).alloc _).drew⟩
            obtain ⟨hf1, hf2⟩ := hf _ rfl
            refine ⟨⟨x.parent, pre ++ [k], rest', hf2, hxp, by rw [hpr, hrest, hr1]; simp, hru, hJ _ _ _ hJ3 hf1⟩, ?_⟩
            rw [upLen_of (hf2.cell 0), hls, hr1, ← hru]
            simp)
      · gi_wp2
        go_end0
        exact ⟨⟨_, rfl⟩, .inr ⟨_, ⟨rest', by rw [HK.out.1, HK.out.2.1, HK.out.2.2.1]; simp⟩, hJx3⟩⟩
end Go.Proofs.Ytedfgbkaijjaeaa
