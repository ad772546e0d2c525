/- Whether a thing stands below another one; how deep it stands. -/
import Derived.Test.YtedfgbkaijjaeaaMvUp
import Derived.Test.YtedfgbkaijjaeaaMvTrashP
namespace Go.Proofs.Ytedfgbkaijjaeaa
open Go.RowKit Go.Maps Go.Shelf
set_option linter.unusedVariables false
set_option linter.unusedSimpArgs false
attribute [local go_sem] Oper.semAt_some

theorem Stp.fr {B b : Nat} {W W' : World} (s : Stp B b W W') : Fr (Aside B b W) W W' := ⟨s.os, s.tape, s.output, s.size, s.block⟩
theorem TrB.stp {W W' : World} {t u B b : Nat} {X : Nat → Prop} {l : List DoV} {s : TkV} (h : TrB W t X l s u) (st : Stp B b W W') (hX : ∀ k, X k → k < B ∧ k ≠ b) : TrB W' t X l s u := by
  refine h.fr st.fr fun k hk ha => ?_
  obtain ⟨h1, h2⟩ := hX k hk
  rcases ha with e | ⟨h3, _⟩
  · exact h2 e
  · omega
set_option maxRecDepth 100000 in
set_option maxHeartbeats 4000000 in
theorem below_any {w : World} {t u i o : Nat} {X : Nat → Prop} {l : List DoV} {s : TkV} (hT : TrB w t X l s u) (hup : ∀ k, Chain s.th k (upT s.th k)) (hbd : Bnd s.th) (hi : i < 18446744073709551616) :
    Calls Try.prog 53 #[.pointer (some ⟨t, 0, none⟩), .int .u64 (i : Int), .int .u64 (o : Int)] w fun e W => e = .returned (.bool (decide (o ∈ upT s.th i))) ∧ New w W := by
  refine (callsIn_wide (n := 4)).1 ?_
  refine callsIn_of_wp_marks Try.func53 rfl trivial ?_
  simp only [Try.ntmps53, List.size_toArray, List.length_cons, List.length_nil, Nat.reduceAdd, Nat.reduceSub, Array.replicate_succ, Array.replicate_zero, List.push_toArray, List.append_toArray, List.nil_append, List.cons_append]
  refine wpIn_wide.2 ?_
  go_wp2_with fail
  have ho0 : Own ((w.alloc (.cells #[.int .u64 (o : Int)] 22)).alloc (.cells #[.bool false] 4)) w.heap.size 22 #[.int .u64 (o : Int)] := (Own.fresh _ _ _).alloc _
  have hr0 : Own ((w.alloc (.cells #[.int .u64 (o : Int)] 22)).alloc (.cells #[.bool false] 4)) (w.heap.size + 1) 4 #[.bool false] := Own.new' (by simp)
  have hn0 : New w ((w.alloc (.cells #[.int .u64 (o : Int)] 22)).alloc (.cells #[.bool false] 4)) := ((Fr.refl _ _).alloc _).alloc _
  have hs0 : ((w.alloc (.cells #[.int .u64 (o : Int)] 22)).alloc (.cells #[.bool false] 4)).heap.size = w.heap.size + 2 := by simp
  obtain ⟨W0, hW0⟩ : ∃ W0, W0 = (w.alloc (.cells #[.int .u64 (o : Int)] 22)).alloc (.cells #[.bool false] 4) := ⟨_, rfl⟩
  rw [← hW0] at ho0 hr0 hn0 hs0 ⊢
  clear hW0
  refine up_fn.mono ?_
  rintro e W1 ⟨rfl, hW1⟩
  have hn1 : New W0 W1 := hW1 ▸ ((Fr.refl _ _).alloc _).alloc _
  have hs1 : W1.heap.size = w.heap.size + 4 := by rw [hW1]; simp [hs0]
  have hbx : Own W1 (w.heap.size + 3) 22 #[.int .u64 (i : Int)] := hW1 ▸ Own.new' (by simp [hs0])
  have htx : Own W1 (w.heap.size + 2) 42 #[.pointer (some ⟨t, 0, none⟩)] := by
    rw [hW1]
    exact (Own.new' hs0).alloc _
  have ho1 := ho0.new_ hn1
  have hr1 := hr0.new_ hn1
  have hT1 := (hT.new_ hn0).new_ hn1
  replace hn1 : New w W1 := hn0.new_ hn1
  have hXlt := fun k hk => hT.lt (k := k) hk
  rw [hs0]
  clear hW1 ho0 hr0 hn0 hs0 W0 hT
  go_wp2_with fail
  refine (wpIn_wide (n := 4)).1 ?_
  refine wpIn_rangeFunc_boxedX (b := w.heap.size + 3) (N := (upT s.th i).length) (S := fun xs => xs = upT s.th i) (Sp := fun pre => ∃ post, upT s.th i = pre ++ post) (T := fun x => x < 18446744073709551616) (encs := fun x : Nat => #[.int .u64 (x : Int)]) (gf := 81) (lb := #[.pointer (some ⟨w.heap.size + 3, 0, none⟩), .pointer (some ⟨w.heap.size + 2, 0, none⟩)]) rfl (by omega) rfl trivial (enters_of Try.func81 (by kernel_rfl) rfl)
    hbx.lt (up_stops hT1 hbx htx (fun h => by have := hXlt _ h; omega) (by omega) hup hbd hi 3 (by omega)) (fun _ => rfl)
    (fun xs Y => (TrB Y t X l s u ∧ Own Y (w.heap.size + 2) 42 #[.pointer (some ⟨t, 0, none⟩)]) ∧ Own Y w.heap.size 22 #[.int .u64 (o : Int)] ∧ Own Y (w.heap.size + 1) 4 #[.bool false] ∧ New w Y ∧ o ∉ xs)
    (fun c xs Y => c = .ret ∧ Own Y (w.heap.size + 1) 4 #[.bool true] ∧ New w Y ∧ o ∈ xs)
    (fun xs Y h => h.1)
    (fun xs Y Z h st => ⟨⟨h.1.1.stp st (fun k hk => by have := hXlt k hk; omega), h.1.2.stp st (by omega)⟩, h.2.1.stp st (by omega), h.2.2.1.stp st (by omega), h.2.2.2.1.stp st (by omega) (.inl (by omega)), h.2.2.2.2⟩)
    (fun c xs Y Z h st => ⟨h.1, h.2.1.stp st (by omega), h.2.2.1.stp st (by omega) (.inl (by omega)), h.2.2.2⟩)
    ⟨⟨hT1, htx⟩, ho1, hr1, hn1, by simp⟩
    (fun x => { tmps := #[.pointer (some ⟨t, 0, none⟩), .int .u64 (i : Int), .int .u64 (o : Int), undef, undef, .pointer (some ⟨w.heap.size, 0, none⟩), .pointer (some ⟨w.heap.size + 1, 0, none⟩), .int .u64 (x : Int), .pointer (some ⟨t, 0, none⟩), .int .u64 (i : Int), .func (.func 81) #[] #[.pointer (some ⟨w.heap.size + 3, 0, none⟩), .pointer (some ⟨w.heap.size + 2, 0, none⟩)], .int .u64 (x : Int), undef, undef, undef], defers := [] }) ?assign ?body ?done ?stop
  case assign =>
    intro l x W K hK
    gi_wp2
    exact hK
  case body =>
    rintro lp pre x W ⟨⟨b1, b2⟩, b3, b4, b5, b6⟩ hT hlen
    have c0 : W.cell? ⟨w.heap.size, 0, none⟩ = some (.int .u64 (o : Int)) := b3.cell 0
    have c1 : W.cell? ⟨w.heap.size + 1, 0, none⟩ = some (.bool false) := b4.cell 0
    have d1 : W.frozen? ⟨w.heap.size + 1, 0, none⟩ = false := b4.free 0
    by_cases hx : x = o
    · subst hx
      have HB := Lib.hid (And.intro b4 b5)
      clear b1 b2 b3 b4 b5
      refine wpIn_block ?_
      gi_wp2
      have g1 : Fr (fun k => k = w.heap.size + 1) W (W.setCell ⟨w.heap.size + 1, 0, none⟩ (.bool true)) := Fr.set (F := fun k => k = w.heap.size + 1) (p := ⟨w.heap.size + 1, 0, none⟩) (Fr.refl _ W) (fun _ => rfl) _
      refine ⟨keepsFrom_of_fr g1 fun k o hk ho => ?_, rfl, HB.out.1.put rfl, HB.out.2.trans g1 fun k hk e => by omega, by simp⟩
      subst hk
      exact HB.out.1.cells ho
    · have hxe : ((x : Int) == (o : Int)) = false := by simp; omega
      have HB := Lib.hid (And.intro b1 (And.intro b2 (And.intro b3 (And.intro b4 (And.intro b5 b6)))))
      clear b1 b2 b3 b4 b5 b6
      refine wpIn_block ?_
      gi_wp2
      exact ⟨keepsFrom_of_fr (Fr.refl (fun _ => False) _) fun k o hk ho => hk.elim, rfl, ⟨HB.out.1, HB.out.2.1⟩, HB.out.2.2.1, HB.out.2.2.2.1, HB.out.2.2.2.2.1, by simp [HB.out.2.2.2.2.2]; exact fun e => hx e.symm⟩
  case done =>
    rintro D xs W hD rfl ⟨⟨b1, b2⟩, b3, b4, b5, b6⟩ hK
    have c1 : W.cell? ⟨w.heap.size + 1, 0, none⟩ = some (.bool false) := b4.cell 0
    have d1 : W.frozen? ⟨w.heap.size + 1, 0, none⟩ = false := b4.free 0
    have HB := Lib.hid (And.intro b4 (And.intro b5 b6))
    clear b1 b2 b3 b4 b5 b6
    go_wp2_with fail
    have hK' : (W.setCell ⟨w.heap.size + 1, 0, none⟩ (.bool false)).heap[D]? = some (.deferred (some [])) := (Below.heap_setCell W ⟨w.heap.size + 1, 0, none⟩ _ D (by show D ≠ w.heap.size + 1; omega)).trans hK
    refine ⟨by simp, .inl ⟨_, _, rfl, run_takeDeferred hK', ?_⟩⟩
    have q1 : Own ((W.setCell ⟨w.heap.size + 1, 0, none⟩ (.bool false)).putObj D (.deferred none)) (w.heap.size + 1) 4 #[.bool false] := (HB.out.1.put rfl).stp (Stp.put (B := W1.heap.size) (b := w.heap.size + 3) _ hK' rfl hD) (by omega)
    have q2 : New w ((W.setCell ⟨w.heap.size + 1, 0, none⟩ (.bool false)).putObj D (.deferred none)) := (HB.out.2.1.set (p := ⟨w.heap.size + 1, 0, none⟩) (fun h => by have h : w.heap.size + 1 < w.heap.size := h; omega) _).stp (Stp.put (B := W1.heap.size) (b := w.heap.size + 3) _ hK' rfl hD) (by omega) (.inl (by omega))
    have q3 := q1.cell 0
    refine ⟨.bool false, by simp [results, Try.results53, go_sem, *], by rw [decide_eq_false HB.out.2.2], q2⟩
  case stop =>
    rintro D c xs W hD ⟨post, hp⟩ ⟨rfl, b4, b5, b6⟩ hK
    have c1 : W.cell? ⟨w.heap.size + 1, 0, none⟩ = some (.bool true) := b4.cell 0
    have HB := Lib.hid (And.intro b4 (And.intro b5 b6))
    clear b4 b5 b6
    gi_wp2
    refine ⟨by simp, .inl ⟨_, _, rfl, run_takeDeferred hK, ?_⟩⟩
    have q1 : Own (W.putObj D (.deferred none)) (w.heap.size + 1) 4 #[.bool true] := HB.out.1.stp (Stp.put (B := W1.heap.size) (b := w.heap.size + 3) _ hK rfl hD) (by omega)
    have q2 : New w (W.putObj D (.deferred none)) := HB.out.2.1.stp (Stp.put (B := W1.heap.size) (b := w.heap.size + 3) _ hK rfl hD) (by omega) (.inl (by omega))
    have q3 := q1.cell 0
    refine ⟨.bool true, by simp [results, Try.results53, go_sem, *], by rw [decide_eq_true (by rw [hp]; exact List.mem_append_left _ HB.out.2.2)], q2⟩
end Go.Proofs.Ytedfgbkaijjaeaa
