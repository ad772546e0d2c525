/- How deep a thing stands. -/
import Derived.Test.YtedfgbkaijjaeaaMvBelow
namespace Go.Proofs.Ytedfgbkaijjaeaa
open Go.RowKit Go.Maps Go.Shelf
set_option linter.unusedVariables false
set_option linter.unusedSimpArgs false
attribute [local go_sem] Oper.semAt_some

theorem boxPostX_fr {α : Type} {B b : Nat} {I : List α → World → Prop} {Ix : Code → List α → World → Prop} {xs : List α} {W Y : World} {e : Exit} {a : Act} (F : Nat → Prop) (g : Fr F W Y) (h : Fr F W Y → boxPostX B b I Ix xs W e a Y) : boxPostX B b I Ix xs W e a Y := h g
theorem chainF_len (th : Ths) : ∀ f id, (chainF th f id).length ≤ f
  | 0, _ => Nat.le_refl _
  | f + 1, id => by
    unfold chainF
    split
    · exact Nat.zero_le _
    · split
      · simp
      · simp only [List.length_cons]
        have := chainF_len th f
        exact Nat.succ_le_succ (this _)
theorem upT_len (th : Ths) (id : Nat) : (upT th id).length ≤ 1000 := chainF_len th 1000 id
set_option maxRecDepth 100000 in
set_option maxHeartbeats 4000000 in
theorem deep_any {w : World} {t u i : Nat} {X : Nat → Prop} {l : List DoV} {s : TkV} (hT : TrB w t X l s u) (hup : ∀ k, Chain s.th k (upT s.th k)) (hbd : Bnd s.th) (hi : i < 18446744073709551616) :
    Calls Try.prog 17 #[.pointer (some ⟨t, 0, none⟩), .int .u64 (i : Int)] w fun e W => e = .returned (.int .i64 (deepF s.th i)) ∧ New w W := by
  refine (callsIn_wide (n := 4)).1 ?_
  refine callsIn_of_wp_marks Try.func17 rfl trivial ?_
  simp only [Try.ntmps17, List.size_toArray, List.length_cons, List.length_nil, Nat.reduceAdd, Nat.reduceSub, Array.replicate_succ, Array.replicate_zero, List.push_toArray, List.append_toArray, List.nil_append, List.cons_append]
  refine wpIn_wide.2 ?_
  go_wp2_with fail
  have ho0 : Own (((w.alloc (.cells #[.pointer (some ⟨t, 0, none⟩)] 42)).alloc (.cells #[.int .i64 0] 3)).alloc (.cells #[.int .i64 0] 3)) w.heap.size 42 #[.pointer (some ⟨t, 0, none⟩)] := ((Own.fresh _ _ _).alloc _).alloc _
  have hr0 : Own (((w.alloc (.cells #[.pointer (some ⟨t, 0, none⟩)] 42)).alloc (.cells #[.int .i64 0] 3)).alloc (.cells #[.int .i64 0] 3)) (w.heap.size + 1) 3 #[.int .i64 0] := (Own.new' (by simp)).alloc _
  have hm0 : Own (((w.alloc (.cells #[.pointer (some ⟨t, 0, none⟩)] 42)).alloc (.cells #[.int .i64 0] 3)).alloc (.cells #[.int .i64 0] 3)) (w.heap.size + 2) 3 #[.int .i64 0] := Own.new' (by simp)
  have hn0 : New w (((w.alloc (.cells #[.pointer (some ⟨t, 0, none⟩)] 42)).alloc (.cells #[.int .i64 0] 3)).alloc (.cells #[.int .i64 0] 3)) := (((Fr.refl _ _).alloc _).alloc _).alloc _
  have hs0 : (((w.alloc (.cells #[.pointer (some ⟨t, 0, none⟩)] 42)).alloc (.cells #[.int .i64 0] 3)).alloc (.cells #[.int .i64 0] 3)).heap.size = w.heap.size + 3 := by simp
  obtain ⟨W0, hW0⟩ : ∃ W0, W0 = ((w.alloc (.cells #[.pointer (some ⟨t, 0, none⟩)] 42)).alloc (.cells #[.int .i64 0] 3)).alloc (.cells #[.int .i64 0] 3) := ⟨_, rfl⟩
  rw [← hW0] at ho0 hr0 hm0 hn0 hs0 ⊢
  clear hW0
  refine up_fn.mono ?_
  rintro e W1 ⟨rfl, hW1⟩
  have hn1 : New W0 W1 := hW1 ▸ ((Fr.refl _ _).alloc _).alloc _
  have hs1 : W1.heap.size = w.heap.size + 5 := by rw [hW1]; simp [hs0]
  have hbx : Own W1 (w.heap.size + 4) 22 #[.int .u64 (i : Int)] := hW1 ▸ Own.new' (by simp [hs0])
  have htx : Own W1 (w.heap.size + 3) 42 #[.pointer (some ⟨t, 0, none⟩)] := by
    rw [hW1]
    exact (Own.new' hs0).alloc _
  have ho1 := ho0.new_ hn1
  have hr1 := hr0.new_ hn1
  have hm1 := hm0.new_ hn1
  have hT1 := (hT.new_ hn0).new_ hn1
  replace hn1 : New w W1 := hn0.new_ hn1
  have hXlt := fun k hk => hT.lt (k := k) hk
  rw [hs0]
  clear hW1 ho0 hr0 hm0 hn0 hs0 W0 hT
  go_wp2_with fail
  refine (wpIn_wide (n := 4)).1 ?_
  refine wpIn_rangeFunc_boxedX (b := w.heap.size + 4) (N := (upT s.th i).length) (S := fun xs => xs = upT s.th i) (Sp := fun pre => ∃ post, upT s.th i = pre ++ post) (T := fun x => x < 18446744073709551616) (encs := fun x : Nat => #[.int .u64 (x : Int)]) (gf := 81) (lb := #[.pointer (some ⟨w.heap.size + 4, 0, none⟩), .pointer (some ⟨w.heap.size + 3, 0, none⟩)]) rfl (by omega) rfl trivial (enters_of Try.func81 (by kernel_rfl) rfl)
    hbx.lt (up_stops hT1 hbx htx (fun h => by have := hXlt _ h; omega) (by omega) hup hbd hi 3 (by omega)) (fun _ => rfl)
    (fun xs Y => (TrB Y t X l s u ∧ Own Y (w.heap.size + 3) 42 #[.pointer (some ⟨t, 0, none⟩)]) ∧ Own Y w.heap.size 42 #[.pointer (some ⟨t, 0, none⟩)] ∧ Own Y (w.heap.size + 1) 3 #[.int .i64 0] ∧ Own Y (w.heap.size + 2) 3 #[.int .i64 (xs.length : Nat)] ∧ New w Y ∧ (∀ k ∈ xs, (s.th k).isSome = true) ∧ w.heap.size + 5 ≤ Y.heap.size)
    (fun c xs Y => c = .ret ∧ Own Y (w.heap.size + 1) 3 #[.int .i64 (-1)] ∧ New w Y ∧ ∃ k ∈ xs, (s.th k).isSome = false)
    (fun xs Y h => h.1)
    (fun xs Y Z h st => ⟨⟨h.1.1.stp st (fun k hk => by have := hXlt k hk; omega), h.1.2.stp st (by omega)⟩, h.2.1.stp st (by omega), h.2.2.1.stp st (by omega), h.2.2.2.1.stp st (by omega), h.2.2.2.2.1.stp st (by omega) (.inl (by omega)), h.2.2.2.2.2.1, Nat.le_trans h.2.2.2.2.2.2 st.size⟩)
    (fun c xs Y Z h st => ⟨h.1, h.2.1.stp st (by omega), h.2.2.1.stp st (by omega) (.inl (by omega)), h.2.2.2⟩)
    ⟨⟨hT1, htx⟩, ho1, hr1, hm1, hn1, by simp, by omega⟩
    (fun x => { tmps := #[.pointer (some ⟨t, 0, none⟩), .int .u64 (i : Int), .pointer (some ⟨w.heap.size, 0, none⟩), undef, .pointer (some ⟨w.heap.size + 1, 0, none⟩), .pointer (some ⟨w.heap.size + 2, 0, none⟩), .int .u64 (x : Int), undef, undef, .pointer (some ⟨t, 0, none⟩), .bool false, .pointer (some ⟨t, 0, none⟩), .int .u64 (i : Int), .func (.func 81) #[] #[.pointer (some ⟨w.heap.size + 4, 0, none⟩), .pointer (some ⟨w.heap.size + 3, 0, none⟩)], .int .u64 (x : Int), undef, undef, undef, undef, undef, undef, undef, undef, undef, undef, undef, undef, undef, undef], defers := [] }) ?assign ?body ?done ?stop
  case assign =>
    intro l x W K hK
    gi_wp2
    exact hK
  case body =>
    rintro lp pre x W ⟨⟨b1, b2⟩, b3, b4, b5, b6, b7, b8⟩ hT hlen
    have c0 : W.cell? ⟨w.heap.size, 0, none⟩ = some (.pointer (some ⟨t, 0, none⟩)) := b3.cell 0
    have c1 : W.cell? ⟨w.heap.size + 1, 0, none⟩ = some (.int .i64 0) := b4.cell 0
    have d1 : W.frozen? ⟨w.heap.size + 1, 0, none⟩ = false := b4.free 0
    have c2 : W.cell? ⟨w.heap.size + 2, 0, none⟩ = some (.int .i64 (pre.length : Nat)) := b5.cell 0
    have d2 : W.frozen? ⟨w.heap.size + 2, 0, none⟩ = false := b5.free 0
    have hll := upT_len s.th i
    have l1 := b4.lt
    have l2 := b5.lt
    have l0 := b3.lt
    have hpl : (pre.length : Int) ≤ 1000 := by omega
    have HB := Lib.hid (And.intro b1 (And.intro b2 (And.intro b3 (And.intro b4 (And.intro b5 (And.intro b6 b7))))))
    obtain ⟨lv, mt, mk, n1, n2, V, h1, h2', h3, h4⟩ := b1
    have x1 := h1.cell 1
    have hl := look_thing h3 hT true
    rw [if_pos rfl] at hl
    simp only [List.getElem?_toArray, List.getElem?_cons_zero, List.getElem?_cons_succ] at x1
    clear h1 h2' h3 h4 b2 b3 b4 b5 b6 b7
    cases hth : s.th x with
    | none =>
      rw [hth] at hl
      unfold ThV.val ThV.cs at hl
      simp only [Option.getD_none, Option.isSome_none] at hl
      refine wpIn_block ?_
      gi_wp2
      refine boxPostX_fr (fun k => k = w.heap.size + 1) ?g (fun g1 => ?_)
      case g => repeat (first | with_reducible exact Fr.refl _ _ | with_reducible assumption | with_reducible refine Fr.drew ?_ | with_reducible refine Fr.drewN ?_ _ | with_reducible refine Fr.alloc ?_ _ | with_reducible refine Fr.set ?_ (by first | exact fun _ => rfl | (intro hlt; exfalso; simp at hlt; try omega) | (simp; omega)) _ | with_reducible refine Fr.new_ ?_ (by assumption))
      refine ⟨keepsFrom_of_fr g1 fun k o hk ho => ?_, rfl, ?_, HB.out.2.2.2.2.2.1.trans g1 fun k hk e => by omega, x, by simp, by rw [hth]; rfl⟩
      · subst hk
        exact HB.out.2.2.2.1.cells ho
      · have hb4 := HB.out.2.2.2.1
        repeat (first | with_reducible assumption | with_reducible exact Own.fresh _ _ _ | (with_reducible apply Own.new'; simp; done) | with_reducible apply Own.drew | with_reducible apply Own.drewN | with_reducible apply Own.alloc | with_reducible apply Own.put | rfl | (refine Own.far ?_ (by first | (simp; done) | (simp; omega) | omega) _) | (with_reducible refine Own.new_ ?_ (by with_reducible assumption)) | (refine Own.fr ?_ (by with_reducible assumption) (by show ¬ (_ = _); omega)))
    | some y =>
      rw [hth] at hl
      unfold ThV.val ThV.cs at hl
      simp only [Option.getD_some, Option.isSome_some] at hl
      refine wpIn_block ?_
      gi_wp2
      refine boxPostX_fr (fun k => k = w.heap.size + 2) ?g (fun g1 => ?_)
      case g => repeat (first | with_reducible exact Fr.refl _ _ | with_reducible assumption | with_reducible refine Fr.drew ?_ | with_reducible refine Fr.drewN ?_ _ | with_reducible refine Fr.alloc ?_ _ | with_reducible refine Fr.set ?_ (by first | exact fun _ => rfl | (intro hlt; exfalso; simp at hlt; try omega) | (simp; omega)) _ | with_reducible refine Fr.new_ ?_ (by assumption))
      refine ⟨keepsFrom_of_fr g1 fun k o hk ho => ?_, g1.block _ (by omega) (by omega), ⟨HB.out.1.fr g1 fun k hk e => by have := hXlt k hk; omega, HB.out.2.1.fr g1 (by omega)⟩, HB.out.2.2.1.fr g1 (by omega), HB.out.2.2.2.1.fr g1 (by omega), ?_, HB.out.2.2.2.2.2.1.trans g1 fun k hk e => by omega, ?_, Nat.le_trans b8 g1.size⟩
      · subst hk
        exact HB.out.2.2.2.2.1.cells ho
      · have hb5 := HB.out.2.2.2.2.1
        rw [List.length_append, List.length_singleton, Int.natCast_add, Int.natCast_one]
        repeat (first | with_reducible assumption | with_reducible exact Own.fresh _ _ _ | (with_reducible apply Own.new'; simp; done) | with_reducible apply Own.drew | with_reducible apply Own.drewN | with_reducible apply Own.alloc | with_reducible apply Own.put | rfl | (refine Own.far ?_ (by first | (simp; done) | (simp; omega) | omega) _) | (with_reducible refine Own.new_ ?_ (by with_reducible assumption)) | (refine Own.fr ?_ (by with_reducible assumption) (by show ¬ (_ = _); omega)))
      · intro k hk
        rcases List.mem_append.1 hk with h | h
        · exact HB.out.2.2.2.2.2.2 k h
        · rw [List.mem_singleton] at h
          rw [h, hth]
          rfl
  case done =>
    rintro D xs W hD rfl ⟨⟨b1, b2⟩, b3, b4, b5, b6, b7, b8⟩ hK
    have c1 : W.cell? ⟨w.heap.size + 1, 0, none⟩ = some (.int .i64 0) := b4.cell 0
    have d1 : W.frozen? ⟨w.heap.size + 1, 0, none⟩ = false := b4.free 0
    have c2 : W.cell? ⟨w.heap.size + 2, 0, none⟩ = some (.int .i64 ((upT s.th i).length : Nat)) := b5.cell 0
    have HB := Lib.hid (And.intro b4 (And.intro b6 b7))
    clear b1 b2 b3 b4 b5 b6 b7
    go_wp2_with fail
    have hK' : (W.setCell ⟨w.heap.size + 1, 0, none⟩ (.int .i64 ((upT s.th i).length : Nat))).heap[D]? = some (.deferred (some [])) := (Below.heap_setCell W ⟨w.heap.size + 1, 0, none⟩ _ D (by show D ≠ w.heap.size + 1; omega)).trans hK
    refine ⟨by simp, .inl ⟨_, _, rfl, run_takeDeferred hK', ?_⟩⟩
    have q1 : Own ((W.setCell ⟨w.heap.size + 1, 0, none⟩ (.int .i64 ((upT s.th i).length : Nat))).putObj D (.deferred none)) (w.heap.size + 1) 3 #[.int .i64 ((upT s.th i).length : Nat)] := (HB.out.1.put rfl).stp (Stp.put (B := W1.heap.size) (b := w.heap.size + 4) _ hK' rfl hD) (by omega)
    have q2 : New w ((W.setCell ⟨w.heap.size + 1, 0, none⟩ (.int .i64 ((upT s.th i).length : Nat))).putObj D (.deferred none)) := (HB.out.2.1.set (p := ⟨w.heap.size + 1, 0, none⟩) (fun h => by have h : w.heap.size + 1 < w.heap.size := h; omega) _).stp (Stp.put (B := W1.heap.size) (b := w.heap.size + 4) _ hK' rfl hD) (by omega) (.inl (by omega))
    have q3 := q1.cell 0
    refine ⟨.int .i64 ((upT s.th i).length : Nat), by simp [results, Try.results17, go_sem, *], ?_, q2⟩
    unfold deepF
    rw [if_pos (List.all_eq_true.2 HB.out.2.2)]
  case stop =>
    rintro D c xs W hD ⟨post, hp⟩ ⟨rfl, b4, b5, k, hk1, hk2⟩ hK
    have c1 : W.cell? ⟨w.heap.size + 1, 0, none⟩ = some (.int .i64 (-1)) := b4.cell 0
    have HB := Lib.hid (And.intro b4 b5)
    clear b4 b5
    gi_wp2
    refine ⟨by simp, .inl ⟨_, _, rfl, run_takeDeferred hK, ?_⟩⟩
    have q1 : Own (W.putObj D (.deferred none)) (w.heap.size + 1) 3 #[.int .i64 (-1)] := HB.out.1.stp (Stp.put (B := W1.heap.size) (b := w.heap.size + 4) _ hK rfl hD) (by omega)
    have q2 : New w (W.putObj D (.deferred none)) := HB.out.2.stp (Stp.put (B := W1.heap.size) (b := w.heap.size + 4) _ hK rfl hD) (by omega) (.inl (by omega))
    have q3 := q1.cell 0
    refine ⟨.int .i64 (-1), by simp [results, Try.results17, go_sem, *], ?_, q2⟩
    unfold deepF
    rw [if_neg]
    intro h
    have := List.all_eq_true.1 h k (by rw [hp]; exact List.mem_append_left _ hk1)
    rw [hk2] at this
    cases this
set_option maxRecDepth 100000 in
set_option maxHeartbeats 1000000 in
theorem Below_any {w : World} {t u i o : Nat} {X : Nat → Prop} {l : List DoV} {s : TkV} (hT : TrB w t X l s u) (hup : ∀ k, Chain s.th k (upT s.th k)) (hbd : Bnd s.th) (hi : i < 18446744073709551616) :
    Calls Try.prog 16 #[.pointer (some ⟨t, 0, none⟩), .int .u64 (i : Int), .int .u64 (o : Int)] w fun e W => e = .returned (.bool (decide (o ∈ upT s.th i))) ∧ New w W := by
  go_enter Try.func16, Try.ntmps16
  go_wp2_with (go_at_call 53; refine (below_any hT hup hbd hi).mono ?_; rintro e w' ⟨rfl, hn⟩)
  go_ret
  exact ⟨rfl, hn⟩
end Go.Proofs.Ytedfgbkaijjaeaa
