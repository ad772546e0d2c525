/- A thing laid. -/
import Derived.Test.YtedfgbkaijjaeaaMvOut
namespace Go.Proofs.Ytedfgbkaijjaeaa
open Go.RowKit Go.Maps
set_option linter.unusedVariables false
set_option linter.unusedSimpArgs false

theorem Inv.kids_len {s : TkV} {N : Nat} (h : Inv s N) (p : Nat) : (s.ks p).length ≤ N := by
  obtain ⟨dom, hl, hd⟩ := h.dom
  have hu := (h.kids p).1
  have hnd : (s.ks p).Nodup := hu.imp fun {a b} hab => Nat.ne_of_lt hab
  refine Nat.le_trans (nodup_le _ dom hnd fun x hx => ?_) hl
  obtain ⟨y, hy, -⟩ := ((h.kids p).2 x).1 hx
  exact hd x (by rw [hy]; rfl)
theorem cutK_len (l : List Nat) (x : Nat) : (cutK l x).length ≤ l.length := by
  unfold cutK
  rw [List.length_append, List.length_take, List.length_drop]
  omega
theorem outF_len (ks : Kds) (x : ThV) (p : Nat) : (outF ks x p).length ≤ (ks p).length := by
  unfold outF
  split
  · by_cases hp : p = x.parent
    · subst hp
      rw [updF_same]
      exact cutK_len _ _
    · rw [updF_other _ _ hp]
      exact Nat.le_refl _
  · exact Nat.le_refl _
/-- The kids behind the taking out of what was there. -/
def layK (s : TkV) (x : ThV) : Kds := match s.th x.id with
  | some old => outF s.ks old
  | none => s.ks
theorem layF_eq (s : TkV) (x : ThV) : layF s x = ⟨updF s.th x.id (some x), updF (layK s x) x.parent (insK (layK s x x.parent) x.id)⟩ := rfl
set_option maxRecDepth 100000 in
set_option maxHeartbeats 8000000 in
theorem lay_any {w : World} {t u N : Nat} {X : Nat → Prop} {l : List DoV} {s : TkV} (h : TrB w t X l s u) (hI : Inv s N) (hN : N ≤ 900) {x : ThV} (hi : x.id < 18446744073709551616) (hp : x.parent < 18446744073709551616) :
    Calls Try.prog 76 #[.pointer (some ⟨t, 0, none⟩), x.val] w fun e W => e = .returned (.tuple #[]) ∧ TrTo w X t W l (layF s x) u ∧ W.heap[t]? = w.heap[t]? := by
  rw [layF_eq]
  obtain ⟨xi, p, xn, xd, xg, xs⟩ := x
  have hi : xi < 18446744073709551616 := hi
  have hp : p < 18446744073709551616 := hp
  have hxv : ThV.val ⟨xi, p, xn, xd, xg, xs⟩ = .agg #[.int .u64 (xi : Int), .int .u64 (p : Int), .string xn, .bool xd, .string xg, .int .i64 xs] := rfl
  rw [hxv]
  have hXlt := fun k hk => h.lt (k := k) hk
  obtain ⟨W1, hW1⟩ : ∃ W1, W1 = w.alloc (.cells #[.int .u64 (xi : Int), .int .u64 (p : Int), .string xn, .bool xd, .string xg, .int .i64 xs] 48) := ⟨_, rfl⟩
  have oX : Own W1 w.heap.size 48 #[.int .u64 (xi : Int), .int .u64 (p : Int), .string xn, .bool xd, .string xg, .int .i64 xs] := hW1 ▸ Own.fresh _ _ _
  have hN1 : New w W1 := hW1 ▸ (Fr.refl _ _).alloc _
  have hs1 : W1.heap.size = w.heap.size + 1 := by rw [hW1]; simp
  obtain ⟨y, hy⟩ : ∃ y, y = (s.th xi).getD zeroT := ⟨_, rfl⟩
  obtain ⟨b, hb⟩ : ∃ b, b = (s.th xi).isSome := ⟨_, rfl⟩
  have HM : ∀ w', New W1 w' → w'.cell? ⟨t, 1, none⟩ = some (.map (some h.choose_spec.choose)) → True := fun _ _ _ => trivial
  clear HM
  obtain ⟨lv, mt, mk, n1, n2, V, hC⟩ := h
  replace hC : TrC w t X l s u lv mt mk n1 n2 V := hC
  have HTB := Lib.hid hC.1.lt
  have hC1 := hC.new_ hN1
  have HM : ∀ w', New W1 w' → w'.cell? ⟨t, 1, none⟩ = some (.map (some mt)) ∧ w'.cell? ⟨w.heap.size, 0, none⟩ = some (.int .u64 (xi : Int)) ∧
      (Instr.lookup 100 (.map (some mt)) (.int .u64 (xi : Int)) true).run Try.prog w' = .ok (.tuple #[.agg #[.int .u64 (y.id : Int), .int .u64 (y.parent : Int), .string y.name, .bool y.dir, .string y.dg, .int .i64 y.size], .bool b]) w' := fun w' g => by
    refine ⟨(hC1.1.new_ g).cell 1, (oX.new_ g).cell 0, ?_⟩
    have := look_thing (hC1.2.2.1.fr g fun g => g) hi true
    rw [if_pos rfl, ← hy, ← hb] at this
    exact this
  have H := Lib.hid (And.intro hC1 (And.intro oX (And.intro hN1 (And.intro hXlt (And.intro hy (And.intro hb hI))))))
  clear hC1 hC oX hN1 hXlt hy hb hI
  go_enter Try.func76, Try.ntmps76
  go_wp2_with fail
  rw [← hW1]
  clear hW1
  refine wp_region_heldE (fun W' => New W1 W') (by kernel_rfl) ?_
  have hS0 : New W1 W1.drew := (Fr.refl _ _).drew
  refine wpAnyH_take (i := 0) (v := .pointer (some ⟨t, 0, none⟩)) rfl (by kernel_rfl) (by kernel_rfl) (by kernel_rfl) (fun _ _ _ h => h) (.inl ⟨rfl, fun w' hS => ?t0⟩) hS0 ?_
  case t0 =>
    obtain ⟨m1, m2, m3⟩ := HM w' hS
    go_simp
  refine wpAnyH_take (i := 1) (v := .pointer (some ⟨t, 0, none⟩)) rfl (by kernel_rfl) (by kernel_rfl) (by kernel_rfl) (fun _ _ _ h => h) (.inl ⟨rfl, fun w' hS => ?t1⟩) hS0 ?_
  case t1 =>
    obtain ⟨m1, m2, m3⟩ := HM w' hS
    go_simp
  refine wpAnyH_take (i := 2) (v := .pointer (some ⟨t, 1, none⟩)) rfl (by kernel_rfl) (by kernel_rfl) (by kernel_rfl) (fun _ _ _ h => h) (.inl ⟨rfl, fun w' hS => ?t2⟩) hS0 ?_
  case t2 =>
    obtain ⟨m1, m2, m3⟩ := HM w' hS
    go_simp
  refine wpAnyH_take (i := 3) (v := .map (some mt)) rfl (by kernel_rfl) (by kernel_rfl) (by kernel_rfl) (fun _ _ _ h => h) (.inl ⟨rfl, fun w' hS => ?t3⟩) hS0 ?_
  case t3 =>
    obtain ⟨m1, m2, m3⟩ := HM w' hS
    go_simp
  refine wpAnyH_take (i := 4) (v := .pointer (some ⟨w.heap.size, 0, none⟩)) rfl (by kernel_rfl) (by kernel_rfl) (by kernel_rfl) (fun _ _ _ h => h) (.inl ⟨rfl, fun w' hS => ?t4⟩) hS0 ?_
  case t4 =>
    obtain ⟨m1, m2, m3⟩ := HM w' hS
    go_simp
  refine wpAnyH_take (i := 5) (v := .int .u64 (xi : Int)) rfl (by kernel_rfl) (by kernel_rfl) (by kernel_rfl) (fun _ _ _ h => h) (.inl ⟨rfl, fun w' hS => ?t5⟩) hS0 ?_
  case t5 =>
    obtain ⟨m1, m2, m3⟩ := HM w' hS
    go_simp
  refine wpAnyH_take (i := 6) (v := .tuple #[.agg #[.int .u64 (y.id : Int), .int .u64 (y.parent : Int), .string y.name, .bool y.dir, .string y.dg, .int .i64 y.size], .bool b]) rfl (by kernel_rfl) (by kernel_rfl) (by kernel_rfl) (fun _ _ _ h => h) (.inl ⟨rfl, fun w' hS => ?t6⟩) hS0 ?_
  case t6 =>
    obtain ⟨m1, m2, m3⟩ := HM w' hS
    go_simp
  refine wpAnyH_take (i := 7) (v := .tuple #[.agg #[.int .u64 (y.id : Int), .int .u64 (y.parent : Int), .string y.name, .bool y.dir, .string y.dg, .int .i64 y.size], .bool b]) rfl (by kernel_rfl) (by kernel_rfl) (by kernel_rfl) (fun _ _ _ h => h) (.inl ⟨rfl, fun w' hS => ?t7⟩) hS0 ?_
  case t7 =>
    obtain ⟨m1, m2, m3⟩ := HM w' hS
    go_simp
  refine wpAnyH_take (i := 8) (v := .agg #[.int .u64 (y.id : Int), .int .u64 (y.parent : Int), .string y.name, .bool y.dir, .string y.dg, .int .i64 y.size]) rfl (by kernel_rfl) (by kernel_rfl) (by kernel_rfl) (fun _ _ _ h => h) (.inl ⟨rfl, fun w' hS => ?t8⟩) hS0 ?_
  case t8 =>
    obtain ⟨m1, m2, m3⟩ := HM w' hS
    go_simp
  refine wpAnyH_take (i := 9) (v := .bool b) rfl (by kernel_rfl) (by kernel_rfl) (by kernel_rfl) (fun _ _ _ h => h) (.inl ⟨rfl, fun w' hS => ?t9⟩) hS0 ?_
  case t9 =>
    obtain ⟨m1, m2, m3⟩ := HM w' hS
    go_simp
  try simp only [Act.put, List.setIfInBounds_toArray, List.set_cons_zero, List.set_cons_succ]
  refine wpAnyH_all (rs := [10]) (by kernel_rfl) (by simp) (fun j hj => ?_)
  rw [List.mem_singleton] at hj
  subst hj
  refine wpOp_step rfl (fun K hK => ?_)
  go_simp
  refine hK _ _ ⟨hS0.alloc _, ?_⟩
  clear hK K
  try simp only [Act.put, List.setIfInBounds_toArray, List.set_cons_zero, List.set_cons_succ]
  refine wpAnyH_all (rs := [11]) (by kernel_rfl) (by simp) (fun j hj => ?_)
  rw [List.mem_singleton] at hj
  subst hj
  refine wpOp_step rfl (fun K hK => ?_)
  go_simp
  have hS3 : New W1 (W1.alloc (.cells #[.int .u64 (y.id : Int), .int .u64 (y.parent : Int), .string y.name, .bool y.dir, .string y.dg, .int .i64 y.size] 48)).drew := ((Fr.refl _ _).alloc _).drew
  have hO3 : Own (W1.alloc (.cells #[.int .u64 (y.id : Int), .int .u64 (y.parent : Int), .string y.name, .bool y.dir, .string y.dg, .int .i64 y.size] 48)).drew (w.heap.size + 1) 48 #[.int .u64 (y.id : Int), .int .u64 (y.parent : Int), .string y.name, .bool y.dir, .string y.dg, .int .i64 y.size] := Own.drew (Own.new' hs1)
  refine hK _ _ ⟨hS3, ?_⟩
  clear hK K
  try simp only [Act.put, List.setIfInBounds_toArray, List.set_cons_zero, List.set_cons_succ]
  refine wpAnyH_all (rs := [12]) (by kernel_rfl) (by simp) (fun j hj => ?_)
  rw [List.mem_singleton] at hj
  subst hj
  refine wpOp_step rfl (fun K hK => ?_)
  go_simp
  obtain ⟨W3, hW3⟩ : ∃ W3, W3 = (W1.alloc (.cells #[.int .u64 (y.id : Int), .int .u64 (y.parent : Int), .string y.name, .bool y.dir, .string y.dg, .int .i64 y.size] 48)).drew := ⟨_, rfl⟩
  rw [← hW3] at hS3 hO3 ⊢
  clear hW3
  refine hK _ _ ⟨hS3, ?_⟩
  clear hK K
  try simp only [Act.put, List.setIfInBounds_toArray, List.set_cons_zero, List.set_cons_succ]
  refine wpAnyH_done (by kernel_rfl) ?_ _
  rename_i ha
  refine ha _ _ ?_
  clear ha
  obtain ⟨hC1, oX, hN1, hXlt, hy, hb, hI⟩ := H.out
  have C3 := hC1.new_ hS3
  have o3 := oX.new_ hS3
  have f3 := hN1.new_ hS3
  have HK : Hid ((∀ q, Up (layK s ⟨xi, p, xn, xd, xg, xs⟩ q)) ∧ ∀ q, (layK s ⟨xi, p, xn, xd, xg, xs⟩ q).length ≤ 900) := by
    refine Lib.hid ?_
    unfold layK
    cases hth : s.th xi with
    | none => exact ⟨fun q => (hI.kids q).1, fun q => Nat.le_trans (hI.kids_len q) hN⟩
    | some old => exact ⟨fun q => (out_kids hI.ids hI.kids hth q).1, fun q => Nat.le_trans (outF_len _ _ _) (Nat.le_trans (hI.kids_len q) hN)⟩
  obtain ⟨k1, hk1⟩ : ∃ k1, k1 = layK s ⟨xi, p, xn, xd, xg, xs⟩ := ⟨_, rfl⟩
  have HE := Lib.hid hk1
  have TAILF : (∃ X', TrB W3 t X' l s u ∧ Fr X w W3 ∧ ∀ k, X' k → X k ∨ w.heap.size < k) ∧ Own W3 w.heap.size 48 #[.int .u64 (xi : Int), .int .u64 (p : Int), .string xn, .bool xd, .string xg, .int .i64 xs] := ⟨⟨X, C3.of, f3.mono fun _ g => g.elim, fun k hk => .inl hk⟩, o3⟩
  have H3 := Lib.hid (And.intro TAILF (And.intro hy (And.intro hb (And.intro hI (And.intro C3.of (And.intro hXlt f3))))))
  have a0 := hO3.cell 0
  have a1 := hO3.cell 1
  have a2 := hO3.cell 2
  have a3 := hO3.cell 3
  have a4 := hO3.cell 4
  have a5 := hO3.cell 5
  simp only [List.getElem?_toArray, List.getElem?_cons_zero, List.getElem?_cons_succ] at a0 a1 a2 a3 a4 a5
  rw [← hk1] at HK
  clear hC1 oX hN1 hXlt hy hb hI C3 o3 f3 TAILF hO3 hS0 hS3 H hk1 HM hs1
  have BR : ∀ (Q : Exit → Act → World → Prop) (c : Code) (a : Act) (W : World), (∃ X', TrB W t X' l ⟨s.th, k1⟩ u ∧ Fr X w W ∧ ∀ k, X' k → X k ∨ w.heap.size < k) → (Own W w.heap.size 48 #[.int .u64 (xi : Int), .int .u64 (p : Int), .string xn, .bool xd, .string xg, .int .i64 xs] ∧ W.heap[t]? = w.heap[t]?) → (∀ W', ((∃ X', TrB W' t X' l ⟨s.th, k1⟩ u ∧ Fr X w W' ∧ ∀ k, X' k → X k ∨ w.heap.size < k) ∧ (Own W' w.heap.size 48 #[.int .u64 (xi : Int), .int .u64 (p : Int), .string xn, .bool xd, .string xg, .int .i64 xs] ∧ W'.heap[t]? = w.heap[t]?)) → Code.wp Try.prog c Q a W') → Code.wp Try.prog c Q a W := fun Q c a W h1 h2 h => h W ⟨h1, h2⟩
  replace BR := Lib.hid BR
  cases b
  case false =>
    have hk1 : k1 = s.ks := by
      obtain ⟨-, hy, hb, -⟩ := H3.out
      rw [HE.out]
      unfold layK
      cases hth : s.th xi with
      | none => rfl
      | some old => rw [hth] at hb; cases hb
    replace hk1 := Lib.hid hk1
    clear a0 a1 a2 a3 a4 a5
    go_wp2_with fail
    refine BR.out _ _ _ _ (by rw [hk1.out]; exact H3.out.1.1) ⟨H3.out.1.2, H3.out.2.2.2.2.2.2.block t HTB.out (fun g => g)⟩ ?_
    clear hk1
    rintro W4 ⟨hT4, o4, e4⟩
    obtain ⟨X4, hT4, f4, hX4⟩ := hT4
    obtain ⟨lv, mt, mk, n1, n2, V, C4⟩ := hT4
    replace C4 : TrC W4 t X4 l ⟨s.th, k1⟩ u lv mt mk n1 n2 V := C4
    have HE4 := Lib.hid (And.intro C4.1 e4)
    clear e4
    have hX4lt : ∀ k, X4 k → k < W4.heap.size := fun k hk => C4.of.lt hk
    have HM : ∀ w', New W4 w' → w'.cell? ⟨t, 1, none⟩ = some (.map (some mt)) ∧ Own w' w.heap.size 48 #[.int .u64 (xi : Int), .int .u64 (p : Int), .string xn, .bool xd, .string xg, .int .i64 xs] := fun w' g => ⟨(C4.1.new_ g).cell 1, o4.new_ g⟩
    have oLt := o4.lt
    obtain ⟨W5, n1', hput, C5, f5⟩ := (C4.new_ ((Fr.refl _ W4).drew)).put_thing hi ⟨xi, p, xn, xd, xg, xs⟩
    have hput' : (Instr.mapUpdate 100 (.map (some mt)) (.int .u64 (xi : Int)) (.agg #[.int .u64 (xi : Int), .int .u64 (p : Int), .string xn, .bool xd, .string xg, .int .i64 xs])).run Try.prog W4.drew = .ok () W5 := hput
    have hXn : ¬ X4 w.heap.size := fun e => by
      rcases hX4 _ e with e | e
      · have := H3.out.2.2.2.2.2.1 _ e
        omega
      · omega
    have o5 : Own W5 w.heap.size 48 #[.int .u64 (xi : Int), .int .u64 (p : Int), .string xn, .bool xd, .string xg, .int .i64 xs] := o4.drew.fr f5 hXn
    have g5 : Fr X w W5 := f4.trans (((Fr.refl _ _).drew).trans f5 fun _ _ e => e) fun k hk e => by
      rcases hX4 k e with e | e
      · exact e
      · omega
    have H5 := Lib.hid (And.intro C5 (And.intro o5 (And.intro g5 (And.intro hX4 hXn))))
    clear hput C4 o4 f4 hX4 C5 o5 f5 g5 hXn
    apply wp_region_partsK 7 (fun W' => New W4 W')
    case hp => simp only [List.take_succ_cons, List.take_zero]; exact rfl
    case hd => simp only [List.drop_succ_cons, List.drop_zero]; exact rfl
    case hm => kernel_rfl
    case hB => kernel_rfl
    case hT => kernel_rfl
    have hS0 : New W4 W4.drew := (Fr.refl _ _).drew
    refine wpAnyH_take (i := 0) (v := .pointer (some ⟨t, 0, none⟩)) rfl (by kernel_rfl) (by kernel_rfl) (by kernel_rfl) (fun _ _ _ h => h) (.inl ⟨rfl, fun w' hS => ?t0⟩) hS0 ?_
    case t0 =>
      obtain ⟨m1, ox⟩ := HM w' hS
      have z0 := ox.cell 0
      have z1 := ox.cell 1
      have z2 := ox.cell 2
      have z3 := ox.cell 3
      have z4 := ox.cell 4
      have z5 := ox.cell 5
      simp only [List.getElem?_toArray, List.getElem?_cons_zero, List.getElem?_cons_succ] at z0 z1 z2 z3 z4 z5
      clear ox
      go_simp
    refine wpAnyH_take (i := 1) (v := .pointer (some ⟨t, 0, none⟩)) rfl (by kernel_rfl) (by kernel_rfl) (by kernel_rfl) (fun _ _ _ h => h) (.inl ⟨rfl, fun w' hS => ?t1⟩) hS0 ?_
    case t1 =>
      obtain ⟨m1, ox⟩ := HM w' hS
      have z0 := ox.cell 0
      have z1 := ox.cell 1
      have z2 := ox.cell 2
      have z3 := ox.cell 3
      have z4 := ox.cell 4
      have z5 := ox.cell 5
      simp only [List.getElem?_toArray, List.getElem?_cons_zero, List.getElem?_cons_succ] at z0 z1 z2 z3 z4 z5
      clear ox
      go_simp
    refine wpAnyH_take (i := 2) (v := .pointer (some ⟨t, 1, none⟩)) rfl (by kernel_rfl) (by kernel_rfl) (by kernel_rfl) (fun _ _ _ h => h) (.inl ⟨rfl, fun w' hS => ?t2⟩) hS0 ?_
    case t2 =>
      obtain ⟨m1, ox⟩ := HM w' hS
      have z0 := ox.cell 0
      have z1 := ox.cell 1
      have z2 := ox.cell 2
      have z3 := ox.cell 3
      have z4 := ox.cell 4
      have z5 := ox.cell 5
      simp only [List.getElem?_toArray, List.getElem?_cons_zero, List.getElem?_cons_succ] at z0 z1 z2 z3 z4 z5
      clear ox
      go_simp
    refine wpAnyH_take (i := 3) (v := .map (some mt)) rfl (by kernel_rfl) (by kernel_rfl) (by kernel_rfl) (fun _ _ _ h => h) (.inl ⟨rfl, fun w' hS => ?t3⟩) hS0 ?_
    case t3 =>
      obtain ⟨m1, ox⟩ := HM w' hS
      have z0 := ox.cell 0
      have z1 := ox.cell 1
      have z2 := ox.cell 2
      have z3 := ox.cell 3
      have z4 := ox.cell 4
      have z5 := ox.cell 5
      simp only [List.getElem?_toArray, List.getElem?_cons_zero, List.getElem?_cons_succ] at z0 z1 z2 z3 z4 z5
      clear ox
      go_simp
    refine wpAnyH_take (i := 4) (v := .pointer (some ⟨w.heap.size, 0, none⟩)) rfl (by kernel_rfl) (by kernel_rfl) (by kernel_rfl) (fun _ _ _ h => h) (.inl ⟨rfl, fun w' hS => ?t4⟩) hS0 ?_
    case t4 =>
      obtain ⟨m1, ox⟩ := HM w' hS
      have z0 := ox.cell 0
      have z1 := ox.cell 1
      have z2 := ox.cell 2
      have z3 := ox.cell 3
      have z4 := ox.cell 4
      have z5 := ox.cell 5
      simp only [List.getElem?_toArray, List.getElem?_cons_zero, List.getElem?_cons_succ] at z0 z1 z2 z3 z4 z5
      clear ox
      go_simp
    refine wpAnyH_take (i := 5) (v := .int .u64 (xi : Int)) rfl (by kernel_rfl) (by kernel_rfl) (by kernel_rfl) (fun _ _ _ h => h) (.inl ⟨rfl, fun w' hS => ?t5⟩) hS0 ?_
    case t5 =>
      obtain ⟨m1, ox⟩ := HM w' hS
      have z0 := ox.cell 0
      have z1 := ox.cell 1
      have z2 := ox.cell 2
      have z3 := ox.cell 3
      have z4 := ox.cell 4
      have z5 := ox.cell 5
      simp only [List.getElem?_toArray, List.getElem?_cons_zero, List.getElem?_cons_succ] at z0 z1 z2 z3 z4 z5
      clear ox
      go_simp
    refine wpAnyH_take (i := 6) (v := .agg #[.int .u64 (xi : Int), .int .u64 (p : Int), .string xn, .bool xd, .string xg, .int .i64 xs]) rfl (by kernel_rfl) (by kernel_rfl) (by kernel_rfl) (fun _ _ _ h => h) (.inl ⟨rfl, fun w' hS => ?t6⟩) hS0 ?_
    case t6 =>
      obtain ⟨m1, ox⟩ := HM w' hS
      have z0 := ox.cell 0
      have z1 := ox.cell 1
      have z2 := ox.cell 2
      have z3 := ox.cell 3
      have z4 := ox.cell 4
      have z5 := ox.cell 5
      simp only [List.getElem?_toArray, List.getElem?_cons_zero, List.getElem?_cons_succ] at z0 z1 z2 z3 z4 z5
      clear ox
      go_simp
    try simp only [Act.put, List.setIfInBounds_toArray, List.set_cons_zero, List.set_cons_succ]
    refine wpAnyH_done (by kernel_rfl) ?_ _
    unfold restQ
    go_simp
    refine wpList_mapUpdate_run rfl (.tmp 25) (.tmp 27) (.tmp 28) 100 rfl ?em ?ex ?ev hput' ?_
    case em => simp [Act.eval]
    case ex => simp [Act.eval]
    case ev => simp [Act.eval]
    clear hput' HM hS0 oLt
    go_wp2_with fail
    obtain ⟨C5, o5, g5, hX4, hXn⟩ := H5.out
    obtain ⟨v, hv⟩ : ∃ v, v = (V p).getD (.slice none 0 0) := ⟨_, rfl⟩
    obtain ⟨row, hrow⟩ : ∃ row, row = k1 p := ⟨_, rfl⟩
    have hUL : UL W5 v row := by rw [hv, hrow]; exact C5.2.2.2.2.1.at_ p
    obtain ⟨A, cap, hvf⟩ := hUL.form
    obtain ⟨n, hnn⟩ : ∃ n, n = row.length := ⟨_, rfl⟩
    rw [← hnn] at hvf
    subst hvf
    have hu : Up row := by rw [hrow]; exact HK.out.1 p
    have hrl : n ≤ 900 := by rw [hnn, hrow]; exact HK.out.2 p
    obtain ⟨lo, hlo⟩ : ∃ lo, lo = lowB row xi := ⟨_, rfl⟩
    have hlol : lo ≤ n := by rw [hlo, hnn]; exact lowB_le _ _
    have N2 : ∀ x, (nw W5 x).cell? ⟨t, 2, none⟩ = some (.map (some mk)) := C5.1.nw 2
    have M0 : ∀ x, (nw W5 x).cell? ⟨w.heap.size, 0, none⟩ = some (.int .u64 (xi : Int)) := o5.nw 0
    have M1 : ∀ x, (nw W5 x).cell? ⟨w.heap.size, 1, none⟩ = some (.int .u64 (p : Int)) := o5.nw 1
    have LK : ∀ x, (Instr.lookup 101 (.map (some mk)) (.int .u64 (p : Int)) false).run Try.prog (nw W5 x) = .ok (.slice A n cap) (nw W5 x) := fun x => by
      rw [hv]
      exact look_kids (C5.2.2.2.1.fr (nw_new W5 x) fun g => g) hp
    have B0 : ∀ x, Calls Try.prog 102 #[.slice A n cap, .int .u64 (xi : Int)] (nw W5 x) fun e W' => e = .returned (.tuple #[.int .i64 (lo : Nat), .bool (decide (xi ∈ row))]) ∧ New (nw W5 x) W' := fun x =>
      (bs_any (hUL.new_ (nw_new W5 x)) hnn (by omega) hu xi).mono (by rintro e W' ⟨h1, rfl⟩; exact ⟨by rw [h1, hlo], Fr.refl _ _⟩)
    obtain ⟨f, hf⟩ : ∃ f, f = decide (xi ∈ row) := ⟨_, rfl⟩
    rw [← hf] at B0
    have B1 := fun (x : Nx W5) => Calls.nw_of (B0 x)
    have H6 := Lib.hid (And.intro C5 (And.intro o5 (And.intro g5 (And.intro hX4 (And.intro hXn (And.intro hUL (And.intro hv (And.intro hrow (And.intro hlo hnn)))))))))
    clear C5 o5 g5 hX4 hXn hUL hv hrow hlo hnn hu hf H5
    refine wp_region_new_lit (by kernel_rfl) (by kernel_rfl) ?_; (repeat (any_goals (first | go_big_quiet_step ((go_at_call 102; with_reducible exact B1 _)) | quiet_step ((go_at_call 102; with_reducible exact B1 _)) | (refine wpQuiet_step (fun K hK => ?_); go_simp; split <;> (refine hK _ ?_; clear hK K))))); all_goals (refine wpQuiet_nil ?_; intro _ hw'; obtain ⟨xq, hw''⟩ := hw'; subst hw''; have hnq := nw_new _ xq)
    rename_i ha
    obtain ⟨W6, hW6⟩ : ∃ W6, W6 = nw W5 xq := ⟨_, rfl⟩
    rw [← hW6] at hnq ⊢
    clear hW6 xq N2 M0 M1 LK B1 B0
    refine ha _ _ ?_
    clear ha
    obtain ⟨C5, o5, g5, hX4, hXn, hUL, hv, hrow, hlo, hnn⟩ := H6.out
    have C6 := C5.new_ hnq
    have U6 := hUL.new_ hnq
    have o6 := o5.new_ hnq
    have g6 := g5.new_ hnq
    have hown := C6.ks_own p
    rw [← hv] at hown
    have hlt2 : (lo : Int) ≤ 900 := by omega
    have HM : ∀ w', Fr (fun k => (Value.slice A n cap).ownBlock = some k) W6 w' → w'.cell? ⟨t, 2, none⟩ = some (.map (some mk)) ∧ w'.cell? ⟨w.heap.size, 0, none⟩ = some (.int .u64 (xi : Int)) ∧ w'.cell? ⟨w.heap.size, 1, none⟩ = some (.int .u64 (p : Int)) ∧
        (Instr.lookup 101 (.map (some mk)) (.int .u64 (p : Int)) false).run Try.prog w' = .ok (.slice A n cap) w' := fun w' g => by
      refine ⟨(C6.1.fr g (U6.notOwn C6.1)).cell 2, (o6.fr g fun e => hXn (hown _ e)).cell 0, (o6.fr g fun e => hXn (hown _ e)).cell 1, ?_⟩
      rw [hv]
      exact look_kids (C6.2.2.2.1.fr g (hv ▸ U6.notMap C6.2.2.2.1)) hp
    have HB := Lib.hid (And.intro C6 (And.intro U6 (And.intro g6 (And.intro hX4 (And.intro hv (And.intro hrow (And.intro hlo hnn)))))))
    clear C5 o5 g5 hX4 hXn hUL hv hrow hlo hnn C6 U6 o6 g6 hown hnq H6
    go_wp2_with fail
    apply wp_region_partsK 18 (fun W' => Fr (fun k => (Value.slice A n cap).ownBlock = some k) W6 W')
    case hp => simp only [List.take_succ_cons, List.take_zero]; exact rfl
    case hd => simp only [List.drop_succ_cons, List.drop_zero]; exact rfl
    case hm => kernel_rfl
    case hB => kernel_rfl
    case hT => kernel_rfl
    have hS0 : Fr (fun k => (Value.slice A n cap).ownBlock = some k) W6 W6.drew := (Fr.refl _ _).drew
    refine wpAnyH_take (i := 0) (v := .pointer (some ⟨t, 0, none⟩)) rfl (by kernel_rfl) (by kernel_rfl) (by kernel_rfl) (fun _ _ _ h => h) (.inl ⟨rfl, fun w' hS => ?t0⟩) hS0 ?_
    case t0 =>
      obtain ⟨m1, m2, m3, m4⟩ := HM w' hS
      go_simp
    refine wpAnyH_take (i := 1) (v := .pointer (some ⟨t, 0, none⟩)) rfl (by kernel_rfl) (by kernel_rfl) (by kernel_rfl) (fun _ _ _ h => h) (.inl ⟨rfl, fun w' hS => ?t1⟩) hS0 ?_
    case t1 =>
      obtain ⟨m1, m2, m3, m4⟩ := HM w' hS
      go_simp
    refine wpAnyH_take (i := 2) (v := .pointer (some ⟨t, 2, none⟩)) rfl (by kernel_rfl) (by kernel_rfl) (by kernel_rfl) (fun _ _ _ h => h) (.inl ⟨rfl, fun w' hS => ?t2⟩) hS0 ?_
    case t2 =>
      obtain ⟨m1, m2, m3, m4⟩ := HM w' hS
      go_simp
    refine wpAnyH_take (i := 3) (v := .map (some mk)) rfl (by kernel_rfl) (by kernel_rfl) (by kernel_rfl) (fun _ _ _ h => h) (.inl ⟨rfl, fun w' hS => ?t3⟩) hS0 ?_
    case t3 =>
      obtain ⟨m1, m2, m3, m4⟩ := HM w' hS
      go_simp
    refine wpAnyH_take (i := 4) (v := .pointer (some ⟨w.heap.size, 1, none⟩)) rfl (by kernel_rfl) (by kernel_rfl) (by kernel_rfl) (fun _ _ _ h => h) (.inl ⟨rfl, fun w' hS => ?t4⟩) hS0 ?_
    case t4 =>
      obtain ⟨m1, m2, m3, m4⟩ := HM w' hS
      go_simp
    refine wpAnyH_take (i := 5) (v := .int .u64 (p : Int)) rfl (by kernel_rfl) (by kernel_rfl) (by kernel_rfl) (fun _ _ _ h => h) (.inl ⟨rfl, fun w' hS => ?t5⟩) hS0 ?_
    case t5 =>
      obtain ⟨m1, m2, m3, m4⟩ := HM w' hS
      go_simp
    refine wpAnyH_take (i := 6) (v := .pointer (some ⟨t, 0, none⟩)) rfl (by kernel_rfl) (by kernel_rfl) (by kernel_rfl) (fun _ _ _ h => h) (.inl ⟨rfl, fun w' hS => ?t6⟩) hS0 ?_
    case t6 =>
      obtain ⟨m1, m2, m3, m4⟩ := HM w' hS
      go_simp
    refine wpAnyH_take (i := 7) (v := .pointer (some ⟨t, 0, none⟩)) rfl (by kernel_rfl) (by kernel_rfl) (by kernel_rfl) (fun _ _ _ h => h) (.inl ⟨rfl, fun w' hS => ?t7⟩) hS0 ?_
    case t7 =>
      obtain ⟨m1, m2, m3, m4⟩ := HM w' hS
      go_simp
    refine wpAnyH_take (i := 8) (v := .pointer (some ⟨t, 2, none⟩)) rfl (by kernel_rfl) (by kernel_rfl) (by kernel_rfl) (fun _ _ _ h => h) (.inl ⟨rfl, fun w' hS => ?t8⟩) hS0 ?_
    case t8 =>
      obtain ⟨m1, m2, m3, m4⟩ := HM w' hS
      go_simp
    refine wpAnyH_take (i := 9) (v := .map (some mk)) rfl (by kernel_rfl) (by kernel_rfl) (by kernel_rfl) (fun _ _ _ h => h) (.inl ⟨rfl, fun w' hS => ?t9⟩) hS0 ?_
    case t9 =>
      obtain ⟨m1, m2, m3, m4⟩ := HM w' hS
      go_simp
    refine wpAnyH_take (i := 10) (v := .pointer (some ⟨w.heap.size, 1, none⟩)) rfl (by kernel_rfl) (by kernel_rfl) (by kernel_rfl) (fun _ _ _ h => h) (.inl ⟨rfl, fun w' hS => ?t10⟩) hS0 ?_
    case t10 =>
      obtain ⟨m1, m2, m3, m4⟩ := HM w' hS
      go_simp
    refine wpAnyH_take (i := 11) (v := .int .u64 (p : Int)) rfl (by kernel_rfl) (by kernel_rfl) (by kernel_rfl) (fun _ _ _ h => h) (.inl ⟨rfl, fun w' hS => ?t11⟩) hS0 ?_
    case t11 =>
      obtain ⟨m1, m2, m3, m4⟩ := HM w' hS
      go_simp
    refine wpAnyH_take (i := 12) (v := .slice A n cap) rfl (by kernel_rfl) (by kernel_rfl) (by kernel_rfl) (fun _ _ _ h => h) (.inl ⟨rfl, fun w' hS => ?t12⟩) hS0 ?_
    case t12 =>
      obtain ⟨m1, m2, m3, m4⟩ := HM w' hS
      go_simp
    refine wpAnyH_take (i := 13) (v := .int .i64 (lo : Nat)) rfl (by kernel_rfl) (by kernel_rfl) (by kernel_rfl) (fun _ _ _ h => h) (.inl ⟨rfl, fun w' hS => ?t13⟩) hS0 ?_
    case t13 =>
      obtain ⟨m1, m2, m3, m4⟩ := HM w' hS
      go_simp
    refine wpAnyH_take (i := 14) (v := .pointer (some ⟨w.heap.size, 0, none⟩)) rfl (by kernel_rfl) (by kernel_rfl) (by kernel_rfl) (fun _ _ _ h => h) (.inl ⟨rfl, fun w' hS => ?t14⟩) hS0 ?_
    case t14 =>
      obtain ⟨m1, m2, m3, m4⟩ := HM w' hS
      go_simp
    refine wpAnyH_take (i := 15) (v := .int .u64 (xi : Int)) rfl (by kernel_rfl) (by kernel_rfl) (by kernel_rfl) (fun _ _ _ h => h) (.inl ⟨rfl, fun w' hS => ?t15⟩) hS0 ?_
    case t15 =>
      obtain ⟨m1, m2, m3, m4⟩ := HM w' hS
      go_simp
    try simp only [Act.put, List.setIfInBounds_toArray, List.set_cons_zero, List.set_cons_succ]
    refine wpAnyH_all (rs := [16]) (by kernel_rfl) (by simp) (fun j hj => ?_)
    rw [List.mem_singleton] at hj
    subst hj
    refine wpOp_step rfl (fun K hK => ?_)
    go_simp
    have hS7 : Fr (fun k => (Value.slice A n cap).ownBlock = some k) W6 (W6.drew.alloc (.cells #[.int .u64 (xi : Int)] 22)) := ((Fr.refl _ _).drew).alloc _
    refine hK _ _ ⟨hS7, ?_⟩
    clear hK K
    try simp only [Act.put, List.setIfInBounds_toArray, List.set_cons_zero, List.set_cons_succ]
    refine wpAnyH_all (rs := [17]) (by kernel_rfl) (by simp) (fun j hj => ?_)
    rw [List.mem_singleton] at hj
    subst hj
    refine wpOp_step rfl (fun K hK => ?_)
    go_simp
    obtain ⟨C6, U6, g6, hX4, hv, hrow, hlo, hnn⟩ := HB.out
    have hUl := fun k (hk : (Value.slice A n cap).ownBlock = some k) => U6.lt hk
    refine (insU_any (l := row) (i := lo) (p := xi) (blk := W6.heap.size) (U6.new_ (((Fr.refl _ _).drew).alloc _)) (by omega) (by omega) (Own.new' (by simp)) (fun e => by have := hUl _ e; omega)).mono ?_
    rintro e W7 ⟨v', rfl, h7, f7, ho7⟩
    have f7' : Fr (fun k => (Value.slice A n cap).ownBlock = some k) W6 W7 := hS7.trans f7 fun _ _ e => e
    have hins : row.take lo ++ [xi] ++ row.drop lo = insK row xi := by rw [hlo]; simp [insK]
    rw [hins] at h7
    have ho7' : v'.ownBlock = (Value.slice A n cap).ownBlock ∨ ∃ k, v'.ownBlock = some k ∧ W6.heap.size ≤ k := by
      rcases ho7 with e | ⟨k, e, hk⟩
      · exact .inl e
      · exact .inr ⟨k, e, Nat.le_trans (by simp) hk⟩
    obtain ⟨W8, n2', X8, hput, C8, f8, hX8⟩ := C6.put_kids (W := W7) hp (v' := v') (row' := insK row xi) (by rw [← hv]; exact f7') h7 (by rw [← hv]; exact ho7')
    have hg6 := g6.size
    have HE8 := Lib.hid ((C8.1.same HE4.out.1).trans HE4.out.2)
    have HT8 := Lib.hid (show TrB W8 t X8 l ⟨updF s.th xi (some ⟨xi, p, xn, xd, xg, xs⟩), updF k1 p (insK row xi)⟩ u ∧ Fr X w W8 ∧ (∀ k, X8 k → X k ∨ w.heap.size ≤ k) from ⟨C8.of, g6.trans f8 fun k hk e => by
        rcases hX4 k e with e | e
        · exact e
        · omega, fun k e => by
        rcases hX8 k e with e | e
        · exact (hX4 k e).elim .inl fun h => .inr (by omega)
        · exact .inr (by omega)⟩)
    refine hK _ _ ⟨f7', ?_⟩
    clear hK K C6 U6 g6 hX4 hlo hnn hUl h7 f7 f7' ho7 ho7' hins C8 f8 hX8 hS7 hS0 HM hlt2 hg6 hv HB
    have HR := Lib.hid hrow
    clear hrow
    try simp only [Act.put, List.setIfInBounds_toArray, List.set_cons_zero, List.set_cons_succ]
    refine wpAnyH_done (by kernel_rfl) ?_ _
    unfold restQ
    go_simp
    refine wpList_mapUpdate_run rfl (.tmp 45) (.tmp 47) (.tmp 59) 101 rfl ?em ?ex ?ev hput ?_
    case em => simp [Act.eval]
    case ex => simp [Act.eval]
    case ev => simp [Act.eval]
    clear hput
    go_wp2_with fail
    go_end0
    obtain ⟨T8, f8, hX8⟩ := HT8.out
    refine ⟨rfl, ⟨X8, ?_, f8, hX8⟩, HE8.out⟩
    rw [← HE.out, ← HR.out]
    exact T8
  case true =>
    have hold : ∃ old, s.th xi = some old ∧ y = old ∧ k1 = outF s.ks old := by
      obtain ⟨-, hy, hb, -⟩ := H3.out
      rw [HE.out]
      unfold layK
      cases hth : s.th xi with
      | none => rw [hth] at hb; cases hb
      | some old => exact ⟨old, rfl, by rw [hy, hth]; rfl, rfl⟩
    obtain ⟨old, hth, rfl, hk1⟩ := hold
    have OA := Lib.hid (out_any (x := y) H3.out.2.2.2.2.1 ((H3.out.2.2.2.1.kids _).1) (Nat.le_trans (H3.out.2.2.2.1.kids_len _) (by omega)) (by rw [H3.out.2.2.2.1.ids _ _ hth]; exact hi) (H3.out.2.2.2.1.bnd _ _ hth).2)
    replace hk1 := Lib.hid hk1
    replace hth := Lib.hid hth
    go_wp2_with (go_at_call 77; refine OA.out.mono ?_; rintro e W4 ⟨rfl, hT4, e4⟩)
    refine BR.out _ _ _ _ ?b1 ?b2 ?_
    case b1 =>
      rw [hk1.out]
      obtain ⟨X', t4, f4, hX'⟩ := hT4
      have hl3 := H3.out.1.2.lt
      exact ⟨X', t4, (H3.out.2.2.2.2.2.2.mono fun _ g => g.elim).trans f4 fun k hk e => e, fun k e => (hX' k e).elim .inl fun h => .inr (by omega)⟩
    case b2 =>
      obtain ⟨X', -, f4, -⟩ := hT4
      exact ⟨H3.out.1.2.fr f4 fun e => (by have := H3.out.2.2.2.2.2.1 _ e; omega), e4.trans (H3.out.2.2.2.2.2.2.block t HTB.out (fun g => g))⟩
    clear e4 hT4 a0 a1 a2 a3 a4 a5 OA hk1 hth
    clear W4
    rintro W4 ⟨hT4, o4, e4⟩
    obtain ⟨X4, hT4, f4, hX4⟩ := hT4
    obtain ⟨lv, mt, mk, n1, n2, V, C4⟩ := hT4
    replace C4 : TrC W4 t X4 l ⟨s.th, k1⟩ u lv mt mk n1 n2 V := C4
    have HE4 := Lib.hid (And.intro C4.1 e4)
    clear e4
    have hX4lt : ∀ k, X4 k → k < W4.heap.size := fun k hk => C4.of.lt hk
    have HM : ∀ w', New W4 w' → w'.cell? ⟨t, 1, none⟩ = some (.map (some mt)) ∧ Own w' w.heap.size 48 #[.int .u64 (xi : Int), .int .u64 (p : Int), .string xn, .bool xd, .string xg, .int .i64 xs] := fun w' g => ⟨(C4.1.new_ g).cell 1, o4.new_ g⟩
    have oLt := o4.lt
    obtain ⟨W5, n1', hput, C5, f5⟩ := (C4.new_ ((Fr.refl _ W4).drew)).put_thing hi ⟨xi, p, xn, xd, xg, xs⟩
    have hput' : (Instr.mapUpdate 100 (.map (some mt)) (.int .u64 (xi : Int)) (.agg #[.int .u64 (xi : Int), .int .u64 (p : Int), .string xn, .bool xd, .string xg, .int .i64 xs])).run Try.prog W4.drew = .ok () W5 := hput
    have hXn : ¬ X4 w.heap.size := fun e => by
      rcases hX4 _ e with e | e
      · have := H3.out.2.2.2.2.2.1 _ e
        omega
      · omega
    have o5 : Own W5 w.heap.size 48 #[.int .u64 (xi : Int), .int .u64 (p : Int), .string xn, .bool xd, .string xg, .int .i64 xs] := o4.drew.fr f5 hXn
    have g5 : Fr X w W5 := f4.trans (((Fr.refl _ _).drew).trans f5 fun _ _ e => e) fun k hk e => by
      rcases hX4 k e with e | e
      · exact e
      · omega
    have H5 := Lib.hid (And.intro C5 (And.intro o5 (And.intro g5 (And.intro hX4 hXn))))
    clear hput C4 o4 f4 hX4 C5 o5 f5 g5 hXn
    apply wp_region_partsK 7 (fun W' => New W4 W')
    case hp => simp only [List.take_succ_cons, List.take_zero]; exact rfl
    case hd => simp only [List.drop_succ_cons, List.drop_zero]; exact rfl
    case hm => kernel_rfl
    case hB => kernel_rfl
    case hT => kernel_rfl
    have hS0 : New W4 W4.drew := (Fr.refl _ _).drew
    refine wpAnyH_take (i := 0) (v := .pointer (some ⟨t, 0, none⟩)) rfl (by kernel_rfl) (by kernel_rfl) (by kernel_rfl) (fun _ _ _ h => h) (.inl ⟨rfl, fun w' hS => ?t0⟩) hS0 ?_
    case t0 =>
      obtain ⟨m1, ox⟩ := HM w' hS
      have z0 := ox.cell 0
      have z1 := ox.cell 1
      have z2 := ox.cell 2
      have z3 := ox.cell 3
      have z4 := ox.cell 4
      have z5 := ox.cell 5
      simp only [List.getElem?_toArray, List.getElem?_cons_zero, List.getElem?_cons_succ] at z0 z1 z2 z3 z4 z5
      clear ox
      go_simp
    refine wpAnyH_take (i := 1) (v := .pointer (some ⟨t, 0, none⟩)) rfl (by kernel_rfl) (by kernel_rfl) (by kernel_rfl) (fun _ _ _ h => h) (.inl ⟨rfl, fun w' hS => ?t1⟩) hS0 ?_
    case t1 =>
      obtain ⟨m1, ox⟩ := HM w' hS
      have z0 := ox.cell 0
      have z1 := ox.cell 1
      have z2 := ox.cell 2
      have z3 := ox.cell 3
      have z4 := ox.cell 4
      have z5 := ox.cell 5
      simp only [List.getElem?_toArray, List.getElem?_cons_zero, List.getElem?_cons_succ] at z0 z1 z2 z3 z4 z5
      clear ox
      go_simp
    refine wpAnyH_take (i := 2) (v := .pointer (some ⟨t, 1, none⟩)) rfl (by kernel_rfl) (by kernel_rfl) (by kernel_rfl) (fun _ _ _ h => h) (.inl ⟨rfl, fun w' hS => ?t2⟩) hS0 ?_
    case t2 =>
      obtain ⟨m1, ox⟩ := HM w' hS
      have z0 := ox.cell 0
      have z1 := ox.cell 1
      have z2 := ox.cell 2
      have z3 := ox.cell 3
      have z4 := ox.cell 4
      have z5 := ox.cell 5
      simp only [List.getElem?_toArray, List.getElem?_cons_zero, List.getElem?_cons_succ] at z0 z1 z2 z3 z4 z5
      clear ox
      go_simp
    refine wpAnyH_take (i := 3) (v := .map (some mt)) rfl (by kernel_rfl) (by kernel_rfl) (by kernel_rfl) (fun _ _ _ h => h) (.inl ⟨rfl, fun w' hS => ?t3⟩) hS0 ?_
    case t3 =>
      obtain ⟨m1, ox⟩ := HM w' hS
      have z0 := ox.cell 0
      have z1 := ox.cell 1
      have z2 := ox.cell 2
      have z3 := ox.cell 3
      have z4 := ox.cell 4
      have z5 := ox.cell 5
      simp only [List.getElem?_toArray, List.getElem?_cons_zero, List.getElem?_cons_succ] at z0 z1 z2 z3 z4 z5
      clear ox
      go_simp
    refine wpAnyH_take (i := 4) (v := .pointer (some ⟨w.heap.size, 0, none⟩)) rfl (by kernel_rfl) (by kernel_rfl) (by kernel_rfl) (fun _ _ _ h => h) (.inl ⟨rfl, fun w' hS => ?t4⟩) hS0 ?_
    case t4 =>
      obtain ⟨m1, ox⟩ := HM w' hS
      have z0 := ox.cell 0
      have z1 := ox.cell 1
      have z2 := ox.cell 2
      have z3 := ox.cell 3
      have z4 := ox.cell 4
      have z5 := ox.cell 5
      simp only [List.getElem?_toArray, List.getElem?_cons_zero, List.getElem?_cons_succ] at z0 z1 z2 z3 z4 z5
      clear ox
      go_simp
    refine wpAnyH_take (i := 5) (v := .int .u64 (xi : Int)) rfl (by kernel_rfl) (by kernel_rfl) (by kernel_rfl) (fun _ _ _ h => h) (.inl ⟨rfl, fun w' hS => ?t5⟩) hS0 ?_
    case t5 =>
      obtain ⟨m1, ox⟩ := HM w' hS
      have z0 := ox.cell 0
      have z1 := ox.cell 1
      have z2 := ox.cell 2
      have z3 := ox.cell 3
      have z4 := ox.cell 4
      have z5 := ox.cell 5
      simp only [List.getElem?_toArray, List.getElem?_cons_zero, List.getElem?_cons_succ] at z0 z1 z2 z3 z4 z5
      clear ox
      go_simp
    refine wpAnyH_take (i := 6) (v := .agg #[.int .u64 (xi : Int), .int .u64 (p : Int), .string xn, .bool xd, .string xg, .int .i64 xs]) rfl (by kernel_rfl) (by kernel_rfl) (by kernel_rfl) (fun _ _ _ h => h) (.inl ⟨rfl, fun w' hS => ?t6⟩) hS0 ?_
    case t6 =>
      obtain ⟨m1, ox⟩ := HM w' hS
      have z0 := ox.cell 0
      have z1 := ox.cell 1
      have z2 := ox.cell 2
      have z3 := ox.cell 3
      have z4 := ox.cell 4
      have z5 := ox.cell 5
      simp only [List.getElem?_toArray, List.getElem?_cons_zero, List.getElem?_cons_succ] at z0 z1 z2 z3 z4 z5
      clear ox
      go_simp
    try simp only [Act.put, List.setIfInBounds_toArray, List.set_cons_zero, List.set_cons_succ]
    refine wpAnyH_done (by kernel_rfl) ?_ _
    unfold restQ
    go_simp
    refine wpList_mapUpdate_run rfl (.tmp 25) (.tmp 27) (.tmp 28) 100 rfl ?em ?ex ?ev hput' ?_
    case em => simp [Act.eval]
    case ex => simp [Act.eval]
    case ev => simp [Act.eval]
    clear hput' HM hS0 oLt
    go_wp2_with fail
    obtain ⟨C5, o5, g5, hX4, hXn⟩ := H5.out
    obtain ⟨v, hv⟩ : ∃ v, v = (V p).getD (.slice none 0 0) := ⟨_, rfl⟩
    obtain ⟨row, hrow⟩ : ∃ row, row = k1 p := ⟨_, rfl⟩
    have hUL : UL W5 v row := by rw [hv, hrow]; exact C5.2.2.2.2.1.at_ p
    obtain ⟨A, cap, hvf⟩ := hUL.form
    obtain ⟨n, hnn⟩ : ∃ n, n = row.length := ⟨_, rfl⟩
    rw [← hnn] at hvf
    subst hvf
    have hu : Up row := by rw [hrow]; exact HK.out.1 p
    have hrl : n ≤ 900 := by rw [hnn, hrow]; exact HK.out.2 p
    obtain ⟨lo, hlo⟩ : ∃ lo, lo = lowB row xi := ⟨_, rfl⟩
    have hlol : lo ≤ n := by rw [hlo, hnn]; exact lowB_le _ _
    have N2 : ∀ x, (nw W5 x).cell? ⟨t, 2, none⟩ = some (.map (some mk)) := C5.1.nw 2
    have M0 : ∀ x, (nw W5 x).cell? ⟨w.heap.size, 0, none⟩ = some (.int .u64 (xi : Int)) := o5.nw 0
    have M1 : ∀ x, (nw W5 x).cell? ⟨w.heap.size, 1, none⟩ = some (.int .u64 (p : Int)) := o5.nw 1
    have LK : ∀ x, (Instr.lookup 101 (.map (some mk)) (.int .u64 (p : Int)) false).run Try.prog (nw W5 x) = .ok (.slice A n cap) (nw W5 x) := fun x => by
      rw [hv]
      exact look_kids (C5.2.2.2.1.fr (nw_new W5 x) fun g => g) hp
    have B0 : ∀ x, Calls Try.prog 102 #[.slice A n cap, .int .u64 (xi : Int)] (nw W5 x) fun e W' => e = .returned (.tuple #[.int .i64 (lo : Nat), .bool (decide (xi ∈ row))]) ∧ New (nw W5 x) W' := fun x =>
      (bs_any (hUL.new_ (nw_new W5 x)) hnn (by omega) hu xi).mono (by rintro e W' ⟨h1, rfl⟩; exact ⟨by rw [h1, hlo], Fr.refl _ _⟩)
    obtain ⟨f, hf⟩ : ∃ f, f = decide (xi ∈ row) := ⟨_, rfl⟩
    rw [← hf] at B0
    have B1 := fun (x : Nx W5) => Calls.nw_of (B0 x)
    have H6 := Lib.hid (And.intro C5 (And.intro o5 (And.intro g5 (And.intro hX4 (And.intro hXn (And.intro hUL (And.intro hv (And.intro hrow (And.intro hlo hnn)))))))))
    clear C5 o5 g5 hX4 hXn hUL hv hrow hlo hnn hu hf H5
    refine wp_region_new_lit (by kernel_rfl) (by kernel_rfl) ?_; (repeat (any_goals (first | go_big_quiet_step ((go_at_call 102; with_reducible exact B1 _)) | quiet_step ((go_at_call 102; with_reducible exact B1 _)) | (refine wpQuiet_step (fun K hK => ?_); go_simp; split <;> (refine hK _ ?_; clear hK K))))); all_goals (refine wpQuiet_nil ?_; intro _ hw'; obtain ⟨xq, hw''⟩ := hw'; subst hw''; have hnq := nw_new _ xq)
    rename_i ha
    obtain ⟨W6, hW6⟩ : ∃ W6, W6 = nw W5 xq := ⟨_, rfl⟩
    rw [← hW6] at hnq ⊢
    clear hW6 xq N2 M0 M1 LK B1 B0
    refine ha _ _ ?_
    clear ha
    obtain ⟨C5, o5, g5, hX4, hXn, hUL, hv, hrow, hlo, hnn⟩ := H6.out
    have C6 := C5.new_ hnq
    have U6 := hUL.new_ hnq
    have o6 := o5.new_ hnq
    have g6 := g5.new_ hnq
    have hown := C6.ks_own p
    rw [← hv] at hown
    have hlt2 : (lo : Int) ≤ 900 := by omega
    have HM : ∀ w', Fr (fun k => (Value.slice A n cap).ownBlock = some k) W6 w' → w'.cell? ⟨t, 2, none⟩ = some (.map (some mk)) ∧ w'.cell? ⟨w.heap.size, 0, none⟩ = some (.int .u64 (xi : Int)) ∧ w'.cell? ⟨w.heap.size, 1, none⟩ = some (.int .u64 (p : Int)) ∧
        (Instr.lookup 101 (.map (some mk)) (.int .u64 (p : Int)) false).run Try.prog w' = .ok (.slice A n cap) w' := fun w' g => by
      refine ⟨(C6.1.fr g (U6.notOwn C6.1)).cell 2, (o6.fr g fun e => hXn (hown _ e)).cell 0, (o6.fr g fun e => hXn (hown _ e)).cell 1, ?_⟩
      rw [hv]
      exact look_kids (C6.2.2.2.1.fr g (hv ▸ U6.notMap C6.2.2.2.1)) hp
    have HB := Lib.hid (And.intro C6 (And.intro U6 (And.intro g6 (And.intro hX4 (And.intro hv (And.intro hrow (And.intro hlo hnn)))))))
    clear C5 o5 g5 hX4 hXn hUL hv hrow hlo hnn C6 U6 o6 g6 hown hnq H6
    go_wp2_with fail
    apply wp_region_partsK 18 (fun W' => Fr (fun k => (Value.slice A n cap).ownBlock = some k) W6 W')
    case hp => simp only [List.take_succ_cons, List.take_zero]; exact rfl
    case hd => simp only [List.drop_succ_cons, List.drop_zero]; exact rfl
    case hm => kernel_rfl
    case hB => kernel_rfl
    case hT => kernel_rfl
    have hS0 : Fr (fun k => (Value.slice A n cap).ownBlock = some k) W6 W6.drew := (Fr.refl _ _).drew
    refine wpAnyH_take (i := 0) (v := .pointer (some ⟨t, 0, none⟩)) rfl (by kernel_rfl) (by kernel_rfl) (by kernel_rfl) (fun _ _ _ h => h) (.inl ⟨rfl, fun w' hS => ?t0⟩) hS0 ?_
    case t0 =>
      obtain ⟨m1, m2, m3, m4⟩ := HM w' hS
      go_simp
    refine wpAnyH_take (i := 1) (v := .pointer (some ⟨t, 0, none⟩)) rfl (by kernel_rfl) (by kernel_rfl) (by kernel_rfl) (fun _ _ _ h => h) (.inl ⟨rfl, fun w' hS => ?t1⟩) hS0 ?_
    case t1 =>
      obtain ⟨m1, m2, m3, m4⟩ := HM w' hS
      go_simp
    refine wpAnyH_take (i := 2) (v := .pointer (some ⟨t, 2, none⟩)) rfl (by kernel_rfl) (by kernel_rfl) (by kernel_rfl) (fun _ _ _ h => h) (.inl ⟨rfl, fun w' hS => ?t2⟩) hS0 ?_
    case t2 =>
      obtain ⟨m1, m2, m3, m4⟩ := HM w' hS
      go_simp
    refine wpAnyH_take (i := 3) (v := .map (some mk)) rfl (by kernel_rfl) (by kernel_rfl) (by kernel_rfl) (fun _ _ _ h => h) (.inl ⟨rfl, fun w' hS => ?t3⟩) hS0 ?_
    case t3 =>
      obtain ⟨m1, m2, m3, m4⟩ := HM w' hS
      go_simp
    refine wpAnyH_take (i := 4) (v := .pointer (some ⟨w.heap.size, 1, none⟩)) rfl (by kernel_rfl) (by kernel_rfl) (by kernel_rfl) (fun _ _ _ h => h) (.inl ⟨rfl, fun w' hS => ?t4⟩) hS0 ?_
    case t4 =>
      obtain ⟨m1, m2, m3, m4⟩ := HM w' hS
      go_simp
    refine wpAnyH_take (i := 5) (v := .int .u64 (p : Int)) rfl (by kernel_rfl) (by kernel_rfl) (by kernel_rfl) (fun _ _ _ h => h) (.inl ⟨rfl, fun w' hS => ?t5⟩) hS0 ?_
    case t5 =>
      obtain ⟨m1, m2, m3, m4⟩ := HM w' hS
      go_simp
    refine wpAnyH_take (i := 6) (v := .pointer (some ⟨t, 0, none⟩)) rfl (by kernel_rfl) (by kernel_rfl) (by kernel_rfl) (fun _ _ _ h => h) (.inl ⟨rfl, fun w' hS => ?t6⟩) hS0 ?_
    case t6 =>
      obtain ⟨m1, m2, m3, m4⟩ := HM w' hS
      go_simp
    refine wpAnyH_take (i := 7) (v := .pointer (some ⟨t, 0, none⟩)) rfl (by kernel_rfl) (by kernel_rfl) (by kernel_rfl) (fun _ _ _ h => h) (.inl ⟨rfl, fun w' hS => ?t7⟩) hS0 ?_
    case t7 =>
      obtain ⟨m1, m2, m3, m4⟩ := HM w' hS
      go_simp
    refine wpAnyH_take (i := 8) (v := .pointer (some ⟨t, 2, none⟩)) rfl (by kernel_rfl) (by kernel_rfl) (by kernel_rfl) (fun _ _ _ h => h) (.inl ⟨rfl, fun w' hS => ?t8⟩) hS0 ?_
    case t8 =>
      obtain ⟨m1, m2, m3, m4⟩ := HM w' hS
      go_simp
    refine wpAnyH_take (i := 9) (v := .map (some mk)) rfl (by kernel_rfl) (by kernel_rfl) (by kernel_rfl) (fun _ _ _ h => h) (.inl ⟨rfl, fun w' hS => ?t9⟩) hS0 ?_
    case t9 =>
      obtain ⟨m1, m2, m3, m4⟩ := HM w' hS
      go_simp
    refine wpAnyH_take (i := 10) (v := .pointer (some ⟨w.heap.size, 1, none⟩)) rfl (by kernel_rfl) (by kernel_rfl) (by kernel_rfl) (fun _ _ _ h => h) (.inl ⟨rfl, fun w' hS => ?t10⟩) hS0 ?_
    case t10 =>
      obtain ⟨m1, m2, m3, m4⟩ := HM w' hS
      go_simp
    refine wpAnyH_take (i := 11) (v := .int .u64 (p : Int)) rfl (by kernel_rfl) (by kernel_rfl) (by kernel_rfl) (fun _ _ _ h => h) (.inl ⟨rfl, fun w' hS => ?t11⟩) hS0 ?_
    case t11 =>
      obtain ⟨m1, m2, m3, m4⟩ := HM w' hS
      go_simp
    refine wpAnyH_take (i := 12) (v := .slice A n cap) rfl (by kernel_rfl) (by kernel_rfl) (by kernel_rfl) (fun _ _ _ h => h) (.inl ⟨rfl, fun w' hS => ?t12⟩) hS0 ?_
    case t12 =>
      obtain ⟨m1, m2, m3, m4⟩ := HM w' hS
      go_simp
    refine wpAnyH_take (i := 13) (v := .int .i64 (lo : Nat)) rfl (by kernel_rfl) (by kernel_rfl) (by kernel_rfl) (fun _ _ _ h => h) (.inl ⟨rfl, fun w' hS => ?t13⟩) hS0 ?_
    case t13 =>
      obtain ⟨m1, m2, m3, m4⟩ := HM w' hS
      go_simp
    refine wpAnyH_take (i := 14) (v := .pointer (some ⟨w.heap.size, 0, none⟩)) rfl (by kernel_rfl) (by kernel_rfl) (by kernel_rfl) (fun _ _ _ h => h) (.inl ⟨rfl, fun w' hS => ?t14⟩) hS0 ?_
    case t14 =>
      obtain ⟨m1, m2, m3, m4⟩ := HM w' hS
      go_simp
    refine wpAnyH_take (i := 15) (v := .int .u64 (xi : Int)) rfl (by kernel_rfl) (by kernel_rfl) (by kernel_rfl) (fun _ _ _ h => h) (.inl ⟨rfl, fun w' hS => ?t15⟩) hS0 ?_
    case t15 =>
      obtain ⟨m1, m2, m3, m4⟩ := HM w' hS
      go_simp
    try simp only [Act.put, List.setIfInBounds_toArray, List.set_cons_zero, List.set_cons_succ]
    refine wpAnyH_all (rs := [16]) (by kernel_rfl) (by simp) (fun j hj => ?_)
    rw [List.mem_singleton] at hj
    subst hj
    refine wpOp_step rfl (fun K hK => ?_)
    go_simp
    have hS7 : Fr (fun k => (Value.slice A n cap).ownBlock = some k) W6 (W6.drew.alloc (.cells #[.int .u64 (xi : Int)] 22)) := ((Fr.refl _ _).drew).alloc _
    refine hK _ _ ⟨hS7, ?_⟩
    clear hK K
    try simp only [Act.put, List.setIfInBounds_toArray, List.set_cons_zero, List.set_cons_succ]
    refine wpAnyH_all (rs := [17]) (by kernel_rfl) (by simp) (fun j hj => ?_)
    rw [List.mem_singleton] at hj
    subst hj
    refine wpOp_step rfl (fun K hK => ?_)
    go_simp
    obtain ⟨C6, U6, g6, hX4, hv, hrow, hlo, hnn⟩ := HB.out
    have hUl := fun k (hk : (Value.slice A n cap).ownBlock = some k) => U6.lt hk
    refine (insU_any (l := row) (i := lo) (p := xi) (blk := W6.heap.size) (U6.new_ (((Fr.refl _ _).drew).alloc _)) (by omega) (by omega) (Own.new' (by simp)) (fun e => by have := hUl _ e; omega)).mono ?_
    rintro e W7 ⟨v', rfl, h7, f7, ho7⟩
    have f7' : Fr (fun k => (Value.slice A n cap).ownBlock = some k) W6 W7 := hS7.trans f7 fun _ _ e => e
    have hins : row.take lo ++ [xi] ++ row.drop lo = insK row xi := by rw [hlo]; simp [insK]
    rw [hins] at h7
    have ho7' : v'.ownBlock = (Value.slice A n cap).ownBlock ∨ ∃ k, v'.ownBlock = some k ∧ W6.heap.size ≤ k := by
      rcases ho7 with e | ⟨k, e, hk⟩
      · exact .inl e
      · exact .inr ⟨k, e, Nat.le_trans (by simp) hk⟩
    obtain ⟨W8, n2', X8, hput, C8, f8, hX8⟩ := C6.put_kids (W := W7) hp (v' := v') (row' := insK row xi) (by rw [← hv]; exact f7') h7 (by rw [← hv]; exact ho7')
    have hg6 := g6.size
    have HE8 := Lib.hid ((C8.1.same HE4.out.1).trans HE4.out.2)
    have HT8 := Lib.hid (show TrB W8 t X8 l ⟨updF s.th xi (some ⟨xi, p, xn, xd, xg, xs⟩), updF k1 p (insK row xi)⟩ u ∧ Fr X w W8 ∧ (∀ k, X8 k → X k ∨ w.heap.size ≤ k) from ⟨C8.of, g6.trans f8 fun k hk e => by
        rcases hX4 k e with e | e
        · exact e
        · omega, fun k e => by
        rcases hX8 k e with e | e
        · exact (hX4 k e).elim .inl fun h => .inr (by omega)
        · exact .inr (by omega)⟩)
    refine hK _ _ ⟨f7', ?_⟩
    clear hK K C6 U6 g6 hX4 hlo hnn hUl h7 f7 f7' ho7 ho7' hins C8 f8 hX8 hS7 hS0 HM hlt2 hg6 hv HB
    have HR := Lib.hid hrow
    clear hrow
    try simp only [Act.put, List.setIfInBounds_toArray, List.set_cons_zero, List.set_cons_succ]
    refine wpAnyH_done (by kernel_rfl) ?_ _
    unfold restQ
    go_simp
    refine wpList_mapUpdate_run rfl (.tmp 45) (.tmp 47) (.tmp 59) 101 rfl ?em ?ex ?ev hput ?_
    case em => simp [Act.eval]
    case ex => simp [Act.eval]
    case ev => simp [Act.eval]
    clear hput
    go_wp2_with fail
    go_end0
    obtain ⟨T8, f8, hX8⟩ := HT8.out
    refine ⟨rfl, ⟨X8, ?_, f8, hX8⟩, HE8.out⟩
    rw [← HE.out, ← HR.out]
    exact T8
end Go.Proofs.Ytedfgbkaijjaeaa
