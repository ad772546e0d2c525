/- An operation added: those behind it are taken back, and done again. -/
import Derived.Test.YtedfgbkaijjaeaaMvRowPut
import Derived.Test.YtedfgbkaijjaeaaMvUndo
import Derived.Test.YtedfgbkaijjaeaaMvDo
namespace Go.Proofs.Ytedfgbkaijjaeaa
open Go.RowKit Go.Maps
set_option linter.unusedVariables false
set_option linter.unusedSimpArgs false

def WfE (e : EnV) : Prop := e.op.thing < 18446744073709551616 ∧ e.op.parent < 18446744073709551616
theorem DL.len {W : World} {A : Option Addr} {n cap : Nat} {l : List DoV} (h : DL W (.slice A n cap) l) : n = l.length := by
  obtain ⟨A', cap', e⟩ := h.form
  injection e
theorem done_bnd {s : TkV} {N : Nat} (h : Inv s N) (e : EnV) : (doD s e).there = true → (doD s e).was.id < 18446744073709551616 ∧ (doD s e).was.parent < 18446744073709551616 := by
  unfold doD
  intro ht
  simp only at ht ⊢
  cases hth : s.th e.op.thing with
  | none => rw [hth] at ht; cases ht
  | some x =>
    show x.id < _ ∧ x.parent < _
    have hb := h.bnd _ _ hth
    exact ⟨by rw [h.ids _ _ hth]; exact hb.1, hb.2⟩
/-- What a round keeps: the tree, and the box beside it. -/
def AdR (w : World) (t : Nat) (X : Nat → Prop) (e : EnV) (L : List DoV) (s : TkV) (u : Nat) (W : World) : Prop := (∃ X', TrB W t X' L s u ∧ Fr X w W ∧ (∀ k, X' k → X k ∨ w.heap.size ≤ k) ∧ ¬ X' w.heap.size) ∧ Own W w.heap.size 31 #[.int .i64 e.op.kind, .int .u64 (e.op.count : Int), .int .i64 e.op.who, .int .u64 (e.op.thing : Int), .int .u64 (e.op.parent : Int), .string e.op.name, .bool e.op.dir, .string e.op.digest, .int .i64 e.op.size, .string e.hash]
theorem AdR.step {w : World} {t : Nat} {X : Nat → Prop} {e : EnV} {L L' : List DoV} {s s' : TkV} {u u' : Nat} {W W' : World} (hX : ∀ k, X k → k < w.heap.size) (h : AdR w t X e L s u W) (hs : ∀ X', TrB W t X' L s u → TrTo W X' t W' L' s' u') : AdR w t X e L' s' u' W' := by
  obtain ⟨⟨X', t1, f1, h1, h2⟩, o1⟩ := h
  obtain ⟨X2, t2, f2, h3⟩ := hs X' t1
  have hz := f1.size
  refine ⟨⟨X2, t2, f1.trans f2 fun k hk e => ?_, fun k e => ?_, fun e => ?_⟩, o1.fr f2 h2⟩
  · rcases h1 k e with e | e
    · exact e
    · omega
  · rcases h3 k e with e | e
    · exact h1 k e
    · exact .inr (by omega)
  · rcases h3 _ e with e | e
    · exact h2 e
    · have := o1.lt
      omega
theorem AdR.join {w : World} {t : Nat} {X X1 : Nat → Prop} {e : EnV} {L' : List DoV} {s' : TkV} {u' : Nat} {W W' : World} (f1 : Fr X w W) (h1 : ∀ k, X1 k → X k ∨ w.heap.size ≤ k) (h2 : ¬ X1 w.heap.size) (o1 : Own W w.heap.size 31 #[.int .i64 e.op.kind, .int .u64 (e.op.count : Int), .int .i64 e.op.who, .int .u64 (e.op.thing : Int), .int .u64 (e.op.parent : Int), .string e.op.name, .bool e.op.dir, .string e.op.digest, .int .i64 e.op.size, .string e.hash]) (hT : TrTo W X1 t W' L' s' u') : AdR w t X e L' s' u' W' := by
  obtain ⟨X2, t2, f2, h3⟩ := hT
  have hz := f1.size
  refine ⟨⟨X2, t2, f1.trans f2 fun k hk e => ?_, fun k e => ?_, fun e => ?_⟩, o1.fr f2 h2⟩
  · rcases h1 k e with e | e
    · exact e
    · omega
  · rcases h3 k e with e | e
    · exact h1 k e
    · exact .inr (by omega)
  · rcases h3 _ e with e | e
    · exact h2 e
    · have := o1.lt
      omega
theorem own_fst {W : World} {t : Nat} {ty : TypeId} {v v' a b c a' b' c' : Value} (h : Own W t ty #[v, a, b, c]) (h' : Own W t ty #[v', a', b', c']) : v = v' := by
  have h1 : W.heap[t]? = _ := h
  have h2 : W.heap[t]? = _ := h'
  rw [h1] at h2
  have h3 := Option.some.inj h2
  injection h3 with h3
  have h4 : (#[v, a, b, c] : Array Value)[0]? = (#[v', a', b', c'] : Array Value)[0]? := by rw [h3]
  simpa using h4
theorem range_entry {W : World} {g o : Nat} {d : DoV} (h : W.rangeAt g o d.cs.toList) : W.rangeAt g o d.e.cs.toList := fun j v hv => by
  refine h j v ?_
  have hj : j < d.e.cs.toList.length := (List.getElem?_eq_some_iff.1 hv).1
  show (d.e.cs.toList ++ [.int .u64 (d.was.id : Int), .int .u64 (d.was.parent : Int), .string d.was.name, .bool d.was.dir, .string d.was.dg, .int .i64 d.was.size, .bool d.there, .bool d.did])[j]? = some v
  rw [List.getElem?_append_left hj]
  exact hv
theorem AdR.new_ {w : World} {t : Nat} {X : Nat → Prop} {e : EnV} {L : List DoV} {s : TkV} {u : Nat} {W W' : World} (h : AdR w t X e L s u W) (f : New W W') : AdR w t X e L s u W' := by
  obtain ⟨⟨X', t1, f1, h1, h2⟩, o1⟩ := h
  exact ⟨⟨X', t1.new_ f, f1.new_ f, h1, h2⟩, o1.new_ f⟩
theorem AdR.to {w : World} {t : Nat} {X : Nat → Prop} {e : EnV} {L : List DoV} {s : TkV} {u : Nat} {W : World} (h : AdR w t X e L s u W) : TrTo w X t W L s u := by
  obtain ⟨⟨X', t1, f1, h1, h2⟩, o1⟩ := h
  exact ⟨X', t1, f1, h1⟩
set_option maxRecDepth 100000 in
set_option maxHeartbeats 16000000 in
theorem add_any {w : World} {t u : Nat} {X : Nat → Prop} {es : List EnV} (h : TrB w t X (runD noneS es) (runS es) u) (hes : UpE es) (hl : es.length ≤ 200) (hwf : ∀ x ∈ es, WfE x) (hu : u ≤ 500000) {e : EnV} (he : WfE e) :
    Calls Try.prog 15 #[.pointer (some ⟨t, 0, none⟩), e.val] w fun r W => r = .returned (.bool (freshE es e)) ∧ TrTo w X t W (runD noneS (addE es e)) (runS (addE es e)) (u + if freshE es e = true then es.length - lowE es e else 0) := by
  have hXlt := fun k hk => h.lt (k := k) hk
  have hev' : e.val = .agg #[.int .i64 e.op.kind, .int .u64 (e.op.count : Int), .int .i64 e.op.who, .int .u64 (e.op.thing : Int), .int .u64 (e.op.parent : Int), .string e.op.name, .bool e.op.dir, .string e.op.digest, .int .i64 e.op.size, .string e.hash] := rfl
  rw [hev']
  clear hev'
  obtain ⟨W1, hW1⟩ : ∃ W1, W1 = w.alloc (.cells #[.int .i64 e.op.kind, .int .u64 (e.op.count : Int), .int .i64 e.op.who, .int .u64 (e.op.thing : Int), .int .u64 (e.op.parent : Int), .string e.op.name, .bool e.op.dir, .string e.op.digest, .int .i64 e.op.size, .string e.hash] 31) := ⟨_, rfl⟩
  have oE : Own W1 w.heap.size 31 #[.int .i64 e.op.kind, .int .u64 (e.op.count : Int), .int .i64 e.op.who, .int .u64 (e.op.thing : Int), .int .u64 (e.op.parent : Int), .string e.op.name, .bool e.op.dir, .string e.op.digest, .int .i64 e.op.size, .string e.hash] := hW1 ▸ Own.fresh _ _ _
  have hN1 : New w W1 := hW1 ▸ (Fr.refl _ _).alloc _
  have HR1 : AdR w t X e (runD noneS es) (runS es) u W1 := ⟨⟨X, h.new_ hN1, hN1.mono fun _ g => g.elim, fun k hk => .inl hk, fun hk => by have := hXlt _ hk; omega⟩, oE⟩
  obtain ⟨lv, mt, mk, n1, n2, V, hC⟩ := h.new_ hN1
  replace hC : TrC W1 t X (runD noneS es) (runS es) u lv mt mk n1 n2 V := hC
  obtain ⟨A, cap, hlv⟩ := hC.2.1.form
  obtain ⟨n, hn⟩ : ∃ n, n = es.length := ⟨_, rfl⟩
  rw [runD_length, ← hn] at hlv
  subst hlv
  obtain ⟨p, hp⟩ : ∃ p, p = lowE es e := ⟨_, rfl⟩
  obtain ⟨f, hf⟩ : ∃ f, f = freshE es e := ⟨_, rfl⟩
  have hpn : p ≤ n := by rw [hp, hn]; exact lowE_le es e
  have N0 : ∀ x, (nw W1 x).cell? ⟨t, 0, none⟩ = some (.slice A n cap) := hC.1.nw 0
  have M0 := oE.nw 0
  have M1 := oE.nw 1
  have M2 := oE.nw 2
  have M3 := oE.nw 3
  have M4 := oE.nw 4
  have M5 := oE.nw 5
  have M6 := oE.nw 6
  have M7 := oE.nw 7
  have M8 := oE.nw 8
  have M9 := oE.nw 9
  simp only [List.getElem?_toArray, List.getElem?_cons_zero, List.getElem?_cons_succ] at M0 M1 M2 M3 M4 M5 M6 M7 M8 M9
  have hes' : (runD noneS es).map (·.e) = es := runD_es _ _
  have B0 : ∀ x, Calls Try.prog 48 #[.slice A n cap, .agg #[.int .i64 e.op.kind, .int .u64 (e.op.count : Int), .int .i64 e.op.who, .int .u64 (e.op.thing : Int), .int .u64 (e.op.parent : Int), .string e.op.name, .bool e.op.dir, .string e.op.digest, .int .i64 e.op.size, .string e.hash], .func (.func 49) #[] #[]] (nw W1 x) fun r W' => r = .returned (.tuple #[.int .i64 (p : Nat), .bool (!f)]) ∧ New (nw W1 x) W' := fun x => by
    have := bsf_any (hC.2.1.new_ (nw_new W1 x)) (by rw [runD_length, hn]) (by omega) (by rw [hes']; exact hes) e
    rw [hes', ← hp, ← hf] at this
    exact this
  have B1 := fun (x : Nx W1) => Calls.nw_of (B0 x)
  have H := Lib.hid (And.intro HR1 (And.intro hn (And.intro hp (And.intro hf (And.intro hes (And.intro hl (And.intro hwf (And.intro he (And.intro hXlt hu)))))))))
  have HCC := Lib.hid hC
  rw [← hf, ← hn, ← hp]
  clear HR1 hn hp hf hes hl hwf he hXlt hu hC hes' oE hN1 h
  go_enter Try.func15, Try.ntmps15
  go_wp2_with fail
  rw [← hW1]
  clear hW1
  refine wp_region_new_lit (by kernel_rfl) (by kernel_rfl) ?_; (repeat (any_goals (first | go_big_quiet_step ((go_at_call 48; with_reducible exact B1 _)) | quiet_step ((go_at_call 48; with_reducible exact B1 _)) | (refine wpQuiet_step (fun K hK => ?_); go_simp; split <;> (refine hK _ ?_; clear hK K))))); all_goals (refine wpQuiet_nil ?_; intro _ hw'; obtain ⟨xq, hw''⟩ := hw'; subst hw''; have hnq := nw_new _ xq)
  clear N0 M0 M1 M2 M3 M4 M5 M6 M7 M8 M9 B1 B0
  rename_i ha
  obtain ⟨W2, hW2⟩ : ∃ W2, W2 = nw W1 xq := ⟨_, rfl⟩
  rw [← hW2] at hnq ⊢
  clear hW2 xq
  have HR2 := Lib.hid (H.out.1.new_ hnq)
  have HC2 := Lib.hid (HCC.out.new_ hnq)
  clear hnq HCC
  refine ha _ _ ?_
  clear ha
  cases f with
  | false =>
    go_wp2_with fail
    go_ret
    refine ⟨rfl, ?_⟩
    rw [addE_old H.out.2.2.2.1.symm]
    exact HR2.out.to
  | true =>
    have hpi : (p : Int) ≤ 200 := by have := H.out.2.2.2.2.2.1; have := H.out.2.1; omega
    have hni : (n : Int) ≤ 200 := by have := H.out.2.2.2.2.2.1; have := H.out.2.1; omega
    have c0 : W2.cell? ⟨t, 0, none⟩ = some (.slice A n cap) := HC2.out.1.cell 0
    go_wp2_with fail
    go_loopw [7] (fun iv wr => ∃ (i : Nat) (z : Int), iv = .int .i64 z ∧ z = (i : Int) - 1 ∧ p ≤ i ∧ i ≤ n ∧ Hid (AdR w t X e (runD noneS es) (runS (es.take i)) (u + (n - i)) wr)) (fun iv _ => (intOf iv + 1).toNat)
    case atStart => exact ⟨n, _, rfl, rfl, hpn, Nat.le_refl _, by rw [H.out.2.1, List.take_length, Nat.sub_self]; exact HR2⟩
    case round =>
      clear HR2 HC2 c0
      obtain ⟨i, z, rfl, hz, h1, h2, HI⟩ := hrel
      have hii : (i : Int) ≤ 200 := by omega
      by_cases hgo : p < i
      · as_aux_lemma =>
          obtain ⟨k, rfl⟩ : ∃ k, i = k + 1 := ⟨i - 1, by omega⟩
          have hzk : z = (k : Int) := by rw [hz]; omega
          subst hzk
          have hge : (p : Int) ≤ (k : Int) := by omega
          have hkn : (k : Int) < (n : Int) := by omega
          obtain ⟨x, hx⟩ : ∃ x, es[k]? = some x := ⟨es[k]'(by have := H.out.2.1; omega), List.getElem?_eq_getElem _⟩
          obtain ⟨⟨X1, T1, f1, hX1, hn1⟩, o1⟩ := HI.out
          obtain ⟨lv, mt, mk, n1, n2, V, hC⟩ := T1
          replace hC : TrC wr t X1 (runD noneS es) (runS (es.take (k + 1))) (u + (n - (k + 1))) lv mt mk n1 n2 V := hC
          obtain ⟨A', cap', hlv⟩ := hC.2.1.form
          rw [runD_length, ← H.out.2.1] at hlv
          subst hlv
          obtain ⟨g, hA, hrg⟩ := hC.2.1.range (runD_at hx)
          obtain ⟨d, hd⟩ : ∃ d, d = doD (runS (es.take k)) x := ⟨_, rfl⟩
          rw [← hd] at hrg
          have c0 : wr.cell? ⟨t, 0, none⟩ = some (.slice A' n cap') := hC.1.cell 0
          have hInv := run_inv (es.take (k + 1)) (by rw [List.length_take]; have := H.out.2.2.2.2.2.1; omega) (fun y hy => H.out.2.2.2.2.2.2.1 y (List.mem_of_mem_take hy))
          have hInv0 := run_inv (es.take k) (by rw [List.length_take]; have := H.out.2.2.2.2.2.1; omega) (fun y hy => H.out.2.2.2.2.2.2.1 y (List.mem_of_mem_take hy))
          have hxw := H.out.2.2.2.2.2.2.1 x (List.mem_of_getElem? hx)
          have UA := fun X' (hh : TrB wr t X' (runD noneS es) (runS (es.take (k + 1))) (u + (n - (k + 1)))) => undo_any (d := d) hh hInv (by rw [List.length_take]; have := H.out.2.2.2.2.2.1; omega) (by have := H.out.2.2.2.2.2.2.2.2.2; have := H.out.2.2.2.2.2.1; have := H.out.2.1; omega) (by rw [hd]; exact hxw.1) (by rw [hd]; exact done_bnd hInv0 x)
          have hun : undoF (runS (es.take (k + 1))) d = runS (es.take k) := by rw [hd]; exact run_undo hx
          rw [hun] at UA
          have UA1 := Lib.hid (UA X1 ⟨_, mt, mk, n1, n2, V, hC⟩)
          have HI1 := Lib.hid (And.intro f1 (And.intro hX1 (And.intro hn1 o1)))
          have d0 := hrg 0 _ rfl
          have d1 := hrg 1 _ rfl
          have d2 := hrg 2 _ rfl
          have d3 := hrg 3 _ rfl
          have d4 := hrg 4 _ rfl
          have d5 := hrg 5 _ rfl
          have d6 := hrg 6 _ rfl
          have d7 := hrg 7 _ rfl
          have d8 := hrg 8 _ rfl
          have d9 := hrg 9 _ rfl
          have d10 := hrg 10 _ rfl
          have d11 := hrg 11 _ rfl
          have d12 := hrg 12 _ rfl
          have d13 := hrg 13 _ rfl
          have d14 := hrg 14 _ rfl
          have d15 := hrg 15 _ rfl
          have d16 := hrg 16 _ rfl
          have d17 := hrg 17 _ rfl
          simp only [Nat.add_zero] at d0
          subst hA
          clear hC hrg hInv hInv0 hxw UA hun f1 hX1 hn1 o1 hd hx hz HI
          go_wp2_with fail
          refine UA1.out.mono ?_
          rintro e W' ⟨rfl, hT⟩
          obtain ⟨f1, hX1, hn1, o1⟩ := HI1.out
          have HJ := Lib.hid (AdR.join f1 hX1 hn1 o1 hT)
          clear f1 hX1 hn1 o1 hT UA1
          rw [show u + (n - (k + 1)) + 1 = u + (n - k) by omega] at HJ
          go_wp2_with fail
          refine ⟨⟨_, _, _, _, _, _, _, _, _, _, _, _, _, _, _, ⟨k, _, rfl, rfl, by omega, by omega, HJ⟩, rfl⟩, ?_⟩
          simp [intOf]
      · obtain rfl : i = p := by omega
        have hge : ¬ (i : Int) ≤ z := by omega
        obtain ⟨⟨X1, T1, f1, hX1, hn1⟩, o1⟩ := HI.out
        obtain ⟨lv, mt, mk, n1, n2, V, hC⟩ := T1
        replace hC : TrC wr t X1 (runD noneS es) (runS (es.take i)) (u + (n - i)) lv mt mk n1 n2 V := hC
        obtain ⟨A', cap', hlv⟩ := hC.2.1.form
        rw [runD_length, ← H.out.2.1] at hlv
        subst hlv
        have hX1lt : ∀ k, X1 k → k < wr.heap.size := fun k hk => hC.of.lt hk
        have hlX : ∀ k, (Value.slice A' n cap').ownBlock = some k → X1 k := fun k hk => (hC.2.2.2.2.2.2 k).2 (.inr (.inr (.inr (.inl hk))))
        have HM : ∀ w', Fr (fun k => (Value.slice A' n cap').ownBlock = some k) wr w' → w'.cell? ⟨t, 0, none⟩ = some (.slice A' n cap') ∧ w'.rangeAt w.heap.size 0 e.cs.toList := fun w' g =>
          ⟨(hC.1.fr g (fun e => hC.2.1.notOwn hC.1 e)).cell 0, (o1.fr g (fun e => hn1 (hlX _ e))).range⟩
        have HC := Lib.hid (And.intro hC (And.intro f1 (And.intro hX1 (And.intro hn1 (And.intro o1 (And.intro hX1lt hlX))))))
        clear hC f1 hX1 hn1 o1 hX1lt hlX hz h1 HI hpn
        have HIN := Lib.hid h2
        clear h2
        go_wp2_with fail
        apply wp_region_partsK 10 (fun W' => Fr (fun k => (Value.slice A' n cap').ownBlock = some k) wr W')
        case hp => simp only [List.take_succ_cons, List.take_zero]; exact rfl
        case hd => simp only [List.drop_succ_cons, List.drop_zero]; exact rfl
        case hm => kernel_rfl
        case hB => kernel_rfl
        case hT => kernel_rfl
        have hS0 : Fr (fun k => (Value.slice A' n cap').ownBlock = some k) wr wr.drew := (Fr.refl _ _).drew
        refine wpAnyH_takeE (i := 0) (d := some 41) (v := .pointer (some ⟨t, 0, none⟩)) rfl rfl (by kernel_rfl) (by kernel_rfl) (by kernel_rfl) (fun _ _ _ h => h) (.inl ⟨by kernel_rfl, fun w' hS => ?t0⟩) hS0 ?_
        case t0 =>
          obtain ⟨m0, -⟩ := HM w' hS
          go_simp
        try simp only [Act.put, List.setIfInBounds_toArray, List.set_cons_zero, List.set_cons_succ]
        refine wpAnyH_takeE (i := 1) (d := some 42) (v := .pointer (some ⟨t, 0, none⟩)) rfl rfl (by kernel_rfl) (by kernel_rfl) (by kernel_rfl) (fun _ _ _ h => h) (.inl ⟨by kernel_rfl, fun w' hS => ?t1⟩) hS0 ?_
        case t1 =>
          obtain ⟨m0, -⟩ := HM w' hS
          go_simp
        try simp only [Act.put, List.setIfInBounds_toArray, List.set_cons_zero, List.set_cons_succ]
        refine wpAnyH_takeE (i := 2) (d := some 43) (v := .pointer (some ⟨t, 0, none⟩)) rfl rfl (by kernel_rfl) (by kernel_rfl) (by kernel_rfl) (fun _ _ _ h => h) (.inl ⟨by kernel_rfl, fun w' hS => ?t2⟩) hS0 ?_
        case t2 =>
          obtain ⟨m0, -⟩ := HM w' hS
          go_simp
        try simp only [Act.put, List.setIfInBounds_toArray, List.set_cons_zero, List.set_cons_succ]
        refine wpAnyH_takeE (i := 3) (d := some 44) (v := .pointer (some ⟨t, 0, none⟩)) rfl rfl (by kernel_rfl) (by kernel_rfl) (by kernel_rfl) (fun _ _ _ h => h) (.inl ⟨by kernel_rfl, fun w' hS => ?t3⟩) hS0 ?_
        case t3 =>
          obtain ⟨m0, -⟩ := HM w' hS
          go_simp
        try simp only [Act.put, List.setIfInBounds_toArray, List.set_cons_zero, List.set_cons_succ]
        refine wpAnyH_takeE (i := 4) (d := some 45) (v := .slice A' n cap') rfl rfl (by kernel_rfl) (by kernel_rfl) (by kernel_rfl) (fun _ _ _ h => h) (.inl ⟨by kernel_rfl, fun w' hS => ?t4⟩) hS0 ?_
        case t4 =>
          obtain ⟨m0, -⟩ := HM w' hS
          go_simp
        try simp only [Act.put, List.setIfInBounds_toArray, List.set_cons_zero, List.set_cons_succ]
        refine wpAnyH_takeE (i := 5) (d := some 46) (v := .int .i64 (i : Nat)) rfl rfl (by kernel_rfl) (by kernel_rfl) (by kernel_rfl) (fun _ _ _ h => h) (.inl ⟨by kernel_rfl, fun w' hS => ?t5⟩) hS0 ?_
        case t5 =>
          obtain ⟨m0, -⟩ := HM w' hS
          go_simp
        try simp only [Act.put, List.setIfInBounds_toArray, List.set_cons_zero, List.set_cons_succ]
        try simp only [Act.put, List.setIfInBounds_toArray, List.set_cons_zero, List.set_cons_succ]
        refine wpAnyH_takeE (i := 6) (d := some 47) (v := .agg #[.int .i64 e.op.kind, .int .u64 (e.op.count : Int), .int .i64 e.op.who, .int .u64 (e.op.thing : Int), .int .u64 (e.op.parent : Int), .string e.op.name, .bool e.op.dir, .string e.op.digest, .int .i64 e.op.size, .string e.hash]) rfl rfl (by kernel_rfl) (by kernel_rfl) (by kernel_rfl) (fun _ _ _ h => h) (yieldsIf_load_mid rfl 31 (.tmp 3) rfl w.heap.size (0) (by simp [Act.eval, Act.put]) e.cs.toList _ (fun w' hS => (HM w' hS).2) Try.underlying31 rfl (by kernel_rfl)) hS0 ?_
        try simp only [Act.put, List.setIfInBounds_toArray, List.set_cons_zero, List.set_cons_succ]
        refine wpAnyH_takeE (i := 7) (d := some 48) (v := .agg #[.int .i64 e.op.kind, .int .u64 (e.op.count : Int), .int .i64 e.op.who, .int .u64 (e.op.thing : Int), .int .u64 (e.op.parent : Int), .string e.op.name, .bool e.op.dir, .string e.op.digest, .int .i64 e.op.size, .string e.hash, .int .u64 0, .int .u64 0, .string ⟨#[]⟩, .bool false, .string ⟨#[]⟩, .int .i64 0, .bool false, .bool false]) rfl rfl (by kernel_rfl) (by kernel_rfl) (by kernel_rfl) (fun _ _ _ h => h) (.inl ⟨by kernel_rfl, fun w' hS => ?t7⟩) hS0 ?_
        case t7 =>
          go_simp
        try simp only [Act.put, List.setIfInBounds_toArray, List.set_cons_zero, List.set_cons_succ]
        try simp only [Act.put, List.setIfInBounds_toArray, List.set_cons_zero, List.set_cons_succ]
        refine wpAnyH_oneK (i := 8) (by kernel_rfl) ?_
        refine wpOp_step rfl (fun K hK => ?_)
        go_simp
        have hS1 : Fr (fun k => (Value.slice A' n cap').ownBlock = some k) wr (wr.drew.alloc (.cells #[.int .i64 e.op.kind, .int .u64 (e.op.count : Int), .int .i64 e.op.who, .int .u64 (e.op.thing : Int), .int .u64 (e.op.parent : Int), .string e.op.name, .bool e.op.dir, .string e.op.digest, .int .i64 e.op.size, .string e.hash, .int .u64 0, .int .u64 0, .string ⟨#[]⟩, .bool false, .string ⟨#[]⟩, .int .i64 0, .bool false, .bool false] 108)) := ((Fr.refl _ _).drew).alloc _
        refine hK _ _ ⟨hS1, ?_⟩
        clear hK K
        try simp only [Act.put, List.setIfInBounds_toArray, List.set_cons_zero, List.set_cons_succ]
        refine wpAnyH_oneK (i := 9) (by kernel_rfl) ?_
        refine wpOp_step rfl (fun K hK => ?_)
        go_simp
        obtain ⟨hC, f1, hX1, hn1, o1, hX1lt, hlX⟩ := HC.out
        have hD8 : DL (wr.drew.alloc (.cells #[.int .i64 e.op.kind, .int .u64 (e.op.count : Int), .int .i64 e.op.who, .int .u64 (e.op.thing : Int), .int .u64 (e.op.parent : Int), .string e.op.name, .bool e.op.dir, .string e.op.digest, .int .i64 e.op.size, .string e.hash, .int .u64 0, .int .u64 0, .string ⟨#[]⟩, .bool false, .string ⟨#[]⟩, .int .i64 0, .bool false, .bool false] 108)) (.slice A' n cap') (runD noneS es) := hC.2.1.new_ (((Fr.refl _ _).drew).alloc _)
        refine (insD_any (i := i) (p := ⟨e, zeroT, false, false⟩) (blk := wr.heap.size) hD8 (by rw [runD_length, ← H.out.2.1]; exact HIN.out) (by rw [runD_length, ← H.out.2.1]; omega) (Own.new' (by simp)) (fun e => by have := hX1lt _ (hlX _ e); omega)).mono ?_
        rintro r7 W7 ⟨v', rfl, h7, f7, ho7⟩
        have f7' : Fr (fun k => (Value.slice A' n cap').ownBlock = some k) wr W7 := hS1.trans f7 fun _ _ e => e
        obtain ⟨X8, T8, f8, hX8⟩ := hC.put_row f7' h7 (by
          rcases ho7 with e | ⟨k, e, hk⟩
          · exact .inl e
          · exact .inr ⟨k, e, Nat.le_trans (by simp) hk⟩)
        have HJ := Lib.hid (AdR.join f1 hX1 hn1 o1 ⟨X8, T8, f8, hX8⟩)
        have k7 := hC.1.fr f7' (fun e => hC.2.1.notOwn hC.1 e)
        have c7 : W7.cell? ⟨t, 0, none⟩ = some (.slice A' n cap') := k7.cell 0
        have d7 : W7.frozen? ⟨t, 0, none⟩ = false := k7.free 0
        obtain ⟨A8, cap8, hv8⟩ := h7.form
        rw [show ((runD noneS es).take i ++ [(⟨e, zeroT, false, false⟩ : DoV)] ++ (runD noneS es).drop i).length = n + 1 by
          have := HIN.out
          have := H.out.2.1
          rw [List.length_append, List.length_append, List.length_take, List.length_drop, runD_length, List.length_singleton]
          omega] at hv8
        refine hK _ _ ⟨f7', ?_⟩
        clear hK K hC f1 hX1 hn1 o1 hX1lt hlX hD8 h7 f7 ho7 f7' T8 f8 hX8 k7 hS0 hS1 HM HC
        subst hv8
        try simp only [Act.put, List.setIfInBounds_toArray, List.set_cons_zero, List.set_cons_succ]
        refine wpAnyH_done (by kernel_rfl) ?_ _
        unfold restQ
        go_simp
        go_wp2_with fail
        have hnew : addE es e = es.take i ++ e :: es.drop i := by rw [H.out.2.2.1]; exact addE_fresh H.out.2.2.2.1.symm
        obtain ⟨es', hes'⟩ : ∃ es', es' = addE es e := ⟨_, rfl⟩
        rw [← hes'] at hnew
        have hnt : es'.take i = es.take i := by
          have hz := HIN.out
          have := H.out.2.1
          rw [hnew, List.take_append_of_le_length (by rw [List.length_take]; omega), List.take_of_length_le (by rw [List.length_take]; omega)]
        have hnl : es'.length = n + 1 := by
          have hz := HIN.out
          have := H.out.2.1
          rw [hnew, List.length_append, List.length_cons, List.length_take, List.length_drop]
          omega
        have hnw : ∀ x ∈ es', WfE x := fun x hx => by
          rw [hes'] at hx
          rcases mem_addE es e x hx with rfl | hx
          · exact H.out.2.2.2.2.2.2.2.1
          · exact H.out.2.2.2.2.2.2.1 x hx
        have hrd : Redo es' ((runD noneS es).take i ++ [⟨e, zeroT, false, false⟩] ++ (runD noneS es).drop i) i := by
          rw [hnew]
          exact Redo.start (by have := HIN.out; have := H.out.2.1; omega) rfl
        have H2 := Lib.hid (And.intro hnl (And.intro hnw hnt))
        have HRD := Lib.hid hrd
        rw [← hnt] at HJ
        have HES := Lib.hid hes'
        clear hnew hnt hnl hnw hrd hes' c7 d7
        obtain ⟨u2, hu2⟩ : ∃ u2, u2 = u + (n - i) := ⟨_, rfl⟩
        rw [← hu2] at HJ
        have HU2 := Lib.hid hu2
        clear hu2
        go_loopw [8] (fun jv wr => ∃ (j : Nat) (L : List DoV), jv = .int .i64 j ∧ j ≤ n + 1 ∧ Hid (Redo es' L j) ∧ Hid (AdR w t X e L (runS (es'.take j)) u2 wr)) (fun jv _ => (n + 1) - (intOf jv).toNat)
        case atStart => exact ⟨i, _, rfl, by have := HIN.out; omega, HRD, HJ⟩
        case round =>
          clear HJ HRD
          obtain ⟨j, L, rfl, hj, HRD, HI⟩ := hrel
          obtain ⟨⟨X1, T1, f1, hX1, hn1⟩, o1⟩ := HI.out
          obtain ⟨lv, mt, mk, n1, n2, V, hC⟩ := T1
          replace hC : TrC wr t X1 L (runS (es'.take j)) u2 lv mt mk n1 n2 V := hC
          obtain ⟨A2, cap2, hlv⟩ := hC.2.1.form
          rw [HRD.out.length, H2.out.1] at hlv
          subst hlv
          have c0 : wr.cell? ⟨t, 0, none⟩ = some (.slice A2 (n + 1) cap2) := hC.1.cell 0
          have hjn : (j : Int) ≤ 300 := by omega
          by_cases hgo : j < n + 1
          · as_aux_lemma =>
              have hlt : (j : Int) < ((n + 1 : Nat) : Int) := by omega
              obtain ⟨d, hd⟩ : ∃ d, L[j]? = some d := ⟨L[j]'(by rw [HRD.out.length, H2.out.1]; exact hgo), List.getElem?_eq_getElem _⟩
              have hes := HRD.out.at_ hd
              obtain ⟨g, hA, hrg⟩ := hC.2.1.range hd
              subst hA
              have hInv := run_inv (es'.take j) (by rw [List.length_take]; omega) (fun y hy => H2.out.2.1 y (List.mem_of_mem_take hy))
              have hxw := H2.out.2.1 d.e (List.mem_of_getElem? hes)
              have HDO := Lib.hid (fun (W : World) (hh : TrB W t X1 L (runS (es'.take j)) u2) => do_any (e := d.e) hh hInv (by rw [List.length_take]; omega) hxw.1 hxw.2)
              have HX := Lib.hid (And.intro hC (And.intro f1 (And.intro hX1 (And.intro hn1 (And.intro o1 (And.intro hd (And.intro hes (range_entry hrg))))))))
              have HS0 := Lib.hid (And.intro c0 (range_entry hrg))
              clear hC f1 hX1 hn1 o1 hd hes hrg hInv hxw HI
              go_wp2_with fail
              apply wp_region_partsK 15 (fun W' => W'.cell? ⟨t, 0, none⟩ = some (.slice (some ⟨g, 0, none⟩) (n + 1) cap2) ∧ W'.rangeAt g (j * 18) d.e.cs.toList)
              case hp => simp only [List.take_succ_cons, List.take_zero]; exact rfl
              case hd => simp only [List.drop_succ_cons, List.drop_zero]; exact rfl
              case hm => kernel_rfl
              case hB => kernel_rfl
              case hT => kernel_rfl
              have hS0 : wr.drew.cell? ⟨t, 0, none⟩ = some (.slice (some ⟨g, 0, none⟩) (n + 1) cap2) ∧ wr.drew.rangeAt g (j * 18) d.e.cs.toList := HS0.out
              refine wpAnyH_takeE (i := 0) (d := some 63) (v := .pointer (some ⟨t, 0, none⟩)) rfl rfl (by kernel_rfl) (by kernel_rfl) (by kernel_rfl) (fun _ _ _ h => h) (.inl ⟨by kernel_rfl, fun w' hS => ?t0⟩) hS0 ?_
              case t0 =>
                obtain ⟨m0, -⟩ := hS
                go_simp
              try simp only [Act.put, List.setIfInBounds_toArray, List.set_cons_zero, List.set_cons_succ]
              refine wpAnyH_takeE (i := 1) (d := some 64) (v := .pointer (some ⟨t, 0, none⟩)) rfl rfl (by kernel_rfl) (by kernel_rfl) (by kernel_rfl) (fun _ _ _ h => h) (.inl ⟨by kernel_rfl, fun w' hS => ?t1⟩) hS0 ?_
              case t1 =>
                obtain ⟨m0, -⟩ := hS
                go_simp
              try simp only [Act.put, List.setIfInBounds_toArray, List.set_cons_zero, List.set_cons_succ]
              refine wpAnyH_takeE (i := 2) (d := some 65) (v := .pointer (some ⟨t, 0, none⟩)) rfl rfl (by kernel_rfl) (by kernel_rfl) (by kernel_rfl) (fun _ _ _ h => h) (.inl ⟨by kernel_rfl, fun w' hS => ?t2⟩) hS0 ?_
              case t2 =>
                obtain ⟨m0, -⟩ := hS
                go_simp
              try simp only [Act.put, List.setIfInBounds_toArray, List.set_cons_zero, List.set_cons_succ]
              refine wpAnyH_takeE (i := 3) (d := some 66) (v := .slice (some ⟨g, 0, none⟩) (n + 1) cap2) rfl rfl (by kernel_rfl) (by kernel_rfl) (by kernel_rfl) (fun _ _ _ h => h) (.inl ⟨by kernel_rfl, fun w' hS => ?t3⟩) hS0 ?_
              case t3 =>
                obtain ⟨m0, -⟩ := hS
                go_simp
              try simp only [Act.put, List.setIfInBounds_toArray, List.set_cons_zero, List.set_cons_succ]
              refine wpAnyH_takeE (i := 4) (d := some 67) (v := .int .i64 (j : Nat)) rfl rfl (by kernel_rfl) (by kernel_rfl) (by kernel_rfl) (fun _ _ _ h => h) (.inl ⟨by kernel_rfl, fun w' hS => ?t4⟩) hS0 ?_
              case t4 =>
                obtain ⟨m0, -⟩ := hS
                go_simp
              try simp only [Act.put, List.setIfInBounds_toArray, List.set_cons_zero, List.set_cons_succ]
              refine wpAnyH_takeE (i := 5) (d := some 68) (v := .pointer (some ⟨t, 0, none⟩)) rfl rfl (by kernel_rfl) (by kernel_rfl) (by kernel_rfl) (fun _ _ _ h => h) (.inl ⟨by kernel_rfl, fun w' hS => ?t5⟩) hS0 ?_
              case t5 =>
                obtain ⟨m0, -⟩ := hS
                go_simp
              try simp only [Act.put, List.setIfInBounds_toArray, List.set_cons_zero, List.set_cons_succ]
              refine wpAnyH_takeE (i := 6) (d := some 69) (v := .pointer (some ⟨t, 0, none⟩)) rfl rfl (by kernel_rfl) (by kernel_rfl) (by kernel_rfl) (fun _ _ _ h => h) (.inl ⟨by kernel_rfl, fun w' hS => ?t6⟩) hS0 ?_
              case t6 =>
                obtain ⟨m0, -⟩ := hS
                go_simp
              try simp only [Act.put, List.setIfInBounds_toArray, List.set_cons_zero, List.set_cons_succ]
              refine wpAnyH_takeE (i := 7) (d := some 70) (v := .pointer (some ⟨t, 0, none⟩)) rfl rfl (by kernel_rfl) (by kernel_rfl) (by kernel_rfl) (fun _ _ _ h => h) (.inl ⟨by kernel_rfl, fun w' hS => ?t7⟩) hS0 ?_
              case t7 =>
                obtain ⟨m0, -⟩ := hS
                go_simp
              try simp only [Act.put, List.setIfInBounds_toArray, List.set_cons_zero, List.set_cons_succ]
              refine wpAnyH_takeE (i := 8) (d := some 71) (v := .pointer (some ⟨t, 0, none⟩)) rfl rfl (by kernel_rfl) (by kernel_rfl) (by kernel_rfl) (fun _ _ _ h => h) (.inl ⟨by kernel_rfl, fun w' hS => ?t8⟩) hS0 ?_
              case t8 =>
                obtain ⟨m0, -⟩ := hS
                go_simp
              try simp only [Act.put, List.setIfInBounds_toArray, List.set_cons_zero, List.set_cons_succ]
              refine wpAnyH_takeE (i := 9) (d := some 72) (v := .slice (some ⟨g, 0, none⟩) (n + 1) cap2) rfl rfl (by kernel_rfl) (by kernel_rfl) (by kernel_rfl) (fun _ _ _ h => h) (.inl ⟨by kernel_rfl, fun w' hS => ?t9⟩) hS0 ?_
              case t9 =>
                obtain ⟨m0, -⟩ := hS
                go_simp
              try simp only [Act.put, List.setIfInBounds_toArray, List.set_cons_zero, List.set_cons_succ]
              refine wpAnyH_takeE (i := 10) (d := some 73) (v := .int .i64 (j : Nat)) rfl rfl (by kernel_rfl) (by kernel_rfl) (by kernel_rfl) (fun _ _ _ h => h) (.inl ⟨by kernel_rfl, fun w' hS => ?t10⟩) hS0 ?_
              case t10 =>
                obtain ⟨m0, -⟩ := hS
                go_simp
              try simp only [Act.put, List.setIfInBounds_toArray, List.set_cons_zero, List.set_cons_succ]
              refine wpAnyH_takeE (i := 11) (d := some 74) (v := .pointer (some ⟨g, j * 18, none⟩)) rfl rfl (by kernel_rfl) (by kernel_rfl) (by kernel_rfl) (fun _ _ _ h => h) (.inl ⟨by kernel_rfl, fun w' hS => ?t11⟩) hS0 ?_
              case t11 =>
                obtain ⟨m0, -⟩ := hS
                go_simp
              try simp only [Act.put, List.setIfInBounds_toArray, List.set_cons_zero, List.set_cons_succ]
              refine wpAnyH_takeE (i := 12) (d := some 75) (v := .pointer (some ⟨g, j * 18, none⟩)) rfl rfl (by kernel_rfl) (by kernel_rfl) (by kernel_rfl) (fun _ _ _ h => h) (.inl ⟨by kernel_rfl, fun w' hS => ?t12⟩) hS0 ?_
              case t12 =>
                obtain ⟨m0, -⟩ := hS
                go_simp
              try simp only [Act.put, List.setIfInBounds_toArray, List.set_cons_zero, List.set_cons_succ]
              try simp only [Act.put, List.setIfInBounds_toArray, List.set_cons_zero, List.set_cons_succ]
              refine wpAnyH_takeE (i := 13) (d := some 76) (v := .agg #[.int .i64 d.e.op.kind, .int .u64 (d.e.op.count : Int), .int .i64 d.e.op.who, .int .u64 (d.e.op.thing : Int), .int .u64 (d.e.op.parent : Int), .string d.e.op.name, .bool d.e.op.dir, .string d.e.op.digest, .int .i64 d.e.op.size, .string d.e.hash]) rfl rfl (by kernel_rfl) (by kernel_rfl) (by kernel_rfl) (fun _ _ _ h => h) (yieldsIf_load_mid rfl 31 (.tmp 75) rfl g (j * 18) (by simp [Act.eval, Act.put]) d.e.cs.toList _ (fun w' hS => hS.2) Try.underlying31 rfl (by kernel_rfl)) hS0 ?_
              try simp only [Act.put, List.setIfInBounds_toArray, List.set_cons_zero, List.set_cons_succ]
              refine wpAnyH_oneK (i := 14) (by kernel_rfl) ?_
              refine wpOp_step rfl (fun K hK => ?_)
              go_simp
              obtain ⟨hC, f1, hX1, hn1, o1, hd, hes, hrg⟩ := HX.out
              refine (HDO.out _ (hC.of.new_ ((Fr.refl _ _).drew))).mono ?_
              rintro r7 W5 ⟨rfl, ⟨X5, t5, f5, hX5⟩, e5⟩
              obtain ⟨lv5, mt5, mk5, n15, n25, V5, C5⟩ := t5
              replace C5 : TrC W5 t X5 L (doS (runS (es'.take j)) d.e) u2 lv5 mt5 mk5 n15 n25 V5 := C5
              have o5 : Own W5 t 104 #[.slice (some ⟨g, 0, none⟩) (n + 1) cap2, .map (some mt), .map (some mk), .int .i64 u2] := hC.1.of_eq e5
              obtain rfl := own_fst C5.1 o5
              obtain ⟨g5, hA5, hrg5⟩ := C5.2.1.range hd
              obtain rfl : g5 = g := by injection hA5 with h; injection h with h; exact h.symm
              obtain ⟨g6, W6, hA6, hst, hd6, f6⟩ := C5.2.1.put (i := j) (by rw [HRD.out.length, H2.out.1]; exact hgo) (doD (runS (es'.take j)) d.e)
              obtain rfl : g6 = g5 := by injection hA6 with h; injection h with h; exact h.symm
              obtain ⟨C6, g6f⟩ := C5.row f6 hd6
              have HJ := Lib.hid (AdR.join f1 hX1 hn1 o1 ⟨X5, C6.of, (((Fr.refl _ _).drew).trans f5 fun _ _ e => e).trans g6f fun k hk e => (hX5 k e).elim id (fun h => by have h9 : wr.heap.size ≤ k := h; omega), hX5⟩)
              rw [← runS_take hes] at HJ
              have HRD' := Lib.hid (HRD.out.step hes)
              have hS5 : W5.cell? ⟨t, 0, none⟩ = some (.slice (some ⟨g6, 0, none⟩) (n + 1) cap2) ∧ W5.rangeAt g6 (j * 18) d.e.cs.toList := ⟨C5.1.cell 0, range_entry hrg5⟩
              refine hK _ _ ⟨hS5, ?_⟩
              clear hK K hC f1 hX1 hn1 o1 hd hes hrg f5 hX5 e5 C5 o5 hA5 hrg5 hA6 hd6 f6 C6 g6f hS5 hS0 HX HS0 HDO c0
              try simp only [Act.put, List.setIfInBounds_toArray, List.set_cons_zero, List.set_cons_succ]
              refine wpAnyH_done (by kernel_rfl) ?_ _
              unfold restQ
              go_simp
              go_step
              go_step
              go_step
              refine wpList_storeAt_run rfl 108 (.tmp 78) (.tmp 77) rfl (by simp [Act.eval]) (by simp [Act.eval]) hst ?_
              clear hst
              go_wp2_with fail
              refine ⟨⟨j + 1, _, by go_num, by omega, HRD', HJ⟩, ?_⟩
              simp [intOf]
              omega
          · have hge : ¬ (j : Int) < ((n + 1 : Nat) : Int) := by omega
            obtain rfl : j = n + 1 := by omega
            have HT := Lib.hid (show AdR w t X e L (runS (es'.take (n + 1))) u2 wr from HI.out)
            clear hC f1 hX1 hn1 o1 HI
            go_wp2_with fail
            go_ret
            refine ⟨rfl, ?_⟩
            have hL : L = runD noneS es' := (show Redo es' L es'.length by rw [H2.out.1]; exact HRD.out).end_
            have hT := HT.out.to
            rw [List.take_of_length_le (by rw [H2.out.1]; exact Nat.le_refl _), hL, HU2.out, HES.out] at hT
            exact hT
end Go.Proofs.Ytedfgbkaijjaeaa
