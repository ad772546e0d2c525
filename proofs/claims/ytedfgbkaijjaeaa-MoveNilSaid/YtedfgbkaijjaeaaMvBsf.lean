/- The rows of what was done: searched by an operation. -/
import Derived.Test.YtedfgbkaijjaeaaMvCmp
import Derived.Test.YtedfgbkaijjaeaaMvAddP
import Derived.Test.YtedfgbkaijjaeaaMvStore
import Derived.LoopTactic
namespace Go.Proofs.Ytedfgbkaijjaeaa
open Go.RowKit Go.Maps
set_option linter.unusedVariables false
set_option linter.unusedSimpArgs false

theorem wpAnyH_oneK {P : Program} {md : Region.Mode} {ops : Array Oper} {Q : Exit → Act → World → Prop} {S : World → Prop} {i : Nat} {fuel : Nat} {listed : Array Bool} {a : Act} {w : World} (hr : Region.ready md ops listed = [i])
    (h : wpOp P ops Q i (fun a' w' => S w' ∧ wpAnyH P md ops Q S fuel (listed.setIfInBounds i true) a' w') a w) : wpAnyH P md ops Q S (fuel + 1) listed a w :=
  wpAnyH_all hr (by simp) fun j hj => by
    rw [List.mem_singleton] at hj
    subst hj
    exact h
theorem wpAnyH_takeE {P : Program} {md : Region.Mode} {ops : Array Oper} {Q : Exit → Act → World → Prop} {S : World → Prop} {i : Nat} {oi : Oper} {d : Option Tmp} {v : Value} {fuel : Nat} {listed : Array Bool} {a : Act} {w : World} (hi : ops[i]? = some oi) (hd : oi.dst = d)
    (hs : Region.noSelect ops = true) (hf : Region.free md ops listed i = true) (hr : (Region.ready md ops listed).contains i = true)
    (hQ : ∀ c a w, Q (.panic c) (a.put oi.dst v) w → Q (.panic c) a w) (hy : YieldsIf P ops S oi v a) (hS : S w)
    (h : wpAnyH P md ops Q S fuel (listed.setIfInBounds i true) (a.put d v) w) : wpAnyH P md ops Q S (fuel + 1) listed a w := by
  subst hd
  exact wpAnyH_take hi hs hf hr hQ hy hS h
set_option maxHeartbeats 4000000 in
theorem add1_any (d : DoV) (e : EnV) (w : World) : Calls Try.prog 49 #[d.val, e.val] w fun r W => r = .returned (.int .i64 (cmpE d.e e)) ∧ New w W := by
  have HC := fun W => cmpE_any d.e e W
  obtain ⟨c, hc⟩ : ∃ c, c = cmpE d.e e := ⟨_, rfl⟩
  rw [← hc] at HC ⊢
  clear hc
  unfold DoV.val DoV.cs EnV.val EnV.cs
  unfold EnV.val EnV.cs at HC
  replace HC := Lib.hid HC
  go_enter Try.func49, Try.ntmps49
  go_wp2_with (go_at_call 9; refine (HC.out _).mono ?_; rintro e w' ⟨rfl, hn⟩)
  go_ret
  exact ⟨rfl, (((Fr.refl _ _).alloc _).alloc _).new_ hn⟩
theorem dCells_at : ∀ (l : List DoV) (i : Nat) (d : DoV), l[i]? = some d → ∀ j u, d.cs.toList[j]? = some u → (dCells l)[i * 18 + j]? = some u
  | p :: l, 0, d, h, j, u, hu => by
    simp at h
    subst h
    have hj : j < 18 := by have := (List.getElem?_eq_some_iff.1 hu).1; simpa using this
    rw [Nat.zero_mul, Nat.zero_add]
    show (p.cs.toList ++ dCells l)[j]? = some u
    rw [List.getElem?_append_left (by simpa using hj)]
    exact hu
  | p :: l, i + 1, d, h, j, u, hu => by
    have := dCells_at l i d (by simpa using h) j u hu
    rw [show (i + 1) * 18 + j = (i * 18 + j) + 18 by omega]
    show (p.cs.toList ++ dCells l)[i * 18 + j + 18]? = some u
    rw [List.getElem?_append_right (by simp)]
    simpa using this
theorem DL.range {W : World} {A : Option Addr} {n cap : Nat} {l : List DoV} (h : DL W (.slice A n cap) l) {i : Nat} {d : DoV} (hd : l[i]? = some d) : ∃ g, A = some ⟨g, 0, none⟩ ∧ W.rangeAt g (i * 18) d.cs.toList := by
  obtain ⟨A', cap', e⟩ := h.form
  injection e with e1 e2 e3
  have hi : i < n := by rw [e2]; exact (List.getElem?_eq_some_iff.1 hd).1
  obtain ⟨g, hg, hc⟩ := h.at_ hi
  refine ⟨g, hg, fun j v hv => ?_⟩
  exact hc j v (dCells_at l i d hd j v hv) (by have := (List.getElem?_eq_some_iff.1 hv).1; simpa using this)
theorem range_new {w w' : World} {b o : Nat} {cs : List Value} (h : w.rangeAt b o cs) (f : New w w') : w'.rangeAt b o cs := fun j v hv => by
  have hlt := World.block_lt_of_cell? w _ (h j v hv)
  have hb := f.block b hlt (fun g => g)
  rw [← h j v hv]
  unfold World.cell?
  rw [hb]
theorem lowE_iff {l : List EnV} (h : UpE l) {e y : EnV} {k : Nat} (hy : l[k]? = some y) : ltE y e ↔ k < lowE l e := by
  constructor
  · intro hl
    exact Nat.lt_of_not_le fun hk => lowE_ge h hk hy hl
  · intro hk
    exact lowE_lt hk hy
set_option maxRecDepth 100000 in
set_option maxHeartbeats 8000000 in
theorem bsf_any {w : World} {A : Option Addr} {n cap : Nat} {l : List DoV} (h : DL w (.slice A n cap) l) (hn : n = l.length) (hl : n ≤ 100000) (hu : UpE (l.map (·.e))) (e : EnV) :
    Calls Try.prog 48 #[.slice A n cap, e.val, .func (.func 49) #[] #[]] w fun r W => r = .returned (.tuple #[.int .i64 (lowE (l.map (·.e)) e : Nat), .bool (!freshE (l.map (·.e)) e)]) ∧ New w W := by
  obtain ⟨p, hp⟩ : ∃ p, p = lowE (l.map (·.e)) e := ⟨_, rfl⟩
  obtain ⟨f, hf⟩ : ∃ f, f = !freshE (l.map (·.e)) e := ⟨_, rfl⟩
  have hpn : p ≤ n := by have h9 := lowE_le (l.map (·.e)) e; rw [List.length_map] at h9; omega
  have HI := Lib.hid fun (k : Nat) (d : DoV) (hd : l[k]? = some d) => (hp ▸ lowE_iff hu (e := e) (show (l.map (·.e))[k]? = some d.e by rw [List.getElem?_map, hd]; rfl) : ltE d.e e ↔ k < p)
  have HG := Lib.hid fun (k : Nat) (hk : k < n) => (⟨l[k]'(by omega), List.getElem?_eq_getElem _⟩ : ∃ d, l[k]? = some d)
  have HL := Lib.hid h
  have HF : Hid (f = match (l.map (·.e))[p]? with | some x => decide (cmpE x e = 0) | none => false) := by
    refine Lib.hid ?_
    rw [hf, hp]
    unfold freshE
    rw [Bool.not_not]
    cases (l.map (·.e))[lowE (l.map (·.e)) e]? with
    | none => rfl
    | some x =>
      simp only [decide_eq_decide]
      exact ((cmpE_three x e).2.1).symm
  have HN := Lib.hid hn
  rw [← hp, ← hf]
  clear hp hf
  have hl' : (n : Int) ≤ 100000 := by omega
  have HA := Lib.hid (fun (d : DoV) W => add1_any d e W)
  obtain ⟨ev, hev⟩ : ∃ ev, ev = e.val := ⟨_, rfl⟩
  have HEV := Lib.hid hev
  have hev' : e.val = .agg #[.int .i64 e.op.kind, .int .u64 (e.op.count : Int), .int .i64 e.op.who, .int .u64 (e.op.thing : Int), .int .u64 (e.op.parent : Int), .string e.op.name, .bool e.op.dir, .string e.op.digest, .int .i64 e.op.size, .string e.hash] := rfl
  rw [hev']
  clear h hn hu hl hev hev'
  have hN0 : New w (w.alloc (.cells #[.int .i64 e.op.kind, .int .u64 (e.op.count : Int), .int .i64 e.op.who, .int .u64 (e.op.thing : Int), .int .u64 (e.op.parent : Int), .string e.op.name, .bool e.op.dir, .string e.op.digest, .int .i64 e.op.size, .string e.hash] 31)) := (Fr.refl _ _).alloc _
  have hO0 : Own (w.alloc (.cells #[.int .i64 e.op.kind, .int .u64 (e.op.count : Int), .int .i64 e.op.who, .int .u64 (e.op.thing : Int), .int .u64 (e.op.parent : Int), .string e.op.name, .bool e.op.dir, .string e.op.digest, .int .i64 e.op.size, .string e.hash] 31)) w.heap.size 31 #[.int .i64 e.op.kind, .int .u64 (e.op.count : Int), .int .i64 e.op.who, .int .u64 (e.op.thing : Int), .int .u64 (e.op.parent : Int), .string e.op.name, .bool e.op.dir, .string e.op.digest, .int .i64 e.op.size, .string e.hash] := Own.fresh _ _ _
  go_enter Try.func48, Try.ntmps48
  go_wp2_with fail
  obtain ⟨W1, hW1⟩ : ∃ W1, W1 = w.alloc (.cells #[.int .i64 e.op.kind, .int .u64 (e.op.count : Int), .int .i64 e.op.who, .int .u64 (e.op.thing : Int), .int .u64 (e.op.parent : Int), .string e.op.name, .bool e.op.dir, .string e.op.digest, .int .i64 e.op.size, .string e.hash] 31) := ⟨_, rfl⟩
  rw [← hW1] at hN0 hO0 ⊢
  clear hW1
  have HO := Lib.hid (And.intro hN0 hO0)
  clear hN0 hO0
  go_loopw [9, 10] (fun iv jv wr => ∃ i j : Nat, iv = .int .i64 i ∧ jv = .int .i64 j ∧ i ≤ p ∧ p ≤ j ∧ j ≤ n ∧ New W1 wr) (fun iv jv _ => (intOf jv).toNat - (intOf iv).toNat)
  case atStart => exact ⟨0, n, rfl, rfl, Nat.zero_le _, hpn, Nat.le_refl _, Fr.refl _ _⟩
  case round =>
    obtain ⟨i, j, rfl, rfl, h1, h2, h3, hnw⟩ := hrel
    have hO := HO.out.2.new_ hnw
    have HNW := Lib.hid hnw
    clear hnw
    by_cases hij : i < j
    · have hij' : (i : Int) < (j : Int) := by omega
      have hj' : (j : Int) ≤ 100000 := by omega
      obtain ⟨m, hm⟩ : ∃ m : Nat, ((i : Int) + (j : Int)) / 2 = (m : Int) := ⟨(i + j) / 2, by omega⟩
      have hm1 : i ≤ m ∧ m < j := by omega
      obtain ⟨d, hd⟩ := HG.out m (by omega)
      obtain ⟨g, hA, hr⟩ := ((HL.out.new_ HO.out.1).new_ HNW.out).range hd
      have hmn : (m : Int) < (n : Int) := by omega
      have HD := Lib.hid hd
      have HM := Lib.hid (And.intro hr hO)
      have HAA := Lib.hid hA
      clear hr hO hd hA
      obtain ⟨c, hc⟩ : ∃ c, c = cmpE d.e e := ⟨_, rfl⟩
      have HC := Lib.hid hc
      clear hc
      obtain rfl := HAA.out
      go_wp2_with fail
      refine wp_region_heldE (fun W' => New wr W') (by kernel_rfl) ?_
      have hS0 : New wr wr.drew := (Fr.refl _ _).drew
      refine wpAnyH_take (i := 0) (v := .func (.func 49) #[] #[]) rfl (by kernel_rfl) (by kernel_rfl) (by kernel_rfl) (fun _ _ _ h => h) (.inl ⟨rfl, fun w' hS => ?t0⟩) hS0 ?_
      case t0 =>
        go_simp
      refine wpAnyH_take (i := 1) (v := .slice (some ⟨g, 0, none⟩) n cap) rfl (by kernel_rfl) (by kernel_rfl) (by kernel_rfl) (fun _ _ _ h => h) (.inl ⟨rfl, fun w' hS => ?t1⟩) hS0 ?_
      case t1 =>
        go_simp
      refine wpAnyH_take (i := 2) (v := .int .i64 (m : Nat)) rfl (by kernel_rfl) (by kernel_rfl) (by kernel_rfl) (fun _ _ _ h => h) (.inl ⟨rfl, fun w' hS => ?t2⟩) hS0 ?_
      case t2 =>
        go_simp
      refine wpAnyH_take (i := 3) (v := .pointer (some ⟨g, m * 18, none⟩)) rfl (by kernel_rfl) (by kernel_rfl) (by kernel_rfl) (fun _ _ _ h => h) (.inl ⟨rfl, fun w' hS => ?t3⟩) hS0 ?_
      case t3 =>
        go_simp
      try simp only [Act.put, List.setIfInBounds_toArray, List.set_cons_zero, List.set_cons_succ]
      refine wpAnyH_takeE (i := 4) (d := some 28) (v := .agg #[.int .i64 d.e.op.kind, .int .u64 (d.e.op.count : Int), .int .i64 d.e.op.who, .int .u64 (d.e.op.thing : Int), .int .u64 (d.e.op.parent : Int), .string d.e.op.name, .bool d.e.op.dir, .string d.e.op.digest, .int .i64 d.e.op.size, .string d.e.hash, .int .u64 (d.was.id : Int), .int .u64 (d.was.parent : Int), .string d.was.name, .bool d.was.dir, .string d.was.dg, .int .i64 d.was.size, .bool d.there, .bool d.did]) rfl rfl (by kernel_rfl) (by kernel_rfl) (by kernel_rfl) (fun _ _ _ h => h) (yieldsIf_load_mid (rfl) 108 (.tmp 27) rfl g (m * 18) (by simp [Act.eval, Act.put]) d.cs.toList _ (fun w' hS => range_new HM.out.1 hS) Try.underlying108 rfl (by kernel_rfl)) hS0 ?_
      refine wpAnyH_takeE (i := 5) (d := some 29) (v := .agg #[.int .i64 e.op.kind, .int .u64 (e.op.count : Int), .int .i64 e.op.who, .int .u64 (e.op.thing : Int), .int .u64 (e.op.parent : Int), .string e.op.name, .bool e.op.dir, .string e.op.digest, .int .i64 e.op.size, .string e.hash]) rfl rfl (by kernel_rfl) (by kernel_rfl) (by kernel_rfl) (fun _ _ _ h => h) (yieldsIf_load_mid (rfl) 31 (.tmp 4) rfl w.heap.size (0) (by simp [Act.eval, Act.put]) e.cs.toList _ (fun w' hS => (HM.out.2.new_ hS).range) Try.underlying31 rfl (by kernel_rfl)) hS0 ?_
      refine wpAnyH_oneK (i := 6) (by kernel_rfl) ?_
      refine wpOp_step rfl (fun K hK => ?_)
      go_simp
      refine (HA.out d _).mono ?_
      rintro e W2 ⟨rfl, n2⟩
      rw [← HC.out]
      have hS2 := hS0.new_ n2
      refine hK _ _ ⟨hS2, ?_⟩
      clear hK K
      try simp only [Act.put, List.setIfInBounds_toArray, List.set_cons_zero, List.set_cons_succ]
      refine wpAnyH_oneK (i := 7) (by kernel_rfl) ?_
      refine wpOp_step rfl (fun K hK => ?_)
      go_simp
      refine hK _ _ ⟨hS2, ?_⟩
      clear hK K
      try simp only [Act.put, List.setIfInBounds_toArray, List.set_cons_zero, List.set_cons_succ]
      refine wpAnyH_done (by kernel_rfl) ?_ _
      have HS2 := Lib.hid hS2
      clear hS2 hS0 n2
      by_cases hlt : c < 0
      · have h4 : m < p := (HI.out m d HD.out).1 ((cmpE_three d.e e).1.1 (HC.out ▸ hlt))
        go_wp2_with fail
        refine ⟨⟨m + 1, j, by go_num, rfl, by omega, h2, h3, HNW.out.new_ HS2.out⟩, ?_⟩
        show (j : Int).toNat - ((m : Int) + 1).toNat < (j : Int).toNat - (i : Int).toNat
        omega
      · have h4 : p ≤ m := Nat.le_of_not_lt fun h => hlt (HC.out ▸ (cmpE_three d.e e).1.2 ((HI.out m d HD.out).2 h))
        go_wp2_with fail
        refine ⟨⟨i, m, rfl, rfl, h1, h4, by omega, HNW.out.new_ HS2.out⟩, ?_⟩
        show (m : Int).toNat - (i : Int).toNat < (j : Int).toNat - (i : Int).toNat
        omega
    · have hij' : ¬ (i : Int) < (j : Int) := by omega
      obtain rfl : i = p := by omega
      by_cases hin : i < n
      · have hin' : (i : Int) < (n : Int) := by omega
        obtain ⟨d, hd⟩ := HG.out i hin
        obtain ⟨g, hA, hr⟩ := ((HL.out.new_ HO.out.1).new_ HNW.out).range hd
        have HM := Lib.hid (And.intro hr hO)
        have HAA := Lib.hid hA
        obtain ⟨c, hc⟩ : ∃ c, c = cmpE d.e e := ⟨_, rfl⟩
        have hf : f = decide (c = 0) := by
          have := HF.out
          rw [show (l.map (·.e))[i]? = some d.e by rw [List.getElem?_map, hd]; rfl] at this
          rw [this, hc]
        have hcf : (c == 0) = f := by rw [hf]; rfl
        have HC := Lib.hid (And.intro hc hf)
        clear hr hO hd hA hc hf h2 hpn
        obtain rfl := HAA.out
        go_wp2_with fail
        refine wp_region_heldE (fun W' => New wr W') (by kernel_rfl) ?_
        have hS0 : New wr wr.drew := (Fr.refl _ _).drew
        refine wpAnyH_takeE (i := 0) (d := some 35) (v := .int .i64 (i : Nat)) rfl rfl (by kernel_rfl) (by kernel_rfl) (by kernel_rfl) (fun _ _ _ h => h) (.inl ⟨by kernel_rfl, fun w' hS => ?t0⟩) hS0 ?_
        case t0 =>
          go_simp
        try simp only [Act.put, List.setIfInBounds_toArray, List.set_cons_zero, List.set_cons_succ]
        refine wpAnyH_takeE (i := 1) (d := some 36) (v := .int .i64 (i : Nat)) rfl rfl (by kernel_rfl) (by kernel_rfl) (by kernel_rfl) (fun _ _ _ h => h) (.inl ⟨by kernel_rfl, fun w' hS => ?t1⟩) hS0 ?_
        case t1 =>
          go_simp
        try simp only [Act.put, List.setIfInBounds_toArray, List.set_cons_zero, List.set_cons_succ]
        refine wpAnyH_takeE (i := 2) (d := some 37) (v := .int .i64 (n : Nat)) rfl rfl (by kernel_rfl) (by kernel_rfl) (by kernel_rfl) (fun _ _ _ h => h) (.inl ⟨by kernel_rfl, fun w' hS => ?t2⟩) hS0 ?_
        case t2 =>
          go_simp
        try simp only [Act.put, List.setIfInBounds_toArray, List.set_cons_zero, List.set_cons_succ]
        refine wpAnyH_takeE (i := 3) (d := some 38) (v := .bool true) rfl rfl (by kernel_rfl) (by kernel_rfl) (by kernel_rfl) (fun _ _ _ h => h) (.inl ⟨by kernel_rfl, fun w' hS => ?t3⟩) hS0 ?_
        case t3 =>
          go_simp
        try simp only [Act.put, List.setIfInBounds_toArray, List.set_cons_zero, List.set_cons_succ]
        refine wpAnyH_takeE (i := 4) (d := some 39) (v := .bool true) rfl rfl (by kernel_rfl) (by kernel_rfl) (by kernel_rfl) (fun _ _ _ h => h) (.inl ⟨by kernel_rfl, fun w' hS => ?t4⟩) hS0 ?_
        case t4 =>
          go_simp
        try simp only [Act.put, List.setIfInBounds_toArray, List.set_cons_zero, List.set_cons_succ]
        refine wpAnyH_takeE (i := 5) (d := some 40) (v := .func (.func 49) #[] #[]) rfl rfl (by kernel_rfl) (by kernel_rfl) (by kernel_rfl) (fun _ _ _ h => h) (.inl ⟨by kernel_rfl, fun w' hS => ?t5⟩) hS0 ?_
        case t5 =>
          go_simp
        try simp only [Act.put, List.setIfInBounds_toArray, List.set_cons_zero, List.set_cons_succ]
        refine wpAnyH_takeE (i := 6) (d := some 41) (v := .slice (some ⟨g, 0, none⟩) n cap) rfl rfl (by kernel_rfl) (by kernel_rfl) (by kernel_rfl) (fun _ _ _ h => h) (.inl ⟨by kernel_rfl, fun w' hS => ?t6⟩) hS0 ?_
        case t6 =>
          go_simp
        try simp only [Act.put, List.setIfInBounds_toArray, List.set_cons_zero, List.set_cons_succ]
        refine wpAnyH_takeE (i := 7) (d := some 42) (v := .int .i64 (i : Nat)) rfl rfl (by kernel_rfl) (by kernel_rfl) (by kernel_rfl) (fun _ _ _ h => h) (.inl ⟨by kernel_rfl, fun w' hS => ?t7⟩) hS0 ?_
        case t7 =>
          go_simp
        try simp only [Act.put, List.setIfInBounds_toArray, List.set_cons_zero, List.set_cons_succ]
        refine wpAnyH_takeE (i := 8) (d := some 43) (v := .pointer (some ⟨g, i * 18, none⟩)) rfl rfl (by kernel_rfl) (by kernel_rfl) (by kernel_rfl) (fun _ _ _ h => h) (.inl ⟨by kernel_rfl, fun w' hS => ?t8⟩) hS0 ?_
        case t8 =>
          go_simp
        try simp only [Act.put, List.setIfInBounds_toArray, List.set_cons_zero, List.set_cons_succ]
        try simp only [Act.put, List.setIfInBounds_toArray, List.set_cons_zero, List.set_cons_succ]
        refine wpAnyH_takeE (i := 9) (d := some 44) (v := .agg #[.int .i64 d.e.op.kind, .int .u64 (d.e.op.count : Int), .int .i64 d.e.op.who, .int .u64 (d.e.op.thing : Int), .int .u64 (d.e.op.parent : Int), .string d.e.op.name, .bool d.e.op.dir, .string d.e.op.digest, .int .i64 d.e.op.size, .string d.e.hash, .int .u64 (d.was.id : Int), .int .u64 (d.was.parent : Int), .string d.was.name, .bool d.was.dir, .string d.was.dg, .int .i64 d.was.size, .bool d.there, .bool d.did]) rfl rfl (by kernel_rfl) (by kernel_rfl) (by kernel_rfl) (fun _ _ _ h => h) (yieldsIf_load_mid (by kernel_rfl) 108 (.tmp 43) rfl g (i * 18) (by simp [Act.eval, Act.put]) d.cs.toList _ (fun w' hS => range_new HM.out.1 hS) Try.underlying108 rfl (by kernel_rfl)) hS0 ?_
        try simp only [Act.put, List.setIfInBounds_toArray, List.set_cons_zero, List.set_cons_succ]
        refine wpAnyH_takeE (i := 10) (d := some 45) (v := .agg #[.int .i64 e.op.kind, .int .u64 (e.op.count : Int), .int .i64 e.op.who, .int .u64 (e.op.thing : Int), .int .u64 (e.op.parent : Int), .string e.op.name, .bool e.op.dir, .string e.op.digest, .int .i64 e.op.size, .string e.hash]) rfl rfl (by kernel_rfl) (by kernel_rfl) (by kernel_rfl) (fun _ _ _ h => h) (yieldsIf_load_mid (by kernel_rfl) 31 (.tmp 4) rfl w.heap.size (0) (by simp [Act.eval, Act.put]) e.cs.toList _ (fun w' hS => (HM.out.2.new_ hS).range) Try.underlying31 rfl (by kernel_rfl)) hS0 ?_
        try simp only [Act.put, List.setIfInBounds_toArray, List.set_cons_zero, List.set_cons_succ]
        refine wpAnyH_oneK (i := 11) (by kernel_rfl) ?_
        refine wpOp_step rfl (fun K hK => ?_)
        go_simp
        refine (HA.out d _).mono ?_
        rintro e W2 ⟨rfl, n2⟩
        rw [← HC.out.1]
        have hS2 := hS0.new_ n2
        refine hK _ _ ⟨hS2, ?_⟩
        clear hK K
        try simp only [Act.put, List.setIfInBounds_toArray, List.set_cons_zero, List.set_cons_succ]
        refine wpAnyH_takeE (i := 12) (d := some 47) (v := .bool f) rfl rfl (by kernel_rfl) (by kernel_rfl) (by kernel_rfl) (fun _ _ _ h => h) (.inl ⟨by kernel_rfl, fun w' hS => ?t12⟩) hS2 ?_
        case t12 =>
          go_simp
        try simp only [Act.put, List.setIfInBounds_toArray, List.set_cons_zero, List.set_cons_succ]
        refine wpAnyH_takeE (i := 13) (d := some 48) (v := .bool f) rfl rfl (by kernel_rfl) (by kernel_rfl) (by kernel_rfl) (fun _ _ _ h => h) (.inl ⟨by kernel_rfl, fun w' hS => ?t13⟩) hS2 ?_
        case t13 =>
          go_simp
        try simp only [Act.put, List.setIfInBounds_toArray, List.set_cons_zero, List.set_cons_succ]
        refine wpAnyH_takeE (i := 14) (d := some 6) (v := .int .i64 (i : Nat)) rfl rfl (by kernel_rfl) (by kernel_rfl) (by kernel_rfl) (fun _ _ _ h => h) (.inl ⟨by kernel_rfl, fun w' hS => ?t14⟩) hS2 ?_
        case t14 =>
          go_simp
        try simp only [Act.put, List.setIfInBounds_toArray, List.set_cons_zero, List.set_cons_succ]
        refine wpAnyH_takeE (i := 15) (d := some 7) (v := .bool f) rfl rfl (by kernel_rfl) (by kernel_rfl) (by kernel_rfl) (fun _ _ _ h => h) (.inl ⟨by kernel_rfl, fun w' hS => ?t15⟩) hS2 ?_
        case t15 =>
          go_simp
        try simp only [Act.put, List.setIfInBounds_toArray, List.set_cons_zero, List.set_cons_succ]
        try simp only [Act.put, List.setIfInBounds_toArray, List.set_cons_zero, List.set_cons_succ]
        refine wpAnyH_done (by kernel_rfl) ?_ _
        have HS2 := Lib.hid hS2
        clear hS2
        go_wp2_with fail
        exact bodyPost_ret (v := .tuple #[.int .i64 i, .bool f]) (by simp [results, Try.results48, go_sem, *]) rfl ⟨rfl, (HO.out.1.new_ HNW.out).new_ HS2.out⟩
      · have hin' : ¬ (i : Int) < (n : Int) := by omega
        have hf : f = false := by
          have := HF.out
          rw [List.getElem?_eq_none (by rw [List.length_map, ← HN.out]; omega)] at this
          exact this
        subst hf
        clear hO h2 hpn
        go_wp2_with fail
        refine wp_region_heldE (fun W' => New wr W') (by kernel_rfl) ?_
        have hS2 : New wr wr.drew := (Fr.refl _ _).drew
        refine wpAnyH_takeE (i := 0) (d := some 35) (v := .int .i64 (i : Nat)) rfl rfl (by kernel_rfl) (by kernel_rfl) (by kernel_rfl) (fun _ _ _ h => h) (.inl ⟨by kernel_rfl, fun w' hS => ?t0⟩) hS2 ?_
        case t0 =>
          go_simp
        try simp only [Act.put, List.setIfInBounds_toArray, List.set_cons_zero, List.set_cons_succ]
        refine wpAnyH_takeE (i := 1) (d := some 36) (v := .int .i64 (i : Nat)) rfl rfl (by kernel_rfl) (by kernel_rfl) (by kernel_rfl) (fun _ _ _ h => h) (.inl ⟨by kernel_rfl, fun w' hS => ?t1⟩) hS2 ?_
        case t1 =>
          go_simp
        try simp only [Act.put, List.setIfInBounds_toArray, List.set_cons_zero, List.set_cons_succ]
        refine wpAnyH_takeE (i := 2) (d := some 37) (v := .int .i64 (n : Nat)) rfl rfl (by kernel_rfl) (by kernel_rfl) (by kernel_rfl) (fun _ _ _ h => h) (.inl ⟨by kernel_rfl, fun w' hS => ?t2⟩) hS2 ?_
        case t2 =>
          go_simp
        try simp only [Act.put, List.setIfInBounds_toArray, List.set_cons_zero, List.set_cons_succ]
        refine wpAnyH_takeE (i := 3) (d := some 38) (v := .bool false) rfl rfl (by kernel_rfl) (by kernel_rfl) (by kernel_rfl) (fun _ _ _ h => h) (.inl ⟨by kernel_rfl, fun w' hS => ?t3⟩) hS2 ?_
        case t3 =>
          go_simp
        try simp only [Act.put, List.setIfInBounds_toArray, List.set_cons_zero, List.set_cons_succ]
        refine wpAnyH_takeE (i := 4) (d := some 39) (v := .bool false) rfl rfl (by kernel_rfl) (by kernel_rfl) (by kernel_rfl) (fun _ _ _ h => h) (.inl ⟨by kernel_rfl, fun w' hS => ?t4⟩) hS2 ?_
        case t4 =>
          go_simp
        try simp only [Act.put, List.setIfInBounds_toArray, List.set_cons_zero, List.set_cons_succ]
        try simp only [Act.put, List.setIfInBounds_toArray, List.set_cons_zero, List.set_cons_succ]
        refine wpAnyH_takeE (i := 5) (d := some 40) (v := undef) rfl rfl (by kernel_rfl) (by kernel_rfl) (by kernel_rfl) (fun _ _ _ h => h) (.inr ⟨by kernel_rfl, rfl⟩) hS2 ?_
        try simp only [Act.put, List.setIfInBounds_toArray, List.set_cons_zero, List.set_cons_succ]
        refine wpAnyH_takeE (i := 6) (d := some 41) (v := undef) rfl rfl (by kernel_rfl) (by kernel_rfl) (by kernel_rfl) (fun _ _ _ h => h) (.inr ⟨by kernel_rfl, rfl⟩) hS2 ?_
        try simp only [Act.put, List.setIfInBounds_toArray, List.set_cons_zero, List.set_cons_succ]
        refine wpAnyH_takeE (i := 7) (d := some 42) (v := undef) rfl rfl (by kernel_rfl) (by kernel_rfl) (by kernel_rfl) (fun _ _ _ h => h) (.inr ⟨by kernel_rfl, rfl⟩) hS2 ?_
        try simp only [Act.put, List.setIfInBounds_toArray, List.set_cons_zero, List.set_cons_succ]
        refine wpAnyH_takeE (i := 8) (d := some 43) (v := undef) rfl rfl (by kernel_rfl) (by kernel_rfl) (by kernel_rfl) (fun _ _ _ h => h) (.inr ⟨by kernel_rfl, rfl⟩) hS2 ?_
        try simp only [Act.put, List.setIfInBounds_toArray, List.set_cons_zero, List.set_cons_succ]
        refine wpAnyH_takeE (i := 9) (d := some 44) (v := undef) rfl rfl (by kernel_rfl) (by kernel_rfl) (by kernel_rfl) (fun _ _ _ h => h) (.inr ⟨by kernel_rfl, rfl⟩) hS2 ?_
        try simp only [Act.put, List.setIfInBounds_toArray, List.set_cons_zero, List.set_cons_succ]
        refine wpAnyH_takeE (i := 10) (d := some 45) (v := undef) rfl rfl (by kernel_rfl) (by kernel_rfl) (by kernel_rfl) (fun _ _ _ h => h) (.inr ⟨by kernel_rfl, rfl⟩) hS2 ?_
        try simp only [Act.put, List.setIfInBounds_toArray, List.set_cons_zero, List.set_cons_succ]
        refine wpAnyH_takeE (i := 11) (d := some 46) (v := undef) rfl rfl (by kernel_rfl) (by kernel_rfl) (by kernel_rfl) (fun _ _ _ h => h) (.inr ⟨by kernel_rfl, rfl⟩) hS2 ?_
        try simp only [Act.put, List.setIfInBounds_toArray, List.set_cons_zero, List.set_cons_succ]
        refine wpAnyH_takeE (i := 12) (d := some 47) (v := undef) rfl rfl (by kernel_rfl) (by kernel_rfl) (by kernel_rfl) (fun _ _ _ h => h) (.inr ⟨by kernel_rfl, rfl⟩) hS2 ?_
        try simp only [Act.put, List.setIfInBounds_toArray, List.set_cons_zero, List.set_cons_succ]
        refine wpAnyH_takeE (i := 13) (d := some 48) (v := .bool false) rfl rfl (by kernel_rfl) (by kernel_rfl) (by kernel_rfl) (fun _ _ _ h => h) (.inl ⟨by kernel_rfl, fun w' hS => ?t13⟩) hS2 ?_
        case t13 =>
          go_simp
        try simp only [Act.put, List.setIfInBounds_toArray, List.set_cons_zero, List.set_cons_succ]
        refine wpAnyH_takeE (i := 14) (d := some 6) (v := .int .i64 (i : Nat)) rfl rfl (by kernel_rfl) (by kernel_rfl) (by kernel_rfl) (fun _ _ _ h => h) (.inl ⟨by kernel_rfl, fun w' hS => ?t14⟩) hS2 ?_
        case t14 =>
          go_simp
        try simp only [Act.put, List.setIfInBounds_toArray, List.set_cons_zero, List.set_cons_succ]
        refine wpAnyH_takeE (i := 15) (d := some 7) (v := .bool false) rfl rfl (by kernel_rfl) (by kernel_rfl) (by kernel_rfl) (fun _ _ _ h => h) (.inl ⟨by kernel_rfl, fun w' hS => ?t15⟩) hS2 ?_
        case t15 =>
          go_simp
        try simp only [Act.put, List.setIfInBounds_toArray, List.set_cons_zero, List.set_cons_succ]
        try simp only [Act.put, List.setIfInBounds_toArray, List.set_cons_zero, List.set_cons_succ]
        refine wpAnyH_done (by kernel_rfl) ?_ _
        have HS2 := Lib.hid hS2
        clear hS2
        go_wp2_with fail
        exact bodyPost_ret (v := .tuple #[.int .i64 i, .bool false]) (by simp [results, Try.results48, go_sem, *]) rfl ⟨rfl, (HO.out.1.new_ HNW.out).new_ HS2.out⟩
end Go.Proofs.Ytedfgbkaijjaeaa
