/- The tree of things as functions: what its operations do; plain laws. -/
import Derived.Test.YtedfgbkaijjaeaaOpV
namespace Go.Proofs.Ytedfgbkaijjaeaa
set_option linter.unusedVariables false

structure ThV where
  id : Nat
  parent : Nat
  name : ByteArray
  dir : Bool
  dg : ByteArray
  size : Int
def zeroT : ThV := ⟨0, 0, .empty, false, .empty, 0⟩
structure EnV where
  op : OpV
  hash : ByteArray
structure DoV where
  e : EnV
  was : ThV
  there : Bool
  did : Bool
abbrev Ths := Nat → Option ThV
abbrev Kds := Nat → List Nat
structure TkV where
  th : Ths
  ks : Kds
def updF {α : Type} (f : Nat → α) (i : Nat) (a : α) : Nat → α := fun j => if j = i then a else f j
theorem updF_same {α : Type} (f : Nat → α) (i : Nat) (a : α) : updF f i a i = a := if_pos rfl
theorem updF_other {α : Type} (f : Nat → α) {i j : Nat} (a : α) (h : j ≠ i) : updF f i a j = f j := if_neg h
def folderF (th : Ths) (id : Nat) : Bool := id == 0 || ((th id).getD zeroT).dir
def chainF (th : Ths) : Nat → Nat → List Nat
  | 0, _ => []
  | f + 1, id => if id ≤ 1 then [] else match th id with
    | none => [id]
    | some x => id :: chainF th f x.parent
def upT (th : Ths) (id : Nat) : List Nat := chainF th 1000 id
def nextF (th : Ths) (o : OpV) : ThV × Bool :=
  let x := (th o.thing).getD zeroT
  let there := (th o.thing).isSome
  if o.kind = 1 then (if there = true ∨ folderF th o.parent = false then (x, false) else (⟨o.thing, o.parent, o.name, o.dir, .empty, 0⟩, true))
  else if o.kind = 2 then (if there = false ∨ folderF th o.parent = false ∨ o.thing ∈ upT th o.parent then (x, false) else ({ x with parent := o.parent, name := o.name }, true))
  else if o.kind = 3 then ({ x with parent := 1 }, there)
  else if x.dir = true then (x, false) else ({ x with dg := o.digest, size := o.size }, there)
def lowB (l : List Nat) (x : Nat) : Nat := (l.takeWhile fun y => decide (y < x)).length
def insK (l : List Nat) (x : Nat) : List Nat := l.take (lowB l x) ++ x :: l.drop (lowB l x)
def cutK (l : List Nat) (x : Nat) : List Nat := l.take (lowB l x) ++ l.drop (lowB l x + 1)
def outF (ks : Kds) (x : ThV) : Kds := if (ks x.parent)[lowB (ks x.parent) x.id]? = some x.id then updF ks x.parent (cutK (ks x.parent) x.id) else ks
def layF (s : TkV) (x : ThV) : TkV :=
  let k1 := match s.th x.id with
    | some old => outF s.ks old
    | none => s.ks
  ⟨updF s.th x.id (some x), updF k1 x.parent (insK (k1 x.parent) x.id)⟩
def doS (s : TkV) (e : EnV) : TkV := if (nextF s.th e.op).2 = true then layF s (nextF s.th e.op).1 else s
def doD (s : TkV) (e : EnV) : DoV := ⟨e, (s.th e.op.thing).getD zeroT, (s.th e.op.thing).isSome, (nextF s.th e.op).2⟩
def undoF (s : TkV) (d : DoV) : TkV :=
  if d.did = false then s else if d.there = true then layF s d.was
  else ⟨updF s.th d.e.op.thing none, outF s.ks ((s.th d.e.op.thing).getD zeroT)⟩
def noneS : TkV := ⟨fun _ => none, fun _ => []⟩
def runS (es : List EnV) : TkV := es.foldl doS noneS
def runD : TkV → List EnV → List DoV
  | _, [] => []
  | s, e :: es => doD s e :: runD (doS s e) es
theorem runS_snoc (es : List EnV) (e : EnV) : runS (es ++ [e]) = doS (runS es) e := by simp [runS]
theorem runD_append : ∀ (s : TkV) (es fs : List EnV), runD s (es ++ fs) = runD s es ++ runD (es.foldl doS s) fs
  | s, [], fs => rfl
  | s, e :: es, fs => by simp [runD, runD_append (doS s e) es fs]
theorem runD_snoc (es : List EnV) (e : EnV) : runD noneS (es ++ [e]) = runD noneS es ++ [doD (runS es) e] := by rw [runD_append]; rfl
theorem runD_length : ∀ (s : TkV) (es : List EnV), (runD s es).length = es.length
  | s, [] => rfl
  | s, e :: es => by simp [runD, runD_length (doS s e) es]
theorem runD_es : ∀ (s : TkV) (es : List EnV), (runD s es).map (·.e) = es
  | s, [] => rfl
  | s, e :: es => by simp [runD, runD_es (doS s e) es, doD]

/-! Sorted rows. -/
abbrev Up (l : List Nat) : Prop := l.Pairwise (· < ·)
theorem lowB_cons (a : Nat) (l : List Nat) (x : Nat) : lowB (a :: l) x = if a < x then lowB l x + 1 else 0 := by
  unfold lowB
  by_cases h : a < x
  · simp [List.takeWhile, h]
  · simp [List.takeWhile, h]
theorem lowB_le (l : List Nat) (x : Nat) : lowB l x ≤ l.length := by
  induction l with
  | nil => simp [lowB]
  | cons a l ih => rw [lowB_cons]; split <;> simp <;> omega
theorem insK_cons (a : Nat) (l : List Nat) (x : Nat) : insK (a :: l) x = if a < x then a :: insK l x else x :: a :: l := by
  unfold insK
  rw [lowB_cons]
  split <;> simp
theorem cutK_cons (a : Nat) (l : List Nat) (x : Nat) : cutK (a :: l) x = if a < x then a :: cutK l x else l := by
  unfold cutK
  rw [lowB_cons]
  split <;> simp
theorem mem_insK (l : List Nat) (x y : Nat) : y ∈ insK l x ↔ y = x ∨ y ∈ l := by
  induction l with
  | nil => simp [insK, lowB]
  | cons a l ih =>
    rw [insK_cons]
    split
    · simp only [List.mem_cons, ih]
      constructor
      · rintro (h | h | h) <;> simp [h]
      · rintro (h | h | h) <;> simp [h]
    · simp
theorem insK_up {l : List Nat} (h : Up l) {x : Nat} (hx : x ∉ l) : Up (insK l x) := by
  induction l with
  | nil => simp [insK, lowB, Up]
  | cons a l ih =>
    obtain ⟨h1, h2⟩ := List.pairwise_cons.1 h
    rw [insK_cons]
    simp only [List.mem_cons, not_or] at hx
    split
    · rename_i hlt
      refine List.pairwise_cons.2 ⟨fun y hy => ?_, ih h2 hx.2⟩
      rcases (mem_insK l x y).1 hy with rfl | hy
      · exact hlt
      · exact h1 y hy
    · refine List.pairwise_cons.2 ⟨fun y hy => ?_, h⟩
      rcases List.mem_cons.1 hy with rfl | hy
      · omega
      · have := h1 y hy
        omega
theorem at_low {l : List Nat} (h : Up l) {x : Nat} : l[lowB l x]? = some x ↔ x ∈ l := by
  induction l with
  | nil => simp [lowB]
  | cons a l ih =>
    obtain ⟨h1, h2⟩ := List.pairwise_cons.1 h
    rw [lowB_cons]
    split
    · rw [List.getElem?_cons_succ, ih h2]
      simp only [List.mem_cons]
      constructor
      · exact .inr
      · rintro (rfl | h)
        · omega
        · exact h
    · simp only [List.getElem?_cons_zero, Option.some.injEq, List.mem_cons]
      constructor
      · intro e; exact .inl e.symm
      · rintro (e | hx)
        · exact e.symm
        · have := h1 x hx
          omega
theorem mem_cutK {l : List Nat} (h : Up l) {x : Nat} (hx : x ∈ l) (y : Nat) : y ∈ cutK l x ↔ y ∈ l ∧ y ≠ x := by
  induction l with
  | nil => cases hx
  | cons a l ih =>
    obtain ⟨h1, h2⟩ := List.pairwise_cons.1 h
    rw [cutK_cons]
    rcases List.mem_cons.1 hx with e | hx
    · subst e
      rw [if_neg (by omega)]
      simp only [List.mem_cons]
      constructor
      · intro hy
        have := h1 y hy
        exact ⟨.inr hy, by omega⟩
      · rintro ⟨e | hy, hn⟩
        · exact absurd e hn
        · exact hy
    · have := h1 x hx
      rw [if_pos this]
      simp only [List.mem_cons, ih h2 hx]
      constructor
      · rintro (e | ⟨hy, hn⟩)
        · exact ⟨.inl e, by omega⟩
        · exact ⟨.inr hy, hn⟩
      · rintro ⟨e | hy, hn⟩
        · exact .inl e
        · exact .inr ⟨hy, hn⟩
theorem cutK_up {l : List Nat} (h : Up l) {x : Nat} (hx : x ∈ l) : Up (cutK l x) := by
  induction l with
  | nil => cases hx
  | cons a l ih =>
    obtain ⟨h1, h2⟩ := List.pairwise_cons.1 h
    rw [cutK_cons]
    split
    · rename_i hlt
      have hx' : x ∈ l := by
        rcases List.mem_cons.1 hx with e | hx
        · omega
        · exact hx
      exact List.pairwise_cons.2 ⟨fun y hy => h1 y ((mem_cutK h2 hx' y).1 hy).1, ih h2 hx'⟩
    · exact h2
theorem up_ext : ∀ {l m : List Nat}, Up l → Up m → (∀ y, y ∈ l ↔ y ∈ m) → l = m
  | [], [], _, _, _ => rfl
  | [], b :: m, _, _, h => by have := (h b).2 List.mem_cons_self; cases this
  | a :: l, [], _, _, h => by have := (h a).1 List.mem_cons_self; cases this
  | a :: l, b :: m, hl, hm, h => by
    obtain ⟨h1, h2⟩ := List.pairwise_cons.1 hl
    obtain ⟨k1, k2⟩ := List.pairwise_cons.1 hm
    have hab : a = b := by
      have ha := (h a).1 List.mem_cons_self
      have hb := (h b).2 List.mem_cons_self
      rcases List.mem_cons.1 ha with e | ha
      · exact e
      rcases List.mem_cons.1 hb with e | hb
      · exact e.symm
      have := k1 a ha
      have := h1 b hb
      omega
    subst hab
    congr 1
    refine up_ext h2 k2 fun y => ?_
    constructor
    · intro hy
      rcases List.mem_cons.1 ((h y).1 (List.mem_cons_of_mem _ hy)) with e | hy'
      · have := h1 y hy
        omega
      · exact hy'
    · intro hy
      rcases List.mem_cons.1 ((h y).2 (List.mem_cons_of_mem _ hy)) with e | hy'
      · have := k1 y hy
        omega
      · exact hy'

/-! What holds of a tree. -/
def KidsOk (s : TkV) : Prop := ∀ p, Up (s.ks p) ∧ ∀ i, i ∈ s.ks p ↔ ∃ x, s.th i = some x ∧ x.parent = p
def IdsOk (s : TkV) : Prop := ∀ i x, s.th i = some x → x.id = i
theorem kids_one {th : Ths} {k1 k2 : Kds} (h1 : KidsOk ⟨th, k1⟩) (h2 : KidsOk ⟨th, k2⟩) : k1 = k2 := by
  funext p
  exact up_ext (h1 p).1 (h2 p).1 fun y => ((h1 p).2 y).trans ((h2 p).2 y).symm
/-- Out: what is left is the kids but one. -/
theorem out_kids {s : TkV} (hi : IdsOk s) (hk : KidsOk s) {x : ThV} {i : Nat} (hx : s.th i = some x) : ∀ p, Up (outF s.ks x p) ∧ ∀ j, j ∈ outF s.ks x p ↔ (∃ y, s.th j = some y ∧ y.parent = p) ∧ j ≠ i := by
  have hid := hi i x hx
  subst hid
  have hm : x.id ∈ s.ks x.parent := ((hk x.parent).2 x.id).2 ⟨x, hx, rfl⟩
  intro p
  unfold outF
  rw [if_pos ((at_low (hk x.parent).1).2 hm)]
  by_cases hp : p = x.parent
  · subst hp
    rw [updF_same]
    refine ⟨cutK_up (hk _).1 hm, fun j => ?_⟩
    rw [mem_cutK (hk _).1 hm, (hk x.parent).2 j]
  · rw [updF_other _ _ hp]
    refine ⟨(hk p).1, fun j => ?_⟩
    rw [(hk p).2 j]
    constructor
    · rintro ⟨y, hy, e⟩
      refine ⟨⟨y, hy, e⟩, fun e2 => hp ?_⟩
      subst e2
      rw [hx] at hy
      cases hy
      exact e.symm
    · exact fun h => h.1
theorem out_ok {s : TkV} (hi : IdsOk s) (hk : KidsOk s) {x : ThV} {i : Nat} (hx : s.th i = some x) : IdsOk ⟨updF s.th i none, outF s.ks x⟩ ∧ KidsOk ⟨updF s.th i none, outF s.ks x⟩ := by
  refine ⟨fun j y hj => ?_, fun p => ⟨(out_kids hi hk hx p).1, fun j => ?_⟩⟩
  · by_cases e : j = i
    · subst e
      simp only [updF_same] at hj
      cases hj
    · simp only [updF_other _ _ e] at hj
      exact hi j y hj
  · show j ∈ outF s.ks x p ↔ _
    rw [(out_kids hi hk hx p).2 j]
    by_cases e : j = i
    · subst e
      simp [updF_same]
    · simp [updF_other _ _ e, e]
theorem lay_ok {s : TkV} (hi : IdsOk s) (hk : KidsOk s) (x : ThV) : IdsOk (layF s x) ∧ KidsOk (layF s x) := by
  obtain ⟨k1, hk1, h1⟩ : ∃ k1 : Kds, (layF s x) = ⟨updF s.th x.id (some x), updF k1 x.parent (insK (k1 x.parent) x.id)⟩ ∧ ∀ p, Up (k1 p) ∧ ∀ j, j ∈ k1 p ↔ (∃ y, s.th j = some y ∧ y.parent = p) ∧ j ≠ x.id := by
    unfold layF
    cases h : s.th x.id with
    | some old => exact ⟨_, rfl, out_kids hi hk h⟩
    | none =>
      refine ⟨_, rfl, fun p => ⟨(hk p).1, fun j => ?_⟩⟩
      rw [(hk p).2 j]
      constructor
      · rintro ⟨y, hy, e⟩
        refine ⟨⟨y, hy, e⟩, fun e2 => ?_⟩
        rw [e2, h] at hy
        cases hy
      · exact fun h => h.1
  rw [hk1]
  refine ⟨fun j y hj => ?_, fun p => ?_⟩
  · by_cases e : j = x.id
    · subst e
      simp only [updF_same] at hj
      cases hj
      rfl
    · simp only [updF_other _ _ e] at hj
      exact hi j y hj
  · have hnot : x.id ∉ k1 x.parent := fun h => (((h1 _).2 _).1 h).2 rfl
    by_cases hp : p = x.parent
    · subst hp
      simp only [updF_same]
      refine ⟨insK_up (h1 _).1 hnot, fun j => ?_⟩
      rw [mem_insK, (h1 _).2 j]
      by_cases e : j = x.id
      · subst e
        simp [updF_same]
      · simp [updF_other _ _ e, e]
    · simp only [updF_other _ _ hp]
      refine ⟨(h1 p).1, fun j => ?_⟩
      rw [(h1 p).2 j]
      by_cases e : j = x.id
      · subst e
        simp only [updF_same]
        constructor
        · rintro ⟨_, h⟩
          exact absurd rfl h
        · rintro ⟨y, hy, e⟩
          cases hy
          exact absurd e.symm hp
      · simp [updF_other _ _ e, e]
theorem do_ok {s : TkV} (hi : IdsOk s) (hk : KidsOk s) (e : EnV) : IdsOk (doS s e) ∧ KidsOk (doS s e) := by
  unfold doS
  split
  · exact lay_ok hi hk _
  · exact ⟨hi, hk⟩
theorem none_ok : IdsOk noneS ∧ KidsOk noneS := by
  refine ⟨?_, ?_⟩
  · intro i x h
    cases h
  · intro p
    exact ⟨List.Pairwise.nil, fun i => by simp [noneS]⟩
theorem foldl_ok : ∀ (es : List EnV) (s : TkV), IdsOk s → KidsOk s → IdsOk (es.foldl doS s) ∧ KidsOk (es.foldl doS s)
  | [], s, hi, hk => ⟨hi, hk⟩
  | e :: es, s, hi, hk => foldl_ok es _ (do_ok hi hk e).1 (do_ok hi hk e).2
theorem run_ok (es : List EnV) : IdsOk (runS es) ∧ KidsOk (runS es) := foldl_ok es _ none_ok.1 none_ok.2
/-- What changes: the thing of the operation. -/
theorem next_id {s : TkV} (hi : IdsOk s) {o : OpV} (h : (nextF s.th o).2 = true) : (nextF s.th o).1.id = o.thing := by
  have hid : ∀ x, s.th o.thing = some x → x.id = o.thing := fun x hx => hi _ _ hx
  unfold nextF at h ⊢
  simp only at h ⊢
  cases ht : s.th o.thing with
  | none =>
    rw [ht] at h
    simp only [Option.isSome_none, Option.getD_none] at h ⊢
    split at h
    · rename_i h1
      rw [if_pos h1]
      split at h
      · cases h
      · rename_i h2
        rw [if_neg h2]
    · split at h
      · split at h
        · cases h
        · rename_i h3
          exact absurd (.inl trivial) h3
      · split at h
        · cases h
        · split at h <;> cases h
  | some x =>
    have e := hid x ht
    rw [ht] at h
    simp only [Option.isSome_some, Option.getD_some] at h ⊢
    split
    · split
      · exact e
      · rfl
    · split
      · split
        · exact e
        · exact e
      · split
        · exact e
        · split
          · exact e
          · exact e
theorem undo_do {s : TkV} (hi : IdsOk s) (hk : KidsOk s) (e : EnV) : undoF (doS s e) (doD s e) = s := by
  by_cases hd : (nextF s.th e.op).2 = true
  case neg =>
    have hd' : (nextF s.th e.op).2 = false := by simpa using hd
    unfold undoF doD doS
    simp only [hd', if_true]
    rfl
  have hid := next_id hi hd
  obtain ⟨x, hx⟩ : ∃ x, x = (nextF s.th e.op).1 := ⟨_, rfl⟩
  rw [← hx] at hid
  have hs : doS s e = layF s x := by unfold doS; rw [if_pos hd, hx]
  have hok := lay_ok hi hk x
  have hth : (layF s x).th = updF s.th e.op.thing (some x) := by rw [← hid]; rfl
  obtain ⟨s', hs'⟩ : ∃ s', s' = layF s x := ⟨_, rfl⟩
  rw [hs, ← hs']
  rw [← hs'] at hok hth
  unfold undoF doD
  simp only [hd]
  rw [if_neg (by simp)]
  cases ht : s.th e.op.thing with
  | some old =>
    have hold := hi _ _ ht
    simp only [Option.isSome_some, Option.getD_some, if_true]
    have hok2 := lay_ok hok.1 hok.2 old
    have hth2 : (layF s' old).th = s.th := by
      show updF s'.th old.id (some old) = s.th
      rw [hth, hold]
      funext j
      by_cases ej : j = e.op.thing
      · subst ej; rw [updF_same, ht]
      · rw [updF_other _ _ ej, updF_other _ _ ej]
    have e2 : layF s' old = ⟨s.th, (layF s' old).ks⟩ := by rw [← hth2]
    obtain ⟨k2, hk2⟩ : ∃ k2, k2 = (layF s' old).ks := ⟨_, rfl⟩
    rw [← hk2] at e2
    rw [e2] at hok2 ⊢
    exact congrArg (fun k => (⟨s.th, k⟩ : TkV)) (kids_one hok2.2 hk)
  | none =>
    simp only [Option.isSome_none]
    rw [if_neg (by simp)]
    have hx' : s'.th e.op.thing = some x := by rw [hth, updF_same]
    rw [hx']
    have hok2 := out_ok hok.1 hok.2 hx'
    have hth2 : updF s'.th e.op.thing none = s.th := by
      rw [hth]
      funext j
      by_cases ej : j = e.op.thing
      · subst ej; rw [updF_same, ht]
      · rw [updF_other _ _ ej, updF_other _ _ ej]
    rw [hth2] at hok2
    simp only [Option.getD_some]
    rw [hth2]
    exact congrArg (fun k => (⟨s.th, k⟩ : TkV)) (kids_one hok2.2 hk)
end Go.Proofs.Ytedfgbkaijjaeaa
