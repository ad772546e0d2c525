/- The law's own model of a network: its rows, and whether a way is cut. -/
import Derived.Test.YtleagdnlgjpcgaaNetWaits
import Derived.Test.YtleagdnlgjpcgaaDiamond
import Derived.Deep.AppendSrc
namespace Go.Proofs.Ytleagdnlgjpcgaa
open Go.RowKit Go.Maps
set_option linter.unusedVariables false
set_option linter.unusedSimpArgs false

theorem PkS.news {W : World} {a : Addr} {l : List Pkt} (h : PkS W (some a) l) : ∀ j u, (pkCells l)[j]? = some u → W.cell? (a.add j) = some u := by
  intro j u hu
  have hj := (List.getElem?_eq_some_iff.1 hu).1
  rw [pkCells_length] at hj
  have hi : j / 3 < l.length := by omega
  obtain ⟨sb, so, e, hc⟩ := h.2 (j / 3) hi
  cases e
  have hadd : (⟨sb, so, none⟩ : Addr).add j = ⟨sb, so + j, none⟩ := by unfold Addr.add; split <;> simp_all
  rw [hadd]
  obtain ⟨p0, p1, p2⟩ := pkCells_at l (j / 3) hi
  simp only [List.getElem?_eq_getElem hi] at hc
  have hr : j % 3 = 0 ∨ j % 3 = 1 ∨ j % 3 = 2 := by omega
  rcases hr with e | e | e
  · have hj2 : j = j / 3 * 3 := by omega
    rw [hj2, p0] at hu
    cases hu
    have := hc 0 _ rfl
    rw [show so + j / 3 * 3 + 0 = so + j by omega] at this
    exact this
  · have hj2 : j = j / 3 * 3 + 1 := by omega
    rw [hj2, p1] at hu
    cases hu
    have := hc 1 _ rfl
    rw [show so + j / 3 * 3 + 1 = so + j by omega] at this
    exact this
  · have hj2 : j = j / 3 * 3 + 2 := by omega
    rw [hj2, p2] at hu
    cases hu
    have := hc 2 _ rfl
    rw [show so + j / 3 * 3 + 2 = so + j by omega] at this
    exact this
theorem PkL.empty {W : World} {b : Nat} (h : Own W b 26 #[]) : PkL W (.slice (some ⟨b, 0, none⟩) 0 0) [] :=
  ⟨rfl, .inr ⟨b, 0, #[], rfl, Nat.zero_le _, h, Nat.le_refl _, Nat.zero_le _, rfl, rfl⟩⟩
/-- A list more, onto a row of the call's own. -/
theorem append_pks {W : World} {v : Value} {l l2 : List Pkt} {A : Option Addr} {cap : Nat} (h : PkL W v l) (hn : l.length + l2.length ≤ 100000) (hs : PkS W A l2) :
    ∃ v' W', (Builtin.append_ #[22, 22] 22 #[v, .slice A l2.length cap]).run Try.prog W = .ok v' W' ∧ PkL W' v' (l ++ l2) ∧
      Fr (fun k => v.ownBlock = some k) W W' ∧ (v'.ownBlock = v.ownBlock ∨ ∃ k, v'.ownBlock = some k ∧ W.heap.size ≤ k) := by
  obtain ⟨i, hi, hv⟩ := Option.map_eq_some_iff.1 info_pk
  have z1 : i.zero = some (.agg #[.int .i64 0, .int .i64 0, .string ⟨#[]⟩]) := congrArg Prod.fst hv
  have z2 : i.size = 3 := congrArg (fun x => x.2.1) hv
  have z3 : i.bytes = 32 := congrArg (fun x => x.2.2) hv
  cases A with
  | some a =>
    obtain ⟨v', W', hr, h2, h3, h4, h5⟩ := run_append_own_at (P := Try.prog) W 0 22 22 26 i _ 3 32 Try.underlying22 hi z1 z2 z3 rfl (by omega) v l.length _ h a l2.length cap (pkCells l2) (pkCells_length l2)
      hs.news (pkCells_one l2) (by simp [maxLen]; omega) (by omega) (Nat.zero_le _)
    refine ⟨v', W', hr, ?_, fr_of_grown' h3, ?_⟩
    · unfold PkL
      rw [List.length_append, pkCells_append]
      exact h2
    · rcases h5 with e | e
      · exact .inl e
      · exact .inr ⟨_, e, Nat.le_refl _⟩
  | none =>
    have hl2 : l2 = [] := by
      cases l2 with
      | nil => rfl
      | cons p l2 =>
        obtain ⟨b, o, e, _⟩ := hs.2 0 (by simp)
        cases e
    subst hl2
    refine ⟨v, W, ?_, by simpa using h, Fr.refl _ _, .inl rfl⟩
    rcases h.2 with ⟨e, h0⟩ | ⟨g, cap', cur, e, _⟩
    · subst e
      have hlo : ∀ w', (Builtin.lenOf (.slice none 0 cap)).run Try.prog w' = .ok 0 w' := fun _ => rfl
      simp [Builtin.append_, run_underlying Try.underlying22, sizeOf, typeInfo, hi, hlo, run_firstCells_none, h0]
    · subst e
      have := run_append_room_src (P := Try.prog) W 22 22 22 26 i Try.underlying22 hi g 0 l.length cap' (.slice none 0 cap) 0 [] (Src.ofNil W Try.underlying22 cap) (by have := h.form; obtain ⟨A, c, e⟩ := this; cases e; rcases h.2 with ⟨e, _⟩ | ⟨_, _, _, e, _, _, hc, _⟩ <;> cases e; omega) (by simp) (by simp)
      simpa [World.setCells] using this
/-- A list onto '[]T{}'. -/
theorem fresh_pks {W : World} {b : Nat} (hb : Own W b 26 #[]) {l2 : List Pkt} {A : Option Addr} {cap : Nat} (hs : PkS W A l2) (hn : l2.length ≤ 100000) :
    ∃ v' W', (Builtin.append_ #[22, 22] 22 #[.slice (some ⟨b, 0, none⟩) 0 0, .slice A l2.length cap]).run Try.prog W = .ok v' W' ∧ PkL W' v' l2 ∧
      New W W' ∧ (v'.ownBlock = some b ∨ ∃ k, v'.ownBlock = some k ∧ W.heap.size ≤ k) := by
  obtain ⟨v', W', hr, hp, f, ho⟩ := append_pks (cap := cap) (PkL.empty hb) (by simpa using hn) hs
  rw [List.nil_append] at hp
  refine ⟨v', W', hr, hp, ?_, by rcases ho with e | e; exact .inl e; exact .inr e⟩
  obtain ⟨i, hi, hv⟩ := Option.map_eq_some_iff.1 info_pk
  have z1 : i.zero = some (.agg #[.int .i64 0, .int .i64 0, .string ⟨#[]⟩]) := congrArg Prod.fst hv
  have z2 : i.size = 3 := congrArg (fun x => x.2.1) hv
  have z3 : i.bytes = 32 := congrArg (fun x => x.2.2) hv
  by_cases h0 : l2.length = 0
  · have e0 : l2 = [] := List.eq_nil_of_length_eq_zero h0
    subst e0
    have hsrc : Src Try.prog i.size 22 (.slice A 0 cap) 0 [] W := by
      cases A with
      | none => exact Src.ofNil W Try.underlying22 cap
      | some a => exact Src.ofSlice W Try.underlying22 a 0 cap [] (by simp) (fun j u hu => by simp at hu) (fun u hu => by cases hu)
    have := run_append_room_src (P := Try.prog) W 22 22 22 26 i Try.underlying22 hi b 0 0 0 (.slice A 0 cap) 0 [] hsrc (Nat.le_refl _) (by simp) (by simp)
    rw [show ([] : List Pkt).length = 0 from rfl] at hr
    rw [this] at hr
    injection hr with e1 e2
    rw [← e2]
    simp [World.setCells]
    exact Fr.refl _ _
  · obtain ⟨a, hA⟩ : ∃ a, A = some a := by
      obtain ⟨b', o, e, _⟩ := hs.2 0 (by omega)
      exact ⟨_, e⟩
    subst hA
    have := run_append_grow_src (P := Try.prog) W 22 22 22 26 i _ Try.underlying22 hi z1 (some ⟨b, 0, none⟩) 0 0 [] (run_firstCells_some W.drew i.size 0 ⟨b, 0, none⟩ 0 0 [] (by simp) (fun j u hu => by simp at hu)) (.slice (some a) l2.length cap) l2.length (pkCells l2)
      (Src.ofSlice W Try.underlying22 a l2.length cap (pkCells l2) (by rw [z2, pkCells_length]) hs.news (pkCells_one l2)) (by omega) (by omega) (by rw [z3]; exact growslice_fits (by omega) (by omega))
    rw [this] at hr
    injection hr with e1 e2
    rw [← e2]
    exact ((Fr.refl _ _).drew).alloc _

/-! ### Slices that are only read, and the ways -/
def SlP (W : World) (X : Nat → Prop) (v : Value) (l : List Pkt) : Prop := ∃ A cap, v = .slice A l.length cap ∧ PkS W A l ∧ l.length ≤ cap ∧ ∀ a, A = some a → ¬ X a.block ∧ a.block < W.heap.size
theorem SlP.fr {W W' : World} {X X' F : Nat → Prop} {v : Value} {l : List Pkt} (h : SlP W X v l) (f : Fr F W W') (hF : ∀ k, F k → X k) (hX : ∀ k, X' k → X k ∨ W.heap.size ≤ k) : SlP W' X' v l := by
  obtain ⟨A, cap, e, hs, hc, hA⟩ := h
  refine ⟨A, cap, e, hs.fr f fun a ha hf => (hA a ha).1 (hF _ hf), hc, fun a ha => ⟨fun hx => ?_, Nat.lt_of_lt_of_le (hA a ha).2 f.size⟩⟩
  rcases hX _ hx with h | h
  · exact (hA a ha).1 h
  · have := (hA a ha).2; omega
theorem SlP.new_ {W W' : World} {X : Nat → Prop} {v : Value} {l : List Pkt} (h : SlP W X v l) (f : New W W') : SlP W' X v l := h.fr f (fun _ g => g.elim) fun _ g => .inl g
theorem SlP.nil (W : World) (X : Nat → Prop) : SlP W X (.slice none 0 0) [] := ⟨none, 0, rfl, Sl.none_ _ _ _, Nat.le_refl _, fun a e => by cases e⟩
theorem PkL.sl {W : World} {X : Nat → Prop} {v : Value} {l : List Pkt} (h : PkL W v l) (hX : ∀ k, v.ownBlock = some k → ¬ X k) : SlP W X v l := by
  rcases h.2 with ⟨e, h0⟩ | ⟨g, cap, cur, e, hB, hg, h1, h2, h3, h4⟩
  · have : l = [] := List.eq_nil_of_length_eq_zero h0
    subst this
    subst e
    exact SlP.nil _ _
  · subst e
    exact ⟨_, cap, rfl, h.cells, h1, fun a e => by cases e; exact ⟨hX g rfl, lt_of_block hg⟩⟩
def wyCells : List (Int × Int) → List Value
  | [] => []
  | c :: l => .int .i64 c.1 :: .int .i64 c.2 :: wyCells l
theorem wyCells_length : ∀ l, (wyCells l).length = l.length * 2
  | [] => rfl
  | c :: l => by simp [wyCells, wyCells_length l]; omega
theorem wyCells_append : ∀ l m, wyCells (l ++ m) = wyCells l ++ wyCells m
  | [], m => rfl
  | c :: l, m => by simp [wyCells, wyCells_append l m]
theorem wyCells_one : ∀ (l : List (Int × Int)), ∀ u ∈ wyCells l, u.oneCell' = true
  | [], u, h => by simp [wyCells] at h
  | c :: l, u, h => by
    simp only [wyCells, List.mem_cons] at h
    rcases h with rfl | rfl | h
    · rfl
    · rfl
    · exact wyCells_one l u h
theorem wyCells_at : ∀ (l : List (Int × Int)) i (h : i < l.length), (wyCells l)[i * 2]? = some (.int .i64 l[i].1) ∧ (wyCells l)[i * 2 + 1]? = some (.int .i64 l[i].2)
  | c :: l, 0, h => by simp [wyCells]
  | c :: l, i + 1, h => by
    have := wyCells_at l i (by simpa using h)
    rw [show (i + 1) * 2 = i * 2 + 2 by omega, show i * 2 + 2 + 1 = i * 2 + 1 + 2 by omega]
    simpa [wyCells] using this
def WyS (W : World) (A : Option Addr) (C : List (Int × Int)) : Prop := Sl W 2 A C.length fun i => match C[i]? with | some c => [.int .i64 c.1, .int .i64 c.2] | none => []
def SlC (W : World) (X : Nat → Prop) (v : Value) (C : List (Int × Int)) : Prop := ∃ A cap, v = .slice A C.length cap ∧ WyS W A C ∧ ∀ a, A = some a → ¬ X a.block ∧ a.block < W.heap.size ∧ ∃ cur, W.heap[a.block]? = some (.cells cur 70 (0, 0))
theorem SlC.fr {W W' : World} {X X' F : Nat → Prop} {v : Value} {C : List (Int × Int)} (h : SlC W X v C) (f : Fr F W W') (hF : ∀ k, F k → X k) (hX : ∀ k, X' k → X k ∨ W.heap.size ≤ k) : SlC W' X' v C := by
  obtain ⟨A, cap, e, hs, hA⟩ := h
  refine ⟨A, cap, e, Sl.fr hs f fun a ha hf => (hA a ha).1 (hF _ hf), fun a ha => ⟨fun hx => ?_, Nat.lt_of_lt_of_le (hA a ha).2.1 f.size, ?_⟩⟩
  · rcases hX _ hx with h | h
    · exact (hA a ha).1 h
    · have := (hA a ha).2.1; omega
  · obtain ⟨cur, hh⟩ := (hA a ha).2.2
    exact ⟨cur, (f.block _ (hA a ha).2.1 (fun hf => (hA a ha).1 (hF _ hf))).trans hh⟩
theorem SlC.new_ {W W' : World} {X : Nat → Prop} {v : Value} {C : List (Int × Int)} (h : SlC W X v C) (f : New W W') : SlC W' X v C := h.fr f (fun _ g => g.elim) fun _ g => .inl g
theorem SlC.nil (W : World) (X : Nat → Prop) : SlC W X (.slice none 0 0) [] := ⟨none, 0, rfl, Sl.none_ _ _ _, fun a e => by cases e⟩
def wayOf (c : Int × Int) : Int × Int := (min c.1 c.2, max c.1 c.2)
theorem wayOf_eq {c : Int × Int} {p : Pkt} : wayOf c = p.w ↔ (c.1 = p.f ∧ c.2 = p.t) ∨ (c.1 = p.t ∧ c.2 = p.f) := by
  unfold wayOf Pkt.w
  rw [Prod.mk.injEq]
  omega
/-- A model of the network that holds s. -/
def ModB (W : World) (X : Nat → Prop) (mv : Value) (s : NetV) : Prop := ∃ lv wv cv C, mv = .agg #[lv, wv, cv, .int .i64 s.sent, .int .i64 s.lost] ∧ SlP W X lv s.l ∧ SlP W X wv s.w ∧ SlC W X cv C ∧ C.length = s.c.length ∧ ∀ p, p ∈ s.c ↔ ∃ c ∈ C, wayOf c = p
theorem ModB.fr {W W' : World} {X X' F : Nat → Prop} {v : Value} {s : NetV} (h : ModB W X v s) (f : Fr F W W') (hF : ∀ k, F k → X k) (hX : ∀ k, X' k → X k ∨ W.heap.size ≤ k) : ModB W' X' v s := by
  obtain ⟨lv, wv, cv, C, e, h1, h2, h3, h4⟩ := h
  exact ⟨lv, wv, cv, C, e, h1.fr f hF hX, h2.fr f hF hX, h3.fr f hF hX, h4⟩
theorem ModB.new_ {W W' : World} {X : Nat → Prop} {v : Value} {s : NetV} (h : ModB W X v s) (f : New W W') : ModB W' X v s := h.fr f (fun _ g => g.elim) fun _ g => .inl g
/-- A box of a model's own type, that a packet's row cannot lie in. -/
theorem pks_box {W : World} {v0 v1 : Value} {A9 : Option Addr} {n9 c9 : Nat} {x9 y9 : Int} {b : Nat} {A : Option Addr} {l : List Pkt} (h : PkS W A l) (hb : Own W b 43 #[v0, v1, .slice A9 n9 c9, .int .i64 x9, .int .i64 y9]) : ∀ a, A = some a → 0 < l.length → a.block ≠ b := by
  intro a ha hl e
  obtain ⟨sb, so, hA, hc⟩ := h.2 0 hl
  rw [hA] at ha
  cases ha
  have e' : sb = b := e
  subst e'
  simp only [List.getElem?_eq_getElem hl] at hc
  have h2 := hc 2 _ rfl
  rw [hb.cell] at h2
  rcases so with _ | _ | _ | so
  · simp at h2
  · simp at h2
  · simp at h2
  · rw [Array.getElem?_eq_none (by simp)] at h2
    cases h2
theorem SlP.box {W W' : World} {v0 v1 : Value} {A9 : Option Addr} {n9 c9 : Nat} {x9 y9 : Int} {X : Nat → Prop} {b : Nat} {v : Value} {l : List Pkt} (h : SlP W X v l) (hb : Own W b 43 #[v0, v1, .slice A9 n9 c9, .int .i64 x9, .int .i64 y9]) (f : Fr (fun k => k = b) W W') : SlP W' X v l := by
  obtain ⟨A, cap, e, hs, hc, hA⟩ := h
  refine ⟨A, cap, e, ?_, hc, fun a ha => ⟨(hA a ha).1, Nat.lt_of_lt_of_le (hA a ha).2 f.size⟩⟩
  rcases Nat.eq_zero_or_pos l.length with h0 | hpos
  · have : l = [] := List.eq_nil_of_length_eq_zero h0
    subst this
    exact ⟨Nat.zero_le _, fun i hi => absurd hi (Nat.not_lt_zero i)⟩
  · exact hs.fr f fun a ha hf => pks_box hs hb a ha hpos hf
theorem SlC.box {W W' : World} {X : Nat → Prop} {b : Nat} {v : Value} {C : List (Int × Int)} {cs : Array Value} (h : SlC W X v C) (hb : Own W b 43 cs) (f : Fr (fun k => k = b) W W') : SlC W' X v C := by
  obtain ⟨A, cap, e, hs, hA⟩ := h
  have hne : ∀ a, A = some a → a.block ≠ b := fun a ha e => by
    obtain ⟨cur, hh⟩ := (hA a ha).2.2
    rw [e, show W.heap[b]? = _ from hb] at hh
    exact absurd hh (by simp)
  refine ⟨A, cap, e, Sl.fr hs f fun a ha hf => hne a ha hf, fun a ha => ⟨(hA a ha).1, Nat.lt_of_lt_of_le (hA a ha).2.1 f.size, ?_⟩⟩
  obtain ⟨cur, hh⟩ := (hA a ha).2.2
  exact ⟨cur, (f.block _ (hA a ha).2.1 (hne a ha)).trans hh⟩
/-- A box more is written. -/
theorem ModB.box {W W' : World} {v0 v1 : Value} {A9 : Option Addr} {n9 c9 : Nat} {x9 y9 : Int} {X : Nat → Prop} {b : Nat} {v : Value} {s : NetV} (h : ModB W X v s) (hb : Own W b 43 #[v0, v1, .slice A9 n9 c9, .int .i64 x9, .int .i64 y9]) (f : Fr (fun k => k = b) W W') : ModB W' X v s := by
  obtain ⟨lv, wv, cv, C, e, h1, h2, h3, h4⟩ := h
  exact ⟨lv, wv, cv, C, e, h1.box hb f, h2.box hb f, h3.box hb f, h4⟩
end Go.Proofs.Ytleagdnlgjpcgaa
