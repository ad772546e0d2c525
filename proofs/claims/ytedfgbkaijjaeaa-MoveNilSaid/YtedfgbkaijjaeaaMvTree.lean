/- A tree in memory: what it holds; its maps. -/
import Derived.Test.YtedfgbkaijjaeaaMvDRow
import Derived.Test.YtedfgbkaijjaeaaMvChain
namespace Go.Proofs.Ytedfgbkaijjaeaa
open Go.RowKit Go.Maps
set_option linter.unusedVariables false
set_option linter.unusedSimpArgs false

theorem u64_keyed : Keyed Try.prog 22 := int_keyed Try.underlying22
theorem u64_wf {p : Nat} (hp : p < 18446744073709551616) : (Lit.int .u64 (p : Int)).wf = true := by
  have h1 : IntKind.u64.min = 0 := rfl
  have h2 : IntKind.u64.max = 18446744073709551615 := rfl
  simp only [Lit.wf, Bool.and_eq_true, decide_eq_true_eq]
  rw [h1, h2]
  exact ⟨by omega, by omega⟩
theorem u64_key {p : Nat} (hp : p < 18446744073709551616) : ∃ z, keyOf Try.prog 22 (.int .u64 (p : Int)) = some z := by
  exact ⟨_, keyOf_int_mk Try.underlying22 (u64_wf hp)⟩
abbrev ThV.cs (x : ThV) : Array Value := #[.int .u64 (x.id : Int), .int .u64 (x.parent : Int), .string x.name, .bool x.dir, .string x.dg, .int .i64 x.size]
abbrev ThV.val (x : ThV) : Value := .agg x.cs
/-- A map from numbers. -/
def keyM (V : Nat → Option Value) : Value → Option Value
  | .int .u64 (.ofNat p) => V p
  | _ => none
theorem keyM_at (V : Nat → Option Value) (p : Nat) : keyM V (.int .u64 (p : Int)) = V p := rfl
theorem keyM_upd (V : Nat → Option Value) (p : Nat) (v : Value) (y : Value) : mUpd (keyM V) (.int .u64 (p : Int)) v y = keyM (updF V p (some v)) y := by
  unfold mUpd
  by_cases h : y = .int .u64 (p : Int)
  · subst h
    rw [if_pos rfl]
    exact (updF_same V p (some v)).symm
  · rw [if_neg h]
    unfold keyM
    split
    · rename_i q
      rw [updF_other _ _ (fun e => h (by rw [e]; rfl))]
    · rfl
theorem keyM_del (V : Nat → Option Value) (p : Nat) (y : Value) : mDel (keyM V) (.int .u64 (p : Int)) y = keyM (updF V p none) y := by
  unfold mDel
  by_cases h : y = .int .u64 (p : Int)
  · subst h
    rw [if_pos rfl]
    exact (updF_same V p none).symm
  · rw [if_neg h]
    unfold keyM
    split
    · rename_i q
      rw [updF_other _ _ (fun e => h (by rw [e]; rfl))]
    · rfl
def thV (th : Ths) : Nat → Option Value := fun i => (th i).map ThV.val
theorem thV_upd (th : Ths) (i : Nat) (x : ThV) : updF (thV th) i (some x.val) = thV (updF th i (some x)) := by
  funext j
  unfold thV updF
  split <;> rfl
theorem thV_del (th : Ths) (i : Nat) : updF (thV th) i none = thV (updF th i none) := by
  funext j
  unfold thV updF
  split <;> rfl
/-- The kids in memory: the row of each key. -/
structure KdB (W : World) (V : Nat → Option Value) (ks : Kds) : Prop where
  row : ∀ p v, V p = some v → UL W v (ks p)
  none_ : ∀ p, V p = none → ks p = []
  apart : ∀ p q v u k, V p = some v → V q = some u → v.ownBlock = some k → u.ownBlock = some k → p = q
/-- The tree at block t; X: its blocks. -/
def TrB (W : World) (t : Nat) (X : Nat → Prop) (l : List DoV) (s : TkV) (u : Nat) : Prop :=
  ∃ lv mt mk n1 n2 V, Own W t 104 #[lv, .map (some mt), .map (some mk), .int .i64 u] ∧ DL W lv l ∧ MapF Try.prog 22 W mt n1 (keyM (thV s.th)) ∧ MapF Try.prog 22 W mk n2 (keyM V) ∧ KdB W V s.ks ∧ mt ≠ mk ∧
    (∀ k, X k ↔ k = t ∨ k = mt ∨ k = mk ∨ lv.ownBlock = some k ∨ ∃ p v, V p = some v ∧ v.ownBlock = some k)
theorem TrB.fr {W W' : World} {t u : Nat} {X G : Nat → Prop} {l : List DoV} {s : TkV} (h : TrB W t X l s u) (f : Fr G W W') (hG : ∀ k, X k → ¬ G k) : TrB W' t X l s u := by
  obtain ⟨lv, mt, mk, n1, n2, V, h1, h2, h3, h4, h5, h6, hX⟩ := h
  exact ⟨lv, mt, mk, n1, n2, V, h1.fr f (hG _ ((hX _).2 (.inl rfl))), h2.fr f (fun k e => hG k ((hX k).2 (.inr (.inr (.inr (.inl e)))))), h3.fr f (hG _ ((hX _).2 (.inr (.inl rfl)))), h4.fr f (hG _ ((hX _).2 (.inr (.inr (.inl rfl))))),
    ⟨fun p v e => (h5.row p v e).fr f (fun k e2 => hG k ((hX k).2 (.inr (.inr (.inr (.inr ⟨p, v, e, e2⟩)))))), h5.none_, h5.apart⟩, h6, hX⟩
theorem TrB.new_ {W W' : World} {t u : Nat} {X : Nat → Prop} {l : List DoV} {s : TkV} (h : TrB W t X l s u) (f : New W W') : TrB W' t X l s u := h.fr f fun _ _ g => g
theorem TrB.lt {W : World} {t u : Nat} {X : Nat → Prop} {l : List DoV} {s : TkV} (h : TrB W t X l s u) {k : Nat} (hk : X k) : k < W.heap.size := by
  obtain ⟨lv, mt, mk, n1, n2, V, h1, h2, h3, h4, h5, h6, hX⟩ := h
  rcases (hX k).1 hk with e | e | e | e | ⟨p, v, e, e2⟩
  · exact e ▸ h1.lt
  · exact e ▸ h3.lt
  · exact e ▸ h4.lt
  · exact h2.lt e
  · exact (h5.row p v e).lt e2
def TrTo (w : World) (X : Nat → Prop) (t : Nat) (W : World) (l : List DoV) (s : TkV) (u : Nat) : Prop := ∃ X', TrB W t X' l s u ∧ Fr X w W ∧ ∀ k, X' k → X k ∨ w.heap.size ≤ k
theorem TrTo.of {w W W2 : World} {X X' : Nat → Prop} {t u : Nat} {l : List DoV} {s : TkV} (f : Fr X w W) (hX : ∀ k, X' k → X k ∨ w.heap.size ≤ k) (h : TrTo W X' t W2 l s u) : TrTo w X t W2 l s u := by
  obtain ⟨X2, h1, f2, h3⟩ := h
  refine ⟨X2, h1, f.trans f2 fun k hk e => ?_, fun k e => ?_⟩
  · rcases hX k e with e | e
    · exact e
    · omega
  · rcases h3 k e with e | e
    · exact hX k e
    · exact .inr (Nat.le_trans f.size e)
theorem TrTo.refl {w : World} {X : Nat → Prop} {t u : Nat} {l : List DoV} {s : TkV} (h : TrB w t X l s u) : TrTo w X t w l s u := ⟨X, h, Fr.refl _ _, fun _ h => .inl h⟩
theorem zero_thing (w : World) : (zeroValue 48).run Try.prog w = .ok zeroT.val w := by kernel_rfl
theorem zero_row (w : World) : (zeroValue 51).run Try.prog w = .ok (.slice none 0 0) w := by kernel_rfl
theorem look_thing {W : World} {mt n : Nat} {th : Ths} (h : MapF Try.prog 22 W mt n (keyM (thV th))) {i : Nat} (hi : i < 18446744073709551616) (ok : Bool) :
    (Instr.lookup 100 (.map (some mt)) (.int .u64 (i : Int)) ok).run Try.prog W = .ok (if ok then .tuple #[((th i).getD zeroT).val, .bool (th i).isSome] else ((th i).getD zeroT).val) W := by
  obtain ⟨z, hz⟩ := u64_key hi
  rw [h.look u64_keyed Try.underlying100 (zero_thing W) hz ok]
  show Result.ok (if ok = true then _ else _) W = _
  rw [keyM_at]
  unfold thV
  cases th i <;> rfl
theorem look_kids {W : World} {mk n : Nat} {V : Nat → Option Value} (h : MapF Try.prog 22 W mk n (keyM V)) {i : Nat} (hi : i < 18446744073709551616) :
    (Instr.lookup 101 (.map (some mk)) (.int .u64 (i : Int)) false).run Try.prog W = .ok ((V i).getD (.slice none 0 0)) W := by
  obtain ⟨z, hz⟩ := u64_key hi
  rw [h.look u64_keyed Try.underlying101 (zero_row W) hz false]
  rfl
theorem KdB.at_ {W : World} {V : Nat → Option Value} {ks : Kds} (h : KdB W V ks) (p : Nat) : UL W ((V p).getD (.slice none 0 0)) (ks p) := by
  cases e : V p with
  | none =>
    rw [h.none_ p e]
    exact UL.nil W
  | some v => exact h.row p v e
end Go.Proofs.Ytedfgbkaijjaeaa
