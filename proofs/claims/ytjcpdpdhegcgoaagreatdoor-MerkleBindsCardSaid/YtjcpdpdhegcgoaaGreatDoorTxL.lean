/- Rows of texts of the call's own: one more at their end. -/
import Derived.Test.YtjcpdpdhegcgoaaGreatDoorBuilder
import Derived.Maps.AppendAt
import Derived.Deep.AppendLies
import Derived.Deep.RegionLaw
namespace Go.Proofs.YtjcpdpdhegcgoaaGreatDoor
open Go.RowKit
set_option linter.unusedVariables false

/-- A row of texts of the call's own, from block B on. -/
def TxL (W : World) (B : Nat) (v : Value) (l : List ByteArray) : Prop := W.ownsRow B 9 1 v l.length (l.map Value.string)
theorem TxL.nil (W : World) (B : Nat) : TxL W B (.slice none 0 0) [] := World.ownsRow_nil _ _ _ _
theorem TxL.fr {W W' : World} {B : Nat} {v : Value} {l : List ByteArray} {G : Nat → Prop} (h : TxL W B v l) (f : Fr G W W') (hv : ∀ k, v.ownBlock = some k → ¬ G k) : TxL W' B v l := by
  rcases h.2 with ⟨e, h0⟩ | ⟨g, cap, cur, e, hB, hg, r⟩
  · exact ⟨h.1, .inl ⟨e, h0⟩⟩
  · subst e
    exact ⟨h.1, .inr ⟨g, cap, cur, rfl, hB, (f.block g (lt_of_block hg) (hv g rfl)).trans hg, r⟩⟩
theorem TxL.new_ {W W' : World} {B : Nat} {v : Value} {l : List ByteArray} (h : TxL W B v l) (f : New W W') : TxL W' B v l := h.fr f fun _ _ g => g
theorem TxL.base {W : World} {B : Nat} {v : Value} {l : List ByteArray} (h : TxL W B v l) {k : Nat} (hk : v.ownBlock = some k) : B ≤ k ∧ k < W.heap.size := by
  rcases h.2 with ⟨e, h0⟩ | ⟨g, cap, cur, e, hB, hg, r⟩
  · rw [e] at hk; cases hk
  · subst e
    injection hk with hk
    have : g = k := hk
    subst this
    exact ⟨hB, lt_of_block hg⟩
theorem TxL.mono {W : World} {B B' : Nat} {v : Value} {l : List ByteArray} (h : TxL W B v l) (hB : B' ≤ B) : TxL W B' v l := by
  rcases h.2 with ⟨e, h0⟩ | ⟨g, cap, cur, e, h1, hg, r⟩
  · exact ⟨h.1, .inl ⟨e, h0⟩⟩
  · exact ⟨h.1, .inr ⟨g, cap, cur, e, Nat.le_trans hB h1, hg, r⟩⟩
theorem TxL.form {W : World} {B : Nat} {v : Value} {l : List ByteArray} (h : TxL W B v l) : ∃ A cap, v = .slice A l.length cap := by
  rcases h.2 with ⟨e, h0⟩ | ⟨g, cap, cur, e, _⟩
  · exact ⟨none, 0, by rw [e, h0]⟩
  · exact ⟨_, cap, e⟩
theorem TxL.sl {W : World} {B : Nat} {A : Option Addr} {n cap : Nat} {l : List ByteArray} (h : TxL W B (.slice A n cap) l) (hn : l.length ≤ maxLen) : n = l.length ∧ Sl W 1 A l.length fun i => [.string (l.getD i .empty)] := by
  rcases h.2 with ⟨e, h0⟩ | ⟨g, cap', cur, e, hB, hg, h1, h2, h3, h4⟩
  · injection e with e1 e2 e3
    subst e1 e2
    rw [h0]
    exact ⟨rfl, Sl.none_ _ _ _⟩
  · injection e with e1 e2 e3
    subst e1
    refine ⟨e2, hn, fun i hi => ⟨g, 0, rfl, fun j u hu => ?_⟩⟩
    have hj : j = 0 := by
      rcases j with _ | j
      · rfl
      · simp at hu
    subst hj
    have hu' : u = .string (l.getD i .empty) := by simpa using hu.symm
    subst hu'
    have hc : W.cell? ⟨g, 0 + i * 1 + 0, none⟩ = cur[i]? := by
      have := Own.cell (w := W) (b := g) (t := 9) (cs := cur) hg i
      rw [show 0 + i * 1 + 0 = i by omega]
      exact this
    rw [hc]
    have e2 : cur.toList[i]? = (cur.toList.take (l.length * 1))[i]? := by rw [List.getElem?_take]; simp [hi]
    rw [← Array.getElem?_toList, e2, h4]
    simp [hi]
theorem info_text : (Tryz.prog.info? 9).map (fun i => (i.zero, i.size, i.bytes)) = some (some (.string ⟨#[]⟩), 1, 16) := by kernel_rfl
/-- One text more. -/
theorem append_txt {W : World} {B blk : Nat} {v : Value} {l : List ByteArray} {s : ByteArray} (h : TxL W B v l) (hB : B ≤ W.heap.size) (hn : l.length ≤ 100000) (hb : Own W blk 9 #[.string s]) :
    ∃ v' W', (Builtin.append_ #[24, 24] 24 #[v, .slice (some ⟨blk, 0, none⟩) 1 1]).run Tryz.prog W = .ok v' W' ∧ TxL W' B v' (l ++ [s]) ∧
      Fr (fun k => v.ownBlock = some k) W W' ∧ (v'.ownBlock = v.ownBlock ∨ ∃ k, v'.ownBlock = some k ∧ W.heap.size ≤ k) := by
  obtain ⟨i, hi, hv⟩ := Option.map_eq_some_iff.1 info_text
  have z1 : i.zero = some (.string ⟨#[]⟩) := congrArg Prod.fst hv
  have z2 : i.size = 1 := congrArg (fun x => x.2.1) hv
  have z3 : i.bytes = 16 := congrArg (fun x => x.2.2) hv
  obtain ⟨v', W', hr, h2, h3, h4, h5⟩ := run_append_own_at (P := Tryz.prog) W B 24 24 9 i _ 1 16 Tryz.underlying24 hi z1 z2 z3 rfl (by omega) v l.length _ h ⟨blk, 0, none⟩ 1 1 [.string s] rfl
    (fun j u hu => World.news_of_block hb j u hu) (by simp [Value.oneCell']) (by simp [maxLen]; omega) (by omega) hB
  refine ⟨v', W', hr, ?_, fr_of_grown h3, ?_⟩
  · unfold TxL
    rw [List.length_append, List.map_append]
    exact h2
  · rcases h5 with e | e
    · exact .inl e
    · exact .inr ⟨_, e, Nat.le_refl _⟩
/-- An append whose run is known, in a plain region. -/
theorem wpList_append_run {P : Program} {w : World} {ops : Array Oper} {rest : List Oper} {o : Oper} {a : Act} {Q : Exit → Act → World → Prop} (hgd : o.guard = none) (s x : Operand) (t : TypeId)
    (ho : o.op = .call { callee := .builtin .append, args := #[s, x], argTypes := #[t, t] }) {v u v' : Value} {w' : World} (hs : a.eval s = v) (hx : a.eval x = u)
    (hr : (Builtin.append_ #[t, t] o.type #[v, u]).run P w = .ok v' w') (k : wpList P ops Q rest (a.put o.dst v') w') : wpList P ops Q (o :: rest) a w := by
  refine wpList_plain hgd fun K hK => ?_
  unfold Oper.wp execOp
  simp only [ho, resolve, invoke, builtin, Sem.run_bind, Sem.run_pure, Result.andThen_ok, List.map_toArray, List.map_cons, List.map_nil, hs, hx, hr]
  exact hK _ _ k
/-- The same, as one step of a region that draws. -/
theorem step_append_run {P : Program} {ops : Array Oper} {o : Oper} {a : Act} {w : World} {K : Act → World → Prop} {Q : Exit → Act → World → Prop} {E : Prop}
    (hg : o.guard = none) (s x : Operand) (t : TypeId) (ho : o.op = .call { callee := .builtin .append, args := #[s, x], argTypes := #[t, t] }) {v u v' : Value} {w' : World} (hs : a.eval s = v) (hx : a.eval x = u)
    (hr : (Builtin.append_ #[t, t] o.type #[v, u]).run P w = .ok v' w') (hK : K (a.put o.dst v') w') :
    if Region.wanted o (yielded ops a.tmps) = true then Oper.wp P o a w K Q else E := by
  have hw : Region.wanted o (yielded ops a.tmps) = true := by simp [Region.wanted, hg]
  rw [if_pos hw]
  unfold Oper.wp execOp
  simp only [ho, resolve, invoke, builtin, Sem.run_bind, Sem.run_pure, Result.andThen_ok, List.map_toArray, List.map_cons, List.map_nil, hs, hx, hr]
  exact hK
end Go.Proofs.YtjcpdpdhegcgoaaGreatDoor
