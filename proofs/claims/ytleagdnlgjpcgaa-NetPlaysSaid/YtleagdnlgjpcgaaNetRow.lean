/- Rows of packets: one more, and one less (slices.Delete in place). -/
import Derived.Test.YtleagdnlgjpcgaaMapF
import Derived.Maps.AppendAt
import Derived.Deep.AppendLies
import Derived.Deep.RegionLaw
namespace Go.Proofs.Ytleagdnlgjpcgaa
open Go.RowKit
set_option linter.unusedVariables false
set_option linter.unusedSimpArgs false

theorem fr_of_grown' {w w' : World} {row : Option Nat} (h : w.grownBy w' row) : Fr (fun k => row = some k) w w' := ⟨h.os, h.tape, h.output, h.size, fun k hk hn => h.block k hk (fun e => hn e.symm)⟩
theorem fr_setRow (W : World) (g : Nat) (cs : Array Value) : Fr (fun k => k = g) W (W.setRow g cs) := ⟨rfl, rfl, rfl, by simp [World.setRow], fun k _ hk => setRow_other W g k cs hk⟩
structure Pkt where
  f : Int
  t : Int
  s : ByteArray
abbrev Pkt.cs (p : Pkt) : List Value := [.int .i64 p.f, .int .i64 p.t, .string p.s]
abbrev Pkt.v (p : Pkt) : Value := .agg #[.int .i64 p.f, .int .i64 p.t, .string p.s]
def Pkt.wf (p : Pkt) : Prop := (Lit.int .i64 p.f).wf = true ∧ (Lit.int .i64 p.t).wf = true ∧ p.s.size ≤ maxLen
def pkCells : List Pkt → List Value
  | [] => []
  | p :: l => .int .i64 p.f :: .int .i64 p.t :: .string p.s :: pkCells l
theorem pkCells_length : ∀ l, (pkCells l).length = l.length * 3
  | [] => rfl
  | p :: l => by simp [pkCells, pkCells_length l]; omega
theorem pkCells_append : ∀ l m, pkCells (l ++ m) = pkCells l ++ pkCells m
  | [], m => rfl
  | p :: l, m => by simp [pkCells, pkCells_append l m]
theorem pkCells_drop : ∀ (l : List Pkt) k, (pkCells l).drop (k * 3) = pkCells (l.drop k)
  | l, 0 => by simp
  | [], k + 1 => by simp [pkCells]
  | p :: l, k + 1 => by
    rw [show (k + 1) * 3 = k * 3 + 3 by omega]
    simp [pkCells, pkCells_drop l k]
theorem pkCells_take : ∀ (l : List Pkt) k, (pkCells l).take (k * 3) = pkCells (l.take k)
  | l, 0 => by simp [pkCells]
  | [], k + 1 => by simp [pkCells]
  | p :: l, k + 1 => by
    rw [show (k + 1) * 3 = k * 3 + 3 by omega]
    simp [pkCells, pkCells_take l k]
theorem pkCells_one : ∀ (l : List Pkt), ∀ u ∈ pkCells l, u.oneCell' = true
  | [], u, h => by simp [pkCells] at h
  | p :: l, u, h => by
    simp only [pkCells, List.mem_cons] at h
    rcases h with rfl | rfl | rfl | h
    · rfl
    · rfl
    · rfl
    · exact pkCells_one l u h
theorem pkCells_at : ∀ (l : List Pkt) i (h : i < l.length), (pkCells l)[i * 3]? = some (.int .i64 l[i].f) ∧ (pkCells l)[i * 3 + 1]? = some (.int .i64 l[i].t) ∧ (pkCells l)[i * 3 + 2]? = some (.string l[i].s)
  | p :: l, 0, h => by simp [pkCells]
  | p :: l, i + 1, h => by
    have := pkCells_at l i (by simpa using h)
    rw [show (i + 1) * 3 = i * 3 + 3 by omega, show i * 3 + 3 + 1 = i * 3 + 1 + 3 by omega, show i * 3 + 3 + 2 = i * 3 + 2 + 3 by omega]
    simpa [pkCells] using this

theorem step_append_run {P : Program} {ops : Array Oper} {o : Oper} {a : Act} {w : World} {K : Act → World → Prop} {Q : Exit → Act → World → Prop} {E : Prop}
    (hg : o.guard = none) (s x : Operand) (t : TypeId) (ho : o.op = .call { callee := .builtin .append, args := #[s, x], argTypes := #[t, t] }) {v u v' : Value} {w' : World} (hs : a.eval s = v) (hx : a.eval x = u)
    (hr : (Builtin.append_ #[t, t] o.type #[v, u]).run P w = .ok v' w') (hK : K (a.put o.dst v') w') :
    if Region.wanted o (yielded ops a.tmps) = true then Oper.wp P o a w K Q else E := by
  have hw : Region.wanted o (yielded ops a.tmps) = true := by simp [Region.wanted, hg]
  rw [if_pos hw]
  unfold Oper.wp execOp
  simp only [ho, resolve, invoke, builtin, Sem.run_bind, Sem.run_pure, Result.andThen_ok, List.map_toArray, List.map_cons, List.map_nil, hs, hx, hr]
  exact hK
theorem wpList_append_run {P : Program} {w : World} {ops : Array Oper} {rest : List Oper} {o : Oper} {a : Act} {Q : Exit → Act → World → Prop} (hgd : o.guard = none) (s x : Operand) (t : TypeId)
    (ho : o.op = .call { callee := .builtin .append, args := #[s, x], argTypes := #[t, t] }) {v u v' : Value} {w' : World} (hs : a.eval s = v) (hx : a.eval x = u)
    (hr : (Builtin.append_ #[t, t] o.type #[v, u]).run P w = .ok v' w') (k : wpList P ops Q rest (a.put o.dst v') w') : wpList P ops Q (o :: rest) a w := by
  refine wpList_plain hgd fun K hK => ?_
  unfold Oper.wp execOp
  simp only [ho, resolve, invoke, builtin, Sem.run_bind, Sem.run_pure, Result.andThen_ok, List.map_toArray, List.map_cons, List.map_nil, hs, hx, hr]
  exact hK _ _ k
/-- A row of packets of the call's own. -/
def PkL (W : World) (v : Value) (l : List Pkt) : Prop := W.ownsRow 0 26 3 v l.length (pkCells l)
theorem PkL.nil (W : World) : PkL W (.slice none 0 0) [] := World.ownsRow_nil _ _ _ _
theorem PkL.fr {W W' : World} {v : Value} {l : List Pkt} {G : Nat → Prop} (h : PkL W v l) (f : Fr G W W') (hv : ∀ k, v.ownBlock = some k → ¬ G k) : PkL W' v l := by
  rcases h.2 with ⟨e, h0⟩ | ⟨g, cap, cur, e, hB, hg, r⟩
  · exact ⟨h.1, .inl ⟨e, h0⟩⟩
  · subst e
    exact ⟨h.1, .inr ⟨g, cap, cur, rfl, hB, (f.block g (lt_of_block hg) (hv g rfl)).trans hg, r⟩⟩
theorem PkL.lt {W : World} {v : Value} {l : List Pkt} (h : PkL W v l) {k : Nat} (hk : v.ownBlock = some k) : k < W.heap.size := (World.ownsRow.lt h k hk).2
theorem PkL.row {W : World} {v : Value} {l : List Pkt} (h : PkL W v l) {k : Nat} (hk : v.ownBlock = some k) : ∃ cur, W.heap[k]? = some (.cells cur 26 (0, 0)) := by
  rcases h.2 with ⟨e, h0⟩ | ⟨g, cap, cur, e, hB, hg, r⟩
  · rw [e] at hk; cases hk
  · subst e
    injection hk with hk
    have : g = k := hk
    subst this
    exact ⟨cur, hg⟩
theorem PkL.form {W : World} {v : Value} {l : List Pkt} (h : PkL W v l) : ∃ A cap, v = .slice A l.length cap := by
  rcases h.2 with ⟨e, h0⟩ | ⟨g, cap, cur, e, _⟩
  · exact ⟨none, 0, by rw [e, h0]⟩
  · exact ⟨_, cap, e⟩
theorem info_pk : (Try.prog.info? 26).map (fun i => (i.zero, i.size, i.bytes)) = some (some (.agg #[.int .i64 0, .int .i64 0, .string ⟨#[]⟩]), 3, 32) := by kernel_rfl
/-- One packet more. -/
theorem append_pk {W : World} {blk : Nat} {v : Value} {l : List Pkt} {p : Pkt} (h : PkL W v l) (hn : l.length ≤ 100000) (hb : Own W blk 26 #[.int .i64 p.f, .int .i64 p.t, .string p.s]) :
    ∃ v' W', (Builtin.append_ #[22, 22] 22 #[v, .slice (some ⟨blk, 0, none⟩) 1 1]).run Try.prog W = .ok v' W' ∧ PkL W' v' (l ++ [p]) ∧
      Fr (fun k => v.ownBlock = some k) W W' ∧ (v'.ownBlock = v.ownBlock ∨ ∃ k, v'.ownBlock = some k ∧ W.heap.size ≤ k) := by
  obtain ⟨i, hi, hv⟩ := Option.map_eq_some_iff.1 info_pk
  have z1 : i.zero = some (.agg #[.int .i64 0, .int .i64 0, .string ⟨#[]⟩]) := congrArg Prod.fst hv
  have z2 : i.size = 3 := congrArg (fun x => x.2.1) hv
  have z3 : i.bytes = 32 := congrArg (fun x => x.2.2) hv
  obtain ⟨v', W', hr, h2, h3, h4, h5⟩ := run_append_own_at (P := Try.prog) W 0 22 22 26 i _ 3 32 Try.underlying22 hi z1 z2 z3 rfl (by omega) v l.length _ h ⟨blk, 0, none⟩ 1 1 p.cs rfl
    (fun j u hu => World.news_of_block hb j u hu) (by simp [Pkt.cs, Value.oneCell']) (by simp [maxLen]; omega) (by omega) (Nat.zero_le _)
  refine ⟨v', W', hr, ?_, fr_of_grown' h3, ?_⟩
  · unfold PkL
    rw [List.length_append, pkCells_append]
    exact h2
  · rcases h5 with e | e
    · exact .inl e
    · exact .inr ⟨_, e, Nat.le_refl _⟩
theorem zero_pk (w : World) : (zeroValue 26).run Try.prog w = .ok (.agg #[.int .i64 0, .int .i64 0, .string ⟨#[]⟩]) w := by kernel_rfl
theorem run_clear_pk {W : World} {g n c : Nat} {cur : Array Value} (hg : W.heap[g]? = some (.cells cur 26 (0, 0))) (hn : n * 3 + 3 ≤ cur.size) (ty : TypeId) :
    (Builtin.clear_ #[22] ty #[.slice (some ⟨g, n * 3, none⟩) 1 c]).run Try.prog W = .ok (.tuple #[]) (W.setRow g (cur.toList.take (n * 3) ++ [Value.int .i64 0, Value.int .i64 0, Value.string ⟨#[]⟩] ++ cur.toList.drop (n * 3 + 3)).toArray) := by
  have hst := run_storeCells_at Try.prog g (n * 3) 26 [.int .i64 0, .int .i64 0, .string ⟨#[]⟩] 0 cur W hg (by simpa using hn) (by simp [Value.oneCell'])
  have hzc : (Builtin.zeroCells (Value.agg #[.int .i64 0, .int .i64 0, .string ⟨#[]⟩]).cells 1).toList = [.int .i64 0, .int .i64 0, .string ⟨#[]⟩] := by kernel_rfl
  simp only [Nat.add_zero] at hst
  simp [Builtin.clear_, run_underlying Try.underlying22, zero_pk, hzc, hst]
set_option maxHeartbeats 4000000 in
set_option maxRecDepth 1000000 in
/-- slices.Delete of one packet, in place. -/
theorem del_any {w : World} {v : Value} {l : List Pkt} {i : Nat} (h : PkL w v l) (hi : i < l.length) (hl : l.length ≤ 100000) :
    Calls Try.prog 25 #[v, .int .i64 (i : Nat), .int .i64 ((i + 1 : Nat) : Int)] w fun e W => ∃ v', e = .returned v' ∧ PkL W v' (l.take i ++ l.drop (i + 1)) ∧ v'.ownBlock = v.ownBlock ∧ Fr (fun k => v.ownBlock = some k) w W := by
  rcases h.2 with ⟨e, h0⟩ | ⟨g, cap, cur, e, _, hg, hc, hm, hs, ht⟩
  · omega
  subst e
  obtain ⟨i0, hi0, hv0⟩ := Option.map_eq_some_iff.1 info_pk
  have z2 : i0.size = 3 := congrArg (fun x => x.2.1) hv0
  obtain ⟨n, hn⟩ : ∃ n, n = l.length := ⟨_, rfl⟩
  rw [← hn] at hi hl hc ht ⊢
  obtain ⟨news, hnews⟩ : ∃ news, news = pkCells (l.drop (i + 1)) := ⟨_, rfl⟩
  have hlen : news.length = (n - (i + 1)) * 3 := by rw [hnews, pkCells_length, List.length_drop, hn]
  have hone : ∀ u ∈ news, u.oneCell' = true := by rw [hnews]; exact pkCells_one _
  obtain ⟨A, hA, hsrc⟩ : ∃ A : Addr, (if cap = i + 1 then some (⟨g, 0, none⟩ : Addr) else some ⟨g, (i + 1) * 3, none⟩) = some A ∧ (∀ t u, news[t]? = some u → w.drew.cell? (A.add t) = some u) := by
    by_cases hcap : cap = i + 1
    · refine ⟨⟨g, 0, none⟩, by simp [hcap], fun t u hu => ?_⟩
      have : news.length = 0 := by rw [hlen]; omega
      rw [List.length_eq_zero_iff.1 this] at hu
      simp at hu
    · refine ⟨⟨g, (i + 1) * 3, none⟩, by simp [hcap], fun t u hu => ?_⟩
      have hadd : (⟨g, (i + 1) * 3, none⟩ : Addr).add t = ⟨g, (i + 1) * 3 + t, none⟩ := by unfold Addr.add; split <;> simp_all
      rw [hadd]
      have htl := (List.getElem?_eq_some_iff.1 hu).1
      rw [hlen] at htl
      rw [hnews, ← pkCells_drop, List.getElem?_drop, ← ht, List.getElem?_take] at hu
      rw [show w.drew.cell? ⟨g, (i + 1) * 3 + t, none⟩ = cur[(i + 1) * 3 + t]? from Own.cell (w := w) (b := g) (t := 26) (cs := cur) hg _]
      split at hu
      · simpa using hu
      · cases hu
  have hr := run_append_room (P := Try.prog) (w := w.drew) 22 22 26 i0 Try.underlying22 hi0 g i cap cur hg A (n - (i + 1)) (cap - (i + 1)) news (by rw [z2]; exact hlen) hsrc hone (by omega) (by rw [z2, hlen, hs]; omega)
  rw [z2] at hr
  obtain ⟨cur1, hcur1⟩ : ∃ c, c = (cur.toList.take (i * 3) ++ news ++ cur.toList.drop (i * 3 + news.length)).toArray := ⟨_, rfl⟩
  rw [← hcur1] at hr
  have hs1 : cur1.size = cap * 3 := by
    rw [hcur1]; simp only [List.size_toArray, List.length_append, List.length_take, List.length_drop, Array.length_toList]; omega
  have ht1 : cur1.toList.take ((n - 1) * 3) = pkCells (l.take i ++ l.drop (i + 1)) := by
    rw [hcur1, pkCells_append, ← pkCells_take, ← ht, List.take_take, Nat.min_eq_left (by omega), ← hnews]
    have : (cur.toList.take (i * 3) ++ news).length = (n - 1) * 3 := by simp only [List.length_append, List.length_take, Array.length_toList]; omega
    rw [← this]
    exact List.take_left
  obtain ⟨W1, hW1⟩ : ∃ W1, W1 = w.drew.setRow g cur1 := ⟨_, rfl⟩
  rw [← hW1] at hr
  have hg1 : W1.heap[g]? = some (.cells cur1 26 (0, 0)) := by rw [hW1]; exact setRow_heap _ _ _ _ _ _ hg
  have f1 : Fr (fun k => k = g) w W1 := by rw [hW1]; exact ((Fr.refl _ w).drew).trans (fr_setRow _ _ _) fun _ _ h => h
  have hcl := run_clear_pk (W := W1) (g := g) (n := n - 1) (c := cap - (n - 1)) hg1 (by omega)
  obtain ⟨cur2, hcur2⟩ : ∃ c, c = (cur1.toList.take ((n - 1) * 3) ++ [Value.int .i64 0, Value.int .i64 0, Value.string ⟨#[]⟩] ++ cur1.toList.drop ((n - 1) * 3 + 3)).toArray := ⟨_, rfl⟩
  rw [← hcur2] at hcl
  obtain ⟨W2, hW2⟩ : ∃ W2, W2 = W1.setRow g cur2 := ⟨_, rfl⟩
  rw [← hW2] at hcl
  have hg2 : W2.heap[g]? = some (.cells cur2 26 (0, 0)) := by rw [hW2]; exact setRow_heap _ _ _ _ _ _ hg1
  have f2 : Fr (fun k => k = g) w W2 := f1.trans (by rw [hW2]; exact fr_setRow _ _ _) fun _ _ h => h
  have hs2 : cur2.size = cap * 3 := by
    rw [hcur2]; simp only [List.size_toArray, List.length_append, List.length_take, List.length_drop, Array.length_toList, List.length_cons, List.length_nil]; omega
  have ht2 : cur2.toList.take ((n - 1) * 3) = pkCells (l.take i ++ l.drop (i + 1)) := by
    rw [hcur2, ← ht1]
    have : (cur1.toList.take ((n - 1) * 3)).length = (n - 1) * 3 := by simp only [List.length_take, Array.length_toList]; omega
    rw [List.append_assoc]
    rw [List.take_append_of_le_length (by omega), List.take_take, Nat.min_self]
  have hlen2 : (l.take i ++ l.drop (i + 1)).length = n - 1 := by simp only [List.length_append, List.length_take, List.length_drop]; omega
  have hend : PkL W2 (.slice (some ⟨g, 0, none⟩) (n - 1) cap) (l.take i ++ l.drop (i + 1)) := by
    refine ⟨by rw [pkCells_length], .inr ⟨g, cap, cur2, by rw [hlen2], Nat.zero_le _, hg2, by rw [hlen2]; omega, hm, hs2, by rw [hlen2]; exact ht2⟩⟩
  clear hW1 hW2 hcur1 hcur2 ht1 ht2 hs1 hs2 hg1 hg2 hsrc hnews hone hlen f1
  have hic : i ≤ cap := by omega
  have hjc : i + 1 ≤ cap := by omega
  have hjn : i + 1 ≤ n := by omega
  have hi1 : (0 : Int) ≤ (i : Int) + 1 := by omega
  have hi2 : (i : Int) + 1 ≤ (n : Int) := by omega
  have hi3 : ((i : Int) + 1).toNat = i + 1 := by omega
  clear hn h
  obtain ⟨m, rfl⟩ : ∃ m, n = m + 1 := ⟨n - 1, by omega⟩
  rw [show i + (m + 1 - (i + 1)) = m by omega, Nat.add_sub_add_right] at hr
  have him : i ≤ m := by omega
  simp only [Nat.add_sub_cancel] at hcl hend
  have hi4 : m ≤ cap := by omega
  have hi5 : m + 1 ≤ cap := by omega
  have hi6 : ¬ cap = m := by omega
  have hne : ¬ ((i : Int) = ((i + 1 : Nat) : Int)) := by omega
  go_enter Try.func25, Try.ntmps25
  go_wp2_with fail
  go_region_law (first | (refine step_append_run rfl (.tmp 22) (.tmp 25) 22 rfl ?ev1 ?ev2 hr ?_; (case ev1 => simp [Act.eval, Act.put]); (case ev2 => simp [Act.eval, Act.put, hA])))
  go_wp2_with fail
  go_ret
  refine ⟨_, rfl, hend, rfl, f2.mono fun k hk => ?_⟩
  show some g = some k
  rw [show k = g from hk]
end Go.Proofs.Ytleagdnlgjpcgaa
