/- Rows of numbers: one more at the end, one less, one more in its place. -/
import Derived.Test.YtedfgbkaijjaeaaMapF
import Derived.Test.YtedfgbkaijjaeaaMvModel
import Derived.Test.YtedfgbkaijjaeaaSplit
import Derived.Maps.AppendAt
import Derived.Deep.AppendLies
import Derived.Deep.RegionLaw
import Derived.Lib.AppendZerosOnto
import Derived.Lib.Overlaps
import Derived.Laws.CopyRow
import Derived.Lib.Hide
import Derived.Laws.Externs
namespace Go.Proofs.Ytedfgbkaijjaeaa
open Go.RowKit Go.Maps
set_option linter.unusedVariables false
set_option linter.unusedSimpArgs false

theorem fr_of_grown' {w w' : World} {row : Option Nat} (h : w.grownBy w' row) : Fr (fun k => row = some k) w w' := ⟨h.os, h.tape, h.output, h.size, fun k hk hn => h.block k hk (fun e => hn e.symm)⟩
theorem fr_setRow (W : World) (g : Nat) (cs : Array Value) : Fr (fun k => k = g) W (W.setRow g cs) := ⟨rfl, rfl, rfl, by simp [World.setRow], fun k _ hk => setRow_other W g k cs hk⟩
theorem step_append_run {P : Program} {ops : Array Oper} {o : Oper} {a : Act} {w : World} {K : Act → World → Prop} {Q : Exit → Act → World → Prop} {E : Prop}
    (hg : o.guard = none) (s x : Operand) (t : TypeId) (ho : o.op = .call { callee := .builtin .append, args := #[s, x], argTypes := #[t, t] }) {v u v' : Value} {w' : World} (hs : a.eval s = v) (hx : a.eval x = u)
    (hr : (Builtin.append_ #[t, t] o.type #[v, u]).run P w = .ok v' w') (hK : K (a.put o.dst v') w') :
    if Region.wanted o (yielded ops a.tmps) = true then Oper.wp P o a w K Q else E := by
  have hw : Region.wanted o (yielded ops a.tmps) = true := by simp [Region.wanted, hg]
  rw [if_pos hw]
  unfold Oper.wp execOp
  simp only [ho, resolve, invoke, builtin, Sem.run_bind, Sem.run_pure, Result.andThen_ok, List.map_toArray, List.map_cons, List.map_nil, hs, hx, hr]
  exact hK
theorem wpList_append_run {P : Program} {w : World} {ops : Array Oper} {rest : List Oper} {o : Oper} {a : Act} {Q : Exit → Act → World → Prop} (hgd : o.guard = none) (s x : Operand) (t : TypeId)
    (ho : o.op = .call { callee := .builtin .append, args := #[s, x], argTypes := #[t, t] }) {v u v' : Value} {w' : World} (hs : a.eval s = v) (hx : a.eval x = u)
    (hr : (Builtin.append_ #[t, t] o.type #[v, u]).run P w = .ok v' w') (k : wpList P ops Q rest (a.put o.dst v') w') : wpList P ops Q (o :: rest) a w := by
  refine wpList_plain hgd fun K hK => ?_
  unfold Oper.wp execOp
  simp only [ho, resolve, invoke, builtin, Sem.run_bind, Sem.run_pure, Result.andThen_ok, List.map_toArray, List.map_cons, List.map_nil, hs, hx, hr]
  exact hK _ _ k
theorem run_copy_rowK {P : Program} (w : World) (dT sT ty elem : TypeId) (g o dLen dCap : Nat) (a : Addr) (sLen sCap : Nat) (cur : Array Value) (t : TypeId) (cs : List Value) (i : TypeInfo)
    (hu : P.underlying dT = some (.slice elem)) (hq : P.info? elem = some i) (hg : w.heap[g]? = some (.cells cur t (0, 0))) (hn : cs.length = Nat.min sLen dLen * i.size)
    (hsrc : ∀ j v, cs[j]? = some v → w.cell? (a.add j) = some v) (hfit : o + cs.length ≤ cur.size) (h1 : ∀ v ∈ cs, v.oneCell' = true) :
    (Builtin.copy_ #[dT, sT] ty #[.slice (some ⟨g, o, none⟩) dLen dCap, .slice (some a) sLen sCap]).run P w =
      .ok (goInt (Nat.min sLen dLen)) (w.setRow g (cur.toList.take o ++ cs ++ cur.toList.drop (o + cs.length)).toArray) := by
  have hl := run_loadCells_list (P := P) w a cs hsrc
  have hst := run_storeCells_at P g o t cs 0 cur w hg (by simpa using hfit) h1
  simp [Builtin.copy_, run_underlying hu, Builtin.lenOf, Builtin.firstCells, sizeOf, typeInfo, hq, ← hn, hl, hst]
theorem step_copy_run {P : Program} {ops : Array Oper} {o : Oper} {a : Act} {w : World} {K : Act → World → Prop} {Q : Exit → Act → World → Prop} {E : Prop}
    (hg : o.guard = none) (d x : Operand) (t : TypeId) (ho : o.op = .call { callee := .builtin .copy, args := #[d, x], argTypes := #[t, t] }) {v u v' : Value} {w' : World} (hd : a.eval d = v) (hx : a.eval x = u)
    (hr : (Builtin.copy_ #[t, t] o.type #[v, u]).run P w = .ok v' w') (hK : K (a.put o.dst v') w') :
    if Region.wanted o (yielded ops a.tmps) = true then Oper.wp P o a w K Q else E := by
  have hw : Region.wanted o (yielded ops a.tmps) = true := by simp [Region.wanted, hg]
  rw [if_pos hw]
  unfold Oper.wp execOp
  simp only [ho, resolve, invoke, builtin, Sem.run_bind, Sem.run_pure, Result.andThen_ok, List.map_toArray, List.map_cons, List.map_nil, hd, hx, hr]
  exact hK
theorem wpList_copy_run {P : Program} {w : World} {ops : Array Oper} {rest : List Oper} {o : Oper} {a : Act} {Q : Exit → Act → World → Prop} (hgd : o.guard = none) (d x : Operand) (t : TypeId)
    (ho : o.op = .call { callee := .builtin .copy, args := #[d, x], argTypes := #[t, t] }) {v u v' : Value} {w' : World} (hd : a.eval d = v) (hx : a.eval x = u)
    (hr : (Builtin.copy_ #[t, t] o.type #[v, u]).run P w = .ok v' w') (k : wpList P ops Q rest (a.put o.dst v') w') : wpList P ops Q (o :: rest) a w := by
  refine wpList_plain hgd fun K hK => ?_
  unfold Oper.wp execOp
  simp only [ho, resolve, invoke, builtin, Sem.run_bind, Sem.run_pure, Result.andThen_ok, List.map_toArray, List.map_cons, List.map_nil, hd, hx, hr]
  exact hK _ _ k
theorem wpList_append_run2 {P : Program} {w : World} {ops : Array Oper} {rest : List Oper} {o : Oper} {a : Act} {Q : Exit → Act → World → Prop} (hgd : o.guard = none) (s x : Operand) (t t' : TypeId)
    (ho : o.op = .call { callee := .builtin .append, args := #[s, x], argTypes := #[t, t'] }) {v u v' : Value} {w' : World} (hs : a.eval s = v) (hx : a.eval x = u)
    (hr : (Builtin.append_ #[t, t'] o.type #[v, u]).run P w = .ok v' w') (k : wpList P ops Q rest (a.put o.dst v') w') : wpList P ops Q (o :: rest) a w := by
  refine wpList_plain hgd fun K hK => ?_
  unfold Oper.wp execOp
  simp only [ho, resolve, invoke, builtin, Sem.run_bind, Sem.run_pure, Result.andThen_ok, List.map_toArray, List.map_cons, List.map_nil, hs, hx, hr]
  exact hK _ _ k
def uCells : List Nat → List Value
  | [] => []
  | p :: l => .int .u64 p :: uCells l
theorem uCells_length : ∀ l, (uCells l).length = l.length
  | [] => rfl
  | p :: l => by simp only [uCells, List.length_cons, uCells_length l] <;> omega
theorem uCells_append : ∀ l m, uCells (l ++ m) = uCells l ++ uCells m
  | [], m => rfl
  | p :: l, m => by simp [uCells, uCells_append l m]
theorem uCells_drop : ∀ (l : List Nat) k, (uCells l).drop (k) = uCells (l.drop k)
  | l, 0 => by simp
  | [], k + 1 => by simp [uCells]
  | p :: l, k + 1 => by
    rw [show (k + 1) = k + 1 by omega]
    simp [uCells, ← uCells_drop l k]
theorem uCells_take : ∀ (l : List Nat) k, (uCells l).take (k) = uCells (l.take k)
  | l, 0 => by simp [uCells]
  | [], k + 1 => by simp [uCells]
  | p :: l, k + 1 => by
    rw [show (k + 1) = k + 1 by omega]
    simp [uCells, ← uCells_take l k]
theorem uCells_one : ∀ (l : List Nat), ∀ u ∈ uCells l, u.oneCell' = true
  | [], u, h => by simp [uCells] at h
  | p :: l, u, h => by
    simp only [uCells, List.mem_cons] at h
    rcases h with rfl | h
    · rfl
    · exact uCells_one l u h
/-- A row of packets of the call's own. -/
def UL (W : World) (v : Value) (l : List Nat) : Prop := W.ownsRow 0 22 1 v l.length (uCells l)
theorem UL.nil (W : World) : UL W (.slice none 0 0) [] := World.ownsRow_nil _ _ _ _
theorem UL.fr {W W' : World} {v : Value} {l : List Nat} {G : Nat → Prop} (h : UL W v l) (f : Fr G W W') (hv : ∀ k, v.ownBlock = some k → ¬ G k) : UL W' v l := by
  rcases h.2 with ⟨e, h0⟩ | ⟨g, cap, cur, e, hB, hg, r⟩
  · exact ⟨h.1, .inl ⟨e, h0⟩⟩
  · subst e
    exact ⟨h.1, .inr ⟨g, cap, cur, rfl, hB, (f.block g (lt_of_block hg) (hv g rfl)).trans hg, r⟩⟩
theorem UL.lt {W : World} {v : Value} {l : List Nat} (h : UL W v l) {k : Nat} (hk : v.ownBlock = some k) : k < W.heap.size := (World.ownsRow.lt h k hk).2
theorem UL.row {W : World} {v : Value} {l : List Nat} (h : UL W v l) {k : Nat} (hk : v.ownBlock = some k) : ∃ cur, W.heap[k]? = some (.cells cur 22 (0, 0)) := by
  rcases h.2 with ⟨e, h0⟩ | ⟨g, cap, cur, e, hB, hg, r⟩
  · rw [e] at hk; cases hk
  · subst e
    injection hk with hk
    have : g = k := hk
    subst this
    exact ⟨cur, hg⟩
theorem UL.form {W : World} {v : Value} {l : List Nat} (h : UL W v l) : ∃ A cap, v = .slice A l.length cap := by
  rcases h.2 with ⟨e, h0⟩ | ⟨g, cap, cur, e, _⟩
  · exact ⟨none, 0, by rw [e, h0]⟩
  · exact ⟨_, cap, e⟩
theorem info_u : (Try.prog.info? 22).map (fun i => (i.zero, i.size, i.bytes)) = some (some (.int .u64 0), 1, 8) := by kernel_rfl
/-- One packet more. -/
theorem append_u {W : World} {blk : Nat} {v : Value} {l : List Nat} {p : Nat} (h : UL W v l) (hn : l.length ≤ 100000) (hb : Own W blk 22 #[.int .u64 p]) :
    ∃ v' W', (Builtin.append_ #[51, 51] 51 #[v, .slice (some ⟨blk, 0, none⟩) 1 1]).run Try.prog W = .ok v' W' ∧ UL W' v' (l ++ [p]) ∧
      Fr (fun k => v.ownBlock = some k) W W' ∧ (v'.ownBlock = v.ownBlock ∨ ∃ k, v'.ownBlock = some k ∧ W.heap.size ≤ k) := by
  obtain ⟨i, hi, hv⟩ := Option.map_eq_some_iff.1 info_u
  have z1 : i.zero = some (.int .u64 0) := congrArg Prod.fst hv
  have z2 : i.size = 1 := congrArg (fun x => x.2.1) hv
  have z3 : i.bytes = 8 := congrArg (fun x => x.2.2) hv
  obtain ⟨v', W', hr, h2, h3, h4, h5⟩ := run_append_own_at (P := Try.prog) W 0 51 51 22 i _ 1 8 Try.underlying51 hi z1 z2 z3 rfl (by omega) v l.length _ h ⟨blk, 0, none⟩ 1 1 [.int .u64 p] rfl
    (fun j u hu => World.news_of_block hb j u hu) (by simp [Value.oneCell']) (by simp [maxLen]; omega) (by omega) (Nat.zero_le _)
  refine ⟨v', W', hr, ?_, fr_of_grown' h3, ?_⟩
  · unfold UL
    rw [List.length_append, uCells_append]
    exact h2
  · rcases h5 with e | e
    · exact .inl e
    · exact .inr ⟨_, e, Nat.le_refl _⟩
theorem UL.cap {W : World} {A : Option Addr} {n cap : Nat} {l : List Nat} (h : UL W (.slice A n cap) l) : n ≤ cap ∧ cap ≤ maxLen := by
  rcases h.2 with ⟨e, h0⟩ | ⟨g, cap', cur, e, _, _, h1, h2, _⟩
  · injection e with e1 e2 e3
    subst e2 e3
    exact ⟨Nat.le_refl _, by simp [maxLen]⟩
  · injection e with e1 e2 e3
    subst e2 e3
    exact ⟨h1, h2⟩
theorem UL.new_ {W W' : World} {v : Value} {l : List Nat} (h : UL W v l) (f : New W W') : UL W' v l := h.fr f fun _ _ g => g
theorem UL.at_ {W : World} {A : Option Addr} {n cap : Nat} {l : List Nat} (h : UL W (.slice A n cap) l) {i : Nat} (hi : i < n) : ∃ g, A = some ⟨g, 0, none⟩ ∧ ∀ j u, (uCells l)[i + j]? = some u → j < 1 → W.cell? ⟨g, i + j, none⟩ = some u := by
  rcases h.2 with ⟨e, h0⟩ | ⟨g, cap', cur, e, _, hg, h1, h2, h3, h4⟩
  · injection e with e1 e2 e3
    omega
  · injection e with e1 e2 e3
    refine ⟨g, e1, fun j u hu hj => ?_⟩
    rw [show W.cell? ⟨g, i + j, none⟩ = cur[i + j]? from Own.cell (w := W) (b := g) (t := 22) (cs := cur) hg _]
    rw [← h4, List.getElem?_take, Nat.mul_one] at hu
    split at hu
    · simpa using hu
    · cases hu
theorem zero_u (w : World) : (zeroValue 22).run Try.prog w = .ok (.int .u64 0) w := by kernel_rfl
theorem run_clear_u {W : World} {g n c : Nat} {cur : Array Value} (hg : W.heap[g]? = some (.cells cur 22 (0, 0))) (hn : n + 1 ≤ cur.size) (ty : TypeId) :
    (Builtin.clear_ #[51] ty #[.slice (some ⟨g, n, none⟩) 1 c]).run Try.prog W = .ok (.tuple #[]) (W.setRow g (cur.toList.take (n) ++ [Value.int .u64 0] ++ cur.toList.drop (n + 1)).toArray) := by
  have hst := run_storeCells_at Try.prog g (n) 22 [.int .u64 0] 0 cur W hg (by simpa using hn) (by simp [Value.oneCell'])
  have hzc : (Builtin.zeroCells (Value.int .u64 0).cells 1).toList = [.int .u64 0] := by kernel_rfl
  simp only [Nat.add_zero] at hst
  simp [Builtin.clear_, run_underlying Try.underlying51, zero_u, hzc, hst]
set_option maxHeartbeats 4000000 in
set_option maxRecDepth 1000000 in
/-- slices.Delete of one packet, in place. -/
theorem del_u {w : World} {v : Value} {l : List Nat} {i : Nat} (h : UL w v l) (hi : i < l.length) (hl : l.length ≤ 100000) :
    Calls Try.prog 104 #[v, .int .i64 (i : Nat), .int .i64 ((i + 1 : Nat) : Int)] w fun e W => ∃ v', e = .returned v' ∧ UL W v' (l.take i ++ l.drop (i + 1)) ∧ v'.ownBlock = v.ownBlock ∧ Fr (fun k => v.ownBlock = some k) w W := by
  rcases h.2 with ⟨e, h0⟩ | ⟨g, cap, cur, e, _, hg, hc, hm, hs, ht⟩
  · omega
  subst e
  simp only [Nat.mul_one] at hs ht
  obtain ⟨i0, hi0, hv0⟩ := Option.map_eq_some_iff.1 info_u
  have z2 : i0.size = 1 := congrArg (fun x => x.2.1) hv0
  obtain ⟨n, hn⟩ : ∃ n, n = l.length := ⟨_, rfl⟩
  rw [← hn] at hi hl hc ht ⊢
  obtain ⟨news, hnews⟩ : ∃ news, news = uCells (l.drop (i + 1)) := ⟨_, rfl⟩
  have hlen : news.length = (n - (i + 1)) := by rw [hnews, uCells_length, List.length_drop, hn]
  have hone : ∀ u ∈ news, u.oneCell' = true := by rw [hnews]; exact uCells_one _
  obtain ⟨A, hA, hsrc⟩ : ∃ A : Addr, (if cap = i + 1 then some (⟨g, 0, none⟩ : Addr) else some ⟨g, (i + 1), none⟩) = some A ∧ (∀ t u, news[t]? = some u → w.drew.cell? (A.add t) = some u) := by
    by_cases hcap : cap = i + 1
    · refine ⟨⟨g, 0, none⟩, by simp [hcap], fun t u hu => ?_⟩
      have : news.length = 0 := by rw [hlen]; omega
      rw [List.length_eq_zero_iff.1 this] at hu
      simp at hu
    · refine ⟨⟨g, (i + 1), none⟩, by simp [hcap], fun t u hu => ?_⟩
      have hadd : (⟨g, (i + 1), none⟩ : Addr).add t = ⟨g, (i + 1) + t, none⟩ := by unfold Addr.add; split <;> simp_all
      rw [hadd]
      have htl := (List.getElem?_eq_some_iff.1 hu).1
      rw [hlen] at htl
      rw [hnews, ← uCells_drop, List.getElem?_drop, ← ht, List.getElem?_take] at hu
      rw [show w.drew.cell? ⟨g, (i + 1) + t, none⟩ = cur[(i + 1) + t]? from Own.cell (w := w) (b := g) (t := 22) (cs := cur) hg _]
      split at hu
      · simpa using hu
      · cases hu
  have hr := run_append_room (P := Try.prog) (w := w.drew) 51 51 22 i0 Try.underlying51 hi0 g i cap cur hg A (n - (i + 1)) (cap - (i + 1)) news (by rw [z2]; omega) hsrc hone (by omega) (by rw [z2, hlen, hs]; omega)
  rw [z2] at hr
  simp only [Nat.mul_one] at hr
  obtain ⟨cur1, hcur1⟩ : ∃ c, c = (cur.toList.take (i) ++ news ++ cur.toList.drop (i + news.length)).toArray := ⟨_, rfl⟩
  rw [← hcur1] at hr
  have hs1 : cur1.size = cap := by
    rw [hcur1]; simp only [List.size_toArray, List.length_append, List.length_take, List.length_drop, Array.length_toList]; omega
  have ht1 : cur1.toList.take ((n - 1)) = uCells (l.take i ++ l.drop (i + 1)) := by
    rw [hcur1, uCells_append, ← uCells_take, ← ht, List.take_take, Nat.min_eq_left (by omega), ← hnews]
    have : (cur.toList.take (i) ++ news).length = (n - 1) := by simp only [List.length_append, List.length_take, Array.length_toList]; omega
    rw [← this]
    exact List.take_left
  obtain ⟨W1, hW1⟩ : ∃ W1, W1 = w.drew.setRow g cur1 := ⟨_, rfl⟩
  rw [← hW1] at hr
  have hg1 : W1.heap[g]? = some (.cells cur1 22 (0, 0)) := by rw [hW1]; exact setRow_heap _ _ _ _ _ _ hg
  have f1 : Fr (fun k => k = g) w W1 := by rw [hW1]; exact ((Fr.refl _ w).drew).trans (fr_setRow _ _ _) fun _ _ h => h
  have hcl := run_clear_u (W := W1) (g := g) (n := n - 1) (c := cap - (n - 1)) hg1 (by omega)
  obtain ⟨cur2, hcur2⟩ : ∃ c, c = (cur1.toList.take ((n - 1)) ++ [Value.int .u64 0] ++ cur1.toList.drop ((n - 1) + 1)).toArray := ⟨_, rfl⟩
  rw [← hcur2] at hcl
  obtain ⟨W2, hW2⟩ : ∃ W2, W2 = W1.setRow g cur2 := ⟨_, rfl⟩
  rw [← hW2] at hcl
  have hg2 : W2.heap[g]? = some (.cells cur2 22 (0, 0)) := by rw [hW2]; exact setRow_heap _ _ _ _ _ _ hg1
  have f2 : Fr (fun k => k = g) w W2 := f1.trans (by rw [hW2]; exact fr_setRow _ _ _) fun _ _ h => h
  have hs2 : cur2.size = cap := by
    rw [hcur2]; simp only [List.size_toArray, List.length_append, List.length_take, List.length_drop, Array.length_toList, List.length_cons, List.length_nil]; omega
  have ht2 : cur2.toList.take ((n - 1)) = uCells (l.take i ++ l.drop (i + 1)) := by
    rw [hcur2, ← ht1]
    have : (cur1.toList.take ((n - 1))).length = (n - 1) := by simp only [List.length_take, Array.length_toList]; omega
    rw [List.append_assoc]
    rw [List.take_append_of_le_length (by omega), List.take_take, Nat.min_self]
  have hlen2 : (l.take i ++ l.drop (i + 1)).length = n - 1 := by simp only [List.length_append, List.length_take, List.length_drop]; omega
  have hend : UL W2 (.slice (some ⟨g, 0, none⟩) (n - 1) cap) (l.take i ++ l.drop (i + 1)) := by
    refine ⟨by rw [uCells_length, Nat.mul_one], .inr ⟨g, cap, cur2, by rw [hlen2], Nat.zero_le _, hg2, by rw [hlen2]; omega, hm, by rw [Nat.mul_one]; exact hs2, by rw [hlen2, Nat.mul_one]; exact ht2⟩⟩
  clear hW1 hW2 hcur1 hcur2 ht1 ht2 hs1 hs2 hg1 hg2 hsrc hnews hone hlen f1
  have hic : i ≤ cap := by omega
  have hjc : i + 1 ≤ cap := by omega
  have hjn : i + 1 ≤ n := by omega
  have hi1 : (0 : Int) ≤ (i : Int) + 1 := by omega
  have hi2 : (i : Int) + 1 ≤ (n : Int) := by omega
  have hi3 : ((i : Int) + 1).toNat = i + 1 := by omega
  clear hn h
  obtain ⟨m, rfl⟩ : ∃ m, n = m + 1 := ⟨n - 1, by omega⟩
  rw [show i + (m + 1 - (i + 1)) = m by omega, Nat.add_sub_add_right] at hr
  have him : i ≤ m := by omega
  simp only [Nat.add_sub_cancel] at hcl hend
  have hi4 : m ≤ cap := by omega
  have hi5 : m + 1 ≤ cap := by omega
  have hi6 : ¬ cap = m := by omega
  have hne : ¬ ((i : Int) = ((i + 1 : Nat) : Int)) := by omega
  go_enter Try.func104, Try.ntmps104
  go_wp2_with fail
  go_region_law (first | (refine step_append_run rfl (.tmp 22) (.tmp 25) 51 rfl ?ev1 ?ev2 hr ?_; (case ev1 => simp [Act.eval, Act.put]); (case ev2 => simp [Act.eval, Act.put, hA])))
  go_wp2_with fail
  go_ret
  refine ⟨_, rfl, hend, rfl, f2.mono fun k hk => ?_⟩
  show some g = some k
  rw [show k = g from hk]
set_option maxRecDepth 100000 in
set_option maxHeartbeats 8000000 in
theorem insU_end {w : World} {v : Value} {l : List Nat} {p : Nat} {blk : Nat} (h : UL w v l) (hl : l.length ≤ 100000) (hb : Own w blk 22 #[.int .u64 p]) :
    Calls Try.prog 103 #[v, .int .i64 (l.length : Nat), .slice (some ⟨blk, 0, none⟩) 1 1] w fun e W => ∃ v', e = .returned v' ∧ UL W v' (l ++ [p]) ∧ Fr (fun k => v.ownBlock = some k) w W ∧ (v'.ownBlock = v.ownBlock ∨ ∃ k, v'.ownBlock = some k ∧ w.heap.size ≤ k) := by
  obtain ⟨v', W', hr, hp, f, ho⟩ := append_u h hl hb
  obtain ⟨A, cap, rfl⟩ := h.form
  have hcl := h.cap
  obtain ⟨A', cap', hv'⟩ := hp.form
  rw [show (l ++ [p]).length = l.length + 1 by simp] at hv'
  subst hv'
  obtain ⟨B, hB⟩ : ∃ B, (Value.slice A l.length cap).ownBlock = B := ⟨_, rfl⟩
  rw [hB] at f ho ⊢
  clear hB
  have H := Lib.hid (And.intro hp (And.intro f ho))
  clear hp f ho h
  go_enter Try.func103, Try.ntmps103
  go_wp2_with (at_builtin; refine wpList_append_run rfl (.tmp 23) (.tmp 24) 51 rfl rfl rfl hr ?_)
  all_goals exact bodyPost_ret (v := .slice A' (l.length + 1) cap') (by simp [results, Try.results103, go_sem, *]) rfl ⟨_, rfl, H.out.1, H.out.2.1, H.out.2.2⟩
theorem uNews_at {W : World} {g n : Nat} {cur : Array Value} {l : List Nat} (hg : W.heap[g]? = some (.cells cur 22 (0, 0))) (ht : cur.toList.take (n) = uCells l) (i : Nat) : ∀ j u, (uCells (l.drop i))[j]? = some u → W.cell? ((⟨g, i, none⟩ : Addr).add j) = some u := by
  intro j u hu
  have hadd : (⟨g, i, none⟩ : Addr).add j = ⟨g, i + j, none⟩ := by unfold Addr.add; split <;> simp_all
  rw [hadd]
  rw [← uCells_drop, List.getElem?_drop, ← ht, List.getElem?_take] at hu
  rw [show W.cell? ⟨g, i + j, none⟩ = cur[i + j]? from Own.cell (w := W) (b := g) (t := 22) (cs := cur) hg _]
  split at hu
  · simpa using hu
  · cases hu
set_option maxRecDepth 100000 in
set_option maxHeartbeats 8000000 in
/-- There is room. -/
theorem insU_room {w : World} {g n cap : Nat} {cur : Array Value} {l : List Nat} {p : Nat} {blk i : Nat} (hn : n = l.length) (hg : w.heap[g]? = some (.cells cur 22 (0, 0))) (hc : n + 1 ≤ cap) (hm : cap ≤ maxLen) (hs : cur.size = cap) (ht : cur.toList.take (n) = uCells l) (hi : i < n) (hl : n ≤ 100000) (hbg : blk ≠ g)
    (hb : Own w blk 22 #[.int .u64 p]) :
    Calls Try.prog 103 #[.slice (some ⟨g, 0, none⟩) n cap, .int .i64 (i : Nat), .slice (some ⟨blk, 0, none⟩) 1 1] w fun e W => e = .returned (.slice (some ⟨g, 0, none⟩) (n + 1) cap) ∧ UL W (.slice (some ⟨g, 0, none⟩) (n + 1) cap) (l.take i ++ [p] ++ l.drop i) ∧ Fr (fun k => k = g) w W := by
  obtain ⟨i0, hi0, hv0⟩ := Option.map_eq_some_iff.1 info_u
  have z2 : i0.size = 1 := congrArg (fun x => x.2.1) hv0
  have hdl : (uCells (l.drop i)).length = (n - i) := by rw [uCells_length, List.length_drop, hn]
  have hpl : ([Value.int .u64 p] : List Value).length = 1 := rfl
  have hmin1 : Nat.min (n + 1 - i) (n - i) = n - i := Nat.min_eq_right (by omega)
  have hmin2 : Nat.min 1 (n + 1 - i) = 1 := Nat.min_eq_left (by omega)
  have hr1 := run_copy_rowK (P := Try.prog) w.drew 51 51 3 22 g ((i + 1)) (n - i) (cap - (i + 1)) ⟨g, i, none⟩ (n + 1 - i) (cap - i) cur 22 (uCells (l.drop i)) i0 Try.underlying51 hi0 hg
    (by rw [hdl, z2, hmin1, Nat.mul_one]) (uNews_at (W := w.drew) hg ht i) (by rw [hdl, hs]; omega) (uCells_one _)
  obtain ⟨cur1, hcur1⟩ : ∃ c, c = (cur.toList.take ((i + 1)) ++ uCells (l.drop i) ++ cur.toList.drop ((i + 1) + (uCells (l.drop i)).length)).toArray := ⟨_, rfl⟩
  rw [← hcur1, hmin1] at hr1
  obtain ⟨W1, hW1⟩ : ∃ W1, W1 = w.drew.setRow g cur1 := ⟨_, rfl⟩
  rw [← hW1] at hr1
  have hg1 : W1.heap[g]? = some (.cells cur1 22 (0, 0)) := by rw [hW1]; exact setRow_heap _ _ _ _ _ _ hg
  have f1 : Fr (fun k => k = g) w W1 := by rw [hW1]; exact ((Fr.refl _ w).drew).trans (fr_setRow _ _ _) fun _ _ h => h
  have hs1 : cur1.size = cap := by
    rw [hcur1]; simp only [List.size_toArray, List.length_append, List.length_take, List.length_drop, Array.length_toList, hdl]; omega
  have hb1 := hb.fr f1 hbg
  have hr2 := run_copy_rowK (P := Try.prog) W1 51 51 3 22 g (i) (n + 1 - i) (cap - i) ⟨blk, 0, none⟩ 1 1 cur1 22 [.int .u64 p] i0 Try.underlying51 hi0 hg1
    (by rw [hpl, z2, hmin2]) (fun j u hu => World.news_of_block hb1 j u hu) (by rw [hpl, hs1]; omega) (by simp [Value.oneCell'])
  obtain ⟨cur2, hcur2⟩ : ∃ c, c = (cur1.toList.take (i) ++ [Value.int .u64 p] ++ cur1.toList.drop (i + ([Value.int .u64 p] : List Value).length)).toArray := ⟨_, rfl⟩
  rw [← hcur2, hmin2] at hr2
  obtain ⟨W2, hW2⟩ : ∃ W2, W2 = W1.setRow g cur2 := ⟨_, rfl⟩
  rw [← hW2] at hr2
  have hg2 : W2.heap[g]? = some (.cells cur2 22 (0, 0)) := by rw [hW2]; exact setRow_heap _ _ _ _ _ _ hg1
  have f2 : Fr (fun k => k = g) w W2 := f1.trans (by rw [hW2]; exact fr_setRow _ _ _) fun _ _ h => h
  have hs2 : cur2.size = cap := by
    rw [hcur2]; simp only [List.size_toArray, List.length_append, List.length_take, List.length_drop, Array.length_toList, hs1, hpl]; omega
  have hti : (cur.toList.take (i)).length = i := by rw [List.length_take, Array.length_toList, hs]; omega
  have h1t : cur1.toList.take (i) = uCells (l.take i) := by
    rw [hcur1, ← uCells_take, ← ht]
    simp only [List.take_take, List.append_assoc]
    rw [List.take_append_of_le_length (by rw [List.length_take, Array.length_toList, hs]; omega), List.take_take, Nat.min_eq_left (by omega), Nat.min_eq_left (by omega)]
  have h1d : (cur1.toList.drop (i + 1)).take ((n - i)) = uCells (l.drop i) := by
    rw [hcur1, show i + 1 = (i + 1) by omega]
    simp only [List.append_assoc]
    rw [List.drop_append_of_le_length (by rw [List.length_take, Array.length_toList, hs]; omega), List.drop_eq_nil_of_le (by rw [List.length_take]; omega), List.nil_append, List.take_append_of_le_length (by omega), List.take_of_length_le (by omega)]
  have h2t : cur2.toList.take ((n + 1)) = uCells (l.take i ++ [p] ++ l.drop i) := by
    rw [hcur2, uCells_append, uCells_append, ← h1t, ← h1d, hpl]
    have e1 : (cur1.toList.take (i) ++ [Value.int .u64 p]).length = i + 1 := by rw [List.length_append, List.length_take, Array.length_toList, hs1]; simp only [List.length_cons, List.length_nil]; omega
    rw [show (n + 1) = (cur1.toList.take (i) ++ [Value.int .u64 p]).length + (n - i) by rw [e1]; omega]
    exact List.take_length_add_append _
  have hlen2 : (l.take i ++ [p] ++ l.drop i).length = n + 1 := by simp only [List.length_append, List.length_take, List.length_drop, List.length_cons, List.length_nil]; omega
  have hend : UL W2 (.slice (some ⟨g, 0, none⟩) (n + 1) cap) (l.take i ++ [p] ++ l.drop i) := by
    refine ⟨by rw [uCells_length, Nat.mul_one], .inr ⟨g, cap, cur2, by rw [hlen2], Nat.zero_le _, hg2, by rw [hlen2]; omega, hm, by rw [Nat.mul_one]; exact hs2, by rw [hlen2, Nat.mul_one]; exact h2t⟩⟩
  have H := Lib.hid (And.intro hend f2)
  have hov : ∀ lb cb, (callFunc 125 #[.slice (some ⟨blk, 0, none⟩) 1 1, .slice (some ⟨g, (i + 1), none⟩) lb cb]).run Try.prog w = .ok (.value (.bool false)) w := fun lb cb => by
    rw [run_callFunc_extern (fn := Try.f125) (by kernel_rfl) (by kernel_rfl) (by kernel_rfl) (by kernel_rfl) (e := Extern.SlicesOverlaps.overlaps #[51, 51] #[4]) (by kernel_rfl)]
    rw [Lib.run_overlaps_apart w 51 4 22 Try.underlying51 1 (fun w => by simp [sizeOf, typeInfo, hi0, z2]) ⟨blk, 0, none⟩ ⟨g, (i + 1), none⟩ 1 1 lb cb hbg 22 22 1 cur.size (by simp [World.shape?, show w.heap[blk]? = _ from hb]) (by simp [World.shape?, hg]) (by omega) (hb.free 0) (hb.free 1)]
    rfl
  have hz1 : i ≤ n := by omega
  have hz2 : ¬ ((i : Int) = (n : Int)) := by omega
  have hz3 : ¬ ((cap : Int) < (n : Int) + 1) := by omega
  have hw1 : IntKind.i64.wrap ((i : Int) + 1) = (i : Int) + 1 := by rw [IntKind.wrap_i64]; omega
  have hw2 : IntKind.i64.wrap ((n : Int) + 1) = (n : Int) + 1 := by rw [IntKind.wrap_i64]; omega
  have ht1 : ((i : Int) + 1).toNat = i + 1 := by omega
  have ht2 : ((n : Int) + 1).toNat = n + 1 := by omega
  have hb2 : ¬ (cap = i + 1) := by omega
  have hb3 : ¬ (cap = i) := by omega
  have hb4 : (i : Int) ≤ (n : Int) := by omega
  have hb5 : (0 : Int) ≤ (i : Int) + 1 := by omega
  have hb6 : (0 : Int) ≤ (n : Int) + 1 := by omega
  have hb7 : (n : Int) + 1 ≤ (cap : Int) := by omega
  have hb8 : (i : Int) + 1 ≤ (n : Int) + 1 := by omega
  have hb9 : (i : Int) ≤ (n : Int) + 1 := by omega
  have hnn : n + 1 - (i + 1) = n - i := by omega
  clear hmin1 hmin2 hW1 hW2 hcur1 hcur2 h1t h1d h2t hs1 hs2 hg1 hg2 hend f1 f2 hdl hpl hti hb1 hlen2 hs ht hg hb hn hm
  go_enter Try.func103, Try.ntmps103
  go_wp2_with (simp only [hov])
  go_region_law (refine step_copy_run rfl (.tmp 73) (.tmp 76) 51 rfl ?ev1 ?ev2 hr1 ?_; (case ev1 => simp [Act.eval, Act.put]; try omega); (case ev2 => simp [Act.eval, Act.put]; try omega))
  go_wp2_with (at_builtin; refine wpList_copy_run rfl (.tmp 80) (.tmp 82) 51 rfl rfl rfl hr2 ?_)
  exact bodyPost_ret (v := .slice (some ⟨g, 0, none⟩) (n + 1) cap) (by simp [results, Try.results103, go_sem, *]) rfl ⟨rfl, H.out.1, H.out.2⟩
set_option maxRecDepth 100000 in
set_option maxHeartbeats 8000000 in
/-- There is none. -/
theorem insU_grow {w : World} {g n : Nat} {cur : Array Value} {l : List Nat} {p : Nat} {blk i : Nat} (hn : n = l.length) (hg : w.heap[g]? = some (.cells cur 22 (0, 0))) (hs : cur.size = n) (ht : cur.toList.take (n) = uCells l) (hi : i < n) (hl : n ≤ 100000)
    (hb : Own w blk 22 #[.int .u64 p]) :
    Calls Try.prog 103 #[.slice (some ⟨g, 0, none⟩) n n, .int .i64 (i : Nat), .slice (some ⟨blk, 0, none⟩) 1 1] w fun e W => ∃ c, e = .returned (.slice (some ⟨w.heap.size, 0, none⟩) (n + 1) c) ∧ UL W (.slice (some ⟨w.heap.size, 0, none⟩) (n + 1) c) (l.take i ++ [p] ++ l.drop i) ∧ New w W := by
  obtain ⟨i0, hi0, hv0⟩ := Option.map_eq_some_iff.1 info_u
  have z1 : i0.zero = some (.int .u64 0) := congrArg Prod.fst hv0
  have z2 : i0.size = 1 := congrArg (fun x => x.2.1) hv0
  have z3 : i0.bytes = 8 := congrArg (fun x => x.2.2) hv0
  have hdl : (uCells (l.drop i)).length = (n - i) := by rw [uCells_length, List.length_drop, hn]
  have hpl : ([Value.int .u64 p] : List Value).length = 1 := rfl
  have hgw : g < w.heap.size := lt_of_block hg
  have hbw : blk < w.heap.size := hb.lt
  have hik : i + (n + 1 - i) = n + 1 := by omega
  have hti : (uCells (l.take i)).length = i := by rw [uCells_length, List.length_take]; omega
  have hold : (Builtin.firstCells i0.size i (.slice (some ⟨g, 0, none⟩) i n)).run Try.prog w.drew = .ok (uCells (l.take i)).toArray w.drew := by
    refine run_firstCells_some w.drew i0.size i ⟨g, 0, none⟩ i n (uCells (l.take i)) (by rw [hti, z2, Nat.mul_one]) (fun j u hu => ?_)
    have hadd : (⟨g, 0, none⟩ : Addr).add j = ⟨g, j, none⟩ := by unfold Addr.add; split <;> simp_all
    rw [hadd]
    rw [← uCells_take, ← ht, List.take_take, List.getElem?_take] at hu
    rw [show w.drew.cell? ⟨g, j, none⟩ = cur[j]? from Own.cell (w := w) (b := g) (t := 22) (cs := cur) hg _]
    split at hu
    · simpa using hu
    · cases hu
  have hrz := Lib.run_append_grow_zeros (P := Try.prog) w 51 3 51 22 i0 _ .i64 .i64 Try.underlying51 Try.underlying3 hi0 z1 (some ⟨g, 0, none⟩) i n (uCells (l.take i)) hold (n + 1 - i) (by omega) (by omega) (by omega) (by omega) (by rw [z3]; omega) (by rw [z3, hik]; exact growslice_fits (by omega) (by omega))
  rw [hik] at hrz
  obtain ⟨G, hG⟩ : ∃ G, G = grownCap w (n + 1) n 22 := ⟨_, rfl⟩
  have hGge : n + 1 ≤ G := by rw [hG]; exact grownCap_ge w (n + 1) n _
  have hGm : G ≤ maxLen := by rw [hG]; exact grownCap_le_maxLen w (n + 1) n _ (by simp only [maxLen]; omega)
  rw [← hG] at hrz
  obtain ⟨ROW, hROW⟩ : ∃ ROW : Array Value, ROW = (uCells (l.take i)).toArray ++ Builtin.zeroCells (Value.int .u64 0).cells (n + 1 - i) ++ Builtin.zeroCells (Value.int .u64 0).cells (G - (n + 1)) := ⟨_, rfl⟩
  rw [← hROW] at hrz
  have hRs : ROW.size = G := by
    rw [hROW]
    simp only [Array.size_append, List.size_toArray, size_zeroCells, hti, Value.cells]
    show i + (n + 1 - i) * 1 + (G - (n + 1)) * 1 = G
    omega
  have hRt : ROW.toList.take (i) = uCells (l.take i) := by
    rw [hROW]
    simp only [Array.toList_append, List.append_assoc]
    exact List.take_left' hti
  obtain ⟨W1, hW1⟩ : ∃ W1, W1 = w.drew.alloc (.cells ROW 22) := ⟨_, rfl⟩
  rw [← hW1] at hrz
  have hg1 : W1.heap[w.heap.size]? = some (.cells ROW 22 (0, 0)) := by rw [hW1]; exact Own.fresh w.drew _ _
  have n1 : New w W1 := by rw [hW1]; exact ((Fr.refl _ _).drew).alloc _
  have hb1 := hb.new_ n1
  have hmin2 : Nat.min 1 (n + 1 - i) = 1 := Nat.min_eq_left (by omega)
  have hr2 := run_copy_rowK (P := Try.prog) W1 51 51 3 22 w.heap.size (i) (n + 1 - i) (G - i) ⟨blk, 0, none⟩ 1 1 ROW 22 [.int .u64 p] i0 Try.underlying51 hi0 hg1
    (by rw [hpl, z2, hmin2]) (fun j u hu => World.news_of_block hb1 j u hu) (by rw [hpl, hRs]; omega) (by simp [Value.oneCell'])
  obtain ⟨cur1, hcur1⟩ : ∃ c, c = (ROW.toList.take (i) ++ [Value.int .u64 p] ++ ROW.toList.drop (i + ([Value.int .u64 p] : List Value).length)).toArray := ⟨_, rfl⟩
  rw [← hcur1, hmin2] at hr2
  obtain ⟨W2, hW2⟩ : ∃ W2, W2 = W1.setRow w.heap.size cur1 := ⟨_, rfl⟩
  rw [← hW2] at hr2
  have hg2 : W2.heap[w.heap.size]? = some (.cells cur1 22 (0, 0)) := by rw [hW2]; exact setRow_heap _ _ _ _ _ _ hg1
  have n2 : New w W2 := n1.trans (by rw [hW2]; exact fr_setRow _ _ _) fun k hk e => by omega
  have hs1 : cur1.size = G := by
    rw [hcur1]; simp only [List.size_toArray, List.length_append, List.length_take, List.length_drop, Array.length_toList, hRs, hpl]; omega
  have h1t : cur1.toList.take ((i + 1)) = uCells (l.take i) ++ [Value.int .u64 p] := by
    rw [hcur1, ← hRt]
    have e1 : (ROW.toList.take (i) ++ [Value.int .u64 p]).length = (i + 1) := by rw [List.length_append, List.length_take, Array.length_toList, hRs]; simp only [List.length_cons, List.length_nil]; omega
    rw [← e1]
    exact List.take_left
  have hgG : W2.drew.heap[g]? = some (.cells cur 22 (0, 0)) := (n2.drew.block g hgw fun x => x).trans hg
  have hmin1 : Nat.min (n - i) (n - i) = n - i := Nat.min_self _
  have hr3 := run_copy_rowK (P := Try.prog) W2.drew 51 51 3 22 w.heap.size ((i + 1)) (n - i) (G - (i + 1)) ⟨g, i, none⟩ (n - i) (n - i) cur1 22 (uCells (l.drop i)) i0 Try.underlying51 hi0 hg2
    (by rw [hdl, z2, hmin1, Nat.mul_one]) (uNews_at (W := W2.drew) hgG ht i) (by rw [hdl, hs1]; omega) (uCells_one _)
  obtain ⟨cur2, hcur2⟩ : ∃ c, c = (cur1.toList.take ((i + 1)) ++ uCells (l.drop i) ++ cur1.toList.drop ((i + 1) + (uCells (l.drop i)).length)).toArray := ⟨_, rfl⟩
  rw [← hcur2, hmin1] at hr3
  obtain ⟨W3, hW3⟩ : ∃ W3, W3 = W2.drew.setRow w.heap.size cur2 := ⟨_, rfl⟩
  rw [← hW3] at hr3
  have hg3 : W3.heap[w.heap.size]? = some (.cells cur2 22 (0, 0)) := by rw [hW3]; exact setRow_heap _ _ _ _ _ _ hg2
  have n3 : New w W3 := (n2.drew).trans (by rw [hW3]; exact fr_setRow _ _ _) fun k hk e => by omega
  have hs2 : cur2.size = G := by
    rw [hcur2]; simp only [List.size_toArray, List.length_append, List.length_take, List.length_drop, Array.length_toList, hs1, hdl]; omega
  have h2t : cur2.toList.take ((n + 1)) = uCells (l.take i ++ [p] ++ l.drop i) := by
    rw [hcur2, h1t, uCells_append, uCells_append]
    have e1 : (uCells (l.take i) ++ [Value.int .u64 p] ++ uCells (l.drop i)).length = (n + 1) := by rw [List.length_append, List.length_append, hti, hdl]; simp only [List.length_cons, List.length_nil]; omega
    rw [← e1]
    exact List.take_left
  have hlen2 : (l.take i ++ [p] ++ l.drop i).length = n + 1 := by simp only [List.length_append, List.length_take, List.length_drop, List.length_cons, List.length_nil]; omega
  have hend : UL W3 (.slice (some ⟨w.heap.size, 0, none⟩) (n + 1) G) (l.take i ++ [p] ++ l.drop i) := by
    refine ⟨by rw [uCells_length, Nat.mul_one], .inr ⟨w.heap.size, G, cur2, by rw [hlen2], Nat.zero_le _, hg3, by rw [hlen2]; omega, hGm, by rw [Nat.mul_one]; exact hs2, by rw [hlen2, Nat.mul_one]; exact h2t⟩⟩
  have H := Lib.hid (And.intro hend n3)
  have hz1 : i ≤ n := by omega
  have hz2 : ¬ ((i : Int) = (n : Int)) := by omega
  have hz3 : (n : Int) < (n : Int) + 1 := by omega
  have hw1 : IntKind.i64.wrap ((i : Int) + 1) = (i : Int) + 1 := by rw [IntKind.wrap_i64]; omega
  have hw2 : IntKind.i64.wrap ((n : Int) + 1) = (n : Int) + 1 := by rw [IntKind.wrap_i64]; omega
  have hw3 : IntKind.i64.wrap ((n : Int) + 1 - (i : Int)) = ((n + 1 - i : Nat) : Int) := by rw [IntKind.wrap_i64]; omega
  have ht1 : ((i : Int) + 1).toNat = i + 1 := by omega
  have hb2 : ¬ (G = i + 1) := by omega
  have hb3 : ¬ (G = i) := by omega
  have hb4 : (i : Int) ≤ (n : Int) := by omega
  have hb5 : (0 : Int) ≤ (i : Int) + 1 := by omega
  have hb8 : (i : Int) + 1 ≤ (n : Int) + 1 := by omega
  have hb9 : (i : Int) ≤ (n : Int) + 1 := by omega
  have hnn : n + 1 - (i + 1) = n - i := by omega
  have hb10 : ¬ (n = i) := by omega
  have hkk : (n : Int) + 1 - (i : Int) = ((n + 1 - i : Nat) : Int) := by omega
  have hi2 : i ≤ n + 1 := by omega
  have hi3 : i + 1 ≤ G := by omega
  have hi4 : i ≤ G := by omega
  clear hmin1 hmin2 hW1 hW2 hW3 hcur1 hcur2 h1t h2t hs1 hs2 hg1 hg2 hg3 hend n1 n2 n3 hdl hpl hti hb1 hlen2 hs ht hg hb hn hROW hRs hRt hgG hGm hG hold
  go_enter Try.func103, Try.ntmps103
  go_wp2_with (at_builtin; first | (refine wpList_append_run2 rfl (.tmp 34) (.tmp 39) 51 3 rfl rfl rfl hrz ?_) | (refine wpList_copy_run rfl (.tmp 43) (.tmp 44) 51 rfl rfl rfl hr2 ?_))
  go_region_law (refine step_copy_run rfl (.tmp 50) (.tmp 53) 51 rfl ?ev1 ?ev2 hr3 ?_; (case ev1 => simp [Act.eval, Act.put]; try omega); (case ev2 => simp [Act.eval, Act.put]; try omega))
  go_wp2_with fail
  exact bodyPost_ret (v := .slice (some ⟨w.heap.size, 0, none⟩) (n + 1) G) (by simp [results, Try.results103, go_sem, *]) rfl ⟨_, rfl, H.out.1, H.out.2⟩
/-- slices.Insert of one packet into a row of the call's own. -/
theorem insU_any {w : World} {v : Value} {l : List Nat} {p : Nat} {blk i : Nat} (h : UL w v l) (hi : i ≤ l.length) (hl : l.length ≤ 100000) (hb : Own w blk 22 #[.int .u64 p]) (hbv : v.ownBlock ≠ some blk) :
    Calls Try.prog 103 #[v, .int .i64 (i : Nat), .slice (some ⟨blk, 0, none⟩) 1 1] w fun e W => ∃ v', e = .returned v' ∧ UL W v' (l.take i ++ [p] ++ l.drop i) ∧ Fr (fun k => v.ownBlock = some k) w W ∧ (v'.ownBlock = v.ownBlock ∨ ∃ k, v'.ownBlock = some k ∧ w.heap.size ≤ k) := by
  rcases Nat.lt_or_ge i l.length with hlt | hge
  · rcases h.2 with ⟨e, h0⟩ | ⟨g, cap, cur, e, _, hg, hc, hm, hs, ht⟩
    · omega
    subst e
    simp only [Nat.mul_one] at hs ht
    have hbg : blk ≠ g := fun e => hbv (by rw [e]; rfl)
    by_cases hroom : l.length + 1 ≤ cap
    · refine (insU_room (p := p) (blk := blk) rfl hg hroom hm hs ht hlt hl hbg hb).mono ?_
      rintro e W ⟨rfl, hp, f⟩
      exact ⟨_, rfl, hp, f.mono fun k e => by subst e; rfl, .inl rfl⟩
    · obtain rfl : cap = l.length := by omega
      refine (insU_grow (p := p) (blk := blk) rfl hg hs ht hlt hl hb).mono ?_
      rintro e W ⟨c, rfl, hp, f⟩
      exact ⟨_, rfl, hp, f.mono fun k e => e.elim, .inr ⟨_, rfl, Nat.le_refl _⟩⟩
  · obtain rfl : i = l.length := by omega
    refine (insU_end h hl hb).mono ?_
    rintro e W ⟨v', rfl, hp, f, ho⟩
    refine ⟨v', rfl, ?_, f, ho⟩
    rw [List.take_length, List.drop_length, List.append_nil]
    exact hp
end Go.Proofs.Ytedfgbkaijjaeaa
