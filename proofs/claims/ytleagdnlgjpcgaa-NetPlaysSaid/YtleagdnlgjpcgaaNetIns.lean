/- slices.Insert of one packet. -/
import Derived.Test.YtleagdnlgjpcgaaNetModPart
import Derived.Lib.AppendZerosOnto
import Derived.Lib.Overlaps
import Derived.Laws.CopyRow
import Derived.Laws.Externs
namespace Go.Proofs.Ytleagdnlgjpcgaa
open Go.RowKit Go.Maps
set_option linter.unusedVariables false
set_option linter.unusedSimpArgs false

theorem run_copy_rowK {P : Program} (w : World) (dT sT ty elem : TypeId) (g o dLen dCap : Nat) (a : Addr) (sLen sCap : Nat) (cur : Array Value) (t : TypeId) (cs : List Value) (i : TypeInfo)
    (hu : P.underlying dT = some (.slice elem)) (hq : P.info? elem = some i) (hg : w.heap[g]? = some (.cells cur t (0, 0))) (hn : cs.length = Nat.min sLen dLen * i.size)
    (hsrc : ∀ j v, cs[j]? = some v → w.cell? (a.add j) = some v) (hfit : o + cs.length ≤ cur.size) (h1 : ∀ v ∈ cs, v.oneCell' = true) :
    (Builtin.copy_ #[dT, sT] ty #[.slice (some ⟨g, o, none⟩) dLen dCap, .slice (some a) sLen sCap]).run P w =
      .ok (goInt (Nat.min sLen dLen)) (w.setRow g (cur.toList.take o ++ cs ++ cur.toList.drop (o + cs.length)).toArray) := by
  have hl := run_loadCells_list (P := P) w a cs hsrc
  have hst := run_storeCells_at P g o t cs 0 cur w hg (by simpa using hfit) h1
  simp [Builtin.copy_, run_underlying hu, Builtin.lenOf, Builtin.firstCells, sizeOf, typeInfo, hq, ← hn, hl, hst]
theorem step_copy_run {P : Program} {ops : Array Oper} {o : Oper} {a : Act} {w : World} {K : Act → World → Prop} {Q : Exit → Act → World → Prop} {E : Prop}
    (hg : o.guard = none) (d x : Operand) (t : TypeId) (ho : o.op = .call { callee := .builtin .copy, args := #[d, x], argTypes := #[t, t] }) {v u v' : Value} {w' : World} (hd : a.eval d = v) (hx : a.eval x = u)
    (hr : (Builtin.copy_ #[t, t] o.type #[v, u]).run P w = .ok v' w') (hK : K (a.put o.dst v') w') :
    if Region.wanted o (yielded ops a.tmps) = true then Oper.wp P o a w K Q else E := by
  have hw : Region.wanted o (yielded ops a.tmps) = true := by simp [Region.wanted, hg]
  rw [if_pos hw]
  unfold Oper.wp execOp
  simp only [ho, resolve, invoke, builtin, Sem.run_bind, Sem.run_pure, Result.andThen_ok, List.map_toArray, List.map_cons, List.map_nil, hd, hx, hr]
  exact hK
theorem wpList_copy_run {P : Program} {w : World} {ops : Array Oper} {rest : List Oper} {o : Oper} {a : Act} {Q : Exit → Act → World → Prop} (hgd : o.guard = none) (d x : Operand) (t : TypeId)
    (ho : o.op = .call { callee := .builtin .copy, args := #[d, x], argTypes := #[t, t] }) {v u v' : Value} {w' : World} (hd : a.eval d = v) (hx : a.eval x = u)
    (hr : (Builtin.copy_ #[t, t] o.type #[v, u]).run P w = .ok v' w') (k : wpList P ops Q rest (a.put o.dst v') w') : wpList P ops Q (o :: rest) a w := by
  refine wpList_plain hgd fun K hK => ?_
  unfold Oper.wp execOp
  simp only [ho, resolve, invoke, builtin, Sem.run_bind, Sem.run_pure, Result.andThen_ok, List.map_toArray, List.map_cons, List.map_nil, hd, hx, hr]
  exact hK _ _ k
theorem wpList_append_run2 {P : Program} {w : World} {ops : Array Oper} {rest : List Oper} {o : Oper} {a : Act} {Q : Exit → Act → World → Prop} (hgd : o.guard = none) (s x : Operand) (t t' : TypeId)
    (ho : o.op = .call { callee := .builtin .append, args := #[s, x], argTypes := #[t, t'] }) {v u v' : Value} {w' : World} (hs : a.eval s = v) (hx : a.eval x = u)
    (hr : (Builtin.append_ #[t, t'] o.type #[v, u]).run P w = .ok v' w') (k : wpList P ops Q rest (a.put o.dst v') w') : wpList P ops Q (o :: rest) a w := by
  refine wpList_plain hgd fun K hK => ?_
  unfold Oper.wp execOp
  simp only [ho, resolve, invoke, builtin, Sem.run_bind, Sem.run_pure, Result.andThen_ok, List.map_toArray, List.map_cons, List.map_nil, hs, hx, hr]
  exact hK _ _ k
set_option maxRecDepth 100000 in
set_option maxHeartbeats 8000000 in
theorem ins_end {w : World} {v : Value} {l : List Pkt} {p : Pkt} {blk : Nat} (h : PkL w v l) (hl : l.length ≤ 100000) (hb : Own w blk 26 #[.int .i64 p.f, .int .i64 p.t, .string p.s]) :
    Calls Try.prog 26 #[v, .int .i64 (l.length : Nat), .slice (some ⟨blk, 0, none⟩) 1 1] w fun e W => ∃ v', e = .returned v' ∧ PkL W v' (l ++ [p]) ∧ Fr (fun k => v.ownBlock = some k) w W ∧ (v'.ownBlock = v.ownBlock ∨ ∃ k, v'.ownBlock = some k ∧ w.heap.size ≤ k) := by
  obtain ⟨v', W', hr, hp, f, ho⟩ := append_pk h hl hb
  obtain ⟨A, cap, rfl⟩ := h.form
  obtain ⟨_, _, e, _, hcl, _⟩ := h.sl (X := fun _ => False) fun _ _ x => x
  injection e with e1 e2 e3
  subst e1 e3
  obtain ⟨A', cap', hv'⟩ := hp.form
  rw [show (l ++ [p]).length = l.length + 1 by simp] at hv'
  subst hv'
  obtain ⟨B, hB⟩ : ∃ B, (Value.slice A l.length cap).ownBlock = B := ⟨_, rfl⟩
  rw [hB] at f ho ⊢
  clear hB
  have H := Lib.hid (And.intro hp (And.intro f ho))
  clear hp f ho h
  go_enter Try.func26, Try.ntmps26
  go_wp2_with (at_builtin; refine wpList_append_run rfl (.tmp 23) (.tmp 24) 22 rfl rfl rfl hr ?_)
  all_goals exact bodyPost_ret (v := .slice A' (l.length + 1) cap') (by simp [results, Try.results26, go_sem, *]) rfl ⟨_, rfl, H.out.1, H.out.2.1, H.out.2.2⟩
theorem PkS.news_at {W : World} {g n : Nat} {cur : Array Value} {l : List Pkt} (hg : W.heap[g]? = some (.cells cur 26 (0, 0))) (ht : cur.toList.take (n * 3) = pkCells l) (i : Nat) : ∀ j u, (pkCells (l.drop i))[j]? = some u → W.cell? ((⟨g, i * 3, none⟩ : Addr).add j) = some u := by
  intro j u hu
  have hadd : (⟨g, i * 3, none⟩ : Addr).add j = ⟨g, i * 3 + j, none⟩ := by unfold Addr.add; split <;> simp_all
  rw [hadd]
  rw [← pkCells_drop, List.getElem?_drop, ← ht, List.getElem?_take] at hu
  rw [show W.cell? ⟨g, i * 3 + j, none⟩ = cur[i * 3 + j]? from Own.cell (w := W) (b := g) (t := 26) (cs := cur) hg _]
  split at hu
  · simpa using hu
  · cases hu
set_option maxRecDepth 100000 in
set_option maxHeartbeats 8000000 in
/-- There is room. -/
theorem ins_room {w : World} {g n cap : Nat} {cur : Array Value} {l : List Pkt} {p : Pkt} {blk i : Nat} (hn : n = l.length) (hg : w.heap[g]? = some (.cells cur 26 (0, 0))) (hc : n + 1 ≤ cap) (hm : cap ≤ maxLen) (hs : cur.size = cap * 3) (ht : cur.toList.take (n * 3) = pkCells l) (hi : i < n) (hl : n ≤ 100000) (hbg : blk ≠ g)
    (hb : Own w blk 26 #[.int .i64 p.f, .int .i64 p.t, .string p.s]) :
    Calls Try.prog 26 #[.slice (some ⟨g, 0, none⟩) n cap, .int .i64 (i : Nat), .slice (some ⟨blk, 0, none⟩) 1 1] w fun e W => e = .returned (.slice (some ⟨g, 0, none⟩) (n + 1) cap) ∧ PkL W (.slice (some ⟨g, 0, none⟩) (n + 1) cap) (l.take i ++ [p] ++ l.drop i) ∧ Fr (fun k => k = g) w W := by
  obtain ⟨i0, hi0, hv0⟩ := Option.map_eq_some_iff.1 info_pk
  have z2 : i0.size = 3 := congrArg (fun x => x.2.1) hv0
  have hdl : (pkCells (l.drop i)).length = (n - i) * 3 := by rw [pkCells_length, List.length_drop, hn]
  have hpl : ([Value.int .i64 p.f, .int .i64 p.t, .string p.s] : List Value).length = 3 := rfl
  have hmin1 : Nat.min (n + 1 - i) (n - i) = n - i := Nat.min_eq_right (by omega)
  have hmin2 : Nat.min 1 (n + 1 - i) = 1 := Nat.min_eq_left (by omega)
  have hr1 := run_copy_rowK (P := Try.prog) w.drew 22 22 3 26 g ((i + 1) * 3) (n - i) (cap - (i + 1)) ⟨g, i * 3, none⟩ (n + 1 - i) (cap - i) cur 26 (pkCells (l.drop i)) i0 Try.underlying22 hi0 hg
    (by rw [hdl, z2, hmin1]) (PkS.news_at (W := w.drew) hg ht i) (by rw [hdl, hs]; omega) (pkCells_one _)
  obtain ⟨cur1, hcur1⟩ : ∃ c, c = (cur.toList.take ((i + 1) * 3) ++ pkCells (l.drop i) ++ cur.toList.drop ((i + 1) * 3 + (pkCells (l.drop i)).length)).toArray := ⟨_, rfl⟩
  rw [← hcur1, hmin1] at hr1
  obtain ⟨W1, hW1⟩ : ∃ W1, W1 = w.drew.setRow g cur1 := ⟨_, rfl⟩
  rw [← hW1] at hr1
  have hg1 : W1.heap[g]? = some (.cells cur1 26 (0, 0)) := by rw [hW1]; exact setRow_heap _ _ _ _ _ _ hg
  have f1 : Fr (fun k => k = g) w W1 := by rw [hW1]; exact ((Fr.refl _ w).drew).trans (fr_setRow _ _ _) fun _ _ h => h
  have hs1 : cur1.size = cap * 3 := by
    rw [hcur1]; simp only [List.size_toArray, List.length_append, List.length_take, List.length_drop, Array.length_toList, hdl]; omega
  have hb1 := hb.fr f1 hbg
  have hr2 := run_copy_rowK (P := Try.prog) W1 22 22 3 26 g (i * 3) (n + 1 - i) (cap - i) ⟨blk, 0, none⟩ 1 1 cur1 26 [.int .i64 p.f, .int .i64 p.t, .string p.s] i0 Try.underlying22 hi0 hg1
    (by rw [hpl, z2, hmin2]) (fun j u hu => World.news_of_block hb1 j u hu) (by rw [hpl, hs1]; omega) (by simp [Value.oneCell'])
  obtain ⟨cur2, hcur2⟩ : ∃ c, c = (cur1.toList.take (i * 3) ++ [Value.int .i64 p.f, .int .i64 p.t, .string p.s] ++ cur1.toList.drop (i * 3 + ([Value.int .i64 p.f, .int .i64 p.t, .string p.s] : List Value).length)).toArray := ⟨_, rfl⟩
  rw [← hcur2, hmin2] at hr2
  obtain ⟨W2, hW2⟩ : ∃ W2, W2 = W1.setRow g cur2 := ⟨_, rfl⟩
  rw [← hW2] at hr2
  have hg2 : W2.heap[g]? = some (.cells cur2 26 (0, 0)) := by rw [hW2]; exact setRow_heap _ _ _ _ _ _ hg1
  have f2 : Fr (fun k => k = g) w W2 := f1.trans (by rw [hW2]; exact fr_setRow _ _ _) fun _ _ h => h
  have hs2 : cur2.size = cap * 3 := by
    rw [hcur2]; simp only [List.size_toArray, List.length_append, List.length_take, List.length_drop, Array.length_toList, hs1, hpl]; omega
  have hti : (cur.toList.take (i * 3)).length = i * 3 := by rw [List.length_take, Array.length_toList, hs]; omega
  have h1t : cur1.toList.take (i * 3) = pkCells (l.take i) := by
    rw [hcur1, ← pkCells_take, ← ht]
    simp only [List.take_take, List.append_assoc]
    rw [List.take_append_of_le_length (by rw [List.length_take, Array.length_toList, hs]; omega), List.take_take, Nat.min_eq_left (by omega), Nat.min_eq_left (by omega)]
  have h1d : (cur1.toList.drop (i * 3 + 3)).take ((n - i) * 3) = pkCells (l.drop i) := by
    rw [hcur1, show i * 3 + 3 = (i + 1) * 3 by omega]
    simp only [List.append_assoc]
    rw [List.drop_append_of_le_length (by rw [List.length_take, Array.length_toList, hs]; omega), List.drop_eq_nil_of_le (by rw [List.length_take]; omega), List.nil_append, List.take_append_of_le_length (by omega), List.take_of_length_le (by omega)]
  have h2t : cur2.toList.take ((n + 1) * 3) = pkCells (l.take i ++ [p] ++ l.drop i) := by
    rw [hcur2, pkCells_append, pkCells_append, ← h1t, ← h1d, hpl]
    have e1 : (cur1.toList.take (i * 3) ++ [Value.int .i64 p.f, .int .i64 p.t, .string p.s]).length = i * 3 + 3 := by rw [List.length_append, List.length_take, Array.length_toList, hs1]; simp only [List.length_cons, List.length_nil]; omega
    rw [show (n + 1) * 3 = (cur1.toList.take (i * 3) ++ [Value.int .i64 p.f, .int .i64 p.t, .string p.s]).length + (n - i) * 3 by rw [e1]; omega]
    exact List.take_length_add_append _
  have hlen2 : (l.take i ++ [p] ++ l.drop i).length = n + 1 := by simp only [List.length_append, List.length_take, List.length_drop, List.length_cons, List.length_nil]; omega
  have hend : PkL W2 (.slice (some ⟨g, 0, none⟩) (n + 1) cap) (l.take i ++ [p] ++ l.drop i) := by
    refine ⟨by rw [pkCells_length], .inr ⟨g, cap, cur2, by rw [hlen2], Nat.zero_le _, hg2, by rw [hlen2]; omega, hm, hs2, by rw [hlen2]; exact h2t⟩⟩
  have H := Lib.hid (And.intro hend f2)
  have hov : ∀ lb cb, (callFunc 33 #[.slice (some ⟨blk, 0, none⟩) 1 1, .slice (some ⟨g, (i + 1) * 3, none⟩) lb cb]).run Try.prog w = .ok (.value (.bool false)) w := fun lb cb => by
    rw [run_callFunc_extern (fn := Try.f33) (by kernel_rfl) (by kernel_rfl) (by kernel_rfl) (by kernel_rfl) (e := Extern.SlicesOverlaps.overlaps #[22, 22] #[4]) (by kernel_rfl)]
    rw [Lib.run_overlaps_apart w 22 4 26 Try.underlying22 3 (fun w => by simp [sizeOf, typeInfo, hi0, z2]) ⟨blk, 0, none⟩ ⟨g, (i + 1) * 3, none⟩ 1 1 lb cb hbg 26 26 3 cur.size (by simp [World.shape?, show w.heap[blk]? = _ from hb]) (by simp [World.shape?, hg]) (by omega) (hb.free 0) (hb.free 3)]
    rfl
  have hz1 : i ≤ n := by omega
  have hz2 : ¬ ((i : Int) = (n : Int)) := by omega
  have hz3 : ¬ ((cap : Int) < (n : Int) + 1) := by omega
  have hw1 : IntKind.i64.wrap ((i : Int) + 1) = (i : Int) + 1 := by rw [IntKind.wrap_i64]; omega
  have hw2 : IntKind.i64.wrap ((n : Int) + 1) = (n : Int) + 1 := by rw [IntKind.wrap_i64]; omega
  have ht1 : ((i : Int) + 1).toNat = i + 1 := by omega
  have ht2 : ((n : Int) + 1).toNat = n + 1 := by omega
  have hb2 : ¬ (cap = i + 1) := by omega
  have hb3 : ¬ (cap = i) := by omega
  have hb4 : (i : Int) ≤ (n : Int) := by omega
  have hb5 : (0 : Int) ≤ (i : Int) + 1 := by omega
  have hb6 : (0 : Int) ≤ (n : Int) + 1 := by omega
  have hb7 : (n : Int) + 1 ≤ (cap : Int) := by omega
  have hb8 : (i : Int) + 1 ≤ (n : Int) + 1 := by omega
  have hb9 : (i : Int) ≤ (n : Int) + 1 := by omega
  have hnn : n + 1 - (i + 1) = n - i := by omega
  clear hmin1 hmin2 hW1 hW2 hcur1 hcur2 h1t h1d h2t hs1 hs2 hg1 hg2 hend f1 f2 hdl hpl hti hb1 hlen2 hs ht hg hb hn hm
  go_enter Try.func26, Try.ntmps26
  go_wp2_with (simp only [hov])
  go_region_law (refine step_copy_run rfl (.tmp 73) (.tmp 76) 22 rfl ?ev1 ?ev2 hr1 ?_; (case ev1 => simp [Act.eval, Act.put]; try omega); (case ev2 => simp [Act.eval, Act.put]; try omega))
  go_wp2_with (at_builtin; refine wpList_copy_run rfl (.tmp 80) (.tmp 82) 22 rfl rfl rfl hr2 ?_)
  exact bodyPost_ret (v := .slice (some ⟨g, 0, none⟩) (n + 1) cap) (by simp [results, Try.results26, go_sem, *]) rfl ⟨rfl, H.out.1, H.out.2⟩
set_option maxRecDepth 100000 in
set_option maxHeartbeats 8000000 in
/-- There is none. -/
theorem ins_grow {w : World} {g n : Nat} {cur : Array Value} {l : List Pkt} {p : Pkt} {blk i : Nat} (hn : n = l.length) (hg : w.heap[g]? = some (.cells cur 26 (0, 0))) (hs : cur.size = n * 3) (ht : cur.toList.take (n * 3) = pkCells l) (hi : i < n) (hl : n ≤ 100000)
    (hb : Own w blk 26 #[.int .i64 p.f, .int .i64 p.t, .string p.s]) :
    Calls Try.prog 26 #[.slice (some ⟨g, 0, none⟩) n n, .int .i64 (i : Nat), .slice (some ⟨blk, 0, none⟩) 1 1] w fun e W => ∃ c, e = .returned (.slice (some ⟨w.heap.size, 0, none⟩) (n + 1) c) ∧ PkL W (.slice (some ⟨w.heap.size, 0, none⟩) (n + 1) c) (l.take i ++ [p] ++ l.drop i) ∧ New w W := by
  obtain ⟨i0, hi0, hv0⟩ := Option.map_eq_some_iff.1 info_pk
  have z1 : i0.zero = some (.agg #[.int .i64 0, .int .i64 0, .string ⟨#[]⟩]) := congrArg Prod.fst hv0
  have z2 : i0.size = 3 := congrArg (fun x => x.2.1) hv0
  have z3 : i0.bytes = 32 := congrArg (fun x => x.2.2) hv0
  have hdl : (pkCells (l.drop i)).length = (n - i) * 3 := by rw [pkCells_length, List.length_drop, hn]
  have hpl : ([Value.int .i64 p.f, .int .i64 p.t, .string p.s] : List Value).length = 3 := rfl
  have hgw : g < w.heap.size := lt_of_block hg
  have hbw : blk < w.heap.size := hb.lt
  have hik : i + (n + 1 - i) = n + 1 := by omega
  have hti : (pkCells (l.take i)).length = i * 3 := by rw [pkCells_length, List.length_take]; omega
  have hold : (Builtin.firstCells i0.size i (.slice (some ⟨g, 0, none⟩) i n)).run Try.prog w.drew = .ok (pkCells (l.take i)).toArray w.drew := by
    refine run_firstCells_some w.drew i0.size i ⟨g, 0, none⟩ i n (pkCells (l.take i)) (by rw [hti, z2]) (fun j u hu => ?_)
    have hadd : (⟨g, 0, none⟩ : Addr).add j = ⟨g, j, none⟩ := by unfold Addr.add; split <;> simp_all
    rw [hadd]
    rw [← pkCells_take, ← ht, List.take_take, List.getElem?_take] at hu
    rw [show w.drew.cell? ⟨g, j, none⟩ = cur[j]? from Own.cell (w := w) (b := g) (t := 26) (cs := cur) hg _]
    split at hu
    · simpa using hu
    · cases hu
  have hrz := Lib.run_append_grow_zeros (P := Try.prog) w 22 3 22 26 i0 _ .i64 .i64 Try.underlying22 Try.underlying3 hi0 z1 (some ⟨g, 0, none⟩) i n (pkCells (l.take i)) hold (n + 1 - i) (by omega) (by omega) (by omega) (by omega) (by rw [z3]; omega) (by rw [z3, hik]; exact growslice_fits (by omega) (by omega))
  rw [hik] at hrz
  obtain ⟨G, hG⟩ : ∃ G, G = grownCap w (n + 1) n 26 := ⟨_, rfl⟩
  have hGge : n + 1 ≤ G := by rw [hG]; exact grownCap_ge w (n + 1) n _
  have hGm : G ≤ maxLen := by rw [hG]; exact grownCap_le_maxLen w (n + 1) n _ (by simp only [maxLen]; omega)
  rw [← hG] at hrz
  obtain ⟨ROW, hROW⟩ : ∃ ROW : Array Value, ROW = (pkCells (l.take i)).toArray ++ Builtin.zeroCells (Value.agg #[.int .i64 0, .int .i64 0, .string ⟨#[]⟩]).cells (n + 1 - i) ++ Builtin.zeroCells (Value.agg #[.int .i64 0, .int .i64 0, .string ⟨#[]⟩]).cells (G - (n + 1)) := ⟨_, rfl⟩
  rw [← hROW] at hrz
  have hRs : ROW.size = G * 3 := by
    rw [hROW]
    simp only [Array.size_append, List.size_toArray, size_zeroCells, hti, Value.cells]
    show i * 3 + (n + 1 - i) * 3 + (G - (n + 1)) * 3 = G * 3
    omega
  have hRt : ROW.toList.take (i * 3) = pkCells (l.take i) := by
    rw [hROW]
    simp only [Array.toList_append, List.append_assoc]
    rw [← hti]
    exact List.take_left
  obtain ⟨W1, hW1⟩ : ∃ W1, W1 = w.drew.alloc (.cells ROW 26) := ⟨_, rfl⟩
  rw [← hW1] at hrz
  have hg1 : W1.heap[w.heap.size]? = some (.cells ROW 26 (0, 0)) := by rw [hW1]; exact Own.fresh w.drew _ _
  have n1 : New w W1 := by rw [hW1]; exact ((Fr.refl _ _).drew).alloc _
  have hb1 := hb.new_ n1
  have hmin2 : Nat.min 1 (n + 1 - i) = 1 := Nat.min_eq_left (by omega)
  have hr2 := run_copy_rowK (P := Try.prog) W1 22 22 3 26 w.heap.size (i * 3) (n + 1 - i) (G - i) ⟨blk, 0, none⟩ 1 1 ROW 26 [.int .i64 p.f, .int .i64 p.t, .string p.s] i0 Try.underlying22 hi0 hg1
    (by rw [hpl, z2, hmin2]) (fun j u hu => World.news_of_block hb1 j u hu) (by rw [hpl, hRs]; omega) (by simp [Value.oneCell'])
  obtain ⟨cur1, hcur1⟩ : ∃ c, c = (ROW.toList.take (i * 3) ++ [Value.int .i64 p.f, .int .i64 p.t, .string p.s] ++ ROW.toList.drop (i * 3 + ([Value.int .i64 p.f, .int .i64 p.t, .string p.s] : List Value).length)).toArray := ⟨_, rfl⟩
  rw [← hcur1, hmin2] at hr2
  obtain ⟨W2, hW2⟩ : ∃ W2, W2 = W1.setRow w.heap.size cur1 := ⟨_, rfl⟩
  rw [← hW2] at hr2
  have hg2 : W2.heap[w.heap.size]? = some (.cells cur1 26 (0, 0)) := by rw [hW2]; exact setRow_heap _ _ _ _ _ _ hg1
  have n2 : New w W2 := n1.trans (by rw [hW2]; exact fr_setRow _ _ _) fun k hk e => by omega
  have hs1 : cur1.size = G * 3 := by
    rw [hcur1]; simp only [List.size_toArray, List.length_append, List.length_take, List.length_drop, Array.length_toList, hRs, hpl]; omega
  have h1t : cur1.toList.take ((i + 1) * 3) = pkCells (l.take i) ++ [Value.int .i64 p.f, .int .i64 p.t, .string p.s] := by
    rw [hcur1, ← hRt]
    have e1 : (ROW.toList.take (i * 3) ++ [Value.int .i64 p.f, .int .i64 p.t, .string p.s]).length = (i + 1) * 3 := by rw [List.length_append, List.length_take, Array.length_toList, hRs]; simp only [List.length_cons, List.length_nil]; omega
    rw [← e1]
    exact List.take_left
  have hgG : W2.drew.heap[g]? = some (.cells cur 26 (0, 0)) := (n2.drew.block g hgw fun x => x).trans hg
  have hmin1 : Nat.min (n - i) (n - i) = n - i := Nat.min_self _
  have hr3 := run_copy_rowK (P := Try.prog) W2.drew 22 22 3 26 w.heap.size ((i + 1) * 3) (n - i) (G - (i + 1)) ⟨g, i * 3, none⟩ (n - i) (n - i) cur1 26 (pkCells (l.drop i)) i0 Try.underlying22 hi0 hg2
    (by rw [hdl, z2, hmin1]) (PkS.news_at (W := W2.drew) hgG ht i) (by rw [hdl, hs1]; omega) (pkCells_one _)
  obtain ⟨cur2, hcur2⟩ : ∃ c, c = (cur1.toList.take ((i + 1) * 3) ++ pkCells (l.drop i) ++ cur1.toList.drop ((i + 1) * 3 + (pkCells (l.drop i)).length)).toArray := ⟨_, rfl⟩
  rw [← hcur2, hmin1] at hr3
  obtain ⟨W3, hW3⟩ : ∃ W3, W3 = W2.drew.setRow w.heap.size cur2 := ⟨_, rfl⟩
  rw [← hW3] at hr3
  have hg3 : W3.heap[w.heap.size]? = some (.cells cur2 26 (0, 0)) := by rw [hW3]; exact setRow_heap _ _ _ _ _ _ hg2
  have n3 : New w W3 := (n2.drew).trans (by rw [hW3]; exact fr_setRow _ _ _) fun k hk e => by omega
  have hs2 : cur2.size = G * 3 := by
    rw [hcur2]; simp only [List.size_toArray, List.length_append, List.length_take, List.length_drop, Array.length_toList, hs1, hdl]; omega
  have h2t : cur2.toList.take ((n + 1) * 3) = pkCells (l.take i ++ [p] ++ l.drop i) := by
    rw [hcur2, h1t, pkCells_append, pkCells_append]
    have e1 : (pkCells (l.take i) ++ [Value.int .i64 p.f, .int .i64 p.t, .string p.s] ++ pkCells (l.drop i)).length = (n + 1) * 3 := by rw [List.length_append, List.length_append, hti, hdl]; simp only [List.length_cons, List.length_nil]; omega
    rw [← e1]
    exact List.take_left
  have hlen2 : (l.take i ++ [p] ++ l.drop i).length = n + 1 := by simp only [List.length_append, List.length_take, List.length_drop, List.length_cons, List.length_nil]; omega
  have hend : PkL W3 (.slice (some ⟨w.heap.size, 0, none⟩) (n + 1) G) (l.take i ++ [p] ++ l.drop i) := by
    refine ⟨by rw [pkCells_length], .inr ⟨w.heap.size, G, cur2, by rw [hlen2], Nat.zero_le _, hg3, by rw [hlen2]; omega, hGm, hs2, by rw [hlen2]; exact h2t⟩⟩
  have H := Lib.hid (And.intro hend n3)
  have hz1 : i ≤ n := by omega
  have hz2 : ¬ ((i : Int) = (n : Int)) := by omega
  have hz3 : (n : Int) < (n : Int) + 1 := by omega
  have hw1 : IntKind.i64.wrap ((i : Int) + 1) = (i : Int) + 1 := by rw [IntKind.wrap_i64]; omega
  have hw2 : IntKind.i64.wrap ((n : Int) + 1) = (n : Int) + 1 := by rw [IntKind.wrap_i64]; omega
  have hw3 : IntKind.i64.wrap ((n : Int) + 1 - (i : Int)) = ((n + 1 - i : Nat) : Int) := by rw [IntKind.wrap_i64]; omega
  have ht1 : ((i : Int) + 1).toNat = i + 1 := by omega
  have hb2 : ¬ (G = i + 1) := by omega
  have hb3 : ¬ (G = i) := by omega
  have hb4 : (i : Int) ≤ (n : Int) := by omega
  have hb5 : (0 : Int) ≤ (i : Int) + 1 := by omega
  have hb8 : (i : Int) + 1 ≤ (n : Int) + 1 := by omega
  have hb9 : (i : Int) ≤ (n : Int) + 1 := by omega
  have hnn : n + 1 - (i + 1) = n - i := by omega
  have hb10 : ¬ (n = i) := by omega
  have hkk : (n : Int) + 1 - (i : Int) = ((n + 1 - i : Nat) : Int) := by omega
  have hi2 : i ≤ n + 1 := by omega
  have hi3 : i + 1 ≤ G := by omega
  have hi4 : i ≤ G := by omega
  clear hmin1 hmin2 hW1 hW2 hW3 hcur1 hcur2 h1t h2t hs1 hs2 hg1 hg2 hg3 hend n1 n2 n3 hdl hpl hti hb1 hlen2 hs ht hg hb hn hROW hRs hRt hgG hGm hG hold
  go_enter Try.func26, Try.ntmps26
  go_wp2_with (at_builtin; first | (refine wpList_append_run2 rfl (.tmp 34) (.tmp 39) 22 3 rfl rfl rfl hrz ?_) | (refine wpList_copy_run rfl (.tmp 43) (.tmp 44) 22 rfl rfl rfl hr2 ?_))
  go_region_law (refine step_copy_run rfl (.tmp 50) (.tmp 53) 22 rfl ?ev1 ?ev2 hr3 ?_; (case ev1 => simp [Act.eval, Act.put]; try omega); (case ev2 => simp [Act.eval, Act.put]; try omega))
  go_wp2_with fail
  exact bodyPost_ret (v := .slice (some ⟨w.heap.size, 0, none⟩) (n + 1) G) (by simp [results, Try.results26, go_sem, *]) rfl ⟨_, rfl, H.out.1, H.out.2⟩
/-- slices.Insert of one packet into a row of the call's own. -/
theorem ins_any {w : World} {v : Value} {l : List Pkt} {p : Pkt} {blk i : Nat} (h : PkL w v l) (hi : i ≤ l.length) (hl : l.length ≤ 100000) (hb : Own w blk 26 #[.int .i64 p.f, .int .i64 p.t, .string p.s]) (hbv : v.ownBlock ≠ some blk) :
    Calls Try.prog 26 #[v, .int .i64 (i : Nat), .slice (some ⟨blk, 0, none⟩) 1 1] w fun e W => ∃ v', e = .returned v' ∧ PkL W v' (l.take i ++ [p] ++ l.drop i) ∧ Fr (fun k => v.ownBlock = some k) w W ∧ (v'.ownBlock = v.ownBlock ∨ ∃ k, v'.ownBlock = some k ∧ w.heap.size ≤ k) := by
  rcases Nat.lt_or_ge i l.length with hlt | hge
  · rcases h.2 with ⟨e, h0⟩ | ⟨g, cap, cur, e, _, hg, hc, hm, hs, ht⟩
    · omega
    subst e
    have hbg : blk ≠ g := fun e => hbv (by rw [e]; rfl)
    by_cases hroom : l.length + 1 ≤ cap
    · refine (ins_room (p := p) (blk := blk) rfl hg hroom hm hs ht hlt hl hbg hb).mono ?_
      rintro e W ⟨rfl, hp, f⟩
      exact ⟨_, rfl, hp, f.mono fun k e => by subst e; rfl, .inl rfl⟩
    · obtain rfl : cap = l.length := by omega
      refine (ins_grow (p := p) (blk := blk) rfl hg hs ht hlt hl hb).mono ?_
      rintro e W ⟨c, rfl, hp, f⟩
      exact ⟨_, rfl, hp, f.mono fun k e => e.elim, .inr ⟨_, rfl, Nat.le_refl _⟩⟩
  · obtain rfl : i = l.length := by omega
    refine (ins_end h hl hb).mono ?_
    rintro e W ⟨v', rfl, hp, f, ho⟩
    refine ⟨v', rfl, ?_, f, ho⟩
    rw [List.take_length, List.drop_length, List.append_nil]
    exact hp
end Go.Proofs.Ytleagdnlgjpcgaa
