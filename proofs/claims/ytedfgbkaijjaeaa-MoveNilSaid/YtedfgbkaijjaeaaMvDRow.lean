/- Rows of operations that were done: one more at the end, one more in its place. -/
import Derived.Test.YtedfgbkaijjaeaaMvURow
namespace Go.Proofs.Ytedfgbkaijjaeaa
open Go.RowKit Go.Maps
set_option linter.unusedVariables false
set_option linter.unusedSimpArgs false

def dCells : List DoV → List Value
  | [] => []
  | p :: l => .int .i64 p.e.op.kind :: .int .u64 p.e.op.count :: .int .i64 p.e.op.who :: .int .u64 p.e.op.thing :: .int .u64 p.e.op.parent :: .string p.e.op.name :: .bool p.e.op.dir :: .string p.e.op.digest :: .int .i64 p.e.op.size :: .string p.e.hash :: .int .u64 p.was.id :: .int .u64 p.was.parent :: .string p.was.name :: .bool p.was.dir :: .string p.was.dg :: .int .i64 p.was.size :: .bool p.there :: .bool p.did :: dCells l
theorem dCells_length : ∀ l, (dCells l).length = l.length * 18
  | [] => rfl
  | p :: l => by simp only [dCells, List.length_cons, dCells_length l] <;> omega
theorem dCells_append : ∀ l m, dCells (l ++ m) = dCells l ++ dCells m
  | [], m => rfl
  | p :: l, m => by simp [dCells, dCells_append l m]
theorem dCells_drop : ∀ (l : List DoV) k, (dCells l).drop (k * 18) = dCells (l.drop k)
  | l, 0 => by simp
  | [], k + 1 => by simp [dCells]
  | p :: l, k + 1 => by
    rw [show (k + 1) * 18 = k * 18 + 18 by omega]
    simp [dCells, ← dCells_drop l k]
theorem dCells_take : ∀ (l : List DoV) k, (dCells l).take (k * 18) = dCells (l.take k)
  | l, 0 => by simp [dCells]
  | [], k + 1 => by simp [dCells]
  | p :: l, k + 1 => by
    rw [show (k + 1) * 18 = k * 18 + 18 by omega]
    simp [dCells, ← dCells_take l k]
theorem dCells_one : ∀ (l : List DoV), ∀ u ∈ dCells l, u.oneCell' = true
  | [], u, h => by simp [dCells] at h
  | p :: l, u, h => by
    simp only [dCells, List.mem_cons] at h
    rcases h with rfl | rfl | rfl | rfl | rfl | rfl | rfl | rfl | rfl | rfl | rfl | rfl | rfl | rfl | rfl | rfl | rfl | rfl | h
    · rfl
    · rfl
    · rfl
    · rfl
    · rfl
    · rfl
    · rfl
    · rfl
    · rfl
    · rfl
    · rfl
    · rfl
    · rfl
    · rfl
    · rfl
    · rfl
    · rfl
    · rfl
    · exact dCells_one l u h
/-- A row of packets of the call's own. -/
def DL (W : World) (v : Value) (l : List DoV) : Prop := W.ownsRow 0 108 18 v l.length (dCells l)
theorem DL.nil (W : World) : DL W (.slice none 0 0) [] := World.ownsRow_nil _ _ _ _
theorem DL.fr {W W' : World} {v : Value} {l : List DoV} {G : Nat → Prop} (h : DL W v l) (f : Fr G W W') (hv : ∀ k, v.ownBlock = some k → ¬ G k) : DL W' v l := by
  rcases h.2 with ⟨e, h0⟩ | ⟨g, cap, cur, e, hB, hg, r⟩
  · exact ⟨h.1, .inl ⟨e, h0⟩⟩
  · subst e
    exact ⟨h.1, .inr ⟨g, cap, cur, rfl, hB, (f.block g (lt_of_block hg) (hv g rfl)).trans hg, r⟩⟩
theorem DL.lt {W : World} {v : Value} {l : List DoV} (h : DL W v l) {k : Nat} (hk : v.ownBlock = some k) : k < W.heap.size := (World.ownsRow.lt h k hk).2
theorem DL.row {W : World} {v : Value} {l : List DoV} (h : DL W v l) {k : Nat} (hk : v.ownBlock = some k) : ∃ cur, W.heap[k]? = some (.cells cur 108 (0, 0)) := by
  rcases h.2 with ⟨e, h0⟩ | ⟨g, cap, cur, e, hB, hg, r⟩
  · rw [e] at hk; cases hk
  · subst e
    injection hk with hk
    have : g = k := hk
    subst this
    exact ⟨cur, hg⟩
theorem DL.form {W : World} {v : Value} {l : List DoV} (h : DL W v l) : ∃ A cap, v = .slice A l.length cap := by
  rcases h.2 with ⟨e, h0⟩ | ⟨g, cap, cur, e, _⟩
  · exact ⟨none, 0, by rw [e, h0]⟩
  · exact ⟨_, cap, e⟩
theorem info_d : (Try.prog.info? 108).map (fun i => (i.zero, i.size, i.bytes)) = some (some (.agg #[.int .i64 0, .int .u64 0, .int .i64 0, .int .u64 0, .int .u64 0, .string ⟨#[]⟩, .bool false, .string ⟨#[]⟩, .int .i64 0, .string ⟨#[]⟩, .int .u64 0, .int .u64 0, .string ⟨#[]⟩, .bool false, .string ⟨#[]⟩, .int .i64 0, .bool false, .bool false]), 18, 176) := by kernel_rfl
/-- One packet more. -/
theorem append_d {W : World} {blk : Nat} {v : Value} {l : List DoV} {p : DoV} (h : DL W v l) (hn : l.length ≤ 100000) (hb : Own W blk 108 #[.int .i64 p.e.op.kind, .int .u64 p.e.op.count, .int .i64 p.e.op.who, .int .u64 p.e.op.thing, .int .u64 p.e.op.parent, .string p.e.op.name, .bool p.e.op.dir, .string p.e.op.digest, .int .i64 p.e.op.size, .string p.e.hash, .int .u64 p.was.id, .int .u64 p.was.parent, .string p.was.name, .bool p.was.dir, .string p.was.dg, .int .i64 p.was.size, .bool p.there, .bool p.did]) :
    ∃ v' W', (Builtin.append_ #[102, 102] 102 #[v, .slice (some ⟨blk, 0, none⟩) 1 1]).run Try.prog W = .ok v' W' ∧ DL W' v' (l ++ [p]) ∧
      Fr (fun k => v.ownBlock = some k) W W' ∧ (v'.ownBlock = v.ownBlock ∨ ∃ k, v'.ownBlock = some k ∧ W.heap.size ≤ k) := by
  obtain ⟨i, hi, hv⟩ := Option.map_eq_some_iff.1 info_d
  have z1 : i.zero = some (.agg #[.int .i64 0, .int .u64 0, .int .i64 0, .int .u64 0, .int .u64 0, .string ⟨#[]⟩, .bool false, .string ⟨#[]⟩, .int .i64 0, .string ⟨#[]⟩, .int .u64 0, .int .u64 0, .string ⟨#[]⟩, .bool false, .string ⟨#[]⟩, .int .i64 0, .bool false, .bool false]) := congrArg Prod.fst hv
  have z2 : i.size = 18 := congrArg (fun x => x.2.1) hv
  have z3 : i.bytes = 176 := congrArg (fun x => x.2.2) hv
  obtain ⟨v', W', hr, h2, h3, h4, h5⟩ := run_append_own_at (P := Try.prog) W 0 102 102 108 i _ 18 176 Try.underlying102 hi z1 z2 z3 rfl (by omega) v l.length _ h ⟨blk, 0, none⟩ 1 1 [.int .i64 p.e.op.kind, .int .u64 p.e.op.count, .int .i64 p.e.op.who, .int .u64 p.e.op.thing, .int .u64 p.e.op.parent, .string p.e.op.name, .bool p.e.op.dir, .string p.e.op.digest, .int .i64 p.e.op.size, .string p.e.hash, .int .u64 p.was.id, .int .u64 p.was.parent, .string p.was.name, .bool p.was.dir, .string p.was.dg, .int .i64 p.was.size, .bool p.there, .bool p.did] rfl
    (fun j u hu => World.news_of_block hb j u hu) (by simp [Value.oneCell']) (by simp [maxLen]; omega) (by omega) (Nat.zero_le _)
  refine ⟨v', W', hr, ?_, fr_of_grown' h3, ?_⟩
  · unfold DL
    rw [List.length_append, dCells_append]
    exact h2
  · rcases h5 with e | e
    · exact .inl e
    · exact .inr ⟨_, e, Nat.le_refl _⟩
theorem DL.cap {W : World} {A : Option Addr} {n cap : Nat} {l : List DoV} (h : DL W (.slice A n cap) l) : n ≤ cap ∧ cap ≤ maxLen := by
  rcases h.2 with ⟨e, h0⟩ | ⟨g, cap', cur, e, _, _, h1, h2, _⟩
  · injection e with e1 e2 e3
    subst e2 e3
    exact ⟨Nat.le_refl _, by simp [maxLen]⟩
  · injection e with e1 e2 e3
    subst e2 e3
    exact ⟨h1, h2⟩
theorem DL.new_ {W W' : World} {v : Value} {l : List DoV} (h : DL W v l) (f : New W W') : DL W' v l := h.fr f fun _ _ g => g
theorem DL.at_ {W : World} {A : Option Addr} {n cap : Nat} {l : List DoV} (h : DL W (.slice A n cap) l) {i : Nat} (hi : i < n) : ∃ g, A = some ⟨g, 0, none⟩ ∧ ∀ j u, (dCells l)[i * 18 + j]? = some u → j < 18 → W.cell? ⟨g, i * 18 + j, none⟩ = some u := by
  rcases h.2 with ⟨e, h0⟩ | ⟨g, cap', cur, e, _, hg, h1, h2, h3, h4⟩
  · injection e with e1 e2 e3
    omega
  · injection e with e1 e2 e3
    refine ⟨g, e1, fun j u hu hj => ?_⟩
    rw [show W.cell? ⟨g, i * 18 + j, none⟩ = cur[i * 18 + j]? from Own.cell (w := W) (b := g) (t := 108) (cs := cur) hg _]
    rw [← h4, List.getElem?_take] at hu
    split at hu
    · simpa using hu
    · cases hu
set_option maxRecDepth 100000 in
set_option maxHeartbeats 8000000 in
theorem insD_end {w : World} {v : Value} {l : List DoV} {p : DoV} {blk : Nat} (h : DL w v l) (hl : l.length ≤ 100000) (hb : Own w blk 108 #[.int .i64 p.e.op.kind, .int .u64 p.e.op.count, .int .i64 p.e.op.who, .int .u64 p.e.op.thing, .int .u64 p.e.op.parent, .string p.e.op.name, .bool p.e.op.dir, .string p.e.op.digest, .int .i64 p.e.op.size, .string p.e.hash, .int .u64 p.was.id, .int .u64 p.was.parent, .string p.was.name, .bool p.was.dir, .string p.was.dg, .int .i64 p.was.size, .bool p.there, .bool p.did]) :
    Calls Try.prog 51 #[v, .int .i64 (l.length : Nat), .slice (some ⟨blk, 0, none⟩) 1 1] w fun e W => ∃ v', e = .returned v' ∧ DL W v' (l ++ [p]) ∧ Fr (fun k => v.ownBlock = some k) w W ∧ (v'.ownBlock = v.ownBlock ∨ ∃ k, v'.ownBlock = some k ∧ w.heap.size ≤ k) := by
  obtain ⟨v', W', hr, hp, f, ho⟩ := append_d h hl hb
  obtain ⟨A, cap, rfl⟩ := h.form
  have hcl := h.cap
  obtain ⟨A', cap', hv'⟩ := hp.form
  rw [show (l ++ [p]).length = l.length + 1 by simp] at hv'
  subst hv'
  obtain ⟨B, hB⟩ : ∃ B, (Value.slice A l.length cap).ownBlock = B := ⟨_, rfl⟩
  rw [hB] at f ho ⊢
  clear hB
  have H := Lib.hid (And.intro hp (And.intro f ho))
  clear hp f ho h
  go_enter Try.func51, Try.ntmps51
  go_wp2_with (at_builtin; refine wpList_append_run rfl (.tmp 23) (.tmp 24) 102 rfl rfl rfl hr ?_)
  all_goals exact bodyPost_ret (v := .slice A' (l.length + 1) cap') (by simp [results, Try.results51, go_sem, *]) rfl ⟨_, rfl, H.out.1, H.out.2.1, H.out.2.2⟩
theorem dNews_at {W : World} {g n : Nat} {cur : Array Value} {l : List DoV} (hg : W.heap[g]? = some (.cells cur 108 (0, 0))) (ht : cur.toList.take (n * 18) = dCells l) (i : Nat) : ∀ j u, (dCells (l.drop i))[j]? = some u → W.cell? ((⟨g, i * 18, none⟩ : Addr).add j) = some u := by
  intro j u hu
  have hadd : (⟨g, i * 18, none⟩ : Addr).add j = ⟨g, i * 18 + j, none⟩ := by unfold Addr.add; split <;> simp_all
  rw [hadd]
  rw [← dCells_drop, List.getElem?_drop, ← ht, List.getElem?_take] at hu
  rw [show W.cell? ⟨g, i * 18 + j, none⟩ = cur[i * 18 + j]? from Own.cell (w := W) (b := g) (t := 108) (cs := cur) hg _]
  split at hu
  · simpa using hu
  · cases hu
set_option maxRecDepth 100000 in
set_option maxHeartbeats 8000000 in
/-- There is room. -/
theorem insD_room {w : World} {g n cap : Nat} {cur : Array Value} {l : List DoV} {p : DoV} {blk i : Nat} (hn : n = l.length) (hg : w.heap[g]? = some (.cells cur 108 (0, 0))) (hc : n + 1 ≤ cap) (hm : cap ≤ maxLen) (hs : cur.size = cap * 18) (ht : cur.toList.take (n * 18) = dCells l) (hi : i < n) (hl : n ≤ 100000) (hbg : blk ≠ g)
    (hb : Own w blk 108 #[.int .i64 p.e.op.kind, .int .u64 p.e.op.count, .int .i64 p.e.op.who, .int .u64 p.e.op.thing, .int .u64 p.e.op.parent, .string p.e.op.name, .bool p.e.op.dir, .string p.e.op.digest, .int .i64 p.e.op.size, .string p.e.hash, .int .u64 p.was.id, .int .u64 p.was.parent, .string p.was.name, .bool p.was.dir, .string p.was.dg, .int .i64 p.was.size, .bool p.there, .bool p.did]) :
    Calls Try.prog 51 #[.slice (some ⟨g, 0, none⟩) n cap, .int .i64 (i : Nat), .slice (some ⟨blk, 0, none⟩) 1 1] w fun e W => e = .returned (.slice (some ⟨g, 0, none⟩) (n + 1) cap) ∧ DL W (.slice (some ⟨g, 0, none⟩) (n + 1) cap) (l.take i ++ [p] ++ l.drop i) ∧ Fr (fun k => k = g) w W := by
  obtain ⟨i0, hi0, hv0⟩ := Option.map_eq_some_iff.1 info_d
  have z2 : i0.size = 18 := congrArg (fun x => x.2.1) hv0
  have hdl : (dCells (l.drop i)).length = (n - i) * 18 := by rw [dCells_length, List.length_drop, hn]
  have hpl : ([Value.int .i64 p.e.op.kind, .int .u64 p.e.op.count, .int .i64 p.e.op.who, .int .u64 p.e.op.thing, .int .u64 p.e.op.parent, .string p.e.op.name, .bool p.e.op.dir, .string p.e.op.digest, .int .i64 p.e.op.size, .string p.e.hash, .int .u64 p.was.id, .int .u64 p.was.parent, .string p.was.name, .bool p.was.dir, .string p.was.dg, .int .i64 p.was.size, .bool p.there, .bool p.did] : List Value).length = 18 := rfl
  have hmin1 : Nat.min (n + 1 - i) (n - i) = n - i := Nat.min_eq_right (by omega)
  have hmin2 : Nat.min 1 (n + 1 - i) = 1 := Nat.min_eq_left (by omega)
  have hr1 := run_copy_rowK (P := Try.prog) w.drew 102 102 3 108 g ((i + 1) * 18) (n - i) (cap - (i + 1)) ⟨g, i * 18, none⟩ (n + 1 - i) (cap - i) cur 108 (dCells (l.drop i)) i0 Try.underlying102 hi0 hg
    (by rw [hdl, z2, hmin1]) (dNews_at (W := w.drew) hg ht i) (by rw [hdl, hs]; omega) (dCells_one _)
  obtain ⟨cur1, hcur1⟩ : ∃ c, c = (cur.toList.take ((i + 1) * 18) ++ dCells (l.drop i) ++ cur.toList.drop ((i + 1) * 18 + (dCells (l.drop i)).length)).toArray := ⟨_, rfl⟩
  rw [← hcur1, hmin1] at hr1
  obtain ⟨W1, hW1⟩ : ∃ W1, W1 = w.drew.setRow g cur1 := ⟨_, rfl⟩
  rw [← hW1] at hr1
  have hg1 : W1.heap[g]? = some (.cells cur1 108 (0, 0)) := by rw [hW1]; exact setRow_heap _ _ _ _ _ _ hg
  have f1 : Fr (fun k => k = g) w W1 := by rw [hW1]; exact ((Fr.refl _ w).drew).trans (fr_setRow _ _ _) fun _ _ h => h
  have hs1 : cur1.size = cap * 18 := by
    rw [hcur1]; simp only [List.size_toArray, List.length_append, List.length_take, List.length_drop, Array.length_toList, hdl]; omega
  have hb1 := hb.fr f1 hbg
  have hr2 := run_copy_rowK (P := Try.prog) W1 102 102 3 108 g (i * 18) (n + 1 - i) (cap - i) ⟨blk, 0, none⟩ 1 1 cur1 108 [.int .i64 p.e.op.kind, .int .u64 p.e.op.count, .int .i64 p.e.op.who, .int .u64 p.e.op.thing, .int .u64 p.e.op.parent, .string p.e.op.name, .bool p.e.op.dir, .string p.e.op.digest, .int .i64 p.e.op.size, .string p.e.hash, .int .u64 p.was.id, .int .u64 p.was.parent, .string p.was.name, .bool p.was.dir, .string p.was.dg, .int .i64 p.was.size, .bool p.there, .bool p.did] i0 Try.underlying102 hi0 hg1
    (by rw [hpl, z2, hmin2]) (fun j u hu => World.news_of_block hb1 j u hu) (by rw [hpl, hs1]; omega) (by simp [Value.oneCell'])
  obtain ⟨cur2, hcur2⟩ : ∃ c, c = (cur1.toList.take (i * 18) ++ [Value.int .i64 p.e.op.kind, .int .u64 p.e.op.count, .int .i64 p.e.op.who, .int .u64 p.e.op.thing, .int .u64 p.e.op.parent, .string p.e.op.name, .bool p.e.op.dir, .string p.e.op.digest, .int .i64 p.e.op.size, .string p.e.hash, .int .u64 p.was.id, .int .u64 p.was.parent, .string p.was.name, .bool p.was.dir, .string p.was.dg, .int .i64 p.was.size, .bool p.there, .bool p.did] ++ cur1.toList.drop (i * 18 + ([Value.int .i64 p.e.op.kind, .int .u64 p.e.op.count, .int .i64 p.e.op.who, .int .u64 p.e.op.thing, .int .u64 p.e.op.parent, .string p.e.op.name, .bool p.e.op.dir, .string p.e.op.digest, .int .i64 p.e.op.size, .string p.e.hash, .int .u64 p.was.id, .int .u64 p.was.parent, .string p.was.name, .bool p.was.dir, .string p.was.dg, .int .i64 p.was.size, .bool p.there, .bool p.did] : List Value).length)).toArray := ⟨_, rfl⟩
  rw [← hcur2, hmin2] at hr2
  obtain ⟨W2, hW2⟩ : ∃ W2, W2 = W1.setRow g cur2 := ⟨_, rfl⟩
  rw [← hW2] at hr2
  have hg2 : W2.heap[g]? = some (.cells cur2 108 (0, 0)) := by rw [hW2]; exact setRow_heap _ _ _ _ _ _ hg1
  have f2 : Fr (fun k => k = g) w W2 := f1.trans (by rw [hW2]; exact fr_setRow _ _ _) fun _ _ h => h
  have hs2 : cur2.size = cap * 18 := by
    rw [hcur2]; simp only [List.size_toArray, List.length_append, List.length_take, List.length_drop, Array.length_toList, hs1, hpl]; omega
  have hti : (cur.toList.take (i * 18)).length = i * 18 := by rw [List.length_take, Array.length_toList, hs]; omega
  have h1t : cur1.toList.take (i * 18) = dCells (l.take i) := by
    rw [hcur1, ← dCells_take, ← ht]
    simp only [List.take_take, List.append_assoc]
    rw [List.take_append_of_le_length (by rw [List.length_take, Array.length_toList, hs]; omega), List.take_take, Nat.min_eq_left (by omega), Nat.min_eq_left (by omega)]
  have h1d : (cur1.toList.drop (i * 18 + 18)).take ((n - i) * 18) = dCells (l.drop i) := by
    rw [hcur1, show i * 18 + 18 = (i + 1) * 18 by omega]
    simp only [List.append_assoc]
    rw [List.drop_append_of_le_length (by rw [List.length_take, Array.length_toList, hs]; omega), List.drop_eq_nil_of_le (by rw [List.length_take]; omega), List.nil_append, List.take_append_of_le_length (by omega), List.take_of_length_le (by omega)]
  have h2t : cur2.toList.take ((n + 1) * 18) = dCells (l.take i ++ [p] ++ l.drop i) := by
    rw [hcur2, dCells_append, dCells_append, ← h1t, ← h1d, hpl]
    have e1 : (cur1.toList.take (i * 18) ++ [Value.int .i64 p.e.op.kind, .int .u64 p.e.op.count, .int .i64 p.e.op.who, .int .u64 p.e.op.thing, .int .u64 p.e.op.parent, .string p.e.op.name, .bool p.e.op.dir, .string p.e.op.digest, .int .i64 p.e.op.size, .string p.e.hash, .int .u64 p.was.id, .int .u64 p.was.parent, .string p.was.name, .bool p.was.dir, .string p.was.dg, .int .i64 p.was.size, .bool p.there, .bool p.did]).length = i * 18 + 18 := by rw [List.length_append, List.length_take, Array.length_toList, hs1]; simp only [List.length_cons, List.length_nil]; omega
    rw [show (n + 1) * 18 = (cur1.toList.take (i * 18) ++ [Value.int .i64 p.e.op.kind, .int .u64 p.e.op.count, .int .i64 p.e.op.who, .int .u64 p.e.op.thing, .int .u64 p.e.op.parent, .string p.e.op.name, .bool p.e.op.dir, .string p.e.op.digest, .int .i64 p.e.op.size, .string p.e.hash, .int .u64 p.was.id, .int .u64 p.was.parent, .string p.was.name, .bool p.was.dir, .string p.was.dg, .int .i64 p.was.size, .bool p.there, .bool p.did]).length + (n - i) * 18 by rw [e1]; omega]
    exact List.take_length_add_append _
  have hlen2 : (l.take i ++ [p] ++ l.drop i).length = n + 1 := by simp only [List.length_append, List.length_take, List.length_drop, List.length_cons, List.length_nil]; omega
  have hend : DL W2 (.slice (some ⟨g, 0, none⟩) (n + 1) cap) (l.take i ++ [p] ++ l.drop i) := by
    refine ⟨by rw [dCells_length], .inr ⟨g, cap, cur2, by rw [hlen2], Nat.zero_le _, hg2, by rw [hlen2]; omega, hm, hs2, by rw [hlen2]; exact h2t⟩⟩
  have H := Lib.hid (And.intro hend f2)
  have hov : ∀ lb cb, (callFunc 78 #[.slice (some ⟨blk, 0, none⟩) 1 1, .slice (some ⟨g, (i + 1) * 18, none⟩) lb cb]).run Try.prog w = .ok (.value (.bool false)) w := fun lb cb => by
    rw [run_callFunc_extern (fn := Try.f78) (by kernel_rfl) (by kernel_rfl) (by kernel_rfl) (by kernel_rfl) (e := Extern.SlicesOverlaps.overlaps #[102, 102] #[4]) (by kernel_rfl)]
    rw [Lib.run_overlaps_apart w 102 4 108 Try.underlying102 18 (fun w => by simp [sizeOf, typeInfo, hi0, z2]) ⟨blk, 0, none⟩ ⟨g, (i + 1) * 18, none⟩ 1 1 lb cb hbg 108 108 18 cur.size (by simp [World.shape?, show w.heap[blk]? = _ from hb]) (by simp [World.shape?, hg]) (by omega) (hb.free 0) (hb.free 18)]
    rfl
  have hz1 : i ≤ n := by omega
  have hz2 : ¬ ((i : Int) = (n : Int)) := by omega
  have hz3 : ¬ ((cap : Int) < (n : Int) + 1) := by omega
  have hw1 : IntKind.i64.wrap ((i : Int) + 1) = (i : Int) + 1 := by rw [IntKind.wrap_i64]; omega
  have hw2 : IntKind.i64.wrap ((n : Int) + 1) = (n : Int) + 1 := by rw [IntKind.wrap_i64]; omega
  have ht1 : ((i : Int) + 1).toNat = i + 1 := by omega
  have ht2 : ((n : Int) + 1).toNat = n + 1 := by omega
  have hb2 : ¬ (cap = i + 1) := by omega
  have hb3 : ¬ (cap = i) := by omega
  have hb4 : (i : Int) ≤ (n : Int) := by omega
  have hb5 : (0 : Int) ≤ (i : Int) + 1 := by omega
  have hb6 : (0 : Int) ≤ (n : Int) + 1 := by omega
  have hb7 : (n : Int) + 1 ≤ (cap : Int) := by omega
  have hb8 : (i : Int) + 1 ≤ (n : Int) + 1 := by omega
  have hb9 : (i : Int) ≤ (n : Int) + 1 := by omega
  have hnn : n + 1 - (i + 1) = n - i := by omega
  clear hmin1 hmin2 hW1 hW2 hcur1 hcur2 h1t h1d h2t hs1 hs2 hg1 hg2 hend f1 f2 hdl hpl hti hb1 hlen2 hs ht hg hb hn hm
  go_enter Try.func51, Try.ntmps51
  go_wp2_with (simp only [hov])
  go_region_law (refine step_copy_run rfl (.tmp 73) (.tmp 76) 102 rfl ?ev1 ?ev2 hr1 ?_; (case ev1 => simp [Act.eval, Act.put]; try omega); (case ev2 => simp [Act.eval, Act.put]; try omega))
  go_wp2_with (at_builtin; refine wpList_copy_run rfl (.tmp 80) (.tmp 82) 102 rfl rfl rfl hr2 ?_)
  exact bodyPost_ret (v := .slice (some ⟨g, 0, none⟩) (n + 1) cap) (by simp [results, Try.results51, go_sem, *]) rfl ⟨rfl, H.out.1, H.out.2⟩
set_option maxRecDepth 100000 in
set_option maxHeartbeats 8000000 in
/-- There is none. -/
theorem insD_grow {w : World} {g n : Nat} {cur : Array Value} {l : List DoV} {p : DoV} {blk i : Nat} (hn : n = l.length) (hg : w.heap[g]? = some (.cells cur 108 (0, 0))) (hs : cur.size = n * 18) (ht : cur.toList.take (n * 18) = dCells l) (hi : i < n) (hl : n ≤ 100000)
    (hb : Own w blk 108 #[.int .i64 p.e.op.kind, .int .u64 p.e.op.count, .int .i64 p.e.op.who, .int .u64 p.e.op.thing, .int .u64 p.e.op.parent, .string p.e.op.name, .bool p.e.op.dir, .string p.e.op.digest, .int .i64 p.e.op.size, .string p.e.hash, .int .u64 p.was.id, .int .u64 p.was.parent, .string p.was.name, .bool p.was.dir, .string p.was.dg, .int .i64 p.was.size, .bool p.there, .bool p.did]) :
    Calls Try.prog 51 #[.slice (some ⟨g, 0, none⟩) n n, .int .i64 (i : Nat), .slice (some ⟨blk, 0, none⟩) 1 1] w fun e W => ∃ c, e = .returned (.slice (some ⟨w.heap.size, 0, none⟩) (n + 1) c) ∧ DL W (.slice (some ⟨w.heap.size, 0, none⟩) (n + 1) c) (l.take i ++ [p] ++ l.drop i) ∧ New w W := by
  obtain ⟨i0, hi0, hv0⟩ := Option.map_eq_some_iff.1 info_d
  have z1 : i0.zero = some (.agg #[.int .i64 0, .int .u64 0, .int .i64 0, .int .u64 0, .int .u64 0, .string ⟨#[]⟩, .bool false, .string ⟨#[]⟩, .int .i64 0, .string ⟨#[]⟩, .int .u64 0, .int .u64 0, .string ⟨#[]⟩, .bool false, .string ⟨#[]⟩, .int .i64 0, .bool false, .bool false]) := congrArg Prod.fst hv0
  have z2 : i0.size = 18 := congrArg (fun x => x.2.1) hv0
  have z3 : i0.bytes = 176 := congrArg (fun x => x.2.2) hv0
  have hdl : (dCells (l.drop i)).length = (n - i) * 18 := by rw [dCells_length, List.length_drop, hn]
  have hpl : ([Value.int .i64 p.e.op.kind, .int .u64 p.e.op.count, .int .i64 p.e.op.who, .int .u64 p.e.op.thing, .int .u64 p.e.op.parent, .string p.e.op.name, .bool p.e.op.dir, .string p.e.op.digest, .int .i64 p.e.op.size, .string p.e.hash, .int .u64 p.was.id, .int .u64 p.was.parent, .string p.was.name, .bool p.was.dir, .string p.was.dg, .int .i64 p.was.size, .bool p.there, .bool p.did] : List Value).length = 18 := rfl
  have hgw : g < w.heap.size := lt_of_block hg
  have hbw : blk < w.heap.size := hb.lt
  have hik : i + (n + 1 - i) = n + 1 := by omega
  have hti : (dCells (l.take i)).length = i * 18 := by rw [dCells_length, List.length_take]; omega
  have hold : (Builtin.firstCells i0.size i (.slice (some ⟨g, 0, none⟩) i n)).run Try.prog w.drew = .ok (dCells (l.take i)).toArray w.drew := by
    refine run_firstCells_some w.drew i0.size i ⟨g, 0, none⟩ i n (dCells (l.take i)) (by rw [hti, z2]) (fun j u hu => ?_)
    have hadd : (⟨g, 0, none⟩ : Addr).add j = ⟨g, j, none⟩ := by unfold Addr.add; split <;> simp_all
    rw [hadd]
    rw [← dCells_take, ← ht, List.take_take, List.getElem?_take] at hu
    rw [show w.drew.cell? ⟨g, j, none⟩ = cur[j]? from Own.cell (w := w) (b := g) (t := 108) (cs := cur) hg _]
    split at hu
    · simpa using hu
    · cases hu
  have hrz := Lib.run_append_grow_zeros (P := Try.prog) w 102 3 102 108 i0 _ .i64 .i64 Try.underlying102 Try.underlying3 hi0 z1 (some ⟨g, 0, none⟩) i n (dCells (l.take i)) hold (n + 1 - i) (by omega) (by omega) (by omega) (by omega) (by rw [z3]; omega) (by rw [z3, hik]; exact growslice_fits (by omega) (by omega))
  rw [hik] at hrz
  obtain ⟨G, hG⟩ : ∃ G, G = grownCap w (n + 1) n 108 := ⟨_, rfl⟩
  have hGge : n + 1 ≤ G := by rw [hG]; exact grownCap_ge w (n + 1) n _
  have hGm : G ≤ maxLen := by rw [hG]; exact grownCap_le_maxLen w (n + 1) n _ (by simp only [maxLen]; omega)
  rw [← hG] at hrz
  obtain ⟨ROW, hROW⟩ : ∃ ROW : Array Value, ROW = (dCells (l.take i)).toArray ++ Builtin.zeroCells (Value.agg #[.int .i64 0, .int .u64 0, .int .i64 0, .int .u64 0, .int .u64 0, .string ⟨#[]⟩, .bool false, .string ⟨#[]⟩, .int .i64 0, .string ⟨#[]⟩, .int .u64 0, .int .u64 0, .string ⟨#[]⟩, .bool false, .string ⟨#[]⟩, .int .i64 0, .bool false, .bool false]).cells (n + 1 - i) ++ Builtin.zeroCells (Value.agg #[.int .i64 0, .int .u64 0, .int .i64 0, .int .u64 0, .int .u64 0, .string ⟨#[]⟩, .bool false, .string ⟨#[]⟩, .int .i64 0, .string ⟨#[]⟩, .int .u64 0, .int .u64 0, .string ⟨#[]⟩, .bool false, .string ⟨#[]⟩, .int .i64 0, .bool false, .bool false]).cells (G - (n + 1)) := ⟨_, rfl⟩
  rw [← hROW] at hrz
  have hRs : ROW.size = G * 18 := by
    rw [hROW]
    simp only [Array.size_append, List.size_toArray, size_zeroCells, hti, Value.cells]
    show i * 18 + (n + 1 - i) * 18 + (G - (n + 1)) * 18 = G * 18
    omega
  have hRt : ROW.toList.take (i * 18) = dCells (l.take i) := by
    rw [hROW]
    simp only [Array.toList_append, List.append_assoc]
    rw [← hti]
    exact List.take_left
  obtain ⟨W1, hW1⟩ : ∃ W1, W1 = w.drew.alloc (.cells ROW 108) := ⟨_, rfl⟩
  rw [← hW1] at hrz
  have hg1 : W1.heap[w.heap.size]? = some (.cells ROW 108 (0, 0)) := by rw [hW1]; exact Own.fresh w.drew _ _
  have n1 : New w W1 := by rw [hW1]; exact ((Fr.refl _ _).drew).alloc _
  have hb1 := hb.new_ n1
  have hmin2 : Nat.min 1 (n + 1 - i) = 1 := Nat.min_eq_left (by omega)
  have hr2 := run_copy_rowK (P := Try.prog) W1 102 102 3 108 w.heap.size (i * 18) (n + 1 - i) (G - i) ⟨blk, 0, none⟩ 1 1 ROW 108 [.int .i64 p.e.op.kind, .int .u64 p.e.op.count, .int .i64 p.e.op.who, .int .u64 p.e.op.thing, .int .u64 p.e.op.parent, .string p.e.op.name, .bool p.e.op.dir, .string p.e.op.digest, .int .i64 p.e.op.size, .string p.e.hash, .int .u64 p.was.id, .int .u64 p.was.parent, .string p.was.name, .bool p.was.dir, .string p.was.dg, .int .i64 p.was.size, .bool p.there, .bool p.did] i0 Try.underlying102 hi0 hg1
    (by rw [hpl, z2, hmin2]) (fun j u hu => World.news_of_block hb1 j u hu) (by rw [hpl, hRs]; omega) (by simp [Value.oneCell'])
  obtain ⟨cur1, hcur1⟩ : ∃ c, c = (ROW.toList.take (i * 18) ++ [Value.int .i64 p.e.op.kind, .int .u64 p.e.op.count, .int .i64 p.e.op.who, .int .u64 p.e.op.thing, .int .u64 p.e.op.parent, .string p.e.op.name, .bool p.e.op.dir, .string p.e.op.digest, .int .i64 p.e.op.size, .string p.e.hash, .int .u64 p.was.id, .int .u64 p.was.parent, .string p.was.name, .bool p.was.dir, .string p.was.dg, .int .i64 p.was.size, .bool p.there, .bool p.did] ++ ROW.toList.drop (i * 18 + ([Value.int .i64 p.e.op.kind, .int .u64 p.e.op.count, .int .i64 p.e.op.who, .int .u64 p.e.op.thing, .int .u64 p.e.op.parent, .string p.e.op.name, .bool p.e.op.dir, .string p.e.op.digest, .int .i64 p.e.op.size, .string p.e.hash, .int .u64 p.was.id, .int .u64 p.was.parent, .string p.was.name, .bool p.was.dir, .string p.was.dg, .int .i64 p.was.size, .bool p.there, .bool p.did] : List Value).length)).toArray := ⟨_, rfl⟩
  rw [← hcur1, hmin2] at hr2
  obtain ⟨W2, hW2⟩ : ∃ W2, W2 = W1.setRow w.heap.size cur1 := ⟨_, rfl⟩
  rw [← hW2] at hr2
  have hg2 : W2.heap[w.heap.size]? = some (.cells cur1 108 (0, 0)) := by rw [hW2]; exact setRow_heap _ _ _ _ _ _ hg1
  have n2 : New w W2 := n1.trans (by rw [hW2]; exact fr_setRow _ _ _) fun k hk e => by omega
  have hs1 : cur1.size = G * 18 := by
    rw [hcur1]; simp only [List.size_toArray, List.length_append, List.length_take, List.length_drop, Array.length_toList, hRs, hpl]; omega
  have h1t : cur1.toList.take ((i + 1) * 18) = dCells (l.take i) ++ [Value.int .i64 p.e.op.kind, .int .u64 p.e.op.count, .int .i64 p.e.op.who, .int .u64 p.e.op.thing, .int .u64 p.e.op.parent, .string p.e.op.name, .bool p.e.op.dir, .string p.e.op.digest, .int .i64 p.e.op.size, .string p.e.hash, .int .u64 p.was.id, .int .u64 p.was.parent, .string p.was.name, .bool p.was.dir, .string p.was.dg, .int .i64 p.was.size, .bool p.there, .bool p.did] := by
    rw [hcur1, ← hRt]
    have e1 : (ROW.toList.take (i * 18) ++ [Value.int .i64 p.e.op.kind, .int .u64 p.e.op.count, .int .i64 p.e.op.who, .int .u64 p.e.op.thing, .int .u64 p.e.op.parent, .string p.e.op.name, .bool p.e.op.dir, .string p.e.op.digest, .int .i64 p.e.op.size, .string p.e.hash, .int .u64 p.was.id, .int .u64 p.was.parent, .string p.was.name, .bool p.was.dir, .string p.was.dg, .int .i64 p.was.size, .bool p.there, .bool p.did]).length = (i + 1) * 18 := by rw [List.length_append, List.length_take, Array.length_toList, hRs]; simp only [List.length_cons, List.length_nil]; omega
    rw [← e1]
    exact List.take_left
  have hgG : W2.drew.heap[g]? = some (.cells cur 108 (0, 0)) := (n2.drew.block g hgw fun x => x).trans hg
  have hmin1 : Nat.min (n - i) (n - i) = n - i := Nat.min_self _
  have hr3 := run_copy_rowK (P := Try.prog) W2.drew 102 102 3 108 w.heap.size ((i + 1) * 18) (n - i) (G - (i + 1)) ⟨g, i * 18, none⟩ (n - i) (n - i) cur1 108 (dCells (l.drop i)) i0 Try.underlying102 hi0 hg2
    (by rw [hdl, z2, hmin1]) (dNews_at (W := W2.drew) hgG ht i) (by rw [hdl, hs1]; omega) (dCells_one _)
  obtain ⟨cur2, hcur2⟩ : ∃ c, c = (cur1.toList.take ((i + 1) * 18) ++ dCells (l.drop i) ++ cur1.toList.drop ((i + 1) * 18 + (dCells (l.drop i)).length)).toArray := ⟨_, rfl⟩
  rw [← hcur2, hmin1] at hr3
  obtain ⟨W3, hW3⟩ : ∃ W3, W3 = W2.drew.setRow w.heap.size cur2 := ⟨_, rfl⟩
  rw [← hW3] at hr3
  have hg3 : W3.heap[w.heap.size]? = some (.cells cur2 108 (0, 0)) := by rw [hW3]; exact setRow_heap _ _ _ _ _ _ hg2
  have n3 : New w W3 := (n2.drew).trans (by rw [hW3]; exact fr_setRow _ _ _) fun k hk e => by omega
  have hs2 : cur2.size = G * 18 := by
    rw [hcur2]; simp only [List.size_toArray, List.length_append, List.length_take, List.length_drop, Array.length_toList, hs1, hdl]; omega
  have h2t : cur2.toList.take ((n + 1) * 18) = dCells (l.take i ++ [p] ++ l.drop i) := by
    rw [hcur2, h1t, dCells_append, dCells_append]
    have e1 : (dCells (l.take i) ++ [Value.int .i64 p.e.op.kind, .int .u64 p.e.op.count, .int .i64 p.e.op.who, .int .u64 p.e.op.thing, .int .u64 p.e.op.parent, .string p.e.op.name, .bool p.e.op.dir, .string p.e.op.digest, .int .i64 p.e.op.size, .string p.e.hash, .int .u64 p.was.id, .int .u64 p.was.parent, .string p.was.name, .bool p.was.dir, .string p.was.dg, .int .i64 p.was.size, .bool p.there, .bool p.did] ++ dCells (l.drop i)).length = (n + 1) * 18 := by rw [List.length_append, List.length_append, hti, hdl]; simp only [List.length_cons, List.length_nil]; omega
    rw [← e1]
    exact List.take_left
  have hlen2 : (l.take i ++ [p] ++ l.drop i).length = n + 1 := by simp only [List.length_append, List.length_take, List.length_drop, List.length_cons, List.length_nil]; omega
  have hend : DL W3 (.slice (some ⟨w.heap.size, 0, none⟩) (n + 1) G) (l.take i ++ [p] ++ l.drop i) := by
    refine ⟨by rw [dCells_length], .inr ⟨w.heap.size, G, cur2, by rw [hlen2], Nat.zero_le _, hg3, by rw [hlen2]; omega, hGm, hs2, by rw [hlen2]; exact h2t⟩⟩
  have H := Lib.hid (And.intro hend n3)
  have hz1 : i ≤ n := by omega
  have hz2 : ¬ ((i : Int) = (n : Int)) := by omega
  have hz3 : (n : Int) < (n : Int) + 1 := by omega
  have hw1 : IntKind.i64.wrap ((i : Int) + 1) = (i : Int) + 1 := by rw [IntKind.wrap_i64]; omega
  have hw2 : IntKind.i64.wrap ((n : Int) + 1) = (n : Int) + 1 := by rw [IntKind.wrap_i64]; omega
  have hw3 : IntKind.i64.wrap ((n : Int) + 1 - (i : Int)) = ((n + 1 - i : Nat) : Int) := by rw [IntKind.wrap_i64]; omega
  have ht1 : ((i : Int) + 1).toNat = i + 1 := by omega
  have hb2 : ¬ (G = i + 1) := by omega
  have hb3 : ¬ (G = i) := by omega
  have hb4 : (i : Int) ≤ (n : Int) := by omega
  have hb5 : (0 : Int) ≤ (i : Int) + 1 := by omega
  have hb8 : (i : Int) + 1 ≤ (n : Int) + 1 := by omega
  have hb9 : (i : Int) ≤ (n : Int) + 1 := by omega
  have hnn : n + 1 - (i + 1) = n - i := by omega
  have hb10 : ¬ (n = i) := by omega
  have hkk : (n : Int) + 1 - (i : Int) = ((n + 1 - i : Nat) : Int) := by omega
  have hi2 : i ≤ n + 1 := by omega
  have hi3 : i + 1 ≤ G := by omega
  have hi4 : i ≤ G := by omega
  clear hmin1 hmin2 hW1 hW2 hW3 hcur1 hcur2 h1t h2t hs1 hs2 hg1 hg2 hg3 hend n1 n2 n3 hdl hpl hti hb1 hlen2 hs ht hg hb hn hROW hRs hRt hgG hGm hG hold
  go_enter Try.func51, Try.ntmps51
  go_wp2_with (at_builtin; first | (refine wpList_append_run2 rfl (.tmp 34) (.tmp 39) 102 3 rfl rfl rfl hrz ?_) | (refine wpList_copy_run rfl (.tmp 43) (.tmp 44) 102 rfl rfl rfl hr2 ?_))
  go_region_law (refine step_copy_run rfl (.tmp 50) (.tmp 53) 102 rfl ?ev1 ?ev2 hr3 ?_; (case ev1 => simp [Act.eval, Act.put]; try omega); (case ev2 => simp [Act.eval, Act.put]; try omega))
  go_wp2_with fail
  exact bodyPost_ret (v := .slice (some ⟨w.heap.size, 0, none⟩) (n + 1) G) (by simp [results, Try.results51, go_sem, *]) rfl ⟨_, rfl, H.out.1, H.out.2⟩
/-- slices.Insert of one packet into a row of the call's own. -/
theorem insD_any {w : World} {v : Value} {l : List DoV} {p : DoV} {blk i : Nat} (h : DL w v l) (hi : i ≤ l.length) (hl : l.length ≤ 100000) (hb : Own w blk 108 #[.int .i64 p.e.op.kind, .int .u64 p.e.op.count, .int .i64 p.e.op.who, .int .u64 p.e.op.thing, .int .u64 p.e.op.parent, .string p.e.op.name, .bool p.e.op.dir, .string p.e.op.digest, .int .i64 p.e.op.size, .string p.e.hash, .int .u64 p.was.id, .int .u64 p.was.parent, .string p.was.name, .bool p.was.dir, .string p.was.dg, .int .i64 p.was.size, .bool p.there, .bool p.did]) (hbv : v.ownBlock ≠ some blk) :
    Calls Try.prog 51 #[v, .int .i64 (i : Nat), .slice (some ⟨blk, 0, none⟩) 1 1] w fun e W => ∃ v', e = .returned v' ∧ DL W v' (l.take i ++ [p] ++ l.drop i) ∧ Fr (fun k => v.ownBlock = some k) w W ∧ (v'.ownBlock = v.ownBlock ∨ ∃ k, v'.ownBlock = some k ∧ w.heap.size ≤ k) := by
  rcases Nat.lt_or_ge i l.length with hlt | hge
  · rcases h.2 with ⟨e, h0⟩ | ⟨g, cap, cur, e, _, hg, hc, hm, hs, ht⟩
    · omega
    subst e
    have hbg : blk ≠ g := fun e => hbv (by rw [e]; rfl)
    by_cases hroom : l.length + 1 ≤ cap
    · refine (insD_room (p := p) (blk := blk) rfl hg hroom hm hs ht hlt hl hbg hb).mono ?_
      rintro e W ⟨rfl, hp, f⟩
      exact ⟨_, rfl, hp, f.mono fun k e => by subst e; rfl, .inl rfl⟩
    · obtain rfl : cap = l.length := by omega
      refine (insD_grow (p := p) (blk := blk) rfl hg hs ht hlt hl hb).mono ?_
      rintro e W ⟨c, rfl, hp, f⟩
      exact ⟨_, rfl, hp, f.mono fun k e => e.elim, .inr ⟨_, rfl, Nat.le_refl _⟩⟩
  · obtain rfl : i = l.length := by omega
    refine (insD_end h hl hb).mono ?_
    rintro e W ⟨v', rfl, hp, f, ho⟩
    refine ⟨v', rfl, ?_, f, ho⟩
    rw [List.take_length, List.drop_length, List.append_nil]
    exact hp
end Go.Proofs.Ytedfgbkaijjaeaa
