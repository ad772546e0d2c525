/- The digest of parts for a purpose: of unlike lists, or purposes, an unlike one, unless the digest collides. -/
import Derived.Test.YtceopjolkapijaaShaParts
import Derived.Test.YtceopjolkapijaaShaCollides
namespace Go.Proofs.Ytceopjolkapijaa
open Go.RowKit
set_option linter.unusedVariables false

theorem byte_of {a : Int} (h : (Lit.int .u8 a).wf = true) : ∃ p : UInt8, a = (p.toNat : Int) := by
  have h0 : (0 : Int) ≤ a ∧ a ≤ 255 := by
    simp only [Lit.wf, Bool.and_eq_true, decide_eq_true_eq] at h
    exact ⟨h.1, h.2⟩
  refine ⟨UInt8.ofNat a.toNat, ?_⟩
  simp
  omega
/-- A row of texts of the call's own. -/
def Txt (W : World) (B : Nat) (v : Value) (n : Nat) (F : Nat → ByteArray) : Prop := W.ownsRow B 9 1 v n ((List.range n).map fun j => .string (F j))
theorem Txt.fr {W W' : World} {B n : Nat} {v : Value} {F : Nat → ByteArray} {G : Nat → Prop} (h : Txt W B v n F) (f : Fr G W W') (hv : ∀ k, v.ownBlock = some k → ¬ G k) : Txt W' B v n F := by
  rcases h.2 with ⟨e, h0⟩ | ⟨g, cap, cur, e, hB, hg, r⟩
  · exact ⟨h.1, .inl ⟨e, h0⟩⟩
  · subst e
    exact ⟨h.1, .inr ⟨g, cap, cur, rfl, hB, (f.block g (lt_of_block hg) (hv g rfl)).trans hg, r⟩⟩
theorem Txt.new_ {W W' : World} {B n : Nat} {v : Value} {F : Nat → ByteArray} (h : Txt W B v n F) (f : New W W') : Txt W' B v n F := h.fr f fun _ _ g => g
theorem Txt.start {W : World} {B g : Nat} (h : Own W g 9 #[]) (hB : B ≤ g) (F : Nat → ByteArray) : Txt W B (.slice (some ⟨g, 0, none⟩) 0 0) 0 F :=
  ⟨rfl, .inr ⟨g, 0, #[], rfl, hB, h, by omega, by simp [maxLen], rfl, rfl⟩⟩
theorem Txt.sl {W : World} {B n : Nat} {v : Value} {F : Nat → ByteArray} (h : Txt W B v n F) (hn : n ≤ maxLen) : ∃ A cap, v = .slice A n cap ∧ Sl W 1 A n fun i => [.string (F i)] := by
  rcases h.2 with ⟨e, h0⟩ | ⟨g, cap, cur, e, hB, hg, h1, h2, h3, h4⟩
  · subst h0
    exact ⟨none, 0, e, Sl.none_ _ _ _⟩
  · refine ⟨_, cap, e, hn, fun i hi => ⟨g, 0, rfl, fun j u hu => ?_⟩⟩
    have hj : j = 0 := by
      rcases j with _ | j
      · rfl
      · simp at hu
    subst hj
    have hu' : u = .string (F i) := by simpa using hu.symm
    subst hu'
    have hc : W.cell? ⟨g, 0 + i * 1 + 0, none⟩ = cur[i]? := by
      have := Own.cell (w := W) (b := g) (t := 9) (cs := cur) hg i
      rw [show 0 + i * 1 + 0 = i by omega]
      exact this
    rw [hc]
    have e2 : cur.toList[i]? = (cur.toList.take (n * 1))[i]? := by rw [List.getElem?_take]; simp [hi]
    rw [← Array.getElem?_toList, e2, h4]
    simp [hi]
theorem info_str : (Try.prog.info? 9).map (fun i => (i.zero, i.size, i.bytes)) = some (some (.string ⟨#[]⟩), 1, 16) := by kernel_rfl
/-- One text more. -/
theorem append_text {W : World} {B n : Nat} {v : Value} {F : Nat → ByteArray} (h : Txt W B v n F) (hB : B ≤ W.heap.size) (hn : n ≤ 1000) (f : ByteArray) (hf : F n = f) :
    ∃ v' W', (Builtin.append_ #[35, 35] 35 #[v, .slice (some ⟨W.heap.size, 0, none⟩) 1 1]).run Try.prog (W.alloc (.cells #[.string f] 9)) = .ok v' W' ∧ Txt W' B v' (n + 1) F ∧
      Fr (fun k => v.ownBlock = some k) W W' ∧ (v'.ownBlock = v.ownBlock ∨ ∃ k, v'.ownBlock = some k ∧ W.heap.size ≤ k) := by
  obtain ⟨i, hi, hv⟩ := Option.map_eq_some_iff.1 info_str
  have z1 : i.zero = some (.string ⟨#[]⟩) := congrArg Prod.fst hv
  have z2 : i.size = 1 := congrArg (fun x => x.2.1) hv
  have z3 : i.bytes = 16 := congrArg (fun x => x.2.2) hv
  have hW : Txt (W.alloc (.cells #[.string f] 9)) B v n F := h.new_ ((Fr.refl _ _).alloc _)
  obtain ⟨v', W', hr, h2, h3, h4, h5⟩ := run_append_own_at (P := Try.prog) (W.alloc (.cells #[.string f] 9)) B 35 35 9 i _ 1 16 Try.underlying35 hi z1 z2 z3 rfl (by omega) v n _ hW ⟨W.heap.size, 0, none⟩ 1 1 [.string f] rfl
    (fun j u hu => by
      have hj : j = 0 := by
        rcases j with _ | j
        · rfl
        · simp at hu
      subst hj
      have : u = .string f := by simpa using hu.symm
      subst this
      exact (Own.fresh W 9 #[.string f]).cell 0) (by simp [Value.oneCell']) (by simp [maxLen]; omega) (by omega) (by simp; omega)
  refine ⟨v', W', hr, ?_, ((Fr.refl _ W).alloc _).trans (fr_of_grown h3) fun i hi e => e, ?_⟩
  · unfold Txt
    rw [List.range_succ, List.map_append]
    simp only [List.map_cons, List.map_nil, hf]
    exact h2
  · rcases h5 with e | e
    · exact .inl e
    · refine .inr ⟨_, e, ?_⟩
      simp
theorem Txt.base {W : World} {B n : Nat} {v : Value} {F : Nat → ByteArray} (h : Txt W B v n F) {k : Nat} (hk : v.ownBlock = some k) : B ≤ k ∧ k < W.heap.size := by
  rcases h.2 with ⟨e, h0⟩ | ⟨g, cap, cur, e, hB, hg, r⟩
  · subst e
    cases hk
  · subst e
    injection hk with hk
    have : g = k := hk
    subst this
    exact ⟨hB, lt_of_block hg⟩
theorem Txt.congr {W : World} {B n : Nat} {v : Value} {F G : Nat → ByteArray} (h : Txt W B v n F) (e : ∀ j, j < n → F j = G j) : Txt W B v n G := by
  unfold Txt at *
  have : (List.range n).map (fun j => Value.string (F j)) = (List.range n).map fun j => .string (G j) := List.map_congr_left fun j hj => by rw [e j (List.mem_range.1 hj)]
  rw [← this]
  exact h
/-- An append whose run is known. -/
theorem wpList_of_run {P : Program} {w : World} {ops : Array Oper} {rest : List Oper} {o : Oper} {a : Act} {Q : Exit → Act → World → Prop} (hgd : o.guard = none) (s x : Operand) (t : TypeId)
    (ho : o.op = .call { callee := .builtin .append, args := #[s, x], argTypes := #[t, t] }) {v u v' : Value} {w' : World} (hs : a.eval s = v) (hx : a.eval x = u)
    (hr : (Builtin.append_ #[t, t] o.type #[v, u]).run P w = .ok v' w') (k : wpList P ops Q rest (a.put o.dst v') w') : wpList P ops Q (o :: rest) a w := by
  refine wpList_plain hgd fun K hK => ?_
  unfold Oper.wp execOp
  simp only [ho, resolve, invoke, builtin, Sem.run_bind, Sem.run_pure, Result.andThen_ok, List.map_toArray, List.map_cons, List.map_nil, hs, hx, hr]
  exact hK _ _ k
/-- What holds while the lists are copied. -/
def LI (w W : World) (p q : Int) (x y : Value) (i j : Nat) (F G : Nat → ByteArray) : Prop :=
  Own W w.heap.size 34 #[.int .u8 p, .int .u8 q] ∧ Txt W (w.heap.size + 1) x i F ∧ Txt W (w.heap.size + 1) y j G ∧ (∀ k, x.ownBlock = some k → y.ownBlock ≠ some k) ∧ New w W
theorem LI.swap {w W : World} {p q : Int} {x y : Value} {i j : Nat} {F G : Nat → ByteArray} (h : LI w W p q x y i j F G) : LI w W p q y x j i G F :=
  ⟨h.1, h.2.2.1, h.2.1, fun k hk e => h.2.2.2.1 k e hk, h.2.2.2.2⟩
theorem LI.append {w W : World} {p q : Int} {x y : Value} {i j : Nat} {F G : Nat → ByteArray} (h : LI w W p q x y i j F G) (hi : i ≤ 1000) (f : ByteArray) (hf : F i = f) :
    ∃ v' W', (Builtin.append_ #[35, 35] 35 #[x, .slice (some ⟨W.heap.size, 0, none⟩) 1 1]).run Try.prog (W.alloc (.cells #[.string f] 9)) = .ok v' W' ∧ LI w W' p q v' y (i + 1) j F G := by
  obtain ⟨h1, h2, h3, h4, h5⟩ := h
  have hz := h1.lt
  obtain ⟨v', W', hr, k1, k2, k3⟩ := append_text h2 (by omega) hi f hf
  refine ⟨v', W', hr, h1.fr k2 (fun e => by have := (h2.base e).1; omega), k1, h3.fr k2 (fun k hk e => h4 k e hk), ?_, h5.trans k2 fun k hk e => by have := (h2.base e).1; omega⟩
  intro k hk e
  rcases k3 with e2 | ⟨k', e2, hk'⟩
  · exact h4 k (e2 ▸ hk) e
  · rw [e2] at hk
    injection hk with hk
    subst hk
    have := (h3.base e).2
    omega
theorem LI.new_ {w W W' : World} {p q : Int} {x y : Value} {i j : Nat} {F G : Nat → ByteArray} (h : LI w W p q x y i j F G) (g : New W W') : LI w W' p q x y i j F G :=
  ⟨h.1.new_ g, h.2.1.new_ g, h.2.2.1.new_ g, h.2.2.2.1, h.2.2.2.2.new_ g⟩

theorem bytes_eq {a b : ByteArray} (h : a.data.toList = b.data.toList) : a = b := ByteArray.ext (Array.ext' h)
theorem partsV_list (p : UInt8) (n : Nat) (V : Nat → ByteArray) : (partsV p n V).data.toList = partsL p ((List.range n).map fun j => (V j).data.toList) := by
  show headL p n V n ++ tailL V n = _
  unfold headL tailL partsL
  simp only [List.length_map, List.length_range, List.flatMap_map, data_len]
  rw [List.flatMap_def (l := List.range n) (f := fun t => (V t).data.toList)]
theorem beq_data (a b : ByteArray) : (a.toList == b.toList) = decide (a.data.toList = b.data.toList) := by
  rw [ByteArray.toList_eq, ByteArray.toList_eq]
  by_cases h : a.data.toList = b.data.toList
  · rw [decide_eq_true h, h]; simp
  · rw [decide_eq_false h]; simpa using h
/-- The texts are one where purposes and lists are. -/
theorem parts_same (p q : UInt8) (n m : Nat) (F G : Nat → ByteArray) (hn : n ≤ 8) (hm : m ≤ 8) (hF : ∀ j, (F j).size ≤ 700) (hG : ∀ j, (G j).size ≤ 700) (b : Bool)
    (hb : b = true ↔ p = q ∧ n = m ∧ ∀ j, j < n → F j = G j) : ((partsV p n F).toList == (partsV q m G).toList) = b := by
  rw [beq_data, partsV_list, partsV_list]
  rw [Bool.eq_iff_iff, decide_eq_true_eq, hb]
  constructor
  · intro h
    have h2 := partsL_inj p q _ _ (by simp; omega) (by simp; omega)
      (by
        intro l hl
        obtain ⟨j, _, e⟩ := List.mem_map.1 hl
        rw [← e, data_len]
        have := hF j
        omega)
      (by
        intro l hl
        obtain ⟨j, _, e⟩ := List.mem_map.1 hl
        rw [← e, data_len]
        have := hG j
        omega) h
    have hnm : n = m := by simpa using congrArg List.length h2.2
    subst hnm
    refine ⟨h2.1, rfl, fun j hj => ?_⟩
    have h3 := congrArg (fun l => l[j]?) h2.2
    simp only [List.getElem?_map, List.getElem?_range hj, Option.map_some, Option.some.injEq] at h3
    exact bytes_eq h3
  · rintro ⟨rfl, rfl, h⟩
    congr 1
    exact List.map_congr_left fun j hj => by rw [h j (List.mem_range.1 hj)]
theorem start_same {p q : UInt8} {i j : Nat} {a b : Bool} (h0 : ((p.toNat : Int) == (q.toNat : Int)) = a) (h1 : ((i : Int) == (j : Int)) = b) : (a && b) = true ↔ p = q ∧ i = j := by
  subst h0 h1
  rw [Bool.and_eq_true, beq_iff_eq, beq_iff_eq]
  constructor
  · rintro ⟨h, k⟩
    exact ⟨UInt8.toNat_inj.1 (by omega), by omega⟩
  · rintro ⟨rfl, rfl⟩
    exact ⟨rfl, rfl⟩
theorem same_next {p q : UInt8} {i j k : Nat} {F G : Nat → ByteArray} (h : p = q ∧ i = j ∧ ∀ t, t < k → F t = G t) : Hid (((F k).toList == (G k).toList) = true ↔ p = q ∧ i = j ∧ ∀ t, t < k + 1 → F t = G t) := by
  show _ ↔ _
  rw [beq_data, decide_eq_true_eq]
  constructor
  · intro e
    refine ⟨h.1, h.2.1, fun t ht => ?_⟩
    by_cases he : t = k
    · subst he
      exact bytes_eq e
    · exact h.2.2 t (by omega)
  · intro e
    rw [e.2.2 k (by omega)]
theorem same_end {p q : UInt8} {i j k : Nat} {sb : Bool} {F G : Nat → ByteArray} (hk : k ≤ i) (hgo : ¬ (k < i ∧ sb = true)) (h : sb = true ↔ p = q ∧ i = j ∧ ∀ t, t < k → F t = G t) : Hid (sb = true ↔ p = q ∧ i = j ∧ ∀ t, t < i → F t = G t) := by
  show _ ↔ _
  cases sb with
  | true =>
    obtain rfl : k = i := by
      have : ¬ k < i := fun e => hgo ⟨e, rfl⟩
      omega
    exact h
  | false => exact ⟨fun e => (by cases e), fun e => h.2 ⟨e.1, e.2.1, fun t ht => e.2.2 t (by omega)⟩⟩
theorem partsV_size (p : UInt8) (n : Nat) (F : Nat → ByteArray) (hn : n ≤ 8) (hF : ∀ j, (F j).size ≤ 700) : (partsV p n F).size ≤ 140737488351232 := by
  have e : (partsV p n F).size = (headL p n F n ++ tailL F n).length := (data_len _).symm
  have l1 := headL_length p n F n
  have l2 := tailL_length F n (fun j _ => by have := hF j; omega)
  rw [e, List.length_append]
  omega
/-- What the law asks at its end. -/
theorem lists_end (u v : ByteArray) (b : Bool) (h : (u.toList == v.toList) = b) : (((shaB u).toList == (shaB v).toList) == b || collB u v) = true := by
  unfold collB
  rw [h]
  cases b with
  | true =>
    have e : u.data.toList = v.data.toList := by rw [beq_data] at h; exact of_decide_eq_true h
    rw [show u = v from bytes_eq e]
    simp
  | false => cases ((shaB u).toList == (shaB v).toList) <;> rfl

set_option maxRecDepth 100000 in
set_option maxHeartbeats 4000000 in
theorem shaLists_walk (x : E2uint834) {wa : World} (hx : x.facts wa) (a : ESl ByteArray) {w : World} (ha : ESl9.facts w a) (b : ESl ByteArray) (hb : ESl9.facts w b) :
    Calls Try.prog 6 #[.agg x.cells.toArray, .slice a.adr a.len a.cap, .slice b.adr b.len b.cap] w fun e w' => e = .returned (.bool true) ∧ New w w' := by
  obtain ⟨p0, p1⟩ := x
  obtain ⟨A, n, ca, V⟩ := a
  obtain ⟨hsl, hnc, hcap, hV⟩ := ha
  obtain ⟨B, m, cb, U⟩ := b
  obtain ⟨hsl2, hnc2, hcap2, hU⟩ := hb
  simp only at hsl hnc hcap hV hsl2 hnc2 hcap2 hU
  unfold maxLen at hcap hV hcap2 hU
  obtain ⟨p, rfl⟩ : ∃ p : UInt8, p0 = (p.toNat : Int) := byte_of hx.1
  obtain ⟨q, rfl⟩ : ∃ p : UInt8, p1 = (p.toNat : Int) := byte_of hx.2
  clear hx
  have ex : (E2uint834.cells ⟨(p.toNat : Int), (q.toNat : Int)⟩).toArray = #[.int .u8 (p.toNat : Int), .int .u8 (q.toNat : Int)] := rfl
  rw [ex]
  clear ex
  obtain ⟨F, hF⟩ : ∃ F : Nat → ByteArray, F = fun j => few01 (V j) := ⟨_, rfl⟩
  obtain ⟨G, hG⟩ : ∃ F : Nat → ByteArray, F = fun j => few01 (U j) := ⟨_, rfl⟩
  have HF := Lib.hid hF
  have HG := Lib.hid hG
  clear hF hG
  go_enter Try.func6, Try.ntmps6
  go_wp2_with fail
  go_loopw [7, 9] (fun xv iv wr => ∃ i : Nat, iv = .int .i64 i ∧ i ≤ n ∧ i ≤ 8 ∧ LI w wr p.toNat q.toNat xv (.slice (some ⟨w.heap.size + 1 + 1, 0, none⟩) 0 0) i 0 F G) (fun _ iv _ => n - (intOf iv).toNat)
  case atStart =>
    refine ⟨0, rfl, by omega, by omega, ?_, Txt.start ?_ (by omega) F, Txt.start ?_ (by omega) G, ?_, ?_⟩
    · repeat (first | with_reducible assumption | with_reducible exact Own.fresh _ _ _ | (with_reducible apply Own.new'; simp; done) | with_reducible apply Own.drew | with_reducible apply Own.drewN | with_reducible apply Own.alloc | with_reducible apply Own.put | ((with_reducible apply Own.off); (focus (first | (simp; done) | (simp; omega) | omega))) | (with_reducible refine Own.new_ ?_ (by with_reducible assumption)) | rfl | (refine Own.fr ?_ (by with_reducible assumption) (by show ¬ (_ = _); omega)))
    · repeat (first | with_reducible assumption | with_reducible exact Own.fresh _ _ _ | (with_reducible apply Own.new'; simp; done) | with_reducible apply Own.drew | with_reducible apply Own.drewN | with_reducible apply Own.alloc | with_reducible apply Own.put | ((with_reducible apply Own.off); (focus (first | (simp; done) | (simp; omega) | omega))) | (with_reducible refine Own.new_ ?_ (by with_reducible assumption)) | rfl | (refine Own.fr ?_ (by with_reducible assumption) (by show ¬ (_ = _); omega)))
    · repeat (first | with_reducible assumption | with_reducible exact Own.fresh _ _ _ | (with_reducible apply Own.new'; simp; done) | with_reducible apply Own.drew | with_reducible apply Own.drewN | with_reducible apply Own.alloc | with_reducible apply Own.put | ((with_reducible apply Own.off); (focus (first | (simp; done) | (simp; omega) | omega))) | (with_reducible refine Own.new_ ?_ (by with_reducible assumption)) | rfl | (refine Own.fr ?_ (by with_reducible assumption) (by show ¬ (_ = _); omega)))
    · simp [Value.ownBlock]
    · repeat (first | with_reducible exact Fr.refl _ _ | with_reducible assumption | with_reducible refine Fr.drew ?_ | with_reducible refine Fr.drewN ?_ _ | with_reducible refine Fr.alloc ?_ _ | with_reducible refine Fr.set ?_ (by first | exact fun _ => rfl | (intro hlt; exfalso; simp at hlt; try omega) | (simp; omega)) _ | with_reducible refine Fr.new_ ?_ (by with_reducible assumption) | (with_reducible refine Fr.trans ?_ (by with_reducible assumption) (fun i hi e => by (first | omega | (simp at e; omega)))))
  case round =>
    obtain ⟨i, rfl, hin, hi8, L⟩ := hrel
    by_cases hlt : i < n ∧ i < 8
    · obtain ⟨hl1, hl2⟩ := hlt
      have hl1' : (i : Int) < (n : Int) := by omega
      have hl2' : (i : Int) < 8 := by omega
      have hv := hV i hl1
      obtain ⟨sb, so, hA, hc⟩ := (hsl.new_ L.2.2.2.2).2 i hl1
      have hc0 := hc 0 _ rfl
      simp only [Nat.mul_one, Nat.add_zero] at hc0
      have hfi : F i = few01 (V i) := by rw [HF.out]
      obtain ⟨vi, hvi⟩ : ∃ v, V i = v := ⟨_, rfl⟩
      rw [hvi] at hc0 hv hfi
      have FW := Lib.hid (fun w => few01_any vi (by omega) w)
      obtain ⟨f, hff⟩ : ∃ f, few01 vi = f := ⟨_, rfl⟩
      rw [hff] at FW hfi
      obtain ⟨v', W', hap, L'⟩ := L.append (by omega) f hfi
      have LL := Lib.hid L'
      clear L L' hfi hvi hff hc
      subst hA
      go_wp2_with fail
      have HAP := Lib.hid hap
      clear hap
      refine (FW.out _).mono ?_
      rintro e w5 ⟨rfl, rfl⟩
      go_wp2_with (at_builtin; refine wpList_of_run rfl _ _ _ rfl (by rfl) (by rfl) HAP.out ?_)
      go_roundw
      case rel => exact ⟨i + 1, by go_num, by omega, by omega, LL.out⟩
      case measure => simp [intOf]; omega
    · have hend : (i < n ∧ i = 8) ∨ ¬ i < n := by omega
      rcases hend with ⟨e1, e2⟩ | e1
      all_goals
        have hlt' := Lib.hid hlt
        clear hlt
        first | (have e1' : (i : Int) < (n : Int) := by omega) | (have e1' : ¬ (i : Int) < (n : Int) := by omega)
        first | (have e2' : ¬ (i : Int) < 8 := by omega) | skip
        first | clear e2 | skip
        go_wp2_with fail
        go_loopw [8, 10] (fun yv jv wr => ∃ j : Nat, jv = .int .i64 j ∧ j ≤ m ∧ j ≤ 8 ∧ LI w wr p.toNat q.toNat u7 yv i j F G) (fun _ jv _ => m - (intOf jv).toNat)
        case atStart => exact ⟨0, rfl, by omega, by omega, L⟩
        case round =>
          clear L
          obtain ⟨j, rfl, hjm, hj8, L⟩ := hrel
          by_cases hlt2 : j < m ∧ j < 8
          · obtain ⟨hl1, hl2⟩ := hlt2
            have hl1' : (j : Int) < (m : Int) := by omega
            have hl2' : (j : Int) < 8 := by omega
            have hv := hU j hl1
            obtain ⟨sb, so, hA, hc⟩ := (hsl2.new_ L.2.2.2.2).2 j hl1
            have hc0 := hc 0 _ rfl
            simp only [Nat.mul_one, Nat.add_zero] at hc0
            have hfi : G j = few01 (U j) := by rw [HG.out]
            obtain ⟨vi, hvi⟩ : ∃ v, U j = v := ⟨_, rfl⟩
            rw [hvi] at hc0 hv hfi
            have FW := Lib.hid (fun w => few01_any vi (by omega) w)
            obtain ⟨f, hff⟩ : ∃ f, few01 vi = f := ⟨_, rfl⟩
            rw [hff] at FW hfi
            obtain ⟨v', W', hap, L'⟩ := L.swap.append (by omega) f hfi
            have LL := Lib.hid L'.swap
            clear L L' hfi hvi hff hc
            subst hA
            go_wp2_with fail
            have HAP := Lib.hid hap
            clear hap
            refine (FW.out _).mono ?_
            rintro e w5 ⟨rfl, rfl⟩
            go_wp2_with (at_builtin; refine wpList_of_run rfl _ _ _ rfl (by rfl) (by rfl) HAP.out ?_)
            go_roundw
            case rel => exact ⟨j + 1, by go_num, by omega, by omega, LL.out⟩
            case measure => simp [intOf]; omega
          · have hend2 : (j < m ∧ j = 8) ∨ ¬ j < m := by omega
            rcases hend2 with ⟨f1, f2⟩ | f1
            all_goals
              first | (have f1' : (j : Int) < (m : Int) := by omega) | (have f1' : ¬ (j : Int) < (m : Int) := by omega)
              first | (have f2' : ¬ (j : Int) < 8 := by omega) | skip
              first | clear f2 | skip
              clear hlt2
              go_wp2_with fail
              -- TAIL
              have hFz : ∀ t, (F t).size ≤ 700 := fun t => by rw [HF.out]; exact few01_size _
              have hGz : ∀ t, (G t).size ≤ 700 := fun t => by rw [HG.out]; exact few01_size _
              obtain ⟨Ax, cx, rfl, hslx⟩ := L.2.1.sl (by simp [maxLen]; omega)
              obtain ⟨Ay, cy, rfl, hsly⟩ := L.2.2.1.sl (by simp [maxLen]; omega)
              obtain ⟨b0, b1, b2, b3⟩ := L.1.two
              have nW := L.2.2.2.2
              have hi8' : (i : Int) ≤ 8 := by omega
              have hj8' : (j : Int) ≤ 8 := by omega
              clear L hsl hsl2 hV hU hcap hcap2 hnc hnc2 HF HG
              go_quiet (fail)
              go_wp2_with fail
              have hsx1 := hslx.new_ ((Fr.refl (fun _ => False) wr).drewN nq)
              have hsy1 := hsly.new_ ((Fr.refl (fun _ => False) wr).drewN nq)
              have n1 := nW.drewN nq
              clear hslx hsly nW b0 b1 b2 b3
              refine (tagged_any p Ax i cx F _ hsx1 (by omega) (fun t _ => by have := hFz t; omega)).mono ?_
              rintro e w5 ⟨rfl, g5⟩
              have hsx2 := hsx1.new_ g5
              have hsy2 := hsy1.new_ g5
              have n2 := n1.new_ g5
              clear hsx1 hsy1 n1 g5
              go_wp2_with fail
              refine (tagged_any q Ay j cy G _ hsy2 (by omega) (fun t _ => by have := hGz t; omega)).mono ?_
              rintro e w6 ⟨rfl, g6⟩
              have hsx := hsx2.new_ g6
              have hsy := hsy2.new_ g6
              have nW := n2.new_ g6
              clear hsx2 hsy2 n2 g6
              obtain ⟨du, hdu⟩ : ∃ d, partsV p i F = d := ⟨_, rfl⟩
              obtain ⟨dv, hdv⟩ : ∃ d, partsV q j G = d := ⟨_, rfl⟩
              rw [hdu, hdv]
              have HDU := Lib.hid hdu
              have HDV := Lib.hid hdv
              obtain ⟨su, hsu⟩ : ∃ d, shaB du = d := ⟨_, rfl⟩
              obtain ⟨sv, hsv⟩ : ∃ d, shaB dv = d := ⟨_, rfl⟩
              rw [hsu, hsv]
              have HSU := Lib.hid hsu
              have HSV := Lib.hid hsv
              clear hdu hdv hsu hsv
              obtain ⟨eq0, heq0⟩ : ∃ b : Bool, ((p.toNat : Int) == (q.toNat : Int)) = b := ⟨_, rfl⟩
              obtain ⟨eq1, heq1⟩ : ∃ b : Bool, ((i : Int) == (j : Int)) = b := ⟨_, rfl⟩
              have S0 : Hid ((eq0 && eq1) = true ↔ p = q ∧ i = j) := start_same heq0 heq1
              cases eq0
              all_goals
                go_wp2_with fail
                go_loopw [15, 16] (fun sv kv W => ∃ (k : Nat) (sb : Bool), kv = .int .i64 k ∧ k ≤ i ∧ sv = .bool sb ∧ Hid (sb = true ↔ p = q ∧ i = j ∧ ∀ t, t < k → F t = G t) ∧ New w6 W) (fun _ kv _ => i - (intOf kv).toNat)
                case atStart =>
                  refine ⟨0, _, rfl, by omega, rfl, ?_, Fr.refl _ _⟩
                  have h := S0.out
                  simp only [Bool.true_and, Bool.false_and] at h
                  exact ⟨fun e => ⟨(h.1 e).1, (h.1 e).2, fun t ht => by omega⟩, fun e => h.2 ⟨e.1, e.2.1⟩⟩
                case round =>
                  obtain ⟨k, sb, rfl, hk, rfl, HB, nk⟩ := hrel
                  by_cases hgo : k < i ∧ sb = true
                  · obtain ⟨hki, rfl⟩ := hgo
                    have hki' : (k : Int) < (i : Int) := by omega
                    have hh := HB.out
                    obtain ⟨h1, h2, h3⟩ := hh.1 rfl
                    obtain ⟨xb, xo, hAx, hcx⟩ := (hsx.new_ nk).2 k hki
                    obtain ⟨yb, yo, hAy, hcy⟩ := (hsy.new_ nk).2 k (by omega)
                    have hx0 := hcx 0 _ rfl
                    have hy0 := hcy 0 _ rfl
                    simp only [Nat.mul_one, Nat.add_zero] at hx0 hy0
                    have hkj : (k : Int) < (j : Int) := by omega
                    have HH := Lib.hid (And.intro h1 (And.intro h2 h3))
                    clear hh h1 h2 h3 hcx hcy
                    subst hAx hAy
                    go_wp2_with fail
                    go_quiet (fail)
                    go_wp2_with fail
                    go_roundw
                    case rel => exact ⟨k + 1, ((F k).toList == (G k).toList), by go_num, by omega, rfl, same_next HH.out, nk.drewN nq⟩
                    case measure => simp [intOf]; omega
                  · have HBF : Hid (sb = true ↔ p = q ∧ i = j ∧ ∀ t, t < i → F t = G t) := same_end hk hgo HB.out
                    have hsame : (du.toList == dv.toList) = sb := by
                      rw [← HDU.out, ← HDV.out]
                      exact parts_same p q i j F G (by omega) (by omega) hFz hGz sb HBF.out
                    have hfin := lists_end du dv sb hsame
                    rw [HSU.out, HSV.out] at hfin
                    have HFIN := Lib.hid hfin
                    have P1 := parts_any p Ax i cx F wr (hsx.new_ nk) (by omega) (fun t _ => by have := hFz t; omega)
                    rw [HDU.out] at P1
                    have HP1 := Lib.hid P1
                    have P2 := fun W h => parts_any q Ay j cy G W h (by omega) (fun t _ => by have := hGz t; omega)
                    rw [HDV.out] at P2
                    have HP2 := Lib.hid P2
                    have P3 := fun W h => refTagged_any p Ax i cx F W h (by omega) (fun t _ => by have := hFz t; omega)
                    rw [HDU.out, HSU.out] at P3
                    have HP3 := Lib.hid P3
                    have P4 := fun W h => refTagged_any q Ay j cy G W h (by omega) (fun t _ => by have := hGz t; omega)
                    rw [HDV.out, HSV.out] at P4
                    have HP4 := Lib.hid P4
                    have hzu : du.size ≤ 140737488351232 := by rw [← HDU.out]; exact partsV_size p i F (by omega) hFz
                    have hzv : dv.size ≤ 140737488351232 := by rw [← HDV.out]; exact partsV_size q j G (by omega) hGz
                    have HC := Lib.hid (fun w => collide_any du dv hzu hzv w)
                    clear hfin P1 P2 P3 P4 HB
                    have hexit : (sb = false) ∨ (sb = true ∧ ¬ (k : Int) < (i : Int)) := by
                      cases sb
                      · exact .inl rfl
                      · exact .inr ⟨rfl, by have := hgo; simp at this; omega⟩
                    clear hgo HBF
                    rcases hexit with rfl | ⟨rfl, hki'⟩
                    · rcases (by omega : (k : Int) < (i : Int) ∨ ¬ (k : Int) < (i : Int)) with hki' | hki'
                      all_goals
                        go_wp2_with fail
                        refine HP1.out.mono ?_
                        rintro e v1 ⟨rfl, m1⟩
                        have nk1 := nk.new_ m1
                        go_wp2_with fail
                        refine (HP2.out _ (hsy.new_ nk1)).mono ?_
                        rintro e v2 ⟨rfl, m2⟩
                        have nk2 := nk1.new_ m2
                        clear nk1 m1 m2
                        go_wp2_with fail
                        refine (awake01_any _).mono ?_
                        rintro e v3 ⟨rfl, m3⟩
                        have nk3 := nk2.new_ m3
                        clear nk2 m3
                        go_wp2_with fail
                        refine (HP3.out _ (hsx.new_ nk3)).mono ?_
                        rintro e v4 ⟨rfl, m4⟩
                        have nk4 := nk3.new_ m4
                        clear nk3 m4
                        go_wp2_with fail
                        refine (HP4.out _ (hsy.new_ nk4)).mono ?_
                        rintro e v5 ⟨rfl, m5⟩
                        have nk5 := nW.new_ (nk4.new_ m5)
                        clear nk4 m5 HP1 HP2 HP3 HP4 hsx hsy
                        have hfin := HFIN.out
                        obtain ⟨eqs, heqs⟩ : ∃ b, (su.toList == sv.toList) = b := ⟨_, rfl⟩
                        rw [heqs] at hfin
                        clear HFIN
                        cases eqs
                        all_goals
                          first
                            | (have hco : collB du dv = true := by simpa using hfin
                               rw [hco] at HC
                               clear hfin hco
                               go_wp2_with fail
                               refine (HC.out _).mono ?_
                               rintro e v6 ⟨rfl, m6⟩
                               go_wp2
                               go_ret
                               exact ⟨rfl, nk5.new_ m6⟩)
                            | (clear hfin
                               go_wp2
                               go_ret
                               exact ⟨rfl, nk5⟩)
                    · skip
                      all_goals
                        go_wp2_with fail
                        refine HP1.out.mono ?_
                        rintro e v1 ⟨rfl, m1⟩
                        have nk1 := nk.new_ m1
                        go_wp2_with fail
                        refine (HP2.out _ (hsy.new_ nk1)).mono ?_
                        rintro e v2 ⟨rfl, m2⟩
                        have nk2 := nk1.new_ m2
                        clear nk1 m1 m2
                        go_wp2_with fail
                        refine (awake01_any _).mono ?_
                        rintro e v3 ⟨rfl, m3⟩
                        have nk3 := nk2.new_ m3
                        clear nk2 m3
                        go_wp2_with fail
                        refine (HP3.out _ (hsx.new_ nk3)).mono ?_
                        rintro e v4 ⟨rfl, m4⟩
                        have nk4 := nk3.new_ m4
                        clear nk3 m4
                        go_wp2_with fail
                        refine (HP4.out _ (hsy.new_ nk4)).mono ?_
                        rintro e v5 ⟨rfl, m5⟩
                        have nk5 := nW.new_ (nk4.new_ m5)
                        clear nk4 m5 HP1 HP2 HP3 HP4 hsx hsy
                        have hfin := HFIN.out
                        obtain ⟨eqs, heqs⟩ : ∃ b, (su.toList == sv.toList) = b := ⟨_, rfl⟩
                        rw [heqs] at hfin
                        clear HFIN
                        cases eqs
                        all_goals
                          first
                            | (have hco : collB du dv = true := by simpa using hfin
                               rw [hco] at HC
                               clear hfin hco
                               go_wp2_with fail
                               refine (HC.out _).mono ?_
                               rintro e v6 ⟨rfl, m6⟩
                               go_wp2
                               go_ret
                               exact ⟨rfl, nk5.new_ m6⟩)
                            | (clear hfin
                               go_wp2
                               go_ret
                               exact ⟨rfl, nk5⟩)
end Go.Proofs.Ytceopjolkapijaa
