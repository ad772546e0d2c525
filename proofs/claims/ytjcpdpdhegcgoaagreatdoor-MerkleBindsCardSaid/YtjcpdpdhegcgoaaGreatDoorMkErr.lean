/- Errors that hold others: errors.New, errors.Join of two, errors.Is of a tree whose last leaf is a fault of that number. -/
import Derived.Test.YtjcpdpdhegcgoaaGreatDoorMkIs
import Derived.Test.YtjcpdpdhegcgoaaGreatDoorTxL
namespace Go.Proofs.YtjcpdpdhegcgoaaGreatDoor
open Go.RowKit Go.Extern.Stop Go.Stop Go.Extern
set_option linter.unusedVariables false
set_option linter.unusedSimpArgs false

/-- A row of errors. -/
def ErL (W : World) (v : Value) (us : List Value) : Prop := W.ownsRow 0 65 1 v us.length us
theorem ErL.fr {W W' : World} {v : Value} {l : List Value} {G : Nat → Prop} (h : ErL W v l) (f : Fr G W W') (hv : ∀ k, v.ownBlock = some k → ¬ G k) : ErL W' v l := by
  rcases h.2 with ⟨e, h0⟩ | ⟨g, cap, cur, e, hB, hg, r⟩
  · exact ⟨h.1, .inl ⟨e, h0⟩⟩
  · subst e
    exact ⟨h.1, .inr ⟨g, cap, cur, rfl, hB, (f.block g (lt_of_block hg) (hv g rfl)).trans hg, r⟩⟩
theorem ErL.new_ {W W' : World} {v : Value} {l : List Value} (h : ErL W v l) (f : New W W') : ErL W' v l := h.fr f fun _ _ g => g
theorem ErL.form {W : World} {v : Value} {l : List Value} (h : ErL W v l) : ∃ A cap, v = .slice A l.length cap := by
  rcases h.2 with ⟨e, h0⟩ | ⟨g, cap, cur, e, _⟩
  · exact ⟨none, 0, by rw [e, h0]⟩
  · exact ⟨_, cap, e⟩
theorem ErL.two {W : World} {v u0 u1 : Value} (h : ErL W v [u0, u1]) : ∃ g cap, v = .slice (some ⟨g, 0, none⟩) 2 cap ∧ 2 ≤ cap ∧ cap ≤ maxLen ∧ W.cell? ⟨g, 0, none⟩ = some u0 ∧ W.cell? ⟨g, 1, none⟩ = some u1 := by
  rcases h.2 with ⟨e, h0⟩ | ⟨g, cap, cur, e, hB, hg, h1, h2, h3, h4⟩
  · cases h0
  · have hc : ∀ i, W.cell? ⟨g, i, none⟩ = cur[i]? := fun i => Own.cell (w := W) (b := g) (t := 65) (cs := cur) hg i
    have ht : ∀ i, i < 2 → cur.toList[i]? = [u0, u1][i]? := fun i hi => by
      rw [← h4, List.getElem?_take]
      simp [hi]
    refine ⟨g, cap, e, h1, h2, ?_, ?_⟩
    · rw [hc, ← Array.getElem?_toList, ht 0 (by omega)]
      rfl
    · rw [hc, ← Array.getElem?_toList, ht 1 (by omega)]
      rfl
theorem info_error : (Tryz.prog.info? 65).map (fun i => (i.zero, i.size, i.bytes)) = some (some .nilIface, 1, 16) := by kernel_rfl
theorem append_er {W : World} {blk : Nat} {v u : Value} {l : List Value} (h : ErL W v l) (hu : u.oneCell' = true) (hn : l.length ≤ 100000) (hb : Own W blk 65 #[u]) :
    ∃ v' W', (Builtin.append_ #[128, 128] 128 #[v, .slice (some ⟨blk, 0, none⟩) 1 1]).run Tryz.prog W = .ok v' W' ∧ ErL W' v' (l ++ [u]) ∧
      Fr (fun k => v.ownBlock = some k) W W' ∧ (v'.ownBlock = v.ownBlock ∨ ∃ k, v'.ownBlock = some k ∧ W.heap.size ≤ k) := by
  obtain ⟨i, hi, hv⟩ := Option.map_eq_some_iff.1 info_error
  have z1 : i.zero = some .nilIface := congrArg Prod.fst hv
  have z2 : i.size = 1 := congrArg (fun x => x.2.1) hv
  have z3 : i.bytes = 16 := congrArg (fun x => x.2.2) hv
  obtain ⟨v', W', hr, h2, h3, h4, h5⟩ := run_append_own_at (P := Tryz.prog) W 0 128 128 65 i _ 1 16 Tryz.underlying128 hi z1 z2 z3 rfl (by omega) v l.length _ h ⟨blk, 0, none⟩ 1 1 [u] rfl
    (fun j u hu => World.news_of_block hb j u hu) (by simpa using hu) (by simp [maxLen]; omega) (by omega) (Nat.zero_le _)
  refine ⟨v', W', hr, ?_, fr_of_grown h3, ?_⟩
  · unfold ErL
    rw [List.length_append]
    exact h2
  · rcases h5 with e | e
    · exact .inl e
    · exact .inr ⟨_, e, Nat.le_refl _⟩
theorem er_new {s : ByteArray} {w : World} : Calls Tryz.prog 90 #[.string s] w fun e W => ∃ b, e = .returned (.iface 150 (.pointer (some ⟨b, 0, none⟩))) ∧ New w W := by
  go_enter Tryz.func90, Tryz.ntmps90
  go_wp2
  go_ret
  exact ⟨_, rfl, (Fr.refl _ _).alloc _⟩
theorem mk_er2 (w : World) : (Instr.makeSlice 128 (.int .i64 0) (.int .i64 2)).run Tryz.prog w = .ok (.slice (some ⟨w.heap.size, 0, none⟩) 0 2) (w.alloc (.cells #[.nilIface, .nilIface] 65)) := by kernel_rfl
set_option maxRecDepth 100000 in
set_option maxHeartbeats 4000000 in
theorem er_join {t0 t1 : TypeId} {v0 v1 : Value} {blk : Nat} {w : World} (hb : Own w blk 65 #[.iface t0 v0, .iface t1 v1]) :
    Calls Tryz.prog 89 #[.slice (some ⟨blk, 0, none⟩) 2 2] w fun e W => ∃ b v, e = .returned (.iface 147 (.pointer (some ⟨b, 0, none⟩))) ∧ Own W b 149 #[v] ∧ ErL W v [.iface t0 v0, .iface t1 v1] ∧ New w W := by
  have c0 := hb.cell 0
  have c1 := hb.cell 1
  simp only [List.getElem?_toArray, List.getElem?_cons_zero, List.getElem?_cons_succ] at c0 c1
  have mk2 := mk_er2
  go_enter Tryz.func89, Tryz.ntmps89
  go_wp2_with fail
  refine wp_loop_rounds 3 ?_
  rw [rounds_succ]
  go_wp2_with fail
  rw [rounds_succ]
  go_wp2_with fail
  rw [rounds_succ]
  go_wp2_with fail
  clear mk2
  have hR : ErL ((w.alloc (.cells #[.nilIface, .nilIface] 65)).alloc (.cells #[.slice (some ⟨w.heap.size, 0, none⟩) 0 2] 149)) (.slice (some ⟨w.heap.size, 0, none⟩) 0 2) [] :=
    ErL.new_ (show ErL (w.alloc (.cells #[.nilIface, .nilIface] 65)) _ [] from ⟨rfl, .inr ⟨w.heap.size, 2, #[.nilIface, .nilIface], rfl, Nat.zero_le _, Own.fresh _ _ _, Nat.zero_le _, by simp [maxLen], rfl, rfl⟩⟩) ((Fr.refl _ _).alloc _)
  have hJ : Own ((w.alloc (.cells #[.nilIface, .nilIface] 65)).alloc (.cells #[.slice (some ⟨w.heap.size, 0, none⟩) 0 2] 149)) (w.heap.size + 1) 149 #[.slice (some ⟨w.heap.size, 0, none⟩) 0 2] := Own.new' (by simp)
  have hN : New w ((w.alloc (.cells #[.nilIface, .nilIface] 65)).alloc (.cells #[.slice (some ⟨w.heap.size, 0, none⟩) 0 2] 149)) := ((Fr.refl _ _).alloc _).alloc _
  have hz : ((w.alloc (.cells #[.nilIface, .nilIface] 65)).alloc (.cells #[.slice (some ⟨w.heap.size, 0, none⟩) 0 2] 149)).heap.size = w.heap.size + 2 := by simp
  obtain ⟨W1, hW1⟩ : ∃ W1, W1 = (w.alloc (.cells #[.nilIface, .nilIface] 65)).alloc (.cells #[.slice (some ⟨w.heap.size, 0, none⟩) 0 2] 149) := ⟨_, rfl⟩
  rw [← hW1] at hR hJ hN hz ⊢
  have hb1 := hb.new_ hN
  have hbl := hb.lt
  obtain ⟨v1, W2, hr1, hR2, f2, o2⟩ := append_er (u := .iface t0 v0) (hR.new_ ((Fr.refl _ W1).alloc (.cells #[.iface t0 v0] 65))) rfl (by simp) (Own.fresh W1 65 #[.iface t0 v0])
  obtain ⟨A1, cp1, hv1e⟩ := hR2.form
  replace hv1e : v1 = .slice A1 1 cp1 := hv1e
  subst hv1e
  have f2' : Fr (fun k => k = w.heap.size) (W1.alloc (.cells #[.iface t0 v0] 65)) W2 := f2.mono fun k e => by injection e with e; exact e.symm
  have hJ2 := (hJ.alloc (.cells #[.iface t0 v0] 65)).fr f2' (by omega)
  have hb2 := (hb1.alloc (.cells #[.iface t0 v0] 65)).fr f2' (by omega)
  have n2 : New w W2 := (hN.alloc (.cells #[.iface t0 v0] 65)).trans f2' fun k hk e => by omega
  have hz2 := f2'.size
  rw [World.size_alloc, hz] at hz2
  have hJ3 := hJ2.put (i := 0) (u := .slice A1 1 cp1) (cs' := #[.slice A1 1 cp1]) rfl
  have f3 : Fr (fun k => k = w.heap.size + 1) W2 (W2.setCell ⟨w.heap.size + 1, 0, none⟩ (.slice A1 1 cp1)) := Fr.set (F := fun k => k = w.heap.size + 1) (p := ⟨w.heap.size + 1, 0, none⟩) (Fr.refl _ W2) (fun _ => rfl) _
  have hv1 : ∀ k, (Value.slice A1 1 cp1).ownBlock = some k → w.heap.size ≤ k ∧ ¬ k = w.heap.size + 1 := fun k e => by
    rcases o2 with e2 | ⟨k', e2, h⟩
    · rw [e2] at e
      injection e with e
      have : w.heap.size = k := e
      omega
    · rw [e2] at e
      injection e with e
      rw [World.size_alloc, hz] at h
      omega
  have hR3 := hR2.fr f3 fun k e => (hv1 k e).2
  have hb3 := hb2.fr f3 (by omega)
  have n3 : New w (W2.setCell ⟨w.heap.size + 1, 0, none⟩ (.slice A1 1 cp1)) := n2.trans f3 fun k hk e => by omega
  have hz3 : w.heap.size + 2 ≤ (W2.setCell ⟨w.heap.size + 1, 0, none⟩ (.slice A1 1 cp1)).heap.size := by have := f3.size; omega
  have g0 := hb1.cell 0
  have j0 := hJ.cell 0
  have j2 := hJ2.cell 0
  have q2 := hJ2.free 0
  simp only [List.getElem?_toArray, List.getElem?_cons_zero, List.getElem?_cons_succ] at g0 j0 j2
  have H3 := Lib.hid (And.intro hJ3 (And.intro hR3 (And.intro hb3 (And.intro n3 (And.intro hz3 (And.intro hbl hv1))))))
  clear hW1 hR hJ hN hb1 hR2 hJ2 hb2 n2 hJ3 hR3 hb3 n3 hz3 f2 f2' f3 hv1 hb c0 c1 o2 hz2 hbl hz
  refine wp_loop_rounds 3 ?_
  rw [rounds_succ]
  go_wp2_with (at_builtin; refine wpList_append_run rfl (.tmp 38) (.tmp 40) 128 rfl rfl rfl hr1 ?_)
  have H4 := H3
  clear H3 hr1 g0 j0 j2 q2
  generalize World.setCell W2 ⟨w.heap.size + 1, 0, none⟩ (.slice A1 1 cp1) = W3 at H4 ⊢
  obtain ⟨hJ, hR, hb, n3, hz3, hbl, hv1⟩ := H4.out
  obtain ⟨v2, W4, hr2, hR4, f4, o4⟩ := append_er (u := .iface t1 v1) (hR.new_ ((Fr.refl _ W3).alloc (.cells #[.iface t1 v1] 65))) rfl (by simp) (Own.fresh W3 65 #[.iface t1 v1])
  obtain ⟨A2, cp2, hv2e⟩ := hR4.form
  replace hv2e : v2 = .slice A2 2 cp2 := hv2e
  subst hv2e
  have hJ4 := (hJ.alloc (.cells #[.iface t1 v1] 65)).fr f4 fun e => (hv1 _ e).2 rfl
  have n4 : New w W4 := (n3.alloc (.cells #[.iface t1 v1] 65)).trans f4 fun k hk e => by have := (hv1 k e).1; omega
  have hJ5 := hJ4.put (i := 0) (u := .slice A2 2 cp2) (cs' := #[.slice A2 2 cp2]) rfl
  have f5 : Fr (fun k => k = w.heap.size + 1) W4 (W4.setCell ⟨w.heap.size + 1, 0, none⟩ (.slice A2 2 cp2)) := Fr.set (F := fun k => k = w.heap.size + 1) (p := ⟨w.heap.size + 1, 0, none⟩) (Fr.refl _ W4) (fun _ => rfl) _
  have hR5 := hR4.fr f5 fun k e => by
    rcases o4 with e2 | ⟨k', e2, h⟩
    · rw [e2] at e
      exact (hv1 k e).2
    · rw [e2] at e
      injection e with e
      rw [World.size_alloc] at h
      omega
  have n5 : New w (W4.setCell ⟨w.heap.size + 1, 0, none⟩ (.slice A2 2 cp2)) := n4.trans f5 fun k hk e => by omega
  have g1 := hb.cell 1
  have j0 := hJ.cell 0
  have j2 := hJ4.cell 0
  have q2 := hJ4.free 0
  simp only [List.getElem?_toArray, List.getElem?_cons_zero, List.getElem?_cons_succ] at g1 j0 j2
  have H5 := Lib.hid (And.intro hJ5 (And.intro hR5 n5))
  clear hR hJ hb n3 hz3 hbl hv1 hR4 hJ4 n4 hJ5 f4 f5 hR5 n5 o4 H4
  rw [rounds_succ]
  go_wp2_with (at_builtin; refine wpList_append_run rfl (.tmp 38) (.tmp 40) 128 rfl rfl rfl hr2 ?_)
  have H6 := H5
  clear H5 hr2 g1 j0 j2 q2
  generalize World.setCell W4 ⟨w.heap.size + 1, 0, none⟩ (.slice A2 2 cp2) = W5 at H6 ⊢
  rw [rounds_succ]
  go_wp2_with fail
  go_ret
  exact ⟨_, _, rfl, H6.out.1, H6.out.2.1, H6.out.2.2⟩
theorem mk_noIsJ (v : Value) (xT : TypeId) (w : World) : (Instr.typeAssert (.iface 147 v) xT 122 true).run Tryz.prog w = .ok (.tuple #[.nilIface, .bool false]) w := run_typeAssert_lacksB Tryz.underlying122 (by kernel_rfl) (by kernel_rfl) v xT w
theorem mk_noUnwrapJ (v : Value) (xT : TypeId) (w : World) : (Instr.typeAssert (.iface 147 v) xT 125 true).run Tryz.prog w = .ok (.tuple #[.nilIface, .bool false]) w := run_typeAssert_lacksB Tryz.underlying125 (by kernel_rfl) (by kernel_rfl) v xT w
theorem mk_hasUnwrapJ (v : Value) (xT : TypeId) (w : World) : (Instr.typeAssert (.iface 147 v) xT 127 true).run Tryz.prog w = .ok (.tuple #[.iface 147 v, .bool true]) w := run_typeAssert_hasB Tryz.underlying127 (by kernel_rfl) v xT w
theorem mk_methodUnwrapJ (v : Value) (w : World) : (Go.method 297 147 v "Unwrap").run Tryz.prog w = .ok (160, v) w := by kernel_rfl
theorem mk_noIsS (v : Value) (xT : TypeId) (w : World) : (Instr.typeAssert (.iface 150 v) xT 122 true).run Tryz.prog w = .ok (.tuple #[.nilIface, .bool false]) w := run_typeAssert_lacksB Tryz.underlying122 (by kernel_rfl) (by kernel_rfl) v xT w
theorem mk_noUnwrapS (v : Value) (xT : TypeId) (w : World) : (Instr.typeAssert (.iface 150 v) xT 125 true).run Tryz.prog w = .ok (.tuple #[.nilIface, .bool false]) w := run_typeAssert_lacksB Tryz.underlying125 (by kernel_rfl) (by kernel_rfl) v xT w
theorem mk_noUnwrapsS (v : Value) (xT : TypeId) (w : World) : (Instr.typeAssert (.iface 150 v) xT 127 true).run Tryz.prog w = .ok (.tuple #[.nilIface, .bool false]) w := run_typeAssert_lacksB Tryz.underlying127 (by kernel_rfl) (by kernel_rfl) v xT w
theorem join_unwrap (pb : Nat) (v : Value) (w : World) (h1 : w.cell? ⟨pb, 0, none⟩ = some v) :
    Calls Tryz.prog 160 #[.pointer (some ⟨pb, 0, none⟩)] w fun e w' => e = .returned v ∧ w' = w := by
  go_enter Tryz.func160, Tryz.ntmps160
  go_wp2
  go_ret
  exact ⟨rfl, rfl⟩
/-- An error whose last leaf is a fault of number 90, d joins above it. -/
def ErrT (W : World) : Nat → Value → Prop
  | 0, u => ∃ b t, u = .iface 96 (.pointer (some ⟨b, 0, none⟩)) ∧ Own W b 98 #[.string t, .int .i64 90]
  | d + 1, u => ∃ b v s u', u = .iface 147 (.pointer (some ⟨b, 0, none⟩)) ∧ Own W b 149 #[v] ∧ ErL W v [.iface 150 (.pointer (some ⟨s, 0, none⟩)), u'] ∧ ErrT W d u'
theorem ErrT.new_ {W W' : World} (f : New W W') : ∀ d u, ErrT W d u → ErrT W' d u
  | 0, u, ⟨b, t, e, h⟩ => ⟨b, t, e, h.new_ f⟩
  | d + 1, u, ⟨b, v, s, u', e, h1, h2, h3⟩ => ⟨b, v, s, u', e, h1.new_ f, h2.new_ f, ErrT.new_ f d u' h3⟩
theorem ErrT.form {W : World} : ∀ {d u}, ErrT W d u → ∃ t v, u = .iface t v
  | 0, u, ⟨b, t, e, h⟩ => ⟨_, _, e⟩
  | d + 1, u, ⟨b, v, s, u', e, h1, h2, h3⟩ => ⟨_, _, e⟩
set_option maxHeartbeats 4000000 in
theorem is_text (pb : Nat) (n : Int) (w : World) :
    Calls Tryz.prog 70 #[.iface 150 (.pointer (some ⟨pb, 0, none⟩)), .iface 28 (.int .i64 n), .bool true] w fun e w' => e = .returned (.bool false) ∧ w' = w := by
  have nF := mk_noIsS
  have uF := mk_noUnwrapS
  have vF := mk_noUnwrapsS
  have hty := run_eql_iface_types (P := Tryz.prog) 150 28 (.pointer (some ⟨pb, 0, none⟩)) (.int .i64 n) Tryz.underlying65 (by decide) w
  go_enter Tryz.func70, Tryz.ntmps70
  go_wp2
  refine wp_loop_rounds 1 ?_
  rw [rounds_succ]
  go_wp2
  go_ret
  exact ⟨rfl, rfl⟩
set_option maxHeartbeats 4000000 in
theorem is_leaf (pb : Nat) (n : Int) (w : World) (h1 : w.cell? ⟨pb, 1, none⟩ = some (.int .i64 n)) :
    Calls Tryz.prog 70 #[.iface 96 (.pointer (some ⟨pb, 0, none⟩)), .iface 28 (.int .i64 n), .bool true] w fun e w' => e = .returned (.bool true) ∧ w' = w := by
  obtain ⟨i, hi, hcmp⟩ := Option.map_eq_some_iff.1 mk_compErrno
  have nF := mk_noIsF
  have uF := mk_hasUnwrapF
  have mU := mk_methodUnwrap
  have heq := run_eql_num (P := Tryz.prog) w n n Tryz.underlying65 Tryz.underlying28 hi hcmp
  have hty := run_eql_iface_types (P := Tryz.prog) 96 28 (.pointer (some ⟨pb, 0, none⟩)) (.int .i64 n) Tryz.underlying65 (by decide) w
  go_enter Tryz.func70, Tryz.ntmps70
  go_wp2
  refine wp_loop_rounds 2 ?_
  rw [rounds_succ]
  go_wp2_with (go_at_call 144; refine (fault_unwrap pb n _ h1).mono ?_; rintro e wq ⟨rfl, rfl⟩)
  rw [rounds_succ]
  go_wp2
  go_ret
  exact ⟨rfl, rfl⟩
set_option maxHeartbeats 4000000 in
theorem is_tree : ∀ (d : Nat) (u : Value) (w : World), ErrT w d u → Calls Tryz.prog 70 #[u, .iface 28 (.int .i64 90), .bool true] w fun e w' => e = .returned (.bool true) ∧ New w w' := by
  intro d
  induction d with
  | zero =>
    rintro u w ⟨b, t, rfl, h⟩
    refine (is_leaf b 90 w (h.cell 1)).mono ?_
    rintro e w' ⟨rfl, rfl⟩
    exact ⟨rfl, Fr.refl _ _⟩
  | succ d ih =>
    rintro u w ⟨b, v, s, u', rfl, h1, h2, h3⟩
    obtain ⟨g, cap, rfl, hc1, hc2, e0, e1⟩ := h2.two
    obtain ⟨t', v', rfl⟩ := h3.form
    have IH := Lib.hid (ih _ w h3)
    have c0 : w.cell? ⟨b, 0, none⟩ = some (.slice (some ⟨g, 0, none⟩) 2 cap) := h1.cell 0
    have nF := mk_noIsJ
    have uF := mk_noUnwrapJ
    have vF := mk_hasUnwrapJ
    have mU := mk_methodUnwrapJ
    have hty := run_eql_iface_types (P := Tryz.prog) 147 28 (.pointer (some ⟨b, 0, none⟩)) (.int .i64 90) Tryz.underlying65 (by decide) w
    clear ih h1 h2 h3
    go_enter Tryz.func70, Tryz.ntmps70
    go_wp2
    refine wp_loop_rounds 1 ?_
    rw [rounds_succ]
    go_wp2_with (go_at_call 160; refine (join_unwrap b _ _ c0).mono ?_; rintro e wq ⟨rfl, rfl⟩)
    refine wp_loop_rounds 2 ?_
    rw [rounds_succ]
    go_wp2_with fail
    refine (is_text s 90 _).mono ?_
    rintro e wq ⟨rfl, rfl⟩
    go_wp2_with fail
    rw [rounds_succ]
    go_wp2_with fail
    refine IH.out.mono ?_
    rintro e wq ⟨rfl, nq⟩
    go_wp2_with fail
    go_ret
    exact ⟨rfl, nq⟩
end Go.Proofs.YtjcpdpdhegcgoaaGreatDoor
