/- Operations that may be, and are unlike, have unlike bytes, and unlike digests, unless the digest collides. -/
import Derived.Test.YtfkbljanmjnefaaOpDec
import Derived.DeepKeys
namespace Go.Proofs.Ytfkbljanmjnefaa
open Go.RowKit
set_option linter.unusedVariables false
set_option linter.unusedSimpArgs false

theorem beqB (g m : ByteArray) : (g.toList == m.toList) = decide (g = m) := by
  have e1 := ByteArray.toList_eq g
  have e2 := ByteArray.toList_eq m
  rw [Bool.eq_iff_iff, beq_iff_eq, decide_eq_true_eq, e1, e2]
  constructor
  · intro h
    cases g; cases m
    simp only [ByteArray.mk.injEq]
    exact Array.toList_inj.1 h
  · rintro rfl; rfl
/-- The numbers of an operation are such as Go's types have. -/
def OpW (o : OpV) : Prop := (Lit.int .i64 o.kind).wf = true ∧ (Lit.int .u64 (o.count : Int)).wf = true ∧ (Lit.int .i64 o.who).wf = true ∧ (Lit.int .u64 (o.thing : Int)).wf = true ∧ (Lit.int .u64 (o.parent : Int)).wf = true ∧ (Lit.int .i64 o.size).wf = true ∧ o.name.size ≤ maxLen ∧ o.digest.size ≤ maxLen
def opLits (o : OpV) : List Lit := [.int .i64 o.kind, .int .u64 o.count, .int .i64 o.who, .int .u64 o.thing, .int .u64 o.parent, .string o.name.data.toList, .bool o.dir, .string o.digest.data.toList, .int .i64 o.size]
theorem bytes_of {a b : ByteArray} (h : a.data.toList = b.data.toList) : a = b := ByteArray.ext (Array.ext' h)
theorem opLits_iff (a b : OpV) : opLits a = opLits b ↔ a = b := by
  constructor
  · intro h
    obtain ⟨a1, a2, a3, a4, a5, a6, a7, a8, a9⟩ := a
    obtain ⟨b1, b2, b3, b4, b5, b6, b7, b8, b9⟩ := b
    simp only [opLits, List.cons.injEq, Lit.int.injEq, Lit.string.injEq, Lit.bool.injEq, and_true, true_and] at h
    obtain ⟨h1, h2, h3, h4, h5, h6, h7, h8, h9⟩ := h
    obtain rfl : a2 = b2 := by omega
    obtain rfl : a4 = b4 := by omega
    obtain rfl : a5 = b5 := by omega
    obtain rfl := bytes_of h6
    obtain rfl := bytes_of h8
    subst h1 h3 h7 h9
    rfl
  · rintro rfl; rfl
theorem lits9 (o : OpV) (h : OpW o) : Try.prog.keyLits 10 39 o.cells.toList = some (opLits o) := by
  obtain ⟨h1, h2, h3, h4, h5, h6, h7, h8⟩ := h
  have c9 : Try.prog.cellsOf 39 = 9 := by kernel_rfl
  have c2 : Try.prog.cellsOf 37 = 2 := by kernel_rfl
  have ci : Try.prog.cellsOf 3 = 1 := by kernel_rfl
  have cu : Try.prog.cellsOf 34 = 1 := by kernel_rfl
  have cs : Try.prog.cellsOf 9 = 1 := by kernel_rfl
  have cb : Try.prog.cellsOf 4 = 1 := by kernel_rfl
  have i9 : ∀ x : Int, (Lit.int .i64 x).wf = true → Try.prog.keyLits 9 3 [.int .i64 x] = some [.int .i64 x] := fun x hx => by
    unfold Program.keyLits; rw [Try.underlying3]; (try simp [hx])
  have u9 : ∀ x : Int, (Lit.int .u64 x).wf = true → Try.prog.keyLits 9 34 [.int .u64 x] = some [.int .u64 x] := fun x hx => by
    unfold Program.keyLits; rw [Try.underlying34]; (try simp [hx])
  have i8 : ∀ x : Int, (Lit.int .i64 x).wf = true → Try.prog.keyLits 8 3 [.int .i64 x] = some [.int .i64 x] := fun x hx => by
    unfold Program.keyLits; rw [Try.underlying3]; (try simp [hx])
  have u8 : ∀ x : Int, (Lit.int .u64 x).wf = true → Try.prog.keyLits 8 34 [.int .u64 x] = some [.int .u64 x] := fun x hx => by
    unfold Program.keyLits; rw [Try.underlying34]; (try simp [hx])
  have s9 : ∀ x : ByteArray, x.size ≤ maxLen → Try.prog.keyLits 9 9 [.string x] = some [.string x.data.toList] := fun x hx => by
    unfold Program.keyLits; rw [Try.underlying9]; (try simp [hx])
  have b9 : ∀ x : Bool, Try.prog.keyLits 9 4 [.bool x] = some [.bool x] := fun x => by
    unfold Program.keyLits; rw [Try.underlying4]; (try simp)
  have st9 : ∀ (x y : Int), (Lit.int .u64 x).wf = true → (Lit.int .i64 y).wf = true → Try.prog.keyLits 9 37 [.int .u64 x, .int .i64 y] = some [.int .u64 x, .int .i64 y] := fun x y hx hy => by
    unfold Program.keyLits; rw [Try.underlying37]; simp [c2, ci, cu, i8 y hy, u8 x hx]
  unfold Program.keyLits
  rw [Try.underlying39]
  simp [c9, c2, ci, cu, cs, cb, i9 _ h1, st9 _ _ h2 h3, u9 _ h4, u9 _ h5, s9 _ h7, s9 _ h8, b9, i9 _ h6, opLits]
theorem eqOp (a b : OpV) (ha : OpW a) (hb : OpW b) (w : World) : ∃ r, (Op.equalIn 10000 39 (.agg a.cells) (.agg b.cells)).run Try.prog w = .ok r w ∧ (r = true ↔ a = b) := by
  have hfa : (Value.agg a.cells).formed Try.prog 39 = true := by kernel_rfl
  have hfb : (Value.agg b.cells).formed Try.prog 39 = true := by kernel_rfl
  obtain ⟨r, hr, hiff⟩ := run_equalIn_deep (P := Try.prog) 9990 10 39 (by kernel_rfl) w 10 10 _ _ _ _ hfa hfb (lits9 a ha) (lits9 b hb)
  rw [opLits_iff] at hiff
  exact ⟨r, hr, hiff⟩
theorem eqOp_same (a : OpV) (ha : OpW a) (w : World) : (Op.equalIn 10000 39 (.agg a.cells) (.agg a.cells)).run Try.prog w = .ok true w := by
  obtain ⟨r, hr, hi⟩ := eqOp a a ha ha w
  rw [hi.2 rfl] at hr
  exact hr
theorem eqOp_ne (a b : OpV) (ha : OpW a) (hb : OpW b) (hn : ¬ a = b) (w : World) : (Op.equalIn 10000 39 (.agg a.cells) (.agg b.cells)).run Try.prog w = .ok false w := by
  obtain ⟨r, hr, hi⟩ := eqOp a b ha hb w
  cases r
  · exact hr
  · exact absurd (hi.1 rfl) hn
theorem encode_ex (k : Int) (c : Nat) (who : Int) (th par : Nat) (nm : ByteArray) (dir : Bool) (dig : ByteArray) (sz : Int) (hb : OpB ⟨k, c, who, th, par, nm, dir, dig, sz⟩) (hs : nm.size ≤ maxLen) (hd : dig.size ≤ maxLen) :
    ∃ s, ∀ w, Calls Try.prog 16 #[(OpV.mk k c who th par nm dir dig sz).val] w fun e w' => e = .returned (.tuple #[.string s, .int .i64 (opCheck ⟨k, c, who, th, par, nm, dir, dig, sz⟩)]) ∧ New w w' := by
  by_cases hz : opCheck ⟨k, c, who, th, par, nm, dir, dig, sz⟩ = 0
  · exact ⟨_, fun w => by rw [hz]; exact encode_yes k c who th par nm dir dig sz hb hs hd hz w⟩
  · exact ⟨_, fun w => encode_no k c who th par nm dir dig sz hb hs hd hz w⟩
set_option maxRecDepth 100000 in
set_option maxHeartbeats 4000000 in
theorem opHashes_bad (k : Int) (c : Nat) (who : Int) (th par : Nat) (nm : ByteArray) (dir : Bool) (dig : ByteArray) (sz : Int) (k' : Int) (c' : Nat) (who' : Int) (th' par' : Nat) (nm' : ByteArray) (dir' : Bool) (dig' : ByteArray) (sz' : Int)
    (ha : OpW ⟨k, c, who, th, par, nm, dir, dig, sz⟩) (hb : OpW ⟨k', c', who', th', par', nm', dir', dig', sz'⟩) (ba : OpB ⟨k, c, who, th, par, nm, dir, dig, sz⟩) (bb : OpB ⟨k', c', who', th', par', nm', dir', dig', sz'⟩) (hz : ¬ (opCheck ⟨k, c, who, th, par, nm, dir, dig, sz⟩ = 0 ∧ opCheck ⟨k', c', who', th', par', nm', dir', dig', sz'⟩ = 0)) (w : World) :
    Calls Try.prog 6 #[(OpV.mk k c who th par nm dir dig sz).val, (OpV.mk k' c' who' th' par' nm' dir' dig' sz').val] w fun e w' => e = .returned (.bool true) ∧ New w w' := by
  obtain ⟨sx, hx⟩ := encode_ex k c who th par nm dir dig sz ba ha.2.2.2.2.2.2.1 ha.2.2.2.2.2.2.2
  obtain ⟨sy, hy⟩ := encode_ex k' c' who' th' par' nm' dir' dig' sz' bb hb.2.2.2.2.2.2.1 hb.2.2.2.2.2.2.2
  obtain ⟨u, hu⟩ : ∃ v, opCheck ⟨k, c, who, th, par, nm, dir, dig, sz⟩ = v := ⟨_, rfl⟩
  obtain ⟨v, hv⟩ : ∃ v, opCheck ⟨k', c', who', th', par', nm', dir', dig', sz'⟩ = v := ⟨_, rfl⟩
  rw [hu] at hx hz
  rw [hv] at hy hz
  have EA := Lib.hid hx
  have EB := Lib.hid hy
  have hc : (u != 0) = true ∨ (u = 0 ∧ (v != 0) = true) := by
    by_cases e : u = 0
    · exact .inr ⟨e, by rw [bne_iff_ne]; exact fun e' => hz ⟨e, e'⟩⟩
    · exact .inl (by rw [bne_iff_ne]; exact e)
  clear hx hy hz hu hv ha hb ba bb
  rcases hc with hc | ⟨rfl, hc⟩
  all_goals
    go_enter Try.func6, Try.ntmps6
    go_wp2_with fail
    refine (EA.out _).mono ?_
    rintro e w1 ⟨rfl, g1⟩
    have oa := ((Own.fresh w 39 (OpV.mk k c who th par nm dir dig sz).cells).alloc (.cells (OpV.mk k' c' who' th' par' nm' dir' dig' sz').cells 39)).new_ g1
    have ob := (Own.new' (b := w.heap.size + 1) (cs := (OpV.mk k' c' who' th' par' nm' dir' dig' sz').cells) (t := 39) (w := w.alloc (.cells (OpV.mk k c who th par nm dir dig sz).cells 39)) (by simp)).new_ g1
    have n1 : New w w1 := (((Fr.refl _ _).alloc _).alloc _).new_ g1
    obtain ⟨c0, c1, c2, c3, c4, c5, c6, c7, c8⟩ := opCells ob
    clear g1
    go_wp2_with fail
    refine (EB.out _).mono ?_
    rintro e w2 ⟨rfl, g2⟩
    go_wp2_with fail
    refine (awake05_any _).mono ?_
    rintro e w3 ⟨rfl, g3⟩
    go_wp2
    go_ret
    exact ⟨rfl, (n1.new_ g2).new_ g3⟩
set_option maxRecDepth 100000 in
set_option maxHeartbeats 4000000 in
theorem opHashes_same (k : Int) (c : Nat) (who : Int) (th par : Nat) (nm : ByteArray) (dir : Bool) (dig : ByteArray) (sz : Int) (ha : OpW ⟨k, c, who, th, par, nm, dir, dig, sz⟩) (ba : OpB ⟨k, c, who, th, par, nm, dir, dig, sz⟩) (za : opCheck ⟨k, c, who, th, par, nm, dir, dig, sz⟩ = 0) (w : World) :
    Calls Try.prog 6 #[(OpV.mk k c who th par nm dir dig sz).val, (OpV.mk k c who th par nm dir dig sz).val] w fun e w' => e = .returned (.bool true) ∧ New w w' := by
  have EA := Lib.hid (fun ww => encode_yes k c who th par nm dir dig sz ba ha.2.2.2.2.2.2.1 ha.2.2.2.2.2.2.2 za ww)
  have kk := opCheck_zero.1 za
  have HH := Lib.hid (fun ww => opHash_any k c who th par nm dir dig sz (kk.2.fit kk.1 ba) (by have := opB_size _ kk.2; omega) ww)
  have EQ := Lib.hid (eqOp_same ⟨k, c, who, th, par, nm, dir, dig, sz⟩ ha)
  obtain ⟨sx, hsx⟩ : ∃ s, opB ⟨k, c, who, th, par, nm, dir, dig, sz⟩ = s := ⟨_, rfl⟩
  rw [hsx] at EA HH
  obtain ⟨hs, hhs⟩ : ∃ s, tag1 79 sx = s := ⟨_, rfl⟩
  rw [hhs] at HH
  clear hsx za kk ha ba hhs
  go_enter Try.func6, Try.ntmps6
  go_wp2_with fail
  refine (EA.out _).mono ?_
  rintro e w1 ⟨rfl, g1⟩
  have oa := ((Own.fresh w 39 (OpV.mk k c who th par nm dir dig sz).cells).alloc (.cells (OpV.mk k c who th par nm dir dig sz).cells 39)).new_ g1
  have ob := (Own.new' (b := w.heap.size + 1) (cs := (OpV.mk k c who th par nm dir dig sz).cells) (t := 39) (w := w.alloc (.cells (OpV.mk k c who th par nm dir dig sz).cells 39)) (by simp)).new_ g1
  have n1 : New w w1 := (((Fr.refl _ _).alloc _).alloc _).new_ g1
  obtain ⟨c0, c1, c2, c3, c4, c5, c6, c7, c8⟩ := opCells ob
  clear g1
  go_wp2_with fail
  refine (EA.out _).mono ?_
  rintro e w2 ⟨rfl, g2⟩
  have n2 := n1.new_ g2
  have oa2 := oa.new_ g2
  have ob2 := ob.new_ g2
  clear n1 oa ob c0 c1 c2 c3 c4 c5 c6 c7 c8 g2
  go_wp2_with fail
  have A0 : ∀ x, (nw w2 x).cell? ⟨w.heap.size, 0, none⟩ = some (.int .i64 k) := oa2.nw 0
  have B0 : ∀ x, (nw w2 x).cell? ⟨w.heap.size + 1, 0, none⟩ = some (.int .i64 k) := ob2.nw 0
  have A1 : ∀ x, (nw w2 x).cell? ⟨w.heap.size, 1, none⟩ = some (.int .u64 c) := oa2.nw 1
  have B1 : ∀ x, (nw w2 x).cell? ⟨w.heap.size + 1, 1, none⟩ = some (.int .u64 c) := ob2.nw 1
  have A2 : ∀ x, (nw w2 x).cell? ⟨w.heap.size, 2, none⟩ = some (.int .i64 who) := oa2.nw 2
  have B2 : ∀ x, (nw w2 x).cell? ⟨w.heap.size + 1, 2, none⟩ = some (.int .i64 who) := ob2.nw 2
  have A3 : ∀ x, (nw w2 x).cell? ⟨w.heap.size, 3, none⟩ = some (.int .u64 th) := oa2.nw 3
  have B3 : ∀ x, (nw w2 x).cell? ⟨w.heap.size + 1, 3, none⟩ = some (.int .u64 th) := ob2.nw 3
  have A4 : ∀ x, (nw w2 x).cell? ⟨w.heap.size, 4, none⟩ = some (.int .u64 par) := oa2.nw 4
  have B4 : ∀ x, (nw w2 x).cell? ⟨w.heap.size + 1, 4, none⟩ = some (.int .u64 par) := ob2.nw 4
  have A5 : ∀ x, (nw w2 x).cell? ⟨w.heap.size, 5, none⟩ = some (.string nm) := oa2.nw 5
  have B5 : ∀ x, (nw w2 x).cell? ⟨w.heap.size + 1, 5, none⟩ = some (.string nm) := ob2.nw 5
  have A6 : ∀ x, (nw w2 x).cell? ⟨w.heap.size, 6, none⟩ = some (.bool dir) := oa2.nw 6
  have B6 : ∀ x, (nw w2 x).cell? ⟨w.heap.size + 1, 6, none⟩ = some (.bool dir) := ob2.nw 6
  have A7 : ∀ x, (nw w2 x).cell? ⟨w.heap.size, 7, none⟩ = some (.string dig) := oa2.nw 7
  have B7 : ∀ x, (nw w2 x).cell? ⟨w.heap.size + 1, 7, none⟩ = some (.string dig) := ob2.nw 7
  have A8 : ∀ x, (nw w2 x).cell? ⟨w.heap.size, 8, none⟩ = some (.int .i64 sz) := oa2.nw 8
  have B8 : ∀ x, (nw w2 x).cell? ⟨w.heap.size + 1, 8, none⟩ = some (.int .i64 sz) := ob2.nw 8
  have AW := fun (x : Nx w2) => Calls.nw_of (awake05_any (nw w2 x))
  have HA := fun (x : Nx w2) => Calls.nw_of (HH.out (nw w2 x))
  have eqs := EQ.out
  refine wp_region_new_lit (by kernel_rfl) (by kernel_rfl) ?_; (repeat (any_goals (first | go_big_quiet_step ((first | (go_at_call 17; with_reducible exact AW _) | (go_at_call 18; with_reducible exact HA _))) | quiet_step ((first | (go_at_call 17; with_reducible exact AW _) | (go_at_call 18; with_reducible exact HA _))) | (refine wpQuiet_step (fun K hK => ?_); go_simp; split <;> (refine hK _ ?_; clear hK K))))); all_goals (refine wpQuiet_nil ?_; intro _ hw'; obtain ⟨xq, hw''⟩ := hw'; subst hw''; have hnq := nw_new _ xq)
  all_goals go_wp2
  all_goals go_ret
  all_goals exact ⟨rfl, n2.new_ hnq⟩
set_option maxRecDepth 100000 in
set_option maxHeartbeats 8000000 in
theorem opHashes_ne (k : Int) (c : Nat) (who : Int) (th par : Nat) (nm : ByteArray) (dir : Bool) (dig : ByteArray) (sz : Int) (k' : Int) (c' : Nat) (who' : Int) (th' par' : Nat) (nm' : ByteArray) (dir' : Bool) (dig' : ByteArray) (sz' : Int)
    (ha : OpW ⟨k, c, who, th, par, nm, dir, dig, sz⟩) (hb : OpW ⟨k', c', who', th', par', nm', dir', dig', sz'⟩) (ba : OpB ⟨k, c, who, th, par, nm, dir, dig, sz⟩) (bb : OpB ⟨k', c', who', th', par', nm', dir', dig', sz'⟩) (za : opCheck ⟨k, c, who, th, par, nm, dir, dig, sz⟩ = 0) (zb : opCheck ⟨k', c', who', th', par', nm', dir', dig', sz'⟩ = 0) (hne : ¬ (OpV.mk k c who th par nm dir dig sz) = (OpV.mk k' c' who' th' par' nm' dir' dig' sz')) (w : World) :
    Calls Try.prog 6 #[(OpV.mk k c who th par nm dir dig sz).val, (OpV.mk k' c' who' th' par' nm' dir' dig' sz').val] w fun e w' => e = .returned (.bool true) ∧ New w w' := by
  have EA := Lib.hid (fun ww => encode_yes k c who th par nm dir dig sz ba ha.2.2.2.2.2.2.1 ha.2.2.2.2.2.2.2 za ww)
  have EB := Lib.hid (fun ww => encode_yes k' c' who' th' par' nm' dir' dig' sz' bb hb.2.2.2.2.2.2.1 hb.2.2.2.2.2.2.2 zb ww)
  have ka := opCheck_zero.1 za
  have kb := opCheck_zero.1 zb
  have HA := Lib.hid (fun ww => opHash_any k c who th par nm dir dig sz (ka.2.fit ka.1 ba) (by have := opB_size _ ka.2; omega) ww)
  have HB := Lib.hid (fun ww => opHash_any k' c' who' th' par' nm' dir' dig' sz' (kb.2.fit kb.1 bb) (by have := opB_size _ kb.2; omega) ww)
  have EQ := Lib.hid (eqOp_ne ⟨k, c, who, th, par, nm, dir, dig, sz⟩ ⟨k', c', who', th', par', nm', dir', dig', sz'⟩ ha hb hne)
  have hsn : ¬ opB ⟨k, c, who, th, par, nm, dir, dig, sz⟩ = opB ⟨k', c', who', th', par', nm', dir', dig', sz'⟩ := fun e => hne (opB_inj ka.1 ka.2 kb.1 kb.2 ba bb e)
  have z1 : (opB ⟨k, c, who, th, par, nm, dir, dig, sz⟩).size ≤ 100000 := by have := opB_size _ ka.2; omega
  have z2 : (opB ⟨k', c', who', th', par', nm', dir', dig', sz'⟩).size ≤ 100000 := by have := opB_size _ kb.2; omega
  obtain ⟨sx, hsx⟩ : ∃ s, opB ⟨k, c, who, th, par, nm, dir, dig, sz⟩ = s := ⟨_, rfl⟩
  obtain ⟨sy, hsy⟩ : ∃ s, opB ⟨k', c', who', th', par', nm', dir', dig', sz'⟩ = s := ⟨_, rfl⟩
  rw [hsx] at EA HA hsn z1
  rw [hsy] at EB HB hsn z2
  clear hsx hsy za zb ka kb ha hb ba bb hne
  have hxy : (sx.toList == sy.toList) = false := by rw [beqB]; exact decide_eq_false hsn
  have TX := Lib.hid (fun ww b hh => tag1_any (W := ww) (b := b) 79 sx z1 hh)
  have TY := Lib.hid (fun ww b hh => tag1_any (W := ww) (b := b) 79 sy z2 hh)
  clear hsn z1 z2
  have hc := beqB (tag1 79 sx) (tag1 79 sy)
  obtain ⟨tx, htx⟩ : ∃ s, tag1 79 sx = s := ⟨_, rfl⟩
  obtain ⟨ty, hty⟩ : ∃ s, tag1 79 sy = s := ⟨_, rfl⟩
  rw [htx] at HA TX hc
  rw [hty] at HB TY hc
  clear htx hty
  have hcase : tx = ty ∨ (tx.toList == ty.toList) = false := by
    by_cases e : tx = ty
    · exact .inl e
    · exact .inr (by rw [hc]; exact decide_eq_false e)
  clear hc
  rcases hcase with rfl | hc
  all_goals
    go_enter Try.func6, Try.ntmps6
    go_wp2_with fail
    refine (EA.out _).mono ?_
    rintro e w1 ⟨rfl, g1⟩
    have oa := ((Own.fresh w 39 (OpV.mk k c who th par nm dir dig sz).cells).alloc (.cells (OpV.mk k' c' who' th' par' nm' dir' dig' sz').cells 39)).new_ g1
    have ob := (Own.new' (b := w.heap.size + 1) (cs := (OpV.mk k' c' who' th' par' nm' dir' dig' sz').cells) (t := 39) (w := w.alloc (.cells (OpV.mk k c who th par nm dir dig sz).cells 39)) (by simp)).new_ g1
    have n1 : New w w1 := (((Fr.refl _ _).alloc _).alloc _).new_ g1
    obtain ⟨c0, c1, c2, c3, c4, c5, c6, c7, c8⟩ := opCells ob
    clear g1
    go_wp2_with fail
    refine (EB.out _).mono ?_
    rintro e w2 ⟨rfl, g2⟩
    have n2 := n1.new_ g2
    have oa2 := oa.new_ g2
    have ob2 := ob.new_ g2
    clear n1 oa ob c0 c1 c2 c3 c4 c5 c6 c7 c8 g2
    go_wp2_with fail
    refine (TX.out _ _ (Own.fresh _ _ _)).mono ?_
    rintro e w3 ⟨rfl, g3⟩
    have n3 := (n2.alloc (.cells #[.string sx] 9)).new_ g3
    have oa3 := (oa2.alloc (.cells #[.string sx] 9)).new_ g3
    have ob3 := (ob2.alloc (.cells #[.string sx] 9)).new_ g3
    clear n2 oa2 ob2 g3
    go_wp2_with fail
    refine (TY.out _ _ (Own.fresh _ _ _)).mono ?_
    rintro e w4 ⟨rfl, g4⟩
    have n4 := (n3.alloc (.cells #[.string sy] 9)).new_ g4
    have oa4 := (oa3.alloc (.cells #[.string sy] 9)).new_ g4
    have ob4 := (ob3.alloc (.cells #[.string sy] 9)).new_ g4
    clear n3 oa3 ob3 g4
    go_wp2_with fail
  · refine (awake05_any _).mono ?_
    rintro e w5 ⟨rfl, g5⟩
    go_wp2
    go_ret
    exact ⟨rfl, n4.new_ g5⟩
  · have A0 : ∀ x, (nw w4 x).cell? ⟨w.heap.size, 0, none⟩ = some (.int .i64 k) := oa4.nw 0
    have B0 : ∀ x, (nw w4 x).cell? ⟨w.heap.size + 1, 0, none⟩ = some (.int .i64 k') := ob4.nw 0
    have A1 : ∀ x, (nw w4 x).cell? ⟨w.heap.size, 1, none⟩ = some (.int .u64 c) := oa4.nw 1
    have B1 : ∀ x, (nw w4 x).cell? ⟨w.heap.size + 1, 1, none⟩ = some (.int .u64 c') := ob4.nw 1
    have A2 : ∀ x, (nw w4 x).cell? ⟨w.heap.size, 2, none⟩ = some (.int .i64 who) := oa4.nw 2
    have B2 : ∀ x, (nw w4 x).cell? ⟨w.heap.size + 1, 2, none⟩ = some (.int .i64 who') := ob4.nw 2
    have A3 : ∀ x, (nw w4 x).cell? ⟨w.heap.size, 3, none⟩ = some (.int .u64 th) := oa4.nw 3
    have B3 : ∀ x, (nw w4 x).cell? ⟨w.heap.size + 1, 3, none⟩ = some (.int .u64 th') := ob4.nw 3
    have A4 : ∀ x, (nw w4 x).cell? ⟨w.heap.size, 4, none⟩ = some (.int .u64 par) := oa4.nw 4
    have B4 : ∀ x, (nw w4 x).cell? ⟨w.heap.size + 1, 4, none⟩ = some (.int .u64 par') := ob4.nw 4
    have A5 : ∀ x, (nw w4 x).cell? ⟨w.heap.size, 5, none⟩ = some (.string nm) := oa4.nw 5
    have B5 : ∀ x, (nw w4 x).cell? ⟨w.heap.size + 1, 5, none⟩ = some (.string nm') := ob4.nw 5
    have A6 : ∀ x, (nw w4 x).cell? ⟨w.heap.size, 6, none⟩ = some (.bool dir) := oa4.nw 6
    have B6 : ∀ x, (nw w4 x).cell? ⟨w.heap.size + 1, 6, none⟩ = some (.bool dir') := ob4.nw 6
    have A7 : ∀ x, (nw w4 x).cell? ⟨w.heap.size, 7, none⟩ = some (.string dig) := oa4.nw 7
    have B7 : ∀ x, (nw w4 x).cell? ⟨w.heap.size + 1, 7, none⟩ = some (.string dig') := ob4.nw 7
    have A8 : ∀ x, (nw w4 x).cell? ⟨w.heap.size, 8, none⟩ = some (.int .i64 sz) := oa4.nw 8
    have B8 : ∀ x, (nw w4 x).cell? ⟨w.heap.size + 1, 8, none⟩ = some (.int .i64 sz') := ob4.nw 8
    have AW := fun (x : Nx w4) => Calls.nw_of (awake05_any (nw w4 x))
    have HAx := fun (x : Nx w4) => Calls.nw_of (HA.out (nw w4 x))
    have HBx := fun (x : Nx w4) => Calls.nw_of (HB.out (nw w4 x))
    have eqs := EQ.out
    refine wp_region_new_lit (by kernel_rfl) (by kernel_rfl) ?_; (repeat (any_goals (first | go_big_quiet_step ((first | (go_at_call 17; with_reducible exact AW _) | (go_at_call 18; with_reducible exact HAx _) | (go_at_call 18; with_reducible exact HBx _))) | quiet_step ((first | (go_at_call 17; with_reducible exact AW _) | (go_at_call 18; with_reducible exact HAx _) | (go_at_call 18; with_reducible exact HBx _))) | (refine wpQuiet_step (fun K hK => ?_); go_simp; split <;> (refine hK _ ?_; clear hK K))))); all_goals (refine wpQuiet_nil ?_; intro _ hw'; obtain ⟨xq, hw''⟩ := hw'; subst hw''; have hnq := nw_new _ xq)
    all_goals go_wp2
    all_goals go_ret
    all_goals exact ⟨rfl, n4.new_ hnq⟩
theorem opHashes_walk (x : EOp) {wa : World} (hx : x.facts wa) (y : EOp) {wb : World} (hy : y.facts wb) (w : World) :
    Calls Try.prog 6 #[.agg x.cells.toArray, .agg y.cells.toArray] w fun e w' => e = .returned (.bool true) ∧ New w w' := by
  obtain ⟨k, ⟨c, who⟩, th, par, nm, dir, dig, sz⟩ := x
  obtain ⟨k', ⟨c', who'⟩, th', par', nm', dir', dig', sz'⟩ := y
  obtain ⟨a1, ⟨a2, a3⟩, a4, a5, a6, a7, a8⟩ := hx
  obtain ⟨b1, ⟨b2, b3⟩, b4, b5, b6, b7, b8⟩ := hy
  simp only at *
  have p2 := bounds_u64 a2
  have p4 := bounds_u64 a4
  have p5 := bounds_u64 a5
  have q2 := bounds_u64 b2
  have q4 := bounds_u64 b4
  have q5 := bounds_u64 b5
  obtain ⟨c, rfl⟩ := Int.eq_ofNat_of_zero_le p2.1
  obtain ⟨th, rfl⟩ := Int.eq_ofNat_of_zero_le p4.1
  obtain ⟨par, rfl⟩ := Int.eq_ofNat_of_zero_le p5.1
  obtain ⟨c', rfl⟩ := Int.eq_ofNat_of_zero_le q2.1
  obtain ⟨th', rfl⟩ := Int.eq_ofNat_of_zero_le q4.1
  obtain ⟨par', rfl⟩ := Int.eq_ofNat_of_zero_le q5.1
  have ha : OpW ⟨k, c, who, th, par, nm, dir, dig, sz⟩ := ⟨a1, a2, a3, a4, a5, a8, a6, a7⟩
  have hb : OpW ⟨k', c', who', th', par', nm', dir', dig', sz'⟩ := ⟨b1, b2, b3, b4, b5, b8, b6, b7⟩
  have ba : OpB ⟨k, c, who, th, par, nm, dir, dig, sz⟩ := ⟨by show c ≤ _; omega, by show th ≤ _; omega, by show par ≤ _; omega⟩
  have bb : OpB ⟨k', c', who', th', par', nm', dir', dig', sz'⟩ := ⟨by show c' ≤ _; omega, by show th' ≤ _; omega, by show par' ≤ _; omega⟩
  show Calls Try.prog 6 #[(OpV.mk k c who th par nm dir dig sz).val, (OpV.mk k' c' who' th' par' nm' dir' dig' sz').val] w _
  by_cases hz : opCheck ⟨k, c, who, th, par, nm, dir, dig, sz⟩ = 0 ∧ opCheck ⟨k', c', who', th', par', nm', dir', dig', sz'⟩ = 0
  · by_cases e : (OpV.mk k c who th par nm dir dig sz) = (OpV.mk k' c' who' th' par' nm' dir' dig' sz')
    · rw [← e]
      exact opHashes_same k c who th par nm dir dig sz ha ba hz.1 w
    · exact opHashes_ne _ _ _ _ _ _ _ _ _ _ _ _ _ _ _ _ _ _ ha hb ba bb hz.1 hz.2 e w
  · exact opHashes_bad _ _ _ _ _ _ _ _ _ _ _ _ _ _ _ _ _ _ ha hb ba bb hz w
end Go.Proofs.Ytfkbljanmjnefaa
