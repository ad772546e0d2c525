/- Operations: Take, Decode. -/
import Derived.Test.YtfkbljanmjnefaaOpCheck
namespace Go.Proofs.Ytfkbljanmjnefaa
open Go.RowKit
set_option linter.unusedVariables false
set_option linter.unusedSimpArgs false

theorem calls_world {P : Program} {f : FuncId} {args : Array Value} {Q : Ending → World → Prop} {W : World} (F : World → Prop) (h : F W) (k : ∀ W', F W' → Calls P f args W' Q) : Calls P f args W Q := k W h
theorem post_world {P : Program} {fn : Func} {Q : Ending → World → Prop} {x : Exit} {a : Act} {W : World} (F : World → Prop) (h : F W) (k : ∀ W', F W' → bodyPost P fn Q x a W') : bodyPost P fn Q x a W := k W h
theorem rFail_zero {r : Rd} (h : r.err = 0) : rFail r 0 = r := by
  unfold rFail
  rw [if_pos h]
  unfold Rd.withErr
  rw [← h]
theorem rFail_err {r : Rd} (h : r.err = 0) (v : Int) : rFail r v = r.withErr v := if_pos h
/-- None of an operation's cells is frozen. -/
theorem opFree {w : World} {b : Nat} {t : TypeId} {cs : Array Value} (h : Own w b t cs) : w.frozen? ⟨b, 0, none⟩ = false ∧ w.frozen? ⟨b, 1, none⟩ = false ∧ w.frozen? ⟨b, 2, none⟩ = false ∧ w.frozen? ⟨b, 3, none⟩ = false ∧ w.frozen? ⟨b, 4, none⟩ = false ∧ w.frozen? ⟨b, 5, none⟩ = false ∧ w.frozen? ⟨b, 6, none⟩ = false ∧ w.frozen? ⟨b, 7, none⟩ = false ∧ w.frozen? ⟨b, 8, none⟩ = false :=
  ⟨h.free 0, h.free 1, h.free 2, h.free 3, h.free 4, h.free 5, h.free 6, h.free 7, h.free 8⟩
abbrev set9 (w : World) (b : Nat) (v0 v1 v2 v3 v4 v5 v6 v7 v8 : Value) : World :=
  (((((((((w.setCell ⟨b, 0, none⟩ v0).setCell ⟨b, 1, none⟩ v1).setCell ⟨b, 2, none⟩ v2).setCell ⟨b, 3, none⟩ v3).setCell ⟨b, 4, none⟩ v4).setCell ⟨b, 5, none⟩ v5).setCell ⟨b, 6, none⟩ v6).setCell ⟨b, 7, none⟩ v7).setCell ⟨b, 8, none⟩ v8)
theorem Own.put9 {w : World} {b : Nat} {t : TypeId} {u0 u1 u2 u3 u4 u5 u6 u7 u8 : Value} (h : Own w b t #[u0, u1, u2, u3, u4, u5, u6, u7, u8]) (v0 v1 v2 v3 v4 v5 v6 v7 v8 : Value) :
    Own (set9 w b v0 v1 v2 v3 v4 v5 v6 v7 v8) b t #[v0, v1, v2, v3, v4, v5, v6, v7, v8] := by
  have a0 := h.put (i := 0) (u := v0) (cs' := #[v0, u1, u2, u3, u4, u5, u6, u7, u8]) rfl
  have a1 := a0.put (i := 1) (u := v1) (cs' := #[v0, v1, u2, u3, u4, u5, u6, u7, u8]) rfl
  have a2 := a1.put (i := 2) (u := v2) (cs' := #[v0, v1, v2, u3, u4, u5, u6, u7, u8]) rfl
  have a3 := a2.put (i := 3) (u := v3) (cs' := #[v0, v1, v2, v3, u4, u5, u6, u7, u8]) rfl
  have a4 := a3.put (i := 4) (u := v4) (cs' := #[v0, v1, v2, v3, v4, u5, u6, u7, u8]) rfl
  have a5 := a4.put (i := 5) (u := v5) (cs' := #[v0, v1, v2, v3, v4, v5, u6, u7, u8]) rfl
  have a6 := a5.put (i := 6) (u := v6) (cs' := #[v0, v1, v2, v3, v4, v5, v6, u7, u8]) rfl
  have a7 := a6.put (i := 7) (u := v7) (cs' := #[v0, v1, v2, v3, v4, v5, v6, v7, u8]) rfl
  have a8 := a7.put (i := 8) (u := v8) (cs' := #[v0, v1, v2, v3, v4, v5, v6, v7, v8]) rfl
  exact a8
theorem Fr.put9 {F : Nat → Prop} {a w : World} {b : Nat} (h : Fr F a w) (hb : b < a.heap.size → F b) (v0 v1 v2 v3 v4 v5 v6 v7 v8 : Value) : Fr F a (set9 w b v0 v1 v2 v3 v4 v5 v6 v7 v8) :=
  ((((((((h.set (p := ⟨b, 0, none⟩) hb v0).set (p := ⟨b, 1, none⟩) hb v1).set (p := ⟨b, 2, none⟩) hb v2).set (p := ⟨b, 3, none⟩) hb v3).set (p := ⟨b, 4, none⟩) hb v4).set (p := ⟨b, 5, none⟩) hb v5).set (p := ⟨b, 6, none⟩) hb v6).set (p := ⟨b, 7, none⟩) hb v7).set (p := ⟨b, 8, none⟩) hb v8
/-- Where Take stands: the result's block, the operation's, the reader. -/
def TkS (w W : World) (b qb : Nat) (qc : Array Value) (rr : Rd) : Prop :=
  Own W w.heap.size 39 #[.int .i64 0, .int .u64 0, .int .i64 0, .int .u64 0, .int .u64 0, .string ⟨#[]⟩, .bool false, .string ⟨#[]⟩, .int .i64 0] ∧ Own W qb 39 qc ∧ OwnR W b rr ∧ Fr (· = b) w W ∧ b < w.heap.size ∧ w.heap.size < qb
theorem TkS.call {w W W' : World} {b qb : Nat} {qc : Array Value} {rr rr' : Rd} (h : TkS w W b qb qc rr) (o : OwnR W' b rr') (g : Fr (· = b) W W') : TkS w W' b qb qc rr' := by
  obtain ⟨h0, h1, h2, h3, h4, h5⟩ := h
  exact ⟨h0.fr g (fun e => by have e : w.heap.size = b := e; omega), h1.fr g (fun e => by have e : qb = b := e; omega), o, Fr.trans h3 g fun _ _ e => e, h4, h5⟩
theorem TkS.put {w W : World} {b qb : Nat} {qc qc' : Array Value} {rr : Rd} (h : TkS w W b qb qc rr) {i : Nat} {u : Value} (e : qc.setIfInBounds i u = qc') : TkS w (W.setCell ⟨qb, i, none⟩ u) b qb qc' rr := by
  obtain ⟨h0, h1, h2, h3, h4, h5⟩ := h
  exact ⟨h0.off (fun e => by have e : w.heap.size = qb := e; omega), h1.put e, Own.off (fun e => by have e : b = qb := e; omega) h2, h3.set (fun hh => by simp only at hh; omega) _, h4, h5⟩
def noOp : OpV := ⟨0, 0, 0, 0, 0, .empty, false, .empty, 0⟩
/-- What Take does at its end. -/
def finOp (r : Rd) (o : OpV) : Rd × OpV :=
  if r.err = 0 then (if opCheck o = 0 then (r, o) else (r.withErr (opCheck o), noOp)) else (r, noOp)
/-- What Take takes. -/
def rOp (r : Rd) : Rd × OpV :=
  let a1 := rNumber r 1
  let a2 := rTake a1.1
  let a3 := rNumber a2.1 8
  if a1.2 = 1 then
    let a4 := rBool a3.1
    let a5 := rNumber a4.1 8
    let a6 := rText a5.1 32
    finOp a6.1 ⟨1, a2.2.1.toNat, a2.2.2, a3.2, a5.2, a6.2, a4.2, .empty, 0⟩
  else if a1.2 = 2 then
    let a5 := rNumber a3.1 8
    let a6 := rText a5.1 32
    finOp a6.1 ⟨2, a2.2.1.toNat, a2.2.2, a3.2, a5.2, a6.2, false, .empty, 0⟩
  else if a1.2 = 4 then
    let a4 := rBytes a3.1 32
    let a5 := rCount a4.1 8192
    finOp a5.1 ⟨4, a2.2.1.toNat, a2.2.2, a3.2, 0, .empty, false, a4.2, a5.2⟩
  else finOp a3.1 ⟨a1.2, a2.2.1.toNat, a2.2.2, a3.2, 0, .empty, false, .empty, 0⟩
theorem rBytes_le {r : Rd} (h : r.ok) (n : Int) : (rBytes r n).2.size ≤ 9223372036854775807 := by
  have hb := h.1
  unfold rBytes
  repeat' split
  all_goals first | (show (ByteArray.empty).size ≤ _; decide) | (simp only [ByteArray.size_extract]; omega)
theorem rText_le {r : Rd} (h : r.ok) (n : Int) : (rText r n).2.size ≤ 9223372036854775807 := by
  have h1 := rCount_ok h n
  have h2 := rBytes_le h1 (rCount r n).2
  unfold rText
  repeat' split
  all_goals first | exact h2 | (show (ByteArray.empty).size ≤ _; decide) | (simp only [ByteArray.size_extract]; omega)
theorem rNumber_le (r : Rd) (k : Nat) (h : r.ok) (hk : k ≤ 8) : (rNumber r k).2 ≤ 18446744073709551615 := by
  have := rNumber_bound r k h hk
  have h2 : 16 ^ (2 * k) ≤ 16 ^ 16 := Nat.pow_le_pow_right (by omega) (by omega)
  have h3 : (16 : Nat) ^ 16 = 18446744073709551616 := by decide
  omega
theorem rTake_nat (r : Rd) (hr : r.ok) : ∃ c : Nat, (rTake r).2.1 = (c : Int) ∧ c ≤ 18446744073709551615 := by
  obtain ⟨p1, e1, p2, e2, c, n, h1, h2, hc, hn, k1, k2, hT⟩ := take_steps r hr
  rw [hT]
  split
  · split
    · exact ⟨c, rfl, hc⟩
    · exact ⟨0, rfl, by omega⟩
  · exact ⟨0, rfl, by omega⟩
set_option maxRecDepth 100000 in
set_option maxHeartbeats 8000000 in
theorem opTake_none {b : Nat} {r : Rd} {w : World} (h : OwnR w b r) (hr : r.ok) (hk : ¬ (rNumber r 1).2 = 1 ∧ ¬ (rNumber r 1).2 = 2 ∧ ¬ (rNumber r 1).2 = 4) :
    Calls Try.prog 72 #[.pointer (some ⟨b, 0, none⟩)] w fun e w' => e = .returned (rOp r).2.val ∧ OwnR w' b (rOp r).1 ∧ Fr (· = b) w w' := by
  obtain ⟨r1, k, e1⟩ : ∃ r1 k, rNumber r 1 = (r1, k) := ⟨_, _, rfl⟩
  have k1 : r1.ok := by have := rNumber_ok hr 1; rw [e1] at this; exact this
  have b1 : k ≤ 18446744073709551615 := by have := rNumber_le r 1 hr (by omega); rw [show ((1 : Nat) : Int) = 1 from rfl, e1] at this; exact this
  have b1' : k < 256 := by have := rNumber_bound r 1 hr (by omega); rw [show ((1 : Nat) : Int) = 1 from rfl, e1] at this; exact this
  have hk' : ¬ k = 1 ∧ ¬ k = 2 ∧ ¬ k = 4 := by rw [e1] at hk; exact hk
  obtain ⟨c, hc, bc⟩ := rTake_nat r1 k1
  obtain ⟨r2, who, e2⟩ : ∃ r2 who, rTake r1 = (r2, (c : Int), who) := ⟨(rTake r1).1, (rTake r1).2.2, by rw [← hc]⟩
  have k2 : r2.ok := by have := rTake_ok k1; rw [e2] at this; exact this
  obtain ⟨r3, th, e3⟩ : ∃ r3 th, rNumber r2 8 = (r3, th) := ⟨_, _, rfl⟩
  have k3 : r3.ok := by have := rNumber_ok k2 8; rw [e3] at this; exact this
  have b3 : th ≤ 18446744073709551615 := by have := rNumber_le r2 8 k2 (by omega); rw [show ((8 : Nat) : Int) = 8 from rfl, e3] at this; exact this
  have C1 := Lib.hid (fun ww (hh : OwnR ww b r) => rdNumber_any hh hr 1)
  have C2 := Lib.hid (fun ww (hh : OwnR ww b r1) => take_any hh k1)
  have C3 := Lib.hid (fun ww (hh : OwnR ww b r2) => rdNumber_any hh k2 8)
  rw [e1] at C1
  rw [e2] at C2
  rw [e3] at C3

  obtain ⟨v, hv⟩ : ∃ v, opCheck (OpV.mk k c who th 0 .empty false .empty 0) = v := ⟨_, rfl⟩
  have HF : Hid (rOp r = finOp r3 (OpV.mk k c who th 0 .empty false .empty 0)) := by
    show _ = _
    unfold rOp
    simp only [e1, e2, e3, Int.toNat_natCast, hk', if_neg, not_false_eq_true]
    try rfl
  have CK := Lib.hid (fun ww => opCheck_any k c who th 0 .empty false .empty 0 b3 (by first | exact b5 | omega) (by first | (show (ByteArray.empty).size ≤ _; decide) | (unfold maxLen; omega)) (by first | (show (ByteArray.empty).size ≤ _; decide) | (unfold maxLen; omega)) ww)
  rw [hv] at CK
  have hlt := Own.lt h
  have hv3 := opCheck_cases (OpV.mk k c who th 0 .empty false .empty 0)
  rw [hv] at hv3
  have HV := Lib.hid hv
  obtain ⟨ef, hef⟩ : ∃ ef, Rd.err r3 = ef := ⟨_, rfl⟩
  have HE := Lib.hid hef
  have hcase : (ef = 0 ∧ v = 0) ∨ (ef = 0 ∧ (v == 0) = false) ∨ (ef == 0) = false := by
    by_cases e : ef = 0
    · by_cases e' : v = 0
      · exact .inl ⟨e, e'⟩
      · exact .inr (.inl ⟨e, by simpa using e'⟩)
    · exact .inr (.inr (by simpa using e))
  clear hv hef hv3 e1 e2 e3 hc
  rcases hcase with ⟨rfl, rfl⟩ | ⟨rfl, hv0⟩ | he0
  · go_enter Try.func72, Try.ntmps72
    have z0 := Own.fresh w 39 #[.int .i64 0, .int .u64 0, .int .i64 0, .int .u64 0, .int .u64 0, .string ⟨#[]⟩, .bool false, .string ⟨#[]⟩, .int .i64 0]
    have n0 : Fr (· = b) w (w.alloc (.cells #[.int .i64 0, .int .u64 0, .int .i64 0, .int .u64 0, .int .u64 0, .string ⟨#[]⟩, .bool false, .string ⟨#[]⟩, .int .i64 0] 39)) := (Fr.refl _ _).alloc _
    go_wp2_with fail
    refine (C1.out _ (Own.alloc h _)).mono ?_
    rintro e w1 ⟨rfl, o1, g1⟩
    have z1 := z0.fr g1 (by show ¬ (_ = _); omega)
    have n1 := Fr.trans n0 g1 fun _ _ e => e
    go_wp2_with fail
    refine (C2.out _ o1).mono ?_
    rintro e w2 ⟨rfl, o2, g2⟩
    have z2 := z1.fr g2 (by show ¬ (_ = _); omega)
    have n2 := Fr.trans n1 g2 fun _ _ e => e
    go_wp2_with fail
    refine (C3.out _ o2).mono ?_
    rintro e w3 ⟨rfl, o3, g3⟩
    have z3 := z2.fr g3 (by show ¬ (_ = _); omega)
    have n3 := Fr.trans n2 g3 fun _ _ e => e
    have lz3 := z3.lt
    have lb3 := Own.lt o3
    clear z0 z1 z2 n0 n1 n2 o1 o2 g1 g2 g3
    go_wp2_with fail
    refine calls_world (fun W => TkS w W b w3.heap.size (OpV.mk k c who th 0 .empty false .empty 0).cells r3) ⟨z3.alloc _, Own.fresh _ _ _, Own.alloc o3 _, n3.alloc _, hlt, lz3⟩ ?_
    clear z3 o3 n3
    rintro W ⟨z, q, o, n, _, _⟩
    have lq := q.lt
    have lz := z.lt
    have EZ := err_any o
    rw [HE.out] at EZ
    refine EZ.mono ?_
    rintro e wq ⟨rfl, rfl⟩
    obtain ⟨d0, d1, d2, d3, d4, d5, d6, d7, d8⟩ := opCells q
    go_wp2_with fail
    refine (CK.out _).mono ?_
    rintro e w4 ⟨rfl, g4⟩
    have z4 := z.new_ g4
    have q4 := q.new_ g4
    have o4 := Own.new_ o g4
    have n4 := n.new_ g4
    clear d0 d1 d2 d3 d4 d5 d6 d7 d8 z q o n
    go_wp2_with fail
    refine (fail_any o4 _).mono ?_
    rintro e w5 ⟨rfl, o5, g5⟩
    have z5 := z4.fr g5 (by show ¬ (_ = _); omega)
    have q5 := q4.fr g5 (by show ¬ (_ = _); omega)
    have n5 := Fr.trans n4 g5 fun _ _ e => e
    clear z4 q4 o4 n4 g5
    rw [rFail_zero HE.out] at o5
    have EZ := err_any o5
    rw [HE.out] at EZ
    go_wp2_with fail
    refine EZ.mono ?_
    rintro e wq ⟨rfl, rfl⟩
    obtain ⟨d0, d1, d2, d3, d4, d5, d6, d7, d8⟩ := opCells q5
    obtain ⟨x0, x1, x2, x3, x4, x5, x6, x7, x8⟩ := opCells (k := 0) (c := 0) (who := 0) (th := 0) (par := 0) (nm := ⟨#[]⟩) (dir := false) (dig := ⟨#[]⟩) (sz := 0) z5
    obtain ⟨y0, y1, y2, y3, y4, y5, y6, y7, y8⟩ := opFree z5
    go_wp2
    refine post_world (fun W' => Own W' w.heap.size 39 #[.int .i64 k, .int .u64 c, .int .i64 who, .int .u64 th, .int .u64 0, .string .empty, .bool false, .string .empty, .int .i64 0] ∧ OwnR W' b r3 ∧ Fr (· = b) w W') ⟨z5.put9 _ _ _ _ _ _ _ _ _, Own.fr o5 (Fr.put9 (F := (· = w.heap.size)) (Fr.refl _ _) (fun _ => rfl) _ _ _ _ _ _ _ _ _) (by show ¬ (_ = _); omega), Fr.put9 n5 (fun h => by omega) _ _ _ _ _ _ _ _ _⟩ ?_
    clear x0 x1 x2 x3 x4 x5 x6 x7 x8 y0 y1 y2 y3 y4 y5 y6 y7 y8 z5 o5 n5
    rintro W' ⟨zf, of, nf⟩
    obtain ⟨x0, x1, x2, x3, x4, x5, x6, x7, x8⟩ := opCells zf
    refine bodyPost_ret (v := (OpV.mk k c who th 0 .empty false .empty 0).val) (by simp [results, Try.results72, go_sem, *]; try rfl) rfl ⟨?_, ?_, nf⟩
    · rw [HF.out]; unfold finOp; rw [if_pos HE.out, if_pos HV.out]
    · rw [HF.out]; unfold finOp; rw [if_pos HE.out, if_pos HV.out]; exact of
  · go_enter Try.func72, Try.ntmps72
    have z0 := Own.fresh w 39 #[.int .i64 0, .int .u64 0, .int .i64 0, .int .u64 0, .int .u64 0, .string ⟨#[]⟩, .bool false, .string ⟨#[]⟩, .int .i64 0]
    have n0 : Fr (· = b) w (w.alloc (.cells #[.int .i64 0, .int .u64 0, .int .i64 0, .int .u64 0, .int .u64 0, .string ⟨#[]⟩, .bool false, .string ⟨#[]⟩, .int .i64 0] 39)) := (Fr.refl _ _).alloc _
    go_wp2_with fail
    refine (C1.out _ (Own.alloc h _)).mono ?_
    rintro e w1 ⟨rfl, o1, g1⟩
    have z1 := z0.fr g1 (by show ¬ (_ = _); omega)
    have n1 := Fr.trans n0 g1 fun _ _ e => e
    go_wp2_with fail
    refine (C2.out _ o1).mono ?_
    rintro e w2 ⟨rfl, o2, g2⟩
    have z2 := z1.fr g2 (by show ¬ (_ = _); omega)
    have n2 := Fr.trans n1 g2 fun _ _ e => e
    go_wp2_with fail
    refine (C3.out _ o2).mono ?_
    rintro e w3 ⟨rfl, o3, g3⟩
    have z3 := z2.fr g3 (by show ¬ (_ = _); omega)
    have n3 := Fr.trans n2 g3 fun _ _ e => e
    have lz3 := z3.lt
    have lb3 := Own.lt o3
    clear z0 z1 z2 n0 n1 n2 o1 o2 g1 g2 g3
    go_wp2_with fail
    refine calls_world (fun W => TkS w W b w3.heap.size (OpV.mk k c who th 0 .empty false .empty 0).cells r3) ⟨z3.alloc _, Own.fresh _ _ _, Own.alloc o3 _, n3.alloc _, hlt, lz3⟩ ?_
    clear z3 o3 n3
    rintro W ⟨z, q, o, n, _, _⟩
    have lq := q.lt
    have lz := z.lt
    have EZ := err_any o
    rw [HE.out] at EZ
    refine EZ.mono ?_
    rintro e wq ⟨rfl, rfl⟩
    obtain ⟨d0, d1, d2, d3, d4, d5, d6, d7, d8⟩ := opCells q
    go_wp2_with fail
    refine (CK.out _).mono ?_
    rintro e w4 ⟨rfl, g4⟩
    have z4 := z.new_ g4
    have q4 := q.new_ g4
    have o4 := Own.new_ o g4
    have n4 := n.new_ g4
    clear d0 d1 d2 d3 d4 d5 d6 d7 d8 z q o n
    go_wp2_with fail
    refine (fail_any o4 _).mono ?_
    rintro e w5 ⟨rfl, o5, g5⟩
    have z5 := z4.fr g5 (by show ¬ (_ = _); omega)
    have q5 := q4.fr g5 (by show ¬ (_ = _); omega)
    have n5 := Fr.trans n4 g5 fun _ _ e => e
    clear z4 q4 o4 n4 g5
    rw [rFail_err HE.out] at o5
    have EZ := err_any o5
    rw [show (Rd.withErr r3 v).err = v from rfl] at EZ
    have hvn : (v != 0) = true := by rw [bne, hv0]; rfl
    go_wp2_with fail
    refine EZ.mono ?_
    rintro e wq ⟨rfl, rfl⟩
    obtain ⟨x0, x1, x2, x3, x4, x5, x6, x7, x8⟩ := opCells (k := 0) (c := 0) (who := 0) (th := 0) (par := 0) (nm := ⟨#[]⟩) (dir := false) (dig := ⟨#[]⟩) (sz := 0) z5
    obtain ⟨y0, y1, y2, y3, y4, y5, y6, y7, y8⟩ := opFree z5
    go_wp2
    refine post_world (fun W' => Own W' w.heap.size 39 #[.int .i64 0, .int .u64 0, .int .i64 0, .int .u64 0, .int .u64 0, .string ⟨#[]⟩, .bool false, .string ⟨#[]⟩, .int .i64 0] ∧ OwnR W' b (Rd.withErr r3 v) ∧ Fr (· = b) w W') ⟨z5.put9 _ _ _ _ _ _ _ _ _, Own.fr o5 (Fr.put9 (F := (· = w.heap.size)) (Fr.refl _ _) (fun _ => rfl) _ _ _ _ _ _ _ _ _) (by show ¬ (_ = _); omega), Fr.put9 n5 (fun h => by omega) _ _ _ _ _ _ _ _ _⟩ ?_
    clear x0 x1 x2 x3 x4 x5 x6 x7 x8 y0 y1 y2 y3 y4 y5 y6 y7 y8 z5 o5 n5
    rintro W' ⟨zf, of, nf⟩
    obtain ⟨x0, x1, x2, x3, x4, x5, x6, x7, x8⟩ := opCells (k := 0) (c := 0) (who := 0) (th := 0) (par := 0) (nm := ⟨#[]⟩) (dir := false) (dig := ⟨#[]⟩) (sz := 0) zf
    refine bodyPost_ret (v := .agg #[.int .i64 0, .int .u64 0, .int .i64 0, .int .u64 0, .int .u64 0, .string ⟨#[]⟩, .bool false, .string ⟨#[]⟩, .int .i64 0]) (by simp [results, Try.results72, go_sem, *]) rfl ⟨?_, ?_, nf⟩
    · rw [HF.out]; unfold finOp; rw [if_pos HE.out, if_neg (by rw [HV.out]; simpa using hv0)]; try rw [HV.out]; try rfl
    · rw [HF.out]; unfold finOp; rw [if_pos HE.out, if_neg (by rw [HV.out]; simpa using hv0)]; try rw [HV.out]; exact of
  · go_enter Try.func72, Try.ntmps72
    have z0 := Own.fresh w 39 #[.int .i64 0, .int .u64 0, .int .i64 0, .int .u64 0, .int .u64 0, .string ⟨#[]⟩, .bool false, .string ⟨#[]⟩, .int .i64 0]
    have n0 : Fr (· = b) w (w.alloc (.cells #[.int .i64 0, .int .u64 0, .int .i64 0, .int .u64 0, .int .u64 0, .string ⟨#[]⟩, .bool false, .string ⟨#[]⟩, .int .i64 0] 39)) := (Fr.refl _ _).alloc _
    go_wp2_with fail
    refine (C1.out _ (Own.alloc h _)).mono ?_
    rintro e w1 ⟨rfl, o1, g1⟩
    have z1 := z0.fr g1 (by show ¬ (_ = _); omega)
    have n1 := Fr.trans n0 g1 fun _ _ e => e
    go_wp2_with fail
    refine (C2.out _ o1).mono ?_
    rintro e w2 ⟨rfl, o2, g2⟩
    have z2 := z1.fr g2 (by show ¬ (_ = _); omega)
    have n2 := Fr.trans n1 g2 fun _ _ e => e
    go_wp2_with fail
    refine (C3.out _ o2).mono ?_
    rintro e w3 ⟨rfl, o3, g3⟩
    have z3 := z2.fr g3 (by show ¬ (_ = _); omega)
    have n3 := Fr.trans n2 g3 fun _ _ e => e
    have lz3 := z3.lt
    have lb3 := Own.lt o3
    clear z0 z1 z2 n0 n1 n2 o1 o2 g1 g2 g3
    go_wp2_with fail
    refine calls_world (fun W => TkS w W b w3.heap.size (OpV.mk k c who th 0 .empty false .empty 0).cells r3) ⟨z3.alloc _, Own.fresh _ _ _, Own.alloc o3 _, n3.alloc _, hlt, lz3⟩ ?_
    clear z3 o3 n3
    rintro W ⟨z, q, o, n, _, _⟩
    have lq := q.lt
    have lz := z.lt
    have EZ := err_any o
    rw [HE.out] at EZ
    have hvn : (ef != 0) = true := by rw [bne, he0]; rfl
    refine EZ.mono ?_
    rintro e wq ⟨rfl, rfl⟩
    go_wp2_with fail
    have EZ := err_any o
    rw [HE.out] at EZ
    refine EZ.mono ?_
    rintro e wq ⟨rfl, rfl⟩
    have z5 := z
    have o5 := o
    have n5 := n
    obtain ⟨x0, x1, x2, x3, x4, x5, x6, x7, x8⟩ := opCells (k := 0) (c := 0) (who := 0) (th := 0) (par := 0) (nm := ⟨#[]⟩) (dir := false) (dig := ⟨#[]⟩) (sz := 0) z5
    obtain ⟨y0, y1, y2, y3, y4, y5, y6, y7, y8⟩ := opFree z5
    go_wp2
    refine post_world (fun W' => Own W' w.heap.size 39 #[.int .i64 0, .int .u64 0, .int .i64 0, .int .u64 0, .int .u64 0, .string ⟨#[]⟩, .bool false, .string ⟨#[]⟩, .int .i64 0] ∧ OwnR W' b r3 ∧ Fr (· = b) w W') ⟨z5.put9 _ _ _ _ _ _ _ _ _, Own.fr o5 (Fr.put9 (F := (· = w.heap.size)) (Fr.refl _ _) (fun _ => rfl) _ _ _ _ _ _ _ _ _) (by show ¬ (_ = _); omega), Fr.put9 n5 (fun h => by omega) _ _ _ _ _ _ _ _ _⟩ ?_
    clear x0 x1 x2 x3 x4 x5 x6 x7 x8 y0 y1 y2 y3 y4 y5 y6 y7 y8 z5 o5 n5
    rintro W' ⟨zf, of, nf⟩
    obtain ⟨x0, x1, x2, x3, x4, x5, x6, x7, x8⟩ := opCells (k := 0) (c := 0) (who := 0) (th := 0) (par := 0) (nm := ⟨#[]⟩) (dir := false) (dig := ⟨#[]⟩) (sz := 0) zf
    refine bodyPost_ret (v := .agg #[.int .i64 0, .int .u64 0, .int .i64 0, .int .u64 0, .int .u64 0, .string ⟨#[]⟩, .bool false, .string ⟨#[]⟩, .int .i64 0]) (by simp [results, Try.results72, go_sem, *]) rfl ⟨?_, ?_, nf⟩
    · rw [HF.out]; unfold finOp; rw [if_neg (by rw [HE.out]; simpa using he0)]; try rfl
    · rw [HF.out]; unfold finOp; rw [if_neg (by rw [HE.out]; simpa using he0)]; exact of
set_option maxRecDepth 100000 in
set_option maxHeartbeats 8000000 in
theorem opTake_one {b : Nat} {r : Rd} {w : World} (h : OwnR w b r) (hr : r.ok) (hk : (rNumber r 1).2 = 1) :
    Calls Try.prog 72 #[.pointer (some ⟨b, 0, none⟩)] w fun e w' => e = .returned (rOp r).2.val ∧ OwnR w' b (rOp r).1 ∧ Fr (· = b) w w' := by
  obtain ⟨r1, k, e1⟩ : ∃ r1 k, rNumber r 1 = (r1, k) := ⟨_, _, rfl⟩
  have k1 : r1.ok := by have := rNumber_ok hr 1; rw [e1] at this; exact this
  have b1 : k ≤ 18446744073709551615 := by have := rNumber_le r 1 hr (by omega); rw [show ((1 : Nat) : Int) = 1 from rfl, e1] at this; exact this
  have b1' : k < 256 := by have := rNumber_bound r 1 hr (by omega); rw [show ((1 : Nat) : Int) = 1 from rfl, e1] at this; exact this
  have hk' : k = 1 := by rw [e1] at hk; exact hk
  subst hk'
  obtain ⟨c, hc, bc⟩ := rTake_nat r1 k1
  obtain ⟨r2, who, e2⟩ : ∃ r2 who, rTake r1 = (r2, (c : Int), who) := ⟨(rTake r1).1, (rTake r1).2.2, by rw [← hc]⟩
  have k2 : r2.ok := by have := rTake_ok k1; rw [e2] at this; exact this
  obtain ⟨r3, th, e3⟩ : ∃ r3 th, rNumber r2 8 = (r3, th) := ⟨_, _, rfl⟩
  have k3 : r3.ok := by have := rNumber_ok k2 8; rw [e3] at this; exact this
  have b3 : th ≤ 18446744073709551615 := by have := rNumber_le r2 8 k2 (by omega); rw [show ((8 : Nat) : Int) = 8 from rfl, e3] at this; exact this
  have C1 := Lib.hid (fun ww (hh : OwnR ww b r) => rdNumber_any hh hr 1)
  have C2 := Lib.hid (fun ww (hh : OwnR ww b r1) => take_any hh k1)
  have C3 := Lib.hid (fun ww (hh : OwnR ww b r2) => rdNumber_any hh k2 8)
  rw [e1] at C1
  rw [e2] at C2
  rw [e3] at C3
  obtain ⟨r4, dir, e4⟩ : ∃ a b, rBool r3 = (a, b) := ⟨_, _, rfl⟩
  have k4 : r4.ok := by have := rBool_ok k3; rw [e4] at this; exact this
  obtain ⟨r5, par, e5⟩ : ∃ a b, rNumber r4 8 = (a, b) := ⟨_, _, rfl⟩
  have k5 : r5.ok := by have := rNumber_ok k4 8; rw [e5] at this; exact this
  have b5 : par ≤ 18446744073709551615 := by have := rNumber_le r4 8 k4 (by omega); rw [show ((8 : Nat) : Int) = 8 from rfl, e5] at this; exact this
  obtain ⟨r6, nm, e6⟩ : ∃ a b, rText r5 32 = (a, b) := ⟨_, _, rfl⟩
  have k6 : r6.ok := by have := rText_ok k5 32; rw [e6] at this; exact this
  have hn : nm.size ≤ 9223372036854775807 := by have := rText_le k5 32; rw [e6] at this; exact this
  have C4 := Lib.hid (fun ww (hh : OwnR ww b r3) => bool_any hh k3)
  rw [e4] at C4
  have C5 := Lib.hid (fun ww (hh : OwnR ww b r4) => rdNumber_any hh k4 8)
  rw [e5] at C5
  have C6 := Lib.hid (fun ww (hh : OwnR ww b r5) => text_any hh k5 32 (by omega))
  rw [e6] at C6
  obtain ⟨v, hv⟩ : ∃ v, opCheck (OpV.mk 1 c who th par nm dir .empty 0) = v := ⟨_, rfl⟩
  have HF : Hid (rOp r = finOp r6 (OpV.mk 1 c who th par nm dir .empty 0)) := by
    show _ = _
    unfold rOp
    simp only [e1, e2, e3, e4, e5, e6, Int.toNat_natCast, if_pos]
    try rfl
  have CK := Lib.hid (fun ww => opCheck_any 1 c who th par nm dir .empty 0 b3 (by first | exact b5 | omega) (by first | (show (ByteArray.empty).size ≤ _; decide) | (unfold maxLen; omega)) (by first | (show (ByteArray.empty).size ≤ _; decide) | (unfold maxLen; omega)) ww)
  rw [hv] at CK
  have hlt := Own.lt h
  have hv3 := opCheck_cases (OpV.mk 1 c who th par nm dir .empty 0)
  rw [hv] at hv3
  have HV := Lib.hid hv
  obtain ⟨ef, hef⟩ : ∃ ef, Rd.err r6 = ef := ⟨_, rfl⟩
  have HE := Lib.hid hef
  have hcase : (ef = 0 ∧ v = 0) ∨ (ef = 0 ∧ (v == 0) = false) ∨ (ef == 0) = false := by
    by_cases e : ef = 0
    · by_cases e' : v = 0
      · exact .inl ⟨e, e'⟩
      · exact .inr (.inl ⟨e, by simpa using e'⟩)
    · exact .inr (.inr (by simpa using e))
  clear hv hef hv3 e1 e2 e3 hc e4 e5 e6
  rcases hcase with ⟨rfl, rfl⟩ | ⟨rfl, hv0⟩ | he0
  · go_enter Try.func72, Try.ntmps72
    have z0 := Own.fresh w 39 #[.int .i64 0, .int .u64 0, .int .i64 0, .int .u64 0, .int .u64 0, .string ⟨#[]⟩, .bool false, .string ⟨#[]⟩, .int .i64 0]
    have n0 : Fr (· = b) w (w.alloc (.cells #[.int .i64 0, .int .u64 0, .int .i64 0, .int .u64 0, .int .u64 0, .string ⟨#[]⟩, .bool false, .string ⟨#[]⟩, .int .i64 0] 39)) := (Fr.refl _ _).alloc _
    go_wp2_with fail
    refine (C1.out _ (Own.alloc h _)).mono ?_
    rintro e w1 ⟨rfl, o1, g1⟩
    have z1 := z0.fr g1 (by show ¬ (_ = _); omega)
    have n1 := Fr.trans n0 g1 fun _ _ e => e
    go_wp2_with fail
    refine (C2.out _ o1).mono ?_
    rintro e w2 ⟨rfl, o2, g2⟩
    have z2 := z1.fr g2 (by show ¬ (_ = _); omega)
    have n2 := Fr.trans n1 g2 fun _ _ e => e
    go_wp2_with fail
    refine (C3.out _ o2).mono ?_
    rintro e w3 ⟨rfl, o3, g3⟩
    have z3 := z2.fr g3 (by show ¬ (_ = _); omega)
    have n3 := Fr.trans n2 g3 fun _ _ e => e
    have lz3 := z3.lt
    have lb3 := Own.lt o3
    clear z0 z1 z2 n0 n1 n2 o1 o2 g1 g2 g3
    go_wp2_with fail
    refine calls_world (fun W => TkS w W b w3.heap.size (OpV.mk 1 c who th 0 .empty false .empty 0).cells r3) ⟨z3.alloc _, Own.fresh _ _ _, Own.alloc o3 _, n3.alloc _, hlt, lz3⟩ ?_
    clear z3 o3 n3
    rintro W1 s1
    refine (C4.out _ s1.2.2.1).mono ?_
    rintro e W2 ⟨rfl, o, g⟩
    have s2 := s1.call o g
    clear o g s1
    obtain ⟨d0, d1, d2, d3, d4, d5, d6, d7, d8⟩ := opCells s2.2.1
    obtain ⟨y0, y1, y2, y3, y4, y5, y6, y7, y8⟩ := opFree s2.2.1
    go_wp2_with fail
    refine calls_world (fun W => TkS w W b w3.heap.size (OpV.mk 1 c who th 0 .empty dir .empty 0).cells r4) (s2.put rfl) ?_
    clear d0 d1 d2 d3 d4 d5 d6 d7 d8 y0 y1 y2 y3 y4 y5 y6 y7 y8 s2
    rintro W3 s3
    refine (C5.out _ s3.2.2.1).mono ?_
    rintro e W4 ⟨rfl, o, g⟩
    have s4 := s3.call o g
    clear o g s3
    go_wp2_with fail
    refine (C6.out _ s4.2.2.1).mono ?_
    rintro e W5 ⟨rfl, o, g⟩
    have s5 := s4.call o g
    clear o g s4
    obtain ⟨d0, d1, d2, d3, d4, d5, d6, d7, d8⟩ := opCells s5.2.1
    obtain ⟨y0, y1, y2, y3, y4, y5, y6, y7, y8⟩ := opFree s5.2.1
    go_wp2_with fail
    refine calls_world (fun W => TkS w W b w3.heap.size (OpV.mk 1 c who th par nm dir .empty 0).cells r6) ((s5.put rfl).put rfl) ?_
    clear d0 d1 d2 d3 d4 d5 d6 d7 d8 y0 y1 y2 y3 y4 y5 y6 y7 y8 s5
    rintro W ⟨z, q, o, n, _, _⟩
    have lq := q.lt
    have lz := z.lt
    have EZ := err_any o
    rw [HE.out] at EZ
    refine EZ.mono ?_
    rintro e wq ⟨rfl, rfl⟩
    obtain ⟨d0, d1, d2, d3, d4, d5, d6, d7, d8⟩ := opCells q
    go_wp2_with fail
    refine (CK.out _).mono ?_
    rintro e w4 ⟨rfl, g4⟩
    have z4 := z.new_ g4
    have q4 := q.new_ g4
    have o4 := Own.new_ o g4
    have n4 := n.new_ g4
    clear d0 d1 d2 d3 d4 d5 d6 d7 d8 z q o n
    go_wp2_with fail
    refine (fail_any o4 _).mono ?_
    rintro e w5 ⟨rfl, o5, g5⟩
    have z5 := z4.fr g5 (by show ¬ (_ = _); omega)
    have q5 := q4.fr g5 (by show ¬ (_ = _); omega)
    have n5 := Fr.trans n4 g5 fun _ _ e => e
    clear z4 q4 o4 n4 g5
    rw [rFail_zero HE.out] at o5
    have EZ := err_any o5
    rw [HE.out] at EZ
    go_wp2_with fail
    refine EZ.mono ?_
    rintro e wq ⟨rfl, rfl⟩
    obtain ⟨d0, d1, d2, d3, d4, d5, d6, d7, d8⟩ := opCells q5
    obtain ⟨x0, x1, x2, x3, x4, x5, x6, x7, x8⟩ := opCells (k := 0) (c := 0) (who := 0) (th := 0) (par := 0) (nm := ⟨#[]⟩) (dir := false) (dig := ⟨#[]⟩) (sz := 0) z5
    obtain ⟨y0, y1, y2, y3, y4, y5, y6, y7, y8⟩ := opFree z5
    go_wp2
    refine post_world (fun W' => Own W' w.heap.size 39 #[.int .i64 1, .int .u64 c, .int .i64 who, .int .u64 th, .int .u64 par, .string nm, .bool dir, .string .empty, .int .i64 0] ∧ OwnR W' b r6 ∧ Fr (· = b) w W') ⟨z5.put9 _ _ _ _ _ _ _ _ _, Own.fr o5 (Fr.put9 (F := (· = w.heap.size)) (Fr.refl _ _) (fun _ => rfl) _ _ _ _ _ _ _ _ _) (by show ¬ (_ = _); omega), Fr.put9 n5 (fun h => by omega) _ _ _ _ _ _ _ _ _⟩ ?_
    clear x0 x1 x2 x3 x4 x5 x6 x7 x8 y0 y1 y2 y3 y4 y5 y6 y7 y8 z5 o5 n5
    rintro W' ⟨zf, of, nf⟩
    obtain ⟨x0, x1, x2, x3, x4, x5, x6, x7, x8⟩ := opCells zf
    refine bodyPost_ret (v := (OpV.mk 1 c who th par nm dir .empty 0).val) (by simp [results, Try.results72, go_sem, *]; try rfl) rfl ⟨?_, ?_, nf⟩
    · rw [HF.out]; unfold finOp; rw [if_pos HE.out, if_pos HV.out]
    · rw [HF.out]; unfold finOp; rw [if_pos HE.out, if_pos HV.out]; exact of
  · go_enter Try.func72, Try.ntmps72
    have z0 := Own.fresh w 39 #[.int .i64 0, .int .u64 0, .int .i64 0, .int .u64 0, .int .u64 0, .string ⟨#[]⟩, .bool false, .string ⟨#[]⟩, .int .i64 0]
    have n0 : Fr (· = b) w (w.alloc (.cells #[.int .i64 0, .int .u64 0, .int .i64 0, .int .u64 0, .int .u64 0, .string ⟨#[]⟩, .bool false, .string ⟨#[]⟩, .int .i64 0] 39)) := (Fr.refl _ _).alloc _
    go_wp2_with fail
    refine (C1.out _ (Own.alloc h _)).mono ?_
    rintro e w1 ⟨rfl, o1, g1⟩
    have z1 := z0.fr g1 (by show ¬ (_ = _); omega)
    have n1 := Fr.trans n0 g1 fun _ _ e => e
    go_wp2_with fail
    refine (C2.out _ o1).mono ?_
    rintro e w2 ⟨rfl, o2, g2⟩
    have z2 := z1.fr g2 (by show ¬ (_ = _); omega)
    have n2 := Fr.trans n1 g2 fun _ _ e => e
    go_wp2_with fail
    refine (C3.out _ o2).mono ?_
    rintro e w3 ⟨rfl, o3, g3⟩
    have z3 := z2.fr g3 (by show ¬ (_ = _); omega)
    have n3 := Fr.trans n2 g3 fun _ _ e => e
    have lz3 := z3.lt
    have lb3 := Own.lt o3
    clear z0 z1 z2 n0 n1 n2 o1 o2 g1 g2 g3
    go_wp2_with fail
    refine calls_world (fun W => TkS w W b w3.heap.size (OpV.mk 1 c who th 0 .empty false .empty 0).cells r3) ⟨z3.alloc _, Own.fresh _ _ _, Own.alloc o3 _, n3.alloc _, hlt, lz3⟩ ?_
    clear z3 o3 n3
    rintro W1 s1
    refine (C4.out _ s1.2.2.1).mono ?_
    rintro e W2 ⟨rfl, o, g⟩
    have s2 := s1.call o g
    clear o g s1
    obtain ⟨d0, d1, d2, d3, d4, d5, d6, d7, d8⟩ := opCells s2.2.1
    obtain ⟨y0, y1, y2, y3, y4, y5, y6, y7, y8⟩ := opFree s2.2.1
    go_wp2_with fail
    refine calls_world (fun W => TkS w W b w3.heap.size (OpV.mk 1 c who th 0 .empty dir .empty 0).cells r4) (s2.put rfl) ?_
    clear d0 d1 d2 d3 d4 d5 d6 d7 d8 y0 y1 y2 y3 y4 y5 y6 y7 y8 s2
    rintro W3 s3
    refine (C5.out _ s3.2.2.1).mono ?_
    rintro e W4 ⟨rfl, o, g⟩
    have s4 := s3.call o g
    clear o g s3
    go_wp2_with fail
    refine (C6.out _ s4.2.2.1).mono ?_
    rintro e W5 ⟨rfl, o, g⟩
    have s5 := s4.call o g
    clear o g s4
    obtain ⟨d0, d1, d2, d3, d4, d5, d6, d7, d8⟩ := opCells s5.2.1
    obtain ⟨y0, y1, y2, y3, y4, y5, y6, y7, y8⟩ := opFree s5.2.1
    go_wp2_with fail
    refine calls_world (fun W => TkS w W b w3.heap.size (OpV.mk 1 c who th par nm dir .empty 0).cells r6) ((s5.put rfl).put rfl) ?_
    clear d0 d1 d2 d3 d4 d5 d6 d7 d8 y0 y1 y2 y3 y4 y5 y6 y7 y8 s5
    rintro W ⟨z, q, o, n, _, _⟩
    have lq := q.lt
    have lz := z.lt
    have EZ := err_any o
    rw [HE.out] at EZ
    refine EZ.mono ?_
    rintro e wq ⟨rfl, rfl⟩
    obtain ⟨d0, d1, d2, d3, d4, d5, d6, d7, d8⟩ := opCells q
    go_wp2_with fail
    refine (CK.out _).mono ?_
    rintro e w4 ⟨rfl, g4⟩
    have z4 := z.new_ g4
    have q4 := q.new_ g4
    have o4 := Own.new_ o g4
    have n4 := n.new_ g4
    clear d0 d1 d2 d3 d4 d5 d6 d7 d8 z q o n
    go_wp2_with fail
    refine (fail_any o4 _).mono ?_
    rintro e w5 ⟨rfl, o5, g5⟩
    have z5 := z4.fr g5 (by show ¬ (_ = _); omega)
    have q5 := q4.fr g5 (by show ¬ (_ = _); omega)
    have n5 := Fr.trans n4 g5 fun _ _ e => e
    clear z4 q4 o4 n4 g5
    rw [rFail_err HE.out] at o5
    have EZ := err_any o5
    rw [show (Rd.withErr r6 v).err = v from rfl] at EZ
    have hvn : (v != 0) = true := by rw [bne, hv0]; rfl
    go_wp2_with fail
    refine EZ.mono ?_
    rintro e wq ⟨rfl, rfl⟩
    obtain ⟨x0, x1, x2, x3, x4, x5, x6, x7, x8⟩ := opCells (k := 0) (c := 0) (who := 0) (th := 0) (par := 0) (nm := ⟨#[]⟩) (dir := false) (dig := ⟨#[]⟩) (sz := 0) z5
    obtain ⟨y0, y1, y2, y3, y4, y5, y6, y7, y8⟩ := opFree z5
    go_wp2
    refine post_world (fun W' => Own W' w.heap.size 39 #[.int .i64 0, .int .u64 0, .int .i64 0, .int .u64 0, .int .u64 0, .string ⟨#[]⟩, .bool false, .string ⟨#[]⟩, .int .i64 0] ∧ OwnR W' b (Rd.withErr r6 v) ∧ Fr (· = b) w W') ⟨z5.put9 _ _ _ _ _ _ _ _ _, Own.fr o5 (Fr.put9 (F := (· = w.heap.size)) (Fr.refl _ _) (fun _ => rfl) _ _ _ _ _ _ _ _ _) (by show ¬ (_ = _); omega), Fr.put9 n5 (fun h => by omega) _ _ _ _ _ _ _ _ _⟩ ?_
    clear x0 x1 x2 x3 x4 x5 x6 x7 x8 y0 y1 y2 y3 y4 y5 y6 y7 y8 z5 o5 n5
    rintro W' ⟨zf, of, nf⟩
    obtain ⟨x0, x1, x2, x3, x4, x5, x6, x7, x8⟩ := opCells (k := 0) (c := 0) (who := 0) (th := 0) (par := 0) (nm := ⟨#[]⟩) (dir := false) (dig := ⟨#[]⟩) (sz := 0) zf
    refine bodyPost_ret (v := .agg #[.int .i64 0, .int .u64 0, .int .i64 0, .int .u64 0, .int .u64 0, .string ⟨#[]⟩, .bool false, .string ⟨#[]⟩, .int .i64 0]) (by simp [results, Try.results72, go_sem, *]) rfl ⟨?_, ?_, nf⟩
    · rw [HF.out]; unfold finOp; rw [if_pos HE.out, if_neg (by rw [HV.out]; simpa using hv0)]; try rw [HV.out]; try rfl
    · rw [HF.out]; unfold finOp; rw [if_pos HE.out, if_neg (by rw [HV.out]; simpa using hv0)]; try rw [HV.out]; exact of
  · go_enter Try.func72, Try.ntmps72
    have z0 := Own.fresh w 39 #[.int .i64 0, .int .u64 0, .int .i64 0, .int .u64 0, .int .u64 0, .string ⟨#[]⟩, .bool false, .string ⟨#[]⟩, .int .i64 0]
    have n0 : Fr (· = b) w (w.alloc (.cells #[.int .i64 0, .int .u64 0, .int .i64 0, .int .u64 0, .int .u64 0, .string ⟨#[]⟩, .bool false, .string ⟨#[]⟩, .int .i64 0] 39)) := (Fr.refl _ _).alloc _
    go_wp2_with fail
    refine (C1.out _ (Own.alloc h _)).mono ?_
    rintro e w1 ⟨rfl, o1, g1⟩
    have z1 := z0.fr g1 (by show ¬ (_ = _); omega)
    have n1 := Fr.trans n0 g1 fun _ _ e => e
    go_wp2_with fail
    refine (C2.out _ o1).mono ?_
    rintro e w2 ⟨rfl, o2, g2⟩
    have z2 := z1.fr g2 (by show ¬ (_ = _); omega)
    have n2 := Fr.trans n1 g2 fun _ _ e => e
    go_wp2_with fail
    refine (C3.out _ o2).mono ?_
    rintro e w3 ⟨rfl, o3, g3⟩
    have z3 := z2.fr g3 (by show ¬ (_ = _); omega)
    have n3 := Fr.trans n2 g3 fun _ _ e => e
    have lz3 := z3.lt
    have lb3 := Own.lt o3
    clear z0 z1 z2 n0 n1 n2 o1 o2 g1 g2 g3
    go_wp2_with fail
    refine calls_world (fun W => TkS w W b w3.heap.size (OpV.mk 1 c who th 0 .empty false .empty 0).cells r3) ⟨z3.alloc _, Own.fresh _ _ _, Own.alloc o3 _, n3.alloc _, hlt, lz3⟩ ?_
    clear z3 o3 n3
    rintro W1 s1
    refine (C4.out _ s1.2.2.1).mono ?_
    rintro e W2 ⟨rfl, o, g⟩
    have s2 := s1.call o g
    clear o g s1
    obtain ⟨d0, d1, d2, d3, d4, d5, d6, d7, d8⟩ := opCells s2.2.1
    obtain ⟨y0, y1, y2, y3, y4, y5, y6, y7, y8⟩ := opFree s2.2.1
    go_wp2_with fail
    refine calls_world (fun W => TkS w W b w3.heap.size (OpV.mk 1 c who th 0 .empty dir .empty 0).cells r4) (s2.put rfl) ?_
    clear d0 d1 d2 d3 d4 d5 d6 d7 d8 y0 y1 y2 y3 y4 y5 y6 y7 y8 s2
    rintro W3 s3
    refine (C5.out _ s3.2.2.1).mono ?_
    rintro e W4 ⟨rfl, o, g⟩
    have s4 := s3.call o g
    clear o g s3
    go_wp2_with fail
    refine (C6.out _ s4.2.2.1).mono ?_
    rintro e W5 ⟨rfl, o, g⟩
    have s5 := s4.call o g
    clear o g s4
    obtain ⟨d0, d1, d2, d3, d4, d5, d6, d7, d8⟩ := opCells s5.2.1
    obtain ⟨y0, y1, y2, y3, y4, y5, y6, y7, y8⟩ := opFree s5.2.1
    go_wp2_with fail
    refine calls_world (fun W => TkS w W b w3.heap.size (OpV.mk 1 c who th par nm dir .empty 0).cells r6) ((s5.put rfl).put rfl) ?_
    clear d0 d1 d2 d3 d4 d5 d6 d7 d8 y0 y1 y2 y3 y4 y5 y6 y7 y8 s5
    rintro W ⟨z, q, o, n, _, _⟩
    have lq := q.lt
    have lz := z.lt
    have EZ := err_any o
    rw [HE.out] at EZ
    have hvn : (ef != 0) = true := by rw [bne, he0]; rfl
    refine EZ.mono ?_
    rintro e wq ⟨rfl, rfl⟩
    go_wp2_with fail
    have EZ := err_any o
    rw [HE.out] at EZ
    refine EZ.mono ?_
    rintro e wq ⟨rfl, rfl⟩
    have z5 := z
    have o5 := o
    have n5 := n
    obtain ⟨x0, x1, x2, x3, x4, x5, x6, x7, x8⟩ := opCells (k := 0) (c := 0) (who := 0) (th := 0) (par := 0) (nm := ⟨#[]⟩) (dir := false) (dig := ⟨#[]⟩) (sz := 0) z5
    obtain ⟨y0, y1, y2, y3, y4, y5, y6, y7, y8⟩ := opFree z5
    go_wp2
    refine post_world (fun W' => Own W' w.heap.size 39 #[.int .i64 0, .int .u64 0, .int .i64 0, .int .u64 0, .int .u64 0, .string ⟨#[]⟩, .bool false, .string ⟨#[]⟩, .int .i64 0] ∧ OwnR W' b r6 ∧ Fr (· = b) w W') ⟨z5.put9 _ _ _ _ _ _ _ _ _, Own.fr o5 (Fr.put9 (F := (· = w.heap.size)) (Fr.refl _ _) (fun _ => rfl) _ _ _ _ _ _ _ _ _) (by show ¬ (_ = _); omega), Fr.put9 n5 (fun h => by omega) _ _ _ _ _ _ _ _ _⟩ ?_
    clear x0 x1 x2 x3 x4 x5 x6 x7 x8 y0 y1 y2 y3 y4 y5 y6 y7 y8 z5 o5 n5
    rintro W' ⟨zf, of, nf⟩
    obtain ⟨x0, x1, x2, x3, x4, x5, x6, x7, x8⟩ := opCells (k := 0) (c := 0) (who := 0) (th := 0) (par := 0) (nm := ⟨#[]⟩) (dir := false) (dig := ⟨#[]⟩) (sz := 0) zf
    refine bodyPost_ret (v := .agg #[.int .i64 0, .int .u64 0, .int .i64 0, .int .u64 0, .int .u64 0, .string ⟨#[]⟩, .bool false, .string ⟨#[]⟩, .int .i64 0]) (by simp [results, Try.results72, go_sem, *]) rfl ⟨?_, ?_, nf⟩
    · rw [HF.out]; unfold finOp; rw [if_neg (by rw [HE.out]; simpa using he0)]; try rfl
    · rw [HF.out]; unfold finOp; rw [if_neg (by rw [HE.out]; simpa using he0)]; exact of
set_option maxRecDepth 100000 in
set_option maxHeartbeats 8000000 in
theorem opTake_two {b : Nat} {r : Rd} {w : World} (h : OwnR w b r) (hr : r.ok) (hk : (rNumber r 1).2 = 2) :
    Calls Try.prog 72 #[.pointer (some ⟨b, 0, none⟩)] w fun e w' => e = .returned (rOp r).2.val ∧ OwnR w' b (rOp r).1 ∧ Fr (· = b) w w' := by
  obtain ⟨r1, k, e1⟩ : ∃ r1 k, rNumber r 1 = (r1, k) := ⟨_, _, rfl⟩
  have k1 : r1.ok := by have := rNumber_ok hr 1; rw [e1] at this; exact this
  have b1 : k ≤ 18446744073709551615 := by have := rNumber_le r 1 hr (by omega); rw [show ((1 : Nat) : Int) = 1 from rfl, e1] at this; exact this
  have b1' : k < 256 := by have := rNumber_bound r 1 hr (by omega); rw [show ((1 : Nat) : Int) = 1 from rfl, e1] at this; exact this
  have hk' : k = 2 := by rw [e1] at hk; exact hk
  subst hk'
  obtain ⟨c, hc, bc⟩ := rTake_nat r1 k1
  obtain ⟨r2, who, e2⟩ : ∃ r2 who, rTake r1 = (r2, (c : Int), who) := ⟨(rTake r1).1, (rTake r1).2.2, by rw [← hc]⟩
  have k2 : r2.ok := by have := rTake_ok k1; rw [e2] at this; exact this
  obtain ⟨r3, th, e3⟩ : ∃ r3 th, rNumber r2 8 = (r3, th) := ⟨_, _, rfl⟩
  have k3 : r3.ok := by have := rNumber_ok k2 8; rw [e3] at this; exact this
  have b3 : th ≤ 18446744073709551615 := by have := rNumber_le r2 8 k2 (by omega); rw [show ((8 : Nat) : Int) = 8 from rfl, e3] at this; exact this
  have C1 := Lib.hid (fun ww (hh : OwnR ww b r) => rdNumber_any hh hr 1)
  have C2 := Lib.hid (fun ww (hh : OwnR ww b r1) => take_any hh k1)
  have C3 := Lib.hid (fun ww (hh : OwnR ww b r2) => rdNumber_any hh k2 8)
  rw [e1] at C1
  rw [e2] at C2
  rw [e3] at C3
  obtain ⟨r5, par, e5⟩ : ∃ a b, rNumber r3 8 = (a, b) := ⟨_, _, rfl⟩
  have k5 : r5.ok := by have := rNumber_ok k3 8; rw [e5] at this; exact this
  have b5 : par ≤ 18446744073709551615 := by have := rNumber_le r3 8 k3 (by omega); rw [show ((8 : Nat) : Int) = 8 from rfl, e5] at this; exact this
  obtain ⟨r6, nm, e6⟩ : ∃ a b, rText r5 32 = (a, b) := ⟨_, _, rfl⟩
  have k6 : r6.ok := by have := rText_ok k5 32; rw [e6] at this; exact this
  have hn : nm.size ≤ 9223372036854775807 := by have := rText_le k5 32; rw [e6] at this; exact this
  have C5 := Lib.hid (fun ww (hh : OwnR ww b r3) => rdNumber_any hh k3 8)
  rw [e5] at C5
  have C6 := Lib.hid (fun ww (hh : OwnR ww b r5) => text_any hh k5 32 (by omega))
  rw [e6] at C6
  obtain ⟨v, hv⟩ : ∃ v, opCheck (OpV.mk 2 c who th par nm false .empty 0) = v := ⟨_, rfl⟩
  have HF : Hid (rOp r = finOp r6 (OpV.mk 2 c who th par nm false .empty 0)) := by
    show _ = _
    unfold rOp
    simp only [e1, e2, e3, e5, e6, Int.toNat_natCast, if_pos]
    try rfl
  have CK := Lib.hid (fun ww => opCheck_any 2 c who th par nm false .empty 0 b3 (by first | exact b5 | omega) (by first | (show (ByteArray.empty).size ≤ _; decide) | (unfold maxLen; omega)) (by first | (show (ByteArray.empty).size ≤ _; decide) | (unfold maxLen; omega)) ww)
  rw [hv] at CK
  have hlt := Own.lt h
  have hv3 := opCheck_cases (OpV.mk 2 c who th par nm false .empty 0)
  rw [hv] at hv3
  have HV := Lib.hid hv
  obtain ⟨ef, hef⟩ : ∃ ef, Rd.err r6 = ef := ⟨_, rfl⟩
  have HE := Lib.hid hef
  have hcase : (ef = 0 ∧ v = 0) ∨ (ef = 0 ∧ (v == 0) = false) ∨ (ef == 0) = false := by
    by_cases e : ef = 0
    · by_cases e' : v = 0
      · exact .inl ⟨e, e'⟩
      · exact .inr (.inl ⟨e, by simpa using e'⟩)
    · exact .inr (.inr (by simpa using e))
  clear hv hef hv3 e1 e2 e3 hc e5 e6
  rcases hcase with ⟨rfl, rfl⟩ | ⟨rfl, hv0⟩ | he0
  · go_enter Try.func72, Try.ntmps72
    have z0 := Own.fresh w 39 #[.int .i64 0, .int .u64 0, .int .i64 0, .int .u64 0, .int .u64 0, .string ⟨#[]⟩, .bool false, .string ⟨#[]⟩, .int .i64 0]
    have n0 : Fr (· = b) w (w.alloc (.cells #[.int .i64 0, .int .u64 0, .int .i64 0, .int .u64 0, .int .u64 0, .string ⟨#[]⟩, .bool false, .string ⟨#[]⟩, .int .i64 0] 39)) := (Fr.refl _ _).alloc _
    go_wp2_with fail
    refine (C1.out _ (Own.alloc h _)).mono ?_
    rintro e w1 ⟨rfl, o1, g1⟩
    have z1 := z0.fr g1 (by show ¬ (_ = _); omega)
    have n1 := Fr.trans n0 g1 fun _ _ e => e
    go_wp2_with fail
    refine (C2.out _ o1).mono ?_
    rintro e w2 ⟨rfl, o2, g2⟩
    have z2 := z1.fr g2 (by show ¬ (_ = _); omega)
    have n2 := Fr.trans n1 g2 fun _ _ e => e
    go_wp2_with fail
    refine (C3.out _ o2).mono ?_
    rintro e w3 ⟨rfl, o3, g3⟩
    have z3 := z2.fr g3 (by show ¬ (_ = _); omega)
    have n3 := Fr.trans n2 g3 fun _ _ e => e
    have lz3 := z3.lt
    have lb3 := Own.lt o3
    clear z0 z1 z2 n0 n1 n2 o1 o2 g1 g2 g3
    go_wp2_with fail
    refine calls_world (fun W => TkS w W b w3.heap.size (OpV.mk 2 c who th 0 .empty false .empty 0).cells r3) ⟨z3.alloc _, Own.fresh _ _ _, Own.alloc o3 _, n3.alloc _, hlt, lz3⟩ ?_
    clear z3 o3 n3
    rintro W1 s1
    refine (C5.out _ s1.2.2.1).mono ?_
    rintro e W2 ⟨rfl, o, g⟩
    have s2 := s1.call o g
    clear o g s1
    go_wp2_with fail
    refine (C6.out _ s2.2.2.1).mono ?_
    rintro e W5 ⟨rfl, o, g⟩
    have s5 := s2.call o g
    clear o g s2
    obtain ⟨d0, d1, d2, d3, d4, d5, d6, d7, d8⟩ := opCells s5.2.1
    obtain ⟨y0, y1, y2, y3, y4, y5, y6, y7, y8⟩ := opFree s5.2.1
    go_wp2_with fail
    refine calls_world (fun W => TkS w W b w3.heap.size (OpV.mk 2 c who th par nm false .empty 0).cells r6) ((s5.put rfl).put rfl) ?_
    clear d0 d1 d2 d3 d4 d5 d6 d7 d8 y0 y1 y2 y3 y4 y5 y6 y7 y8 s5
    rintro W ⟨z, q, o, n, _, _⟩
    have lq := q.lt
    have lz := z.lt
    have EZ := err_any o
    rw [HE.out] at EZ
    refine EZ.mono ?_
    rintro e wq ⟨rfl, rfl⟩
    obtain ⟨d0, d1, d2, d3, d4, d5, d6, d7, d8⟩ := opCells q
    go_wp2_with fail
    refine (CK.out _).mono ?_
    rintro e w4 ⟨rfl, g4⟩
    have z4 := z.new_ g4
    have q4 := q.new_ g4
    have o4 := Own.new_ o g4
    have n4 := n.new_ g4
    clear d0 d1 d2 d3 d4 d5 d6 d7 d8 z q o n
    go_wp2_with fail
    refine (fail_any o4 _).mono ?_
    rintro e w5 ⟨rfl, o5, g5⟩
    have z5 := z4.fr g5 (by show ¬ (_ = _); omega)
    have q5 := q4.fr g5 (by show ¬ (_ = _); omega)
    have n5 := Fr.trans n4 g5 fun _ _ e => e
    clear z4 q4 o4 n4 g5
    rw [rFail_zero HE.out] at o5
    have EZ := err_any o5
    rw [HE.out] at EZ
    go_wp2_with fail
    refine EZ.mono ?_
    rintro e wq ⟨rfl, rfl⟩
    obtain ⟨d0, d1, d2, d3, d4, d5, d6, d7, d8⟩ := opCells q5
    obtain ⟨x0, x1, x2, x3, x4, x5, x6, x7, x8⟩ := opCells (k := 0) (c := 0) (who := 0) (th := 0) (par := 0) (nm := ⟨#[]⟩) (dir := false) (dig := ⟨#[]⟩) (sz := 0) z5
    obtain ⟨y0, y1, y2, y3, y4, y5, y6, y7, y8⟩ := opFree z5
    go_wp2
    refine post_world (fun W' => Own W' w.heap.size 39 #[.int .i64 2, .int .u64 c, .int .i64 who, .int .u64 th, .int .u64 par, .string nm, .bool false, .string .empty, .int .i64 0] ∧ OwnR W' b r6 ∧ Fr (· = b) w W') ⟨z5.put9 _ _ _ _ _ _ _ _ _, Own.fr o5 (Fr.put9 (F := (· = w.heap.size)) (Fr.refl _ _) (fun _ => rfl) _ _ _ _ _ _ _ _ _) (by show ¬ (_ = _); omega), Fr.put9 n5 (fun h => by omega) _ _ _ _ _ _ _ _ _⟩ ?_
    clear x0 x1 x2 x3 x4 x5 x6 x7 x8 y0 y1 y2 y3 y4 y5 y6 y7 y8 z5 o5 n5
    rintro W' ⟨zf, of, nf⟩
    obtain ⟨x0, x1, x2, x3, x4, x5, x6, x7, x8⟩ := opCells zf
    refine bodyPost_ret (v := (OpV.mk 2 c who th par nm false .empty 0).val) (by simp [results, Try.results72, go_sem, *]; try rfl) rfl ⟨?_, ?_, nf⟩
    · rw [HF.out]; unfold finOp; rw [if_pos HE.out, if_pos HV.out]
    · rw [HF.out]; unfold finOp; rw [if_pos HE.out, if_pos HV.out]; exact of
  · go_enter Try.func72, Try.ntmps72
    have z0 := Own.fresh w 39 #[.int .i64 0, .int .u64 0, .int .i64 0, .int .u64 0, .int .u64 0, .string ⟨#[]⟩, .bool false, .string ⟨#[]⟩, .int .i64 0]
    have n0 : Fr (· = b) w (w.alloc (.cells #[.int .i64 0, .int .u64 0, .int .i64 0, .int .u64 0, .int .u64 0, .string ⟨#[]⟩, .bool false, .string ⟨#[]⟩, .int .i64 0] 39)) := (Fr.refl _ _).alloc _
    go_wp2_with fail
    refine (C1.out _ (Own.alloc h _)).mono ?_
    rintro e w1 ⟨rfl, o1, g1⟩
    have z1 := z0.fr g1 (by show ¬ (_ = _); omega)
    have n1 := Fr.trans n0 g1 fun _ _ e => e
    go_wp2_with fail
    refine (C2.out _ o1).mono ?_
    rintro e w2 ⟨rfl, o2, g2⟩
    have z2 := z1.fr g2 (by show ¬ (_ = _); omega)
    have n2 := Fr.trans n1 g2 fun _ _ e => e
    go_wp2_with fail
    refine (C3.out _ o2).mono ?_
    rintro e w3 ⟨rfl, o3, g3⟩
    have z3 := z2.fr g3 (by show ¬ (_ = _); omega)
    have n3 := Fr.trans n2 g3 fun _ _ e => e
    have lz3 := z3.lt
    have lb3 := Own.lt o3
    clear z0 z1 z2 n0 n1 n2 o1 o2 g1 g2 g3
    go_wp2_with fail
    refine calls_world (fun W => TkS w W b w3.heap.size (OpV.mk 2 c who th 0 .empty false .empty 0).cells r3) ⟨z3.alloc _, Own.fresh _ _ _, Own.alloc o3 _, n3.alloc _, hlt, lz3⟩ ?_
    clear z3 o3 n3
    rintro W1 s1
    refine (C5.out _ s1.2.2.1).mono ?_
    rintro e W2 ⟨rfl, o, g⟩
    have s2 := s1.call o g
    clear o g s1
    go_wp2_with fail
    refine (C6.out _ s2.2.2.1).mono ?_
    rintro e W5 ⟨rfl, o, g⟩
    have s5 := s2.call o g
    clear o g s2
    obtain ⟨d0, d1, d2, d3, d4, d5, d6, d7, d8⟩ := opCells s5.2.1
    obtain ⟨y0, y1, y2, y3, y4, y5, y6, y7, y8⟩ := opFree s5.2.1
    go_wp2_with fail
    refine calls_world (fun W => TkS w W b w3.heap.size (OpV.mk 2 c who th par nm false .empty 0).cells r6) ((s5.put rfl).put rfl) ?_
    clear d0 d1 d2 d3 d4 d5 d6 d7 d8 y0 y1 y2 y3 y4 y5 y6 y7 y8 s5
    rintro W ⟨z, q, o, n, _, _⟩
    have lq := q.lt
    have lz := z.lt
    have EZ := err_any o
    rw [HE.out] at EZ
    refine EZ.mono ?_
    rintro e wq ⟨rfl, rfl⟩
    obtain ⟨d0, d1, d2, d3, d4, d5, d6, d7, d8⟩ := opCells q
    go_wp2_with fail
    refine (CK.out _).mono ?_
    rintro e w4 ⟨rfl, g4⟩
    have z4 := z.new_ g4
    have q4 := q.new_ g4
    have o4 := Own.new_ o g4
    have n4 := n.new_ g4
    clear d0 d1 d2 d3 d4 d5 d6 d7 d8 z q o n
    go_wp2_with fail
    refine (fail_any o4 _).mono ?_
    rintro e w5 ⟨rfl, o5, g5⟩
    have z5 := z4.fr g5 (by show ¬ (_ = _); omega)
    have q5 := q4.fr g5 (by show ¬ (_ = _); omega)
    have n5 := Fr.trans n4 g5 fun _ _ e => e
    clear z4 q4 o4 n4 g5
    rw [rFail_err HE.out] at o5
    have EZ := err_any o5
    rw [show (Rd.withErr r6 v).err = v from rfl] at EZ
    have hvn : (v != 0) = true := by rw [bne, hv0]; rfl
    go_wp2_with fail
    refine EZ.mono ?_
    rintro e wq ⟨rfl, rfl⟩
    obtain ⟨x0, x1, x2, x3, x4, x5, x6, x7, x8⟩ := opCells (k := 0) (c := 0) (who := 0) (th := 0) (par := 0) (nm := ⟨#[]⟩) (dir := false) (dig := ⟨#[]⟩) (sz := 0) z5
    obtain ⟨y0, y1, y2, y3, y4, y5, y6, y7, y8⟩ := opFree z5
    go_wp2
    refine post_world (fun W' => Own W' w.heap.size 39 #[.int .i64 0, .int .u64 0, .int .i64 0, .int .u64 0, .int .u64 0, .string ⟨#[]⟩, .bool false, .string ⟨#[]⟩, .int .i64 0] ∧ OwnR W' b (Rd.withErr r6 v) ∧ Fr (· = b) w W') ⟨z5.put9 _ _ _ _ _ _ _ _ _, Own.fr o5 (Fr.put9 (F := (· = w.heap.size)) (Fr.refl _ _) (fun _ => rfl) _ _ _ _ _ _ _ _ _) (by show ¬ (_ = _); omega), Fr.put9 n5 (fun h => by omega) _ _ _ _ _ _ _ _ _⟩ ?_
    clear x0 x1 x2 x3 x4 x5 x6 x7 x8 y0 y1 y2 y3 y4 y5 y6 y7 y8 z5 o5 n5
    rintro W' ⟨zf, of, nf⟩
    obtain ⟨x0, x1, x2, x3, x4, x5, x6, x7, x8⟩ := opCells (k := 0) (c := 0) (who := 0) (th := 0) (par := 0) (nm := ⟨#[]⟩) (dir := false) (dig := ⟨#[]⟩) (sz := 0) zf
    refine bodyPost_ret (v := .agg #[.int .i64 0, .int .u64 0, .int .i64 0, .int .u64 0, .int .u64 0, .string ⟨#[]⟩, .bool false, .string ⟨#[]⟩, .int .i64 0]) (by simp [results, Try.results72, go_sem, *]) rfl ⟨?_, ?_, nf⟩
    · rw [HF.out]; unfold finOp; rw [if_pos HE.out, if_neg (by rw [HV.out]; simpa using hv0)]; try rw [HV.out]; try rfl
    · rw [HF.out]; unfold finOp; rw [if_pos HE.out, if_neg (by rw [HV.out]; simpa using hv0)]; try rw [HV.out]; exact of
  · go_enter Try.func72, Try.ntmps72
    have z0 := Own.fresh w 39 #[.int .i64 0, .int .u64 0, .int .i64 0, .int .u64 0, .int .u64 0, .string ⟨#[]⟩, .bool false, .string ⟨#[]⟩, .int .i64 0]
    have n0 : Fr (· = b) w (w.alloc (.cells #[.int .i64 0, .int .u64 0, .int .i64 0, .int .u64 0, .int .u64 0, .string ⟨#[]⟩, .bool false, .string ⟨#[]⟩, .int .i64 0] 39)) := (Fr.refl _ _).alloc _
    go_wp2_with fail
    refine (C1.out _ (Own.alloc h _)).mono ?_
    rintro e w1 ⟨rfl, o1, g1⟩
    have z1 := z0.fr g1 (by show ¬ (_ = _); omega)
    have n1 := Fr.trans n0 g1 fun _ _ e => e
    go_wp2_with fail
    refine (C2.out _ o1).mono ?_
    rintro e w2 ⟨rfl, o2, g2⟩
    have z2 := z1.fr g2 (by show ¬ (_ = _); omega)
    have n2 := Fr.trans n1 g2 fun _ _ e => e
    go_wp2_with fail
    refine (C3.out _ o2).mono ?_
    rintro e w3 ⟨rfl, o3, g3⟩
    have z3 := z2.fr g3 (by show ¬ (_ = _); omega)
    have n3 := Fr.trans n2 g3 fun _ _ e => e
    have lz3 := z3.lt
    have lb3 := Own.lt o3
    clear z0 z1 z2 n0 n1 n2 o1 o2 g1 g2 g3
    go_wp2_with fail
    refine calls_world (fun W => TkS w W b w3.heap.size (OpV.mk 2 c who th 0 .empty false .empty 0).cells r3) ⟨z3.alloc _, Own.fresh _ _ _, Own.alloc o3 _, n3.alloc _, hlt, lz3⟩ ?_
    clear z3 o3 n3
    rintro W1 s1
    refine (C5.out _ s1.2.2.1).mono ?_
    rintro e W2 ⟨rfl, o, g⟩
    have s2 := s1.call o g
    clear o g s1
    go_wp2_with fail
    refine (C6.out _ s2.2.2.1).mono ?_
    rintro e W5 ⟨rfl, o, g⟩
    have s5 := s2.call o g
    clear o g s2
    obtain ⟨d0, d1, d2, d3, d4, d5, d6, d7, d8⟩ := opCells s5.2.1
    obtain ⟨y0, y1, y2, y3, y4, y5, y6, y7, y8⟩ := opFree s5.2.1
    go_wp2_with fail
    refine calls_world (fun W => TkS w W b w3.heap.size (OpV.mk 2 c who th par nm false .empty 0).cells r6) ((s5.put rfl).put rfl) ?_
    clear d0 d1 d2 d3 d4 d5 d6 d7 d8 y0 y1 y2 y3 y4 y5 y6 y7 y8 s5
    rintro W ⟨z, q, o, n, _, _⟩
    have lq := q.lt
    have lz := z.lt
    have EZ := err_any o
    rw [HE.out] at EZ
    have hvn : (ef != 0) = true := by rw [bne, he0]; rfl
    refine EZ.mono ?_
    rintro e wq ⟨rfl, rfl⟩
    go_wp2_with fail
    have EZ := err_any o
    rw [HE.out] at EZ
    refine EZ.mono ?_
    rintro e wq ⟨rfl, rfl⟩
    have z5 := z
    have o5 := o
    have n5 := n
    obtain ⟨x0, x1, x2, x3, x4, x5, x6, x7, x8⟩ := opCells (k := 0) (c := 0) (who := 0) (th := 0) (par := 0) (nm := ⟨#[]⟩) (dir := false) (dig := ⟨#[]⟩) (sz := 0) z5
    obtain ⟨y0, y1, y2, y3, y4, y5, y6, y7, y8⟩ := opFree z5
    go_wp2
    refine post_world (fun W' => Own W' w.heap.size 39 #[.int .i64 0, .int .u64 0, .int .i64 0, .int .u64 0, .int .u64 0, .string ⟨#[]⟩, .bool false, .string ⟨#[]⟩, .int .i64 0] ∧ OwnR W' b r6 ∧ Fr (· = b) w W') ⟨z5.put9 _ _ _ _ _ _ _ _ _, Own.fr o5 (Fr.put9 (F := (· = w.heap.size)) (Fr.refl _ _) (fun _ => rfl) _ _ _ _ _ _ _ _ _) (by show ¬ (_ = _); omega), Fr.put9 n5 (fun h => by omega) _ _ _ _ _ _ _ _ _⟩ ?_
    clear x0 x1 x2 x3 x4 x5 x6 x7 x8 y0 y1 y2 y3 y4 y5 y6 y7 y8 z5 o5 n5
    rintro W' ⟨zf, of, nf⟩
    obtain ⟨x0, x1, x2, x3, x4, x5, x6, x7, x8⟩ := opCells (k := 0) (c := 0) (who := 0) (th := 0) (par := 0) (nm := ⟨#[]⟩) (dir := false) (dig := ⟨#[]⟩) (sz := 0) zf
    refine bodyPost_ret (v := .agg #[.int .i64 0, .int .u64 0, .int .i64 0, .int .u64 0, .int .u64 0, .string ⟨#[]⟩, .bool false, .string ⟨#[]⟩, .int .i64 0]) (by simp [results, Try.results72, go_sem, *]) rfl ⟨?_, ?_, nf⟩
    · rw [HF.out]; unfold finOp; rw [if_neg (by rw [HE.out]; simpa using he0)]; try rfl
    · rw [HF.out]; unfold finOp; rw [if_neg (by rw [HE.out]; simpa using he0)]; exact of
set_option maxRecDepth 100000 in
set_option maxHeartbeats 8000000 in
theorem opTake_four {b : Nat} {r : Rd} {w : World} (h : OwnR w b r) (hr : r.ok) (hk : (rNumber r 1).2 = 4) :
    Calls Try.prog 72 #[.pointer (some ⟨b, 0, none⟩)] w fun e w' => e = .returned (rOp r).2.val ∧ OwnR w' b (rOp r).1 ∧ Fr (· = b) w w' := by
  obtain ⟨r1, k, e1⟩ : ∃ r1 k, rNumber r 1 = (r1, k) := ⟨_, _, rfl⟩
  have k1 : r1.ok := by have := rNumber_ok hr 1; rw [e1] at this; exact this
  have b1 : k ≤ 18446744073709551615 := by have := rNumber_le r 1 hr (by omega); rw [show ((1 : Nat) : Int) = 1 from rfl, e1] at this; exact this
  have b1' : k < 256 := by have := rNumber_bound r 1 hr (by omega); rw [show ((1 : Nat) : Int) = 1 from rfl, e1] at this; exact this
  have hk' : k = 4 := by rw [e1] at hk; exact hk
  subst hk'
  obtain ⟨c, hc, bc⟩ := rTake_nat r1 k1
  obtain ⟨r2, who, e2⟩ : ∃ r2 who, rTake r1 = (r2, (c : Int), who) := ⟨(rTake r1).1, (rTake r1).2.2, by rw [← hc]⟩
  have k2 : r2.ok := by have := rTake_ok k1; rw [e2] at this; exact this
  obtain ⟨r3, th, e3⟩ : ∃ r3 th, rNumber r2 8 = (r3, th) := ⟨_, _, rfl⟩
  have k3 : r3.ok := by have := rNumber_ok k2 8; rw [e3] at this; exact this
  have b3 : th ≤ 18446744073709551615 := by have := rNumber_le r2 8 k2 (by omega); rw [show ((8 : Nat) : Int) = 8 from rfl, e3] at this; exact this
  have C1 := Lib.hid (fun ww (hh : OwnR ww b r) => rdNumber_any hh hr 1)
  have C2 := Lib.hid (fun ww (hh : OwnR ww b r1) => take_any hh k1)
  have C3 := Lib.hid (fun ww (hh : OwnR ww b r2) => rdNumber_any hh k2 8)
  rw [e1] at C1
  rw [e2] at C2
  rw [e3] at C3
  obtain ⟨r4, dig, e4⟩ : ∃ a b, rBytes r3 32 = (a, b) := ⟨_, _, rfl⟩
  have k4 : r4.ok := by have := rBytes_ok k3 32; rw [e4] at this; exact this
  have hn : dig.size ≤ 9223372036854775807 := by have := rBytes_le k3 32; rw [e4] at this; exact this
  obtain ⟨r5, sz, e5⟩ : ∃ a b, rCount r4 8192 = (a, b) := ⟨_, _, rfl⟩
  have k5 : r5.ok := by have := rCount_ok k4 8192; rw [e5] at this; exact this
  have C4 := Lib.hid (fun ww (hh : OwnR ww b r3) => hash_any hh k3)
  rw [e4] at C4
  have C5 := Lib.hid (fun ww (hh : OwnR ww b r4) => count_any hh k4 8192 (by omega))
  rw [e5] at C5
  obtain ⟨v, hv⟩ : ∃ v, opCheck (OpV.mk 4 c who th 0 .empty false dig sz) = v := ⟨_, rfl⟩
  have HF : Hid (rOp r = finOp r5 (OpV.mk 4 c who th 0 .empty false dig sz)) := by
    show _ = _
    unfold rOp
    simp only [e1, e2, e3, e4, e5, Int.toNat_natCast, if_pos]
    try rfl
  have CK := Lib.hid (fun ww => opCheck_any 4 c who th 0 .empty false dig sz b3 (by first | exact b5 | omega) (by first | (show (ByteArray.empty).size ≤ _; decide) | (unfold maxLen; omega)) (by first | (show (ByteArray.empty).size ≤ _; decide) | (unfold maxLen; omega)) ww)
  rw [hv] at CK
  have hlt := Own.lt h
  have hv3 := opCheck_cases (OpV.mk 4 c who th 0 .empty false dig sz)
  rw [hv] at hv3
  have HV := Lib.hid hv
  obtain ⟨ef, hef⟩ : ∃ ef, Rd.err r5 = ef := ⟨_, rfl⟩
  have HE := Lib.hid hef
  have hcase : (ef = 0 ∧ v = 0) ∨ (ef = 0 ∧ (v == 0) = false) ∨ (ef == 0) = false := by
    by_cases e : ef = 0
    · by_cases e' : v = 0
      · exact .inl ⟨e, e'⟩
      · exact .inr (.inl ⟨e, by simpa using e'⟩)
    · exact .inr (.inr (by simpa using e))
  clear hv hef hv3 e1 e2 e3 hc e4 e5
  rcases hcase with ⟨rfl, rfl⟩ | ⟨rfl, hv0⟩ | he0
  · go_enter Try.func72, Try.ntmps72
    have z0 := Own.fresh w 39 #[.int .i64 0, .int .u64 0, .int .i64 0, .int .u64 0, .int .u64 0, .string ⟨#[]⟩, .bool false, .string ⟨#[]⟩, .int .i64 0]
    have n0 : Fr (· = b) w (w.alloc (.cells #[.int .i64 0, .int .u64 0, .int .i64 0, .int .u64 0, .int .u64 0, .string ⟨#[]⟩, .bool false, .string ⟨#[]⟩, .int .i64 0] 39)) := (Fr.refl _ _).alloc _
    go_wp2_with fail
    refine (C1.out _ (Own.alloc h _)).mono ?_
    rintro e w1 ⟨rfl, o1, g1⟩
    have z1 := z0.fr g1 (by show ¬ (_ = _); omega)
    have n1 := Fr.trans n0 g1 fun _ _ e => e
    go_wp2_with fail
    refine (C2.out _ o1).mono ?_
    rintro e w2 ⟨rfl, o2, g2⟩
    have z2 := z1.fr g2 (by show ¬ (_ = _); omega)
    have n2 := Fr.trans n1 g2 fun _ _ e => e
    go_wp2_with fail
    refine (C3.out _ o2).mono ?_
    rintro e w3 ⟨rfl, o3, g3⟩
    have z3 := z2.fr g3 (by show ¬ (_ = _); omega)
    have n3 := Fr.trans n2 g3 fun _ _ e => e
    have lz3 := z3.lt
    have lb3 := Own.lt o3
    clear z0 z1 z2 n0 n1 n2 o1 o2 g1 g2 g3
    go_wp2_with fail
    refine calls_world (fun W => TkS w W b w3.heap.size (OpV.mk 4 c who th 0 .empty false .empty 0).cells r3) ⟨z3.alloc _, Own.fresh _ _ _, Own.alloc o3 _, n3.alloc _, hlt, lz3⟩ ?_
    clear z3 o3 n3
    rintro W1 s1
    refine (C4.out _ s1.2.2.1).mono ?_
    rintro e W2 ⟨rfl, o, g⟩
    have s2 := s1.call o g
    clear o g s1
    go_wp2_with fail
    refine (C5.out _ s2.2.2.1).mono ?_
    rintro e W5 ⟨rfl, o, g⟩
    have s5 := s2.call o g
    clear o g s2
    obtain ⟨d0, d1, d2, d3, d4, d5, d6, d7, d8⟩ := opCells s5.2.1
    obtain ⟨y0, y1, y2, y3, y4, y5, y6, y7, y8⟩ := opFree s5.2.1
    go_wp2_with fail
    refine calls_world (fun W => TkS w W b w3.heap.size (OpV.mk 4 c who th 0 .empty false dig sz).cells r5) ((s5.put rfl).put rfl) ?_
    clear d0 d1 d2 d3 d4 d5 d6 d7 d8 y0 y1 y2 y3 y4 y5 y6 y7 y8 s5
    rintro W ⟨z, q, o, n, _, _⟩
    have lq := q.lt
    have lz := z.lt
    have EZ := err_any o
    rw [HE.out] at EZ
    refine EZ.mono ?_
    rintro e wq ⟨rfl, rfl⟩
    obtain ⟨d0, d1, d2, d3, d4, d5, d6, d7, d8⟩ := opCells q
    go_wp2_with fail
    refine (CK.out _).mono ?_
    rintro e w4 ⟨rfl, g4⟩
    have z4 := z.new_ g4
    have q4 := q.new_ g4
    have o4 := Own.new_ o g4
    have n4 := n.new_ g4
    clear d0 d1 d2 d3 d4 d5 d6 d7 d8 z q o n
    go_wp2_with fail
    refine (fail_any o4 _).mono ?_
    rintro e w5 ⟨rfl, o5, g5⟩
    have z5 := z4.fr g5 (by show ¬ (_ = _); omega)
    have q5 := q4.fr g5 (by show ¬ (_ = _); omega)
    have n5 := Fr.trans n4 g5 fun _ _ e => e
    clear z4 q4 o4 n4 g5
    rw [rFail_zero HE.out] at o5
    have EZ := err_any o5
    rw [HE.out] at EZ
    go_wp2_with fail
    refine EZ.mono ?_
    rintro e wq ⟨rfl, rfl⟩
    obtain ⟨d0, d1, d2, d3, d4, d5, d6, d7, d8⟩ := opCells q5
    obtain ⟨x0, x1, x2, x3, x4, x5, x6, x7, x8⟩ := opCells (k := 0) (c := 0) (who := 0) (th := 0) (par := 0) (nm := ⟨#[]⟩) (dir := false) (dig := ⟨#[]⟩) (sz := 0) z5
    obtain ⟨y0, y1, y2, y3, y4, y5, y6, y7, y8⟩ := opFree z5
    go_wp2
    refine post_world (fun W' => Own W' w.heap.size 39 #[.int .i64 4, .int .u64 c, .int .i64 who, .int .u64 th, .int .u64 0, .string .empty, .bool false, .string dig, .int .i64 sz] ∧ OwnR W' b r5 ∧ Fr (· = b) w W') ⟨z5.put9 _ _ _ _ _ _ _ _ _, Own.fr o5 (Fr.put9 (F := (· = w.heap.size)) (Fr.refl _ _) (fun _ => rfl) _ _ _ _ _ _ _ _ _) (by show ¬ (_ = _); omega), Fr.put9 n5 (fun h => by omega) _ _ _ _ _ _ _ _ _⟩ ?_
    clear x0 x1 x2 x3 x4 x5 x6 x7 x8 y0 y1 y2 y3 y4 y5 y6 y7 y8 z5 o5 n5
    rintro W' ⟨zf, of, nf⟩
    obtain ⟨x0, x1, x2, x3, x4, x5, x6, x7, x8⟩ := opCells zf
    refine bodyPost_ret (v := (OpV.mk 4 c who th 0 .empty false dig sz).val) (by simp [results, Try.results72, go_sem, *]; try rfl) rfl ⟨?_, ?_, nf⟩
    · rw [HF.out]; unfold finOp; rw [if_pos HE.out, if_pos HV.out]
    · rw [HF.out]; unfold finOp; rw [if_pos HE.out, if_pos HV.out]; exact of
  · go_enter Try.func72, Try.ntmps72
    have z0 := Own.fresh w 39 #[.int .i64 0, .int .u64 0, .int .i64 0, .int .u64 0, .int .u64 0, .string ⟨#[]⟩, .bool false, .string ⟨#[]⟩, .int .i64 0]
    have n0 : Fr (· = b) w (w.alloc (.cells #[.int .i64 0, .int .u64 0, .int .i64 0, .int .u64 0, .int .u64 0, .string ⟨#[]⟩, .bool false, .string ⟨#[]⟩, .int .i64 0] 39)) := (Fr.refl _ _).alloc _
    go_wp2_with fail
    refine (C1.out _ (Own.alloc h _)).mono ?_
    rintro e w1 ⟨rfl, o1, g1⟩
    have z1 := z0.fr g1 (by show ¬ (_ = _); omega)
    have n1 := Fr.trans n0 g1 fun _ _ e => e
    go_wp2_with fail
    refine (C2.out _ o1).mono ?_
    rintro e w2 ⟨rfl, o2, g2⟩
    have z2 := z1.fr g2 (by show ¬ (_ = _); omega)
    have n2 := Fr.trans n1 g2 fun _ _ e => e
    go_wp2_with fail
    refine (C3.out _ o2).mono ?_
    rintro e w3 ⟨rfl, o3, g3⟩
    have z3 := z2.fr g3 (by show ¬ (_ = _); omega)
    have n3 := Fr.trans n2 g3 fun _ _ e => e
    have lz3 := z3.lt
    have lb3 := Own.lt o3
    clear z0 z1 z2 n0 n1 n2 o1 o2 g1 g2 g3
    go_wp2_with fail
    refine calls_world (fun W => TkS w W b w3.heap.size (OpV.mk 4 c who th 0 .empty false .empty 0).cells r3) ⟨z3.alloc _, Own.fresh _ _ _, Own.alloc o3 _, n3.alloc _, hlt, lz3⟩ ?_
    clear z3 o3 n3
    rintro W1 s1
    refine (C4.out _ s1.2.2.1).mono ?_
    rintro e W2 ⟨rfl, o, g⟩
    have s2 := s1.call o g
    clear o g s1
    go_wp2_with fail
    refine (C5.out _ s2.2.2.1).mono ?_
    rintro e W5 ⟨rfl, o, g⟩
    have s5 := s2.call o g
    clear o g s2
    obtain ⟨d0, d1, d2, d3, d4, d5, d6, d7, d8⟩ := opCells s5.2.1
    obtain ⟨y0, y1, y2, y3, y4, y5, y6, y7, y8⟩ := opFree s5.2.1
    go_wp2_with fail
    refine calls_world (fun W => TkS w W b w3.heap.size (OpV.mk 4 c who th 0 .empty false dig sz).cells r5) ((s5.put rfl).put rfl) ?_
    clear d0 d1 d2 d3 d4 d5 d6 d7 d8 y0 y1 y2 y3 y4 y5 y6 y7 y8 s5
    rintro W ⟨z, q, o, n, _, _⟩
    have lq := q.lt
    have lz := z.lt
    have EZ := err_any o
    rw [HE.out] at EZ
    refine EZ.mono ?_
    rintro e wq ⟨rfl, rfl⟩
    obtain ⟨d0, d1, d2, d3, d4, d5, d6, d7, d8⟩ := opCells q
    go_wp2_with fail
    refine (CK.out _).mono ?_
    rintro e w4 ⟨rfl, g4⟩
    have z4 := z.new_ g4
    have q4 := q.new_ g4
    have o4 := Own.new_ o g4
    have n4 := n.new_ g4
    clear d0 d1 d2 d3 d4 d5 d6 d7 d8 z q o n
    go_wp2_with fail
    refine (fail_any o4 _).mono ?_
    rintro e w5 ⟨rfl, o5, g5⟩
    have z5 := z4.fr g5 (by show ¬ (_ = _); omega)
    have q5 := q4.fr g5 (by show ¬ (_ = _); omega)
    have n5 := Fr.trans n4 g5 fun _ _ e => e
    clear z4 q4 o4 n4 g5
    rw [rFail_err HE.out] at o5
    have EZ := err_any o5
    rw [show (Rd.withErr r5 v).err = v from rfl] at EZ
    have hvn : (v != 0) = true := by rw [bne, hv0]; rfl
    go_wp2_with fail
    refine EZ.mono ?_
    rintro e wq ⟨rfl, rfl⟩
    obtain ⟨x0, x1, x2, x3, x4, x5, x6, x7, x8⟩ := opCells (k := 0) (c := 0) (who := 0) (th := 0) (par := 0) (nm := ⟨#[]⟩) (dir := false) (dig := ⟨#[]⟩) (sz := 0) z5
    obtain ⟨y0, y1, y2, y3, y4, y5, y6, y7, y8⟩ := opFree z5
    go_wp2
    refine post_world (fun W' => Own W' w.heap.size 39 #[.int .i64 0, .int .u64 0, .int .i64 0, .int .u64 0, .int .u64 0, .string ⟨#[]⟩, .bool false, .string ⟨#[]⟩, .int .i64 0] ∧ OwnR W' b (Rd.withErr r5 v) ∧ Fr (· = b) w W') ⟨z5.put9 _ _ _ _ _ _ _ _ _, Own.fr o5 (Fr.put9 (F := (· = w.heap.size)) (Fr.refl _ _) (fun _ => rfl) _ _ _ _ _ _ _ _ _) (by show ¬ (_ = _); omega), Fr.put9 n5 (fun h => by omega) _ _ _ _ _ _ _ _ _⟩ ?_
    clear x0 x1 x2 x3 x4 x5 x6 x7 x8 y0 y1 y2 y3 y4 y5 y6 y7 y8 z5 o5 n5
    rintro W' ⟨zf, of, nf⟩
    obtain ⟨x0, x1, x2, x3, x4, x5, x6, x7, x8⟩ := opCells (k := 0) (c := 0) (who := 0) (th := 0) (par := 0) (nm := ⟨#[]⟩) (dir := false) (dig := ⟨#[]⟩) (sz := 0) zf
    refine bodyPost_ret (v := .agg #[.int .i64 0, .int .u64 0, .int .i64 0, .int .u64 0, .int .u64 0, .string ⟨#[]⟩, .bool false, .string ⟨#[]⟩, .int .i64 0]) (by simp [results, Try.results72, go_sem, *]) rfl ⟨?_, ?_, nf⟩
    · rw [HF.out]; unfold finOp; rw [if_pos HE.out, if_neg (by rw [HV.out]; simpa using hv0)]; try rw [HV.out]; try rfl
    · rw [HF.out]; unfold finOp; rw [if_pos HE.out, if_neg (by rw [HV.out]; simpa using hv0)]; try rw [HV.out]; exact of
  · go_enter Try.func72, Try.ntmps72
    have z0 := Own.fresh w 39 #[.int .i64 0, .int .u64 0, .int .i64 0, .int .u64 0, .int .u64 0, .string ⟨#[]⟩, .bool false, .string ⟨#[]⟩, .int .i64 0]
    have n0 : Fr (· = b) w (w.alloc (.cells #[.int .i64 0, .int .u64 0, .int .i64 0, .int .u64 0, .int .u64 0, .string ⟨#[]⟩, .bool false, .string ⟨#[]⟩, .int .i64 0] 39)) := (Fr.refl _ _).alloc _
    go_wp2_with fail
    refine (C1.out _ (Own.alloc h _)).mono ?_
    rintro e w1 ⟨rfl, o1, g1⟩
    have z1 := z0.fr g1 (by show ¬ (_ = _); omega)
    have n1 := Fr.trans n0 g1 fun _ _ e => e
    go_wp2_with fail
    refine (C2.out _ o1).mono ?_
    rintro e w2 ⟨rfl, o2, g2⟩
    have z2 := z1.fr g2 (by show ¬ (_ = _); omega)
    have n2 := Fr.trans n1 g2 fun _ _ e => e
    go_wp2_with fail
    refine (C3.out _ o2).mono ?_
    rintro e w3 ⟨rfl, o3, g3⟩
    have z3 := z2.fr g3 (by show ¬ (_ = _); omega)
    have n3 := Fr.trans n2 g3 fun _ _ e => e
    have lz3 := z3.lt
    have lb3 := Own.lt o3
    clear z0 z1 z2 n0 n1 n2 o1 o2 g1 g2 g3
    go_wp2_with fail
    refine calls_world (fun W => TkS w W b w3.heap.size (OpV.mk 4 c who th 0 .empty false .empty 0).cells r3) ⟨z3.alloc _, Own.fresh _ _ _, Own.alloc o3 _, n3.alloc _, hlt, lz3⟩ ?_
    clear z3 o3 n3
    rintro W1 s1
    refine (C4.out _ s1.2.2.1).mono ?_
    rintro e W2 ⟨rfl, o, g⟩
    have s2 := s1.call o g
    clear o g s1
    go_wp2_with fail
    refine (C5.out _ s2.2.2.1).mono ?_
    rintro e W5 ⟨rfl, o, g⟩
    have s5 := s2.call o g
    clear o g s2
    obtain ⟨d0, d1, d2, d3, d4, d5, d6, d7, d8⟩ := opCells s5.2.1
    obtain ⟨y0, y1, y2, y3, y4, y5, y6, y7, y8⟩ := opFree s5.2.1
    go_wp2_with fail
    refine calls_world (fun W => TkS w W b w3.heap.size (OpV.mk 4 c who th 0 .empty false dig sz).cells r5) ((s5.put rfl).put rfl) ?_
    clear d0 d1 d2 d3 d4 d5 d6 d7 d8 y0 y1 y2 y3 y4 y5 y6 y7 y8 s5
    rintro W ⟨z, q, o, n, _, _⟩
    have lq := q.lt
    have lz := z.lt
    have EZ := err_any o
    rw [HE.out] at EZ
    have hvn : (ef != 0) = true := by rw [bne, he0]; rfl
    refine EZ.mono ?_
    rintro e wq ⟨rfl, rfl⟩
    go_wp2_with fail
    have EZ := err_any o
    rw [HE.out] at EZ
    refine EZ.mono ?_
    rintro e wq ⟨rfl, rfl⟩
    have z5 := z
    have o5 := o
    have n5 := n
    obtain ⟨x0, x1, x2, x3, x4, x5, x6, x7, x8⟩ := opCells (k := 0) (c := 0) (who := 0) (th := 0) (par := 0) (nm := ⟨#[]⟩) (dir := false) (dig := ⟨#[]⟩) (sz := 0) z5
    obtain ⟨y0, y1, y2, y3, y4, y5, y6, y7, y8⟩ := opFree z5
    go_wp2
    refine post_world (fun W' => Own W' w.heap.size 39 #[.int .i64 0, .int .u64 0, .int .i64 0, .int .u64 0, .int .u64 0, .string ⟨#[]⟩, .bool false, .string ⟨#[]⟩, .int .i64 0] ∧ OwnR W' b r5 ∧ Fr (· = b) w W') ⟨z5.put9 _ _ _ _ _ _ _ _ _, Own.fr o5 (Fr.put9 (F := (· = w.heap.size)) (Fr.refl _ _) (fun _ => rfl) _ _ _ _ _ _ _ _ _) (by show ¬ (_ = _); omega), Fr.put9 n5 (fun h => by omega) _ _ _ _ _ _ _ _ _⟩ ?_
    clear x0 x1 x2 x3 x4 x5 x6 x7 x8 y0 y1 y2 y3 y4 y5 y6 y7 y8 z5 o5 n5
    rintro W' ⟨zf, of, nf⟩
    obtain ⟨x0, x1, x2, x3, x4, x5, x6, x7, x8⟩ := opCells (k := 0) (c := 0) (who := 0) (th := 0) (par := 0) (nm := ⟨#[]⟩) (dir := false) (dig := ⟨#[]⟩) (sz := 0) zf
    refine bodyPost_ret (v := .agg #[.int .i64 0, .int .u64 0, .int .i64 0, .int .u64 0, .int .u64 0, .string ⟨#[]⟩, .bool false, .string ⟨#[]⟩, .int .i64 0]) (by simp [results, Try.results72, go_sem, *]) rfl ⟨?_, ?_, nf⟩
    · rw [HF.out]; unfold finOp; rw [if_neg (by rw [HE.out]; simpa using he0)]; try rfl
    · rw [HF.out]; unfold finOp; rw [if_neg (by rw [HE.out]; simpa using he0)]; exact of
/-- What Take does. -/
theorem opTake_any {b : Nat} {r : Rd} {w : World} (h : OwnR w b r) (hr : r.ok) :
    Calls Try.prog 72 #[.pointer (some ⟨b, 0, none⟩)] w fun e w' => e = .returned (rOp r).2.val ∧ OwnR w' b (rOp r).1 ∧ Fr (· = b) w w' := by
  by_cases h1 : (rNumber r 1).2 = 1
  · exact opTake_one h hr h1
  · by_cases h2 : (rNumber r 1).2 = 2
    · exact opTake_two h hr h2
    · by_cases h4 : (rNumber r 1).2 = 4
      · exact opTake_four h hr h4
      · exact opTake_none h hr ⟨h1, h2, h4⟩
end Go.Proofs.Ytfkbljanmjnefaa
