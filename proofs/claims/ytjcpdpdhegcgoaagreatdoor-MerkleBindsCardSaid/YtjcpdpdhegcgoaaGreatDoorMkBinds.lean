/- A share that is changed in one place answers as the document says. -/
import Derived.Test.YtjcpdpdhegcgoaaGreatDoorMkVerifies
import Derived.Test.YtjcpdpdhegcgoaaGreatDoorMkFew
import Derived.Test.YtjcpdpdhegcgoaaGreatDoorMkShowAny
import Derived.Deep.Upon
import Derived.Test.YtjcpdpdhegcgoaaGreatDoorOpen
namespace Go.Proofs.YtjcpdpdhegcgoaaGreatDoor
open Go.RowKit
set_option linter.unusedVariables false
set_option linter.unusedSimpArgs false

theorem few_mod_exact {n : Int} (h0 : 0 ≤ n) (h1 : n ≤ 2000) : ∃ k : Nat, (wrap64 (n.tmod 8194 + 8194)).tmod 8194 = (k : Int) ∧ (k : Int) = n := by
  have e1 : n.tmod 8194 = n := by
    rw [Int.tmod_eq_emod, if_pos (.inl h0)]
    omega
  have h2 : wrap64 (n.tmod 8194 + 8194) = n + 8194 := by rw [e1]; unfold wrap64; omega
  rw [h2]
  have h3 := Int.tmod_eq_emod (a := n + 8194) (b := 8194)
  rw [if_pos (.inl (by omega))] at h3
  exact ⟨n.toNat, by omega, by omega⟩
theorem at_mod {m : Nat} (hm : 1 ≤ m) (hm2 : m ≤ 300) (i : Int) : ∃ a : Nat, (wrap64 (i.tmod m + m)).tmod m = (a : Int) ∧ a < m := by
  have h : -(m : Int) < i.tmod m ∧ i.tmod m < m := by
    have h1 := Int.emod_lt_of_pos i (show (0 : Int) < m by omega)
    have h2 := Int.emod_nonneg i (show (m : Int) ≠ 0 by omega)
    rw [Int.tmod_eq_emod]
    split
    · omega
    · rename_i hd
      have hd2 : i % m ≠ 0 := fun e => hd (.inr (Int.dvd_of_emod_eq_zero e))
      simp only [Int.natAbs_natCast]
      omega
  have h2 : wrap64 (i.tmod m + m) = i.tmod m + m := by unfold wrap64; omega
  rw [h2]
  have h3 := Int.tmod_eq_emod (a := i.tmod m + m) (b := m)
  rw [if_pos (.inl (by omega))] at h3
  have h4 := Int.emod_lt_of_pos (i.tmod m + m) (show (0 : Int) < m by omega)
  have h5 := Int.emod_nonneg (i.tmod m + m) (show (m : Int) ≠ 0 by omega)
  exact ⟨((i.tmod m + m).tmod m).toNat, by omega, by omega⟩
theorem u64_tmod18 (x : W64) : ∃ k : Nat, (x.toNat : Int).tmod 1800 = (k : Int) ∧ k ≤ 1799 := by
  refine ⟨x.toNat % 1800, ?_, by omega⟩
  rw [Int.tmod_eq_emod, if_pos (.inl (by omega))]
  omega
theorem i64_and7 (n : Int) : bits .and .i64 n 7 = n % 8 := by
  have h127 : (BitVec.ofInt 64 7).toNat = 2 ^ 3 - 1 := by decide
  have key : (BitVec.ofInt 64 n &&& BitVec.ofInt 64 7).toNat = (n % ((2 ^ 64 : Nat) : Int)).toNat % 2 ^ 3 := by
    rw [BitVec.toNat_and, BitVec.toNat_ofInt, h127, Nat.and_two_pow_sub_one_eq_mod]
  show IntKind.i64.wrap ((BitVec.ofInt 64 n &&& BitVec.ofInt 64 7).toNat : Nat) = n % 8
  rw [key, IntKind.wrap_i64]
  omega
set_option maxRecDepth 100000 in
set_option maxHeartbeats 2000000 in
theorem mfew_exact {s : ByteArray} {x0 : W64} {n : Int} (h0 : 0 ≤ n) (h1 : n ≤ 2000) (hs : s.size = 0) {w : World} :
    Calls Tryz.prog 8 #[.string s, U x0, .int .i64 n] w fun e W => ∃ t : ByteArray, e = .returned (.string t) ∧ (t.size : Int) = n ∧ New w W := by
  have T := Lib.hid fun n hn (w : World) => lawtext_any (x0 := x0) (n := n) hn (w := w)
  have hs' : (s.size : Int) ≤ 140737488351232 := by omega
  have HS0 := Lib.hid hs
  obtain ⟨k, hk, hkn⟩ := few_mod_exact h0 h1
  have hk2 : (k : Int) ≤ 2000 := by omega
  have HKN := Lib.hid hkn
  have h5' : ¬ (500 : Int) < (s.size : Int) := by omega
  have hsz : (s.size : Int) ≤ 0 := by omega
  clear h0 h1 hs hkn
  unfold U at T ⊢
  go_enter Tryz.func8, Tryz.ntmps8
  go_wp2_with fail
  clear hk
  refine (T.out k (by omega) _).mono ?_
  rintro e w1 ⟨t, rfl, ht, n1⟩
  have ht' : (t.size : Int) ≤ 2000 := by omega
  have h8' : ¬ (8193 : Int) < (s.size : Int) + (t.size : Int) := by omega
  have HT := Lib.hid (show s.size + t.size = k by have := HS0.out; omega)
  clear ht
  go_wp2_with fail
  go_ret
  exact ⟨s ++ t, by simp, by rw [ByteArray.size_append]; have := HT.out; have := HKN.out; omega, n1⟩
/-- The one operation that may come up is not wanted. -/
theorem wpAnyH_skipD {P : Program} {md : Region.Mode} {ops : Array Oper} {Q : Exit → Act → World → Prop} {S : World → Prop} {i : Nat} {oi : Oper} {d : Option Tmp} {fuel : Nat} {listed : Array Bool} {a : Act} {w : World} (hi : ops[i]? = some oi) (hd : oi.dst = d)
    (hr : Region.ready md ops listed = [i]) (hw : Region.wanted oi (yielded ops a.tmps) = false) (hS : S w)
    (h : wpAnyH P md ops Q S fuel (listed.setIfInBounds i true) (a.put d undef) w) : wpAnyH P md ops Q S (fuel + 1) listed a w := by
  subst hd
  refine wpAnyH_all hr (by simp) fun j hj => ?_
  rw [List.mem_singleton] at hj
  subst hj
  unfold wpOp
  rw [hi]
  show if Region.wanted oi (yielded ops a.tmps) = true then _ else _
  rw [if_neg (by rw [hw]; simp)]
  exact ⟨hS, h⟩
set_option maxRecDepth 100000 in
/-- A row appended to an empty one that is no nil: a row of its own. -/
theorem append_all {W : World} {B bE : Nat} {A : Option Addr} {q cap : Nat} {l : List ByteArray} (h : TxL W B (.slice A q cap) l) (hn : l.length ≤ 100000) (hE : Own W bE 9 #[]) :
    ∃ A' cap' W', (Builtin.append_ #[24, 24] 24 #[.slice (some ⟨bE, 0, none⟩) 0 0, .slice A q cap]).run Tryz.prog W = .ok (.slice A' q cap') W' ∧ TxL W' 0 (.slice A' q cap') l ∧ Fr (fun k => k = bE) W W' ∧ (∃ y, A' = some ⟨y, 0, none⟩ ∧ (y = bE ∨ W.heap.size ≤ y)) := by
  obtain ⟨i, hi, hv⟩ := Option.map_eq_some_iff.1 info_text
  have z1 : i.zero = some (.string ⟨#[]⟩) := congrArg Prod.fst hv
  have z2 : i.size = 1 := congrArg (fun x => x.2.1) hv
  have z3 : i.bytes = 16 := congrArg (fun x => x.2.2) hv
  have hT : W.ownsRow 0 9 1 (.slice (some ⟨bE, 0, none⟩) 0 0) 0 [] := ⟨rfl, .inr ⟨bE, 0, #[], rfl, Nat.zero_le _, hE, Nat.le_refl _, by simp [maxLen], rfl, rfl⟩⟩
  rcases h.2 with ⟨e, h0⟩ | ⟨g, c', cur, e, hB, hg, h1, h2, h3, h4⟩
  · injection e with e1 e2 e3
    subst e1 e2 e3
    have hl : l = [] := List.eq_nil_of_length_eq_zero h0
    subst hl
    refine ⟨some ⟨bE, 0, none⟩, 0, W, run_append_nothing W _ _ _ 9 i Tryz.underlying24 hi _ 0 0 (Nat.le_refl _) _ (Src.ofNil W Tryz.underlying24 0), hT, Fr.refl _ _, bE, rfl, .inl rfl⟩
  · injection e with e1 e2 e3
    subst e1 e2 e3
    obtain ⟨v', W', hr, g2, g3, g4, g5⟩ := run_append_own_at (P := Tryz.prog) W 0 24 24 9 i _ 1 16 Tryz.underlying24 hi z1 z2 z3 rfl (by omega) _ 0 [] hT ⟨g, 0, none⟩ l.length cap (l.map Value.string) (by simp)
      (fun j u hu => by
        have hc : W.cell? ⟨g, 0 + j, none⟩ = cur[j]? := by
          rw [Nat.zero_add]
          exact Own.cell (w := W) (b := g) (t := 9) (cs := cur) hg j
        have hj : j < l.length := by
          rcases Nat.lt_or_ge j l.length with h | h
          · exact h
          · rw [List.getElem?_eq_none (by simpa using h)] at hu
            cases hu
        rw [Addr.add_lit, hc, ← hu, ← h4, List.getElem?_take, if_pos (by omega), Array.getElem?_toList])
      (fun u hu => by
        obtain ⟨y, _, rfl⟩ := List.mem_map.1 hu
        rfl) (by simp [maxLen]; omega) (by omega) (Nat.zero_le _)
    rw [Nat.zero_add] at g2
    have hne := g4
    rcases g2.2 with ⟨e, h0⟩ | ⟨g', cap', cur', e, r⟩
    · exact absurd (g4.1 e).1 (by simp)
    · subst e
      refine ⟨some ⟨g', 0, none⟩, cap', W', hr, g2, (fr_of_grown g3).mono fun k e => ?_, g', rfl, ?_⟩
      · have e : some bE = some k := e
        injection e with e
        exact e.symm
      · rcases g5 with e | e
        · have e : some g' = some bE := e
          injection e with e
          exact .inl e
        · have e : some g' = some W.heap.size := e
          injection e with e
          exact .inr (by omega)
theorem chunksB_each {s : ByteArray} (hs : s.size ≤ 8192) : ∀ x ∈ chunksB cutB s, 1 ≤ x.size ∧ x.size ≤ 512 := by
  obtain ⟨n, hn⟩ : ∃ n, n = s.size := ⟨_, rfl⟩
  induction n using Nat.strongRecOn generalizing s with
  | _ n ih =>
    subst hn
    rcases Nat.eq_zero_or_pos s.size with h | h
    · rw [chunksB_nil _ h]
      intro x hx
      cases hx
    · have h1 := cutC.ok.pos s h hs
      have h2 := cutC.ok.le s hs
      have h3 := cutB_least s
      rw [chunksB_cons cutC.ok h hs]
      intro x hx
      have hz : (s.extract (cutB s) s.size).size = s.size - cutB s := by simp
      rcases List.mem_cons.1 hx with rfl | hx
      · have hz2 : (s.extract 0 (cutB s)).size = cutB s := by simp; omega
        omega
      · exact ih (s.extract (cutB s) s.size).size (by omega) (by omega) rfl x hx
/-- What the last line needs of the share that was changed. -/
structure BiS (w W : World) (by_ : Nat) (D : ByteArray) (z n i : Int) (c : ByteArray) (P : Option Addr) (q cap : Nat) (p : List ByteArray) : Prop where
  o : Own W by_ 27 #[.string D, .int .i64 z, .int .i64 n, .int .i64 i, .string c, .slice P q cap]
  n : New w W
  s : SlT W P q p
theorem BiS.new_ {w W W' : World} {by_ : Nat} {D : ByteArray} {z n i : Int} {c : ByteArray} {P : Option Addr} {q cap : Nat} {p : List ByteArray} (h : BiS w W by_ D z n i c P q cap p) (f : New W W') : BiS w W' by_ D z n i c P q cap p :=
  ⟨h.o.new_ f, h.n.new_ f, h.s.new_ f⟩
/-- What the arms of the switch find: the share x, its copy y with a row of its own. -/
structure BiK (w W : World) (bx by_ : Nat) (D : ByteArray) (z n i : Int) (c : ByteArray) (vx : Value) (P : Option Addr) (q cap : Nat) (p : List ByteArray) : Prop where
  x : Own W bx 27 #[.string D, .int .i64 z, .int .i64 n, .int .i64 i, .string c, vx]
  y : Own W by_ 27 #[.string D, .int .i64 z, .int .i64 n, .int .i64 i, .string c, .slice P q cap]
  n : New w W
  t : TxL W (by_ + 1) (.slice P q cap) p
  b : w.heap.size ≤ by_
/-- One store into the copy. -/
theorem BiK.put {w W : World} {bx by_ : Nat} {D D' : ByteArray} {z n i z' n' i' : Int} {c c' : ByteArray} {vx u : Value} {P : Option Addr} {q cap : Nat} {p : List ByteArray} (h : BiK w W bx by_ D z n i c vx P q cap p) (hp : p.length ≤ maxLen) {j : Nat}
    (e : (#[.string D, .int .i64 z, .int .i64 n, .int .i64 i, .string c, .slice P q cap] : Array Value).setIfInBounds j u = #[.string D', .int .i64 z', .int .i64 n', .int .i64 i', .string c', .slice P q cap]) :
    BiS w (W.setCell ⟨by_, j, none⟩ u) by_ D' z' n' i' c' P q cap p := by
  have fS : Fr (fun k => k = by_) W (W.setCell ⟨by_, j, none⟩ u) := Fr.set (F := fun k => k = by_) (p := ⟨by_, j, none⟩) (Fr.refl _ W) (fun _ => rfl) _
  refine ⟨h.y.put e, h.n.trans fS fun k hk e => ?_, SlT.of_txl (h.t.fr fS fun k hk e => ?_) hp⟩
  · have := h.b
    have e : k = by_ := e
    omega
  · have := (h.t.base hk).1
    have e : k = by_ := e
    omega

set_option maxRecDepth 1000000 in
set_option maxHeartbeats 64000000 in
theorem merkleBinds_core {w : World} (hG : w.cell? ⟨0, 0, none⟩ = some errT) {x0 : W64} {kind at_ : Int} :
    Calls Tryz.prog 3 #[U x0, .int .i64 kind, .int .i64 at_] w fun e W => e = .returned (.bool true) ∧ New w W := by
  obtain ⟨k, hk, hk2⟩ := u64_tmod18 x0
  have hx0 := blt x0
  have F := Lib.hid (mfew_exact (s := ⟨#[]⟩) (x0 := x0) (n := 200 + k) (by omega) (by omega) rfl (w := w))
  have hki : (k : Int) ≤ 1799 := by omega
  go_enter Tryz.func3, Tryz.ntmps3
  unfold U at F ⊢
  go_wp2_with fail
  refine F.out.mono ?_
  rintro e W1 ⟨t, rfl, ht, n1⟩
  have hz1 : 200 ≤ t.size := by omega
  have h8 : t.size ≤ 8192 := by omega
  have hz2 : t.size ≤ 2000 := by omega
  clear hk hk2 hki F ht
  have hcnt := chunksB_count h8
  have hcl := chunksB_each h8
  have RO := Lib.hid fun (w : World) => ref_of h8 (w := w)
  have SI := Lib.hid fun (a : Nat) (ha : a < (chunksB cutB t).length) (w : World) => show_in h8 ha (w := w)
  have hdl : ∀ x ∈ (chunksB cutB t).map digB, x.size = 32 := fun x hx => by
    obtain ⟨y, _, rfl⟩ := List.mem_map.1 hx
    exact digB_size y
  obtain ⟨l, hl⟩ : ∃ l, l = chunksB cutB t := ⟨_, rfl⟩
  rw [← hl] at RO SI hcnt hcl hdl
  have hm1' : 1 ≤ l.length := by
    rcases Nat.eq_zero_or_pos l.length with h | h
    · have := hcnt.2.2.1 h
      omega
    · exact h
  have HL := Lib.hid (And.intro hcnt (And.intro hcl hdl))
  have HZ := Lib.hid (And.intro hz1 hz2)
  clear hcnt hcl hdl hl hz1 hz2 h8
  go_wp2_with fail
  refine (RO.out _).mono ?_
  rintro e W2 ⟨v, rfl, t2, n2⟩
  obtain ⟨A, cap, rfl⟩ := t2.form
  have hc := t2.cap
  have H2 := Lib.hid (n1.new_ n2)
  clear n1 n2 t2
  have hlm : (l.map digB).length = l.length := List.length_map _
  rw [hlm] at hc ⊢
  obtain ⟨m, hm⟩ : ∃ m, m = l.length := ⟨_, rfl⟩
  rw [← hm] at hc SI hm1' ⊢
  have hm2' : m ≤ 255 := by have := HL.out.1.1; have := HZ.out.2; omega
  have hm1 : (m : Int) ≤ 255 := by omega
  have hm0 : ¬ (m : Int) = 0 := by omega
  have HM := Lib.hid hm
  obtain ⟨a, ha1, ha⟩ := at_mod hm1' (by omega) at_
  have hai : (a : Int) < (m : Int) := by omega
  clear hm hlm
  have hpl := pathB_length (l.map digB) a
  rw [List.length_map, ← HM.out] at hpl
  have hup := up_path _ (l.map digB) a (Nat.le_refl _) (by rw [List.length_map, ← HM.out]; exact ha) HL.out.2.2
  have hch : (l.map digB).getD a .empty = digB (l.getD a .empty) := by
    simp only [List.getD, List.getElem?_map]
    rw [List.getElem?_eq_getElem (by rw [← HM.out]; exact ha)]
    rfl
  have hce := HL.out.2.1 (l.getD a .empty) (by
    rw [List.getD_eq_getElem?_getD, List.getElem?_eq_getElem (by rw [← HM.out]; exact ha)]
    exact List.getElem_mem _)
  rw [hch, List.length_map, ← HM.out] at hup
  have SA := Lib.hid fun (w : World) => SI.out a ha w
  obtain ⟨dl, hdl⟩ : ∃ dl, dl = l.map digB := ⟨_, rfl⟩
  rw [← hdl] at SA hpl hup
  obtain ⟨pl, hpl0⟩ : ∃ pl, pl = pathB dl a := ⟨_, rfl⟩
  rw [← hpl0] at SA hpl hup
  obtain ⟨ch, hch0⟩ : ∃ ch, ch = l.getD a .empty := ⟨_, rfl⟩
  have hch1 : (chunksB cutB t).getD a .empty = (chunksB cutB t).getD a .empty := rfl
  rw [← hch0] at SA hup hce
  obtain ⟨fb, hfb⟩ : ∃ fb, fb = fileB t.size m (rootB dl) := ⟨_, rfl⟩
  have hfz : fb.size = 32 := by rw [hfb]; exact shaB_size _
  have SA' := SA.out
  rw [← hfb] at SA'
  have SB := Lib.hid SA'
  have HF := Lib.hid hfb
  have hze : (t.size : Int) ≤ 2000 := by have := HZ.out.2; omega
  have HP := Lib.hid (And.intro hpl (And.intro hup (And.intro hce (And.intro hfz (And.intro ha hm1')))))
  have HV := Lib.hid (show 1 ≤ m ∧ m ≤ 256 ∧ a < m ∧ m ≤ t.size ∧ t.size ≤ 512 * m ∧ t.size ≤ 8192 ∧ 1 ≤ ch.size ∧ ch.size ≤ 512 ∧ upB (digB ch) a m pl = some (rootB dl) from by
    have h1 := HL.out.1
    have h2 := HZ.out
    have h3 := HM.out
    rw [← h3] at h1
    exact ⟨hm1', by omega, ha, by omega, h1.2.1, by omega, hce.1, hce.2, hup⟩)
  clear hpl hup hce hch hdl hpl0 hch0 hch1 hfb hfz SA SA' SI ha hm1'
  go_wp2_with fail
  refine (SB.out _).mono ?_
  rintro e W3 ⟨v3, rfl, t3, n3⟩
  obtain ⟨B, cap3, rfl⟩ := t3.form
  have hc3 := t3.cap
  obtain ⟨q, hq⟩ : ∃ q, q = pl.length := ⟨_, rfl⟩
  rw [← hq] at t3 hc3 ⊢
  have hq3 : (q : Int) ≤ (cap3 : Int) := by omega
  have hqm : (q : Int) ≤ 255 := by have := HP.out.1; omega
  have HQ := Lib.hid hq
  obtain ⟨bx, hbx⟩ : ∃ bx, bx = W3.heap.size := ⟨_, rfl⟩
  have hA3 : Own (W3.alloc (.cells #[.string fb, .int .i64 t.size, .int .i64 m, .int .i64 a, .string ch, .slice B q cap3] 27)) bx 27 #[.string fb, .int .i64 t.size, .int .i64 m, .int .i64 a, .string ch, .slice B q cap3] := Own.new' hbx.symm
  have hN3 : New w (W3.alloc (.cells #[.string fb, .int .i64 t.size, .int .i64 m, .int .i64 a, .string ch, .slice B q cap3] 27)) := (H2.out.new_ n3).alloc _
  have hT3 : TxL (W3.alloc (.cells #[.string fb, .int .i64 t.size, .int .i64 m, .int .i64 a, .string ch, .slice B q cap3] 27)) 0 (.slice B q cap3) pl := (t3.mono (Nat.zero_le _)).new_ ((Fr.refl _ W3).alloc _)
  have HK := Lib.hid (And.intro hA3 (And.intro hN3 hT3))
  clear hq n3 t3 H2 hA3 hN3 hT3
  go_simp
  go_wp2_with fail
  rw [← hbx]
  generalize World.alloc W3 _ = V3 at HK ⊢
  clear hbx ha1
  rename_i K3 h3 K2 h2 K1 h1
  have H3 := Lib.hid h3
  clear h3
  refine merkle_awake.mono ?_
  rintro e W4 ⟨rfl, n4⟩
  have K4 := Lib.hid (And.intro (HK.out.1.new_ n4) (And.intro (HK.out.2.1.new_ n4) (HK.out.2.2.new_ n4)))
  clear n4 HK
  obtain ⟨⟨x0', x1, x2, x3, x4, x5⟩, -⟩ := own6s K4.out.1
  go_simp
  go_wp2_with fail
  refine (verify_up (r := 0) HV.out.1 HV.out.2.1 HV.out.2.2.1 HV.out.2.2.2.1 HV.out.2.2.2.2.1 HV.out.2.2.2.2.2.1 HV.out.2.2.2.2.2.2.1 HV.out.2.2.2.2.2.2.2.1 (SlT.of_txl K4.out.2.2 (by rw [← HQ.out]; simp [maxLen]; omega)) hc3.1 hc3.2 HV.out.2.2.2.2.2.2.2.2 ⟨fun _ => rfl, fun hn => absurd HF.out hn⟩).mono ?_
  rintro e W5 ⟨rfl, n5⟩
  have K5 := Lib.hid (And.intro (K4.out.1.new_ n5) (And.intro (K4.out.2.1.new_ n5) (K4.out.2.2.new_ n5)))
  clear n5 K4 x0' x1 x2 x3 x4 x5
  obtain ⟨⟨x0', x1, x2, x3, x4, x5⟩, -⟩ := own6s K5.out.1
  go_simp
  go_wp2_with fail
  refine H3.out _ _ ?_
  clear H3
  try clear h2 K2
  try clear K3
  go_step
  rename_i K6 h6
  have H6 := Lib.hid h6
  clear h6
  obtain ⟨by_, hby⟩ : ∃ by_, by_ = W5.heap.size := ⟨_, rfl⟩
  go_wp2_with fail
  refine H6.out _ _ ?_
  clear H6
  try clear K6
  have oY : Own (W5.alloc (.cells #[.string fb, .int .i64 t.size, .int .i64 m, .int .i64 a, .string ch, .slice B q cap3] 27)) by_ 27 #[.string fb, .int .i64 t.size, .int .i64 m, .int .i64 a, .string ch, .slice B q cap3] := Own.new' hby.symm
  have hbxl := K5.out.1.lt
  have hxy : bx ≠ by_ := by omega
  have nY : New W5 (W5.alloc (.cells #[.string fb, .int .i64 t.size, .int .i64 m, .int .i64 a, .string ch, .slice B q cap3] 27)) := (Fr.refl _ _).alloc _
  have sz6 := Lib.hid (show w.heap.size ≤ by_ by have := K5.out.2.1.size; omega)
  rw [← hby]
  generalize World.alloc W5 _ = W6 at oY nY ⊢
  have K6 := Lib.hid (And.intro (K5.out.1.new_ nY) (And.intro (K5.out.2.1.new_ nY) (And.intro (K5.out.2.2.new_ nY) oY)))
  clear hby hbxl K5 oY nY x0' x1 x2 x3 x4 x5
  have hNE : New W6 (W6.alloc (.cells #[] 9)) := (Fr.refl _ _).alloc _
  obtain ⟨PA, cpA, W7, hrA, tA, fA, yA, hyA, hyA2⟩ := append_all (K6.out.2.2.1.new_ hNE) (by rw [← HQ.out]; omega) (Own.fresh W6 9 #[])
  subst hyA
  have hl6 := K6.out.2.2.2.lt
  have n7 : New W6 W7 := hNE.trans fA fun k hk e => by omega
  have hcA := tA.cap
  have hqA : (q : Int) ≤ (cpA : Int) := by omega
  have K7 := Lib.hid (And.intro (K6.out.1.new_ n7) (And.intro (K6.out.2.1.new_ n7) (And.intro tA (And.intro (K6.out.2.2.2.new_ n7) (show W6.heap.size ≤ yA by
    rcases hyA2 with e | e
    · omega
    · rw [World.size_alloc] at e
      omega)))))
  have oy := (K6.out.2.2.2.new_ n7)
  have hoy := oy.lt
  have fre := oy.free 5
  have oyc := oy.cell 5
  simp only [List.getElem?_toArray, List.getElem?_cons_zero, List.getElem?_cons_succ] at oyc
  obtain ⟨⟨x0', x1, x2, x3, x4, x5⟩, -⟩ := own6s ((K6.out.1.new_ hNE))
  clear n7 fA hNE tA
  go_step
  rename_i K7' h7
  have H7 := Lib.hid h7
  clear h7
  go_wp2_with (at_builtin; refine wpList_append_run rfl (.tmp 47) (.tmp 49) 24 rfl rfl rfl hrA ?_)
  refine H7.out _ _ ?_
  clear H7
  try clear K7'
  clear hrA x0' x1 x2 x3 x4 x5 oyc fre
  have fS : Fr (fun k => k = by_) W7 (W7.setCell ⟨by_, 5, none⟩ (.slice (some ⟨yA, 0, none⟩) q cpA)) := Fr.set (F := fun k => k = by_) (p := ⟨by_, 5, none⟩) (Fr.refl _ W7) (fun _ => rfl) _
  have K8 := Lib.hid (BiK.mk (w := w) (W := W7.setCell ⟨by_, 5, none⟩ (.slice (some ⟨yA, 0, none⟩) q cpA)) (bx := bx) (K7.out.1.fr fS hxy) (oy.put (cs' := #[.string fb, .int .i64 t.size, .int .i64 m, .int .i64 a, .string ch, .slice (some ⟨yA, 0, none⟩) q cpA]) rfl)
    (K7.out.2.1.trans fS fun k hk e => by have := sz6.out; have e : k = by_ := e; omega)
    (show TxL _ (by_ + 1) _ pl from by
      have h := K7.out.2.2.1.fr fS (fun k hk e => by
        have e : k = by_ := e
        have hk : some yA = some k := hk
        injection hk with hk
        have := K7.out.2.2.2.2
        omega)
      rcases h.2 with ⟨e, h0⟩ | ⟨g, c', cur, e, hB, hg, r⟩
      · cases e
      · injection e with e1 e2 e3
        injection e1 with e1
        injection e1 with e1
        subst e1
        exact ⟨h.1, .inr ⟨yA, c', cur, by rw [e3, ← HQ.out], by have := K7.out.2.2.2.2; omega, hg, r⟩⟩) sz6.out)
  clear fS oy hoy K7 hl6 K6 hyA2
  generalize World.setCell W7 _ _ = W8 at K8 ⊢
  obtain ⟨kk, hkk, hkk7⟩ : ∃ kk : Int, bits .and .i64 kind 7 = kk ∧ (0 ≤ kk ∧ kk ≤ 7) := ⟨kind % 8, by rw [i64_and7], by omega⟩
  go_step
  rename_i K8' h8
  have H8 := Lib.hid h8
  clear h8
  go_step
  go_step
  go_step
  go_simp
  go_step
  go_step
  go_simp
  go_step
  go_step
  go_step
  go_step
  go_step
  clear hkk
  have HA := Lib.hid (show (ch.size : Int) ≤ 512 ∧ 1 ≤ (ch.size : Int) by have := HV.out; omega)
  clear HL HP RO SB hm2' hc hc3 hq3 HZ
  obtain rfl | rfl | rfl | rfl | rfl | rfl | rfl | rfl : kk = 0 ∨ kk = 1 ∨ kk = 2 ∨ kk = 3 ∨ kk = 4 ∨ kk = 5 ∨ kk = 6 ∨ kk = 7 := by omega
  · have y0 := K8.out.y.cell 0
    have y1 := K8.out.y.cell 1
    have y2 := K8.out.y.cell 2
    have y3 := K8.out.y.cell 3
    have y4 := K8.out.y.cell 4
    have y5 := K8.out.y.cell 5
    have x4 := K8.out.x.cell 4
    simp only [List.getElem?_toArray, List.getElem?_cons_zero, List.getElem?_cons_succ] at y0 y1 y2 y3 y4 y5 x4
    have f0 := K8.out.y.free 0
    have f1 := K8.out.y.free 1
    have f2 := K8.out.y.free 2
    have f3 := K8.out.y.free 3
    have f4 := K8.out.y.free 4
    have f5 := K8.out.y.free 5
    have ha1 := HA.out.1
    have ha2 := HA.out.2
    go_wp2_with fail
    refine H8.out _ _ ?_
    clear H8
    try clear K8'
    clear y0 y1 y2 y3 y4 y5 x4 f0 f1 f2 f3 f4 f5 ha1 ha2
    have hB : BiS w (W8.setCell ⟨by_, 4, none⟩ (.string (ch ++ ⟨#[120]⟩))) by_ fb t.size m a (ch ++ ⟨#[120]⟩) (some ⟨yA, 0, none⟩) q cpA pl := K8.out.put (by rw [← HQ.out]; simp [maxLen]; omega) rfl
    generalize World.setCell W8 _ _ = W9 at hB ⊢
    clear K8
    have wz : (Lit.int .i64 t.size).wf = true := by
      simp only [Lit.wf, Bool.and_eq_true, decide_eq_true_eq]
      exact ⟨by show (-9223372036854775808 : Int) ≤ _; omega, by show _ ≤ (9223372036854775807 : Int); omega⟩
    have wn : (Lit.int .i64 m).wf = true := by
      simp only [Lit.wf, Bool.and_eq_true, decide_eq_true_eq]
      exact ⟨by show (-9223372036854775808 : Int) ≤ _; omega, by show _ ≤ (9223372036854775807 : Int); omega⟩
    have wi : (Lit.int .i64 a).wf = true := by
      simp only [Lit.wf, Bool.and_eq_true, decide_eq_true_eq]
      exact ⟨by show (-9223372036854775808 : Int) ≤ _; omega, by show _ ≤ (9223372036854775807 : Int); omega⟩
    have wc : (ch ++ ⟨#[120]⟩).size ≤ maxLen := by
      have := HA.out
      have e1 : (⟨#[120]⟩ : ByteArray).size = 1 := rfl
      simp only [ByteArray.size_append, ByteArray.size_extract, maxLen]
      omega
    have VA := Lib.hid fun (w : World) hG hl => verify_any (D := fb) (c := (ch ++ ⟨#[120]⟩)) (z := t.size) (n := m) (i := a) (P := (some ⟨yA, 0, none⟩)) (q := q) (cap := cpA) (p := pl) (w := w) hG hl (by omega) (by omega) wc
    have RS := Lib.hid fun (w : World) hl => ref_share (D := fb) (c := (ch ++ ⟨#[120]⟩)) (z := t.size) (n := m) (i := a) (P := (some ⟨yA, 0, none⟩)) (q := q) (cap := cpA) (p := pl) (w := w) hl (by omega) (by omega)
    have RV := Lib.hid fun (q2 : Nat) (w : World) hl h1 h2 => refverify_any (D := fb) (c := (ch ++ ⟨#[120]⟩)) (z := t.size) (n := m) (i := a) (P := (some ⟨yA, 0, none⟩)) (q := q2) (cap := cpA) (p := List.take 21 (pl)) (w := w) hl h1 (by omega) h2 wc wz wn wi
    have HC := Lib.hid (verB_cut fb t.size m a (ch ++ ⟨#[120]⟩) pl 21 (by omega))
    obtain ⟨r, hr⟩ : ∃ r, r = verB fb t.size m a (ch ++ ⟨#[120]⟩) (pl) := ⟨_, rfl⟩
    rw [← hr] at VA HC
    have HB := Lib.hid hB
    have HG := Lib.hid hG
    clear hB hG hr wz wn wi wc
    apply wp_seq_k
    intro K26 h26
    have hS0 : New W9 W9.drew := (Fr.refl _ _).drew
    refine wp_region_heldE (fun W' => New W9 W') (by kernel_rfl) ?_
    try simp only [Act.put, List.setIfInBounds_toArray, List.set_cons_zero, List.set_cons_succ]
    refine wpAnyH_takeD (i := 0) (d := some 104) (v := .agg #[.string fb, .int .i64 t.size, .int .i64 m, .int .i64 a, .string (ch ++ ⟨#[120]⟩), .slice (some ⟨yA, 0, none⟩) q cpA]) rfl rfl (by kernel_rfl) (by kernel_rfl) (by kernel_rfl) (fun _ _ _ h => h) (.inl ⟨by kernel_rfl, fun w' hS => ?t0⟩) hS0 ?_
    case t0 =>
      obtain ⟨⟨x0, x1, x2, x3, x4, x5⟩, -⟩ := own6s (HB.out.o.new_ hS)
      go_simp
    refine wpAnyH_takeD (i := 2) (d := some 106) (v := .agg #[.string fb, .int .i64 t.size, .int .i64 m, .int .i64 a, .string (ch ++ ⟨#[120]⟩), .slice (some ⟨yA, 0, none⟩) q cpA]) rfl rfl (by kernel_rfl) (by kernel_rfl) (by kernel_rfl) (fun _ _ _ h => h) (.inl ⟨by kernel_rfl, fun w' hS => ?t2⟩) hS0 ?_
    case t2 =>
      obtain ⟨⟨x0, x1, x2, x3, x4, x5⟩, -⟩ := own6s (HB.out.o.new_ hS)
      go_simp
    try simp only [Act.put, List.setIfInBounds_toArray, List.set_cons_zero, List.set_cons_succ]
    refine wpAnyH_all (rs := [1]) (by kernel_rfl) (by simp) (fun j hj => ?_)
    rw [List.mem_singleton] at hj
    subst hj
    refine wpOp_step rfl (fun K hK => ?_)
    go_simp
    refine (VA.out _ (glob_new HG.out (HB.out.n.new_ hS0)) (HB.out.s.new_ hS0)).mono ?_
    rintro e W' ⟨rfl, n'⟩
    replace hS0 := hS0.new_ n'
    clear n'
    refine hK _ _ ⟨hS0, ?_⟩
    clear hK K
    try simp only [List.getElem_toArray, List.getElem_cons_succ, List.getElem_cons_zero]
    try simp only [Act.put, List.setIfInBounds_toArray, List.set_cons_zero, List.set_cons_succ]
    refine wpAnyH_all (rs := [3]) (by kernel_rfl) (by simp) (fun j hj => ?_)
    rw [List.mem_singleton] at hj
    subst hj
    refine wpOp_step rfl (fun K hK => ?_)
    go_simp
    refine (RS.out _ (HB.out.s.new_ hS0)).mono ?_
    rintro e W' ⟨q2, rfl, hl2, h21, hqc2, n'⟩
    replace hS0 := hS0.new_ n'
    clear n'
    refine hK _ _ ⟨hS0, ?_⟩
    clear hK K
    try simp only [List.getElem_toArray, List.getElem_cons_succ, List.getElem_cons_zero]
    try simp only [Act.put, List.setIfInBounds_toArray, List.set_cons_zero, List.set_cons_succ]
    refine wpAnyH_all (rs := [4]) (by kernel_rfl) (by simp) (fun j hj => ?_)
    rw [List.mem_singleton] at hj
    subst hj
    refine wpOp_step rfl (fun K hK => ?_)
    go_simp
    refine (RV.out q2 _ hl2 hqc2 h21).mono ?_
    rintro e W' ⟨rfl, n'⟩
    replace hS0 := hS0.new_ n'
    clear n' hl2 hqc2 h21
    rw [HC.out]
    refine hK _ _ ⟨hS0, ?_⟩
    clear hK K
    try simp only [List.getElem_toArray, List.getElem_cons_succ, List.getElem_cons_zero]
    refine wpAnyH_takeD (i := 5) (d := some 109) (v := .bool true) rfl rfl (by kernel_rfl) (by kernel_rfl) (by kernel_rfl) (fun _ _ _ h => h) (.inl ⟨by kernel_rfl, fun w' hS => ?t5⟩) hS0 ?_
    case t5 =>
      go_simp
    refine wpAnyH_takeD (i := 6) (d := some 110) (v := .bool true) rfl rfl (by kernel_rfl) (by kernel_rfl) (by kernel_rfl) (fun _ _ _ h => h) (.inl ⟨by kernel_rfl, fun w' hS => ?t6⟩) hS0 ?_
    case t6 =>
      go_simp
    refine wpAnyH_takeD (i := 7) (d := some 111) (v := .agg #[.string fb, .int .i64 t.size, .int .i64 m, .int .i64 a, .string (ch ++ ⟨#[120]⟩), .slice (some ⟨yA, 0, none⟩) q cpA]) rfl rfl (by kernel_rfl) (by kernel_rfl) (by kernel_rfl) (fun _ _ _ h => h) (.inl ⟨by kernel_rfl, fun w' hS => ?t7⟩) hS0 ?_
    case t7 =>
      obtain ⟨⟨x0, x1, x2, x3, x4, x5⟩, -⟩ := own6s (HB.out.o.new_ hS)
      go_simp
    try simp only [Act.put, List.setIfInBounds_toArray, List.set_cons_zero, List.set_cons_succ]
    refine wpAnyH_all (rs := [8]) (by kernel_rfl) (by simp) (fun j hj => ?_)
    rw [List.mem_singleton] at hj
    subst hj
    refine wpOp_step rfl (fun K hK => ?_)
    go_simp
    refine (VA.out _ (glob_new HG.out (HB.out.n.new_ hS0)) (HB.out.s.new_ hS0)).mono ?_
    rintro e W' ⟨rfl, n'⟩
    replace hS0 := hS0.new_ n'
    clear n'
    refine hK _ _ ⟨hS0, ?_⟩
    clear hK K
    try simp only [List.getElem_toArray, List.getElem_cons_succ, List.getElem_cons_zero]
    by_cases hr : r = 0
    · subst hr
      refine wpAnyH_takeD (i := 9) (d := some 113) (v := .bool false) rfl rfl (by kernel_rfl) (by kernel_rfl) (by kernel_rfl) (fun _ _ _ h => h) (.inl ⟨by kernel_rfl, fun w' hS => ?t9⟩) hS0 ?_
      case t9 =>
        go_simp
      refine wpAnyH_takeD (i := 10) (d := some 114) (v := .bool false) rfl rfl (by kernel_rfl) (by kernel_rfl) (by kernel_rfl) (fun _ _ _ h => h) (.inl ⟨by kernel_rfl, fun w' hS => ?t10⟩) hS0 ?_
      case t10 =>
        go_simp
      refine wpAnyH_takeD (i := 11) (d := some 115) (v := .agg #[.string fb, .int .i64 t.size, .int .i64 m, .int .i64 a, .string (ch ++ ⟨#[120]⟩), .slice (some ⟨yA, 0, none⟩) q cpA]) rfl rfl (by kernel_rfl) (by kernel_rfl) (by kernel_rfl) (fun _ _ _ h => h) (.inl ⟨by kernel_rfl, fun w' hS => ?t11⟩) hS0 ?_
      case t11 =>
        obtain ⟨⟨x0, x1, x2, x3, x4, x5⟩, -⟩ := own6s (HB.out.o.new_ hS)
        go_simp
      try simp only [Act.put, List.setIfInBounds_toArray, List.set_cons_zero, List.set_cons_succ]
      refine wpAnyH_all (rs := [12]) (by kernel_rfl) (by simp) (fun j hj => ?_)
      rw [List.mem_singleton] at hj
      subst hj
      refine wpOp_step rfl (fun K hK => ?_)
      go_simp
      refine (RS.out _ (HB.out.s.new_ hS0)).mono ?_
      rintro e W' ⟨q2, rfl, hl2, h21, hqc2, n'⟩
      replace hS0 := hS0.new_ n'
      clear n'
      refine hK _ _ ⟨hS0, ?_⟩
      clear hK K
      try simp only [List.getElem_toArray, List.getElem_cons_succ, List.getElem_cons_zero]
      try simp only [Act.put, List.setIfInBounds_toArray, List.set_cons_zero, List.set_cons_succ]
      refine wpAnyH_all (rs := [13]) (by kernel_rfl) (by simp) (fun j hj => ?_)
      rw [List.mem_singleton] at hj
      subst hj
      refine wpOp_step rfl (fun K hK => ?_)
      go_simp
      refine (RV.out q2 _ hl2 hqc2 h21).mono ?_
      rintro e W' ⟨rfl, n'⟩
      replace hS0 := hS0.new_ n'
      clear n' hl2 hqc2 h21
      rw [HC.out]
      refine hK _ _ ⟨hS0, ?_⟩
      clear hK K
      try simp only [List.getElem_toArray, List.getElem_cons_succ, List.getElem_cons_zero]
      refine wpAnyH_takeD (i := 14) (d := some 118) (v := .bool true) rfl rfl (by kernel_rfl) (by kernel_rfl) (by kernel_rfl) (fun _ _ _ h => h) (.inl ⟨by kernel_rfl, fun w' hS => ?t14⟩) hS0 ?_
      case t14 =>
        go_simp
      refine wpAnyH_takeD (i := 15) (d := some 119) (v := .bool true) rfl rfl (by kernel_rfl) (by kernel_rfl) (by kernel_rfl) (fun _ _ _ h => h) (.inl ⟨by kernel_rfl, fun w' hS => ?t15⟩) hS0 ?_
      case t15 =>
        go_simp
      refine wpAnyH_takeD (i := 16) (d := some 120) (v := .bool true) rfl rfl (by kernel_rfl) (by kernel_rfl) (by kernel_rfl) (fun _ _ _ h => h) (.inl ⟨by kernel_rfl, fun w' hS => ?t16⟩) hS0 ?_
      case t16 =>
        go_simp
      refine wpAnyH_takeD (i := 17) (d := some 6) (v := .bool true) rfl rfl (by kernel_rfl) (by kernel_rfl) (by kernel_rfl) (fun _ _ _ h => h) (.inl ⟨by kernel_rfl, fun w' hS => ?t17⟩) hS0 ?_
      case t17 =>
        go_simp
      refine wpAnyH_done (by kernel_rfl) ?_ _
      try simp only [Act.put, List.setIfInBounds_toArray, List.set_cons_zero, List.set_cons_succ]
      have NF := Lib.hid (HB.out.n.new_ hS0)
      clear hS0
      go_wp2_with fail
      go_ret
      exact ⟨rfl, NF.out⟩
    · have hr' : (r == 0) = false := by simpa using hr
      have hr'' : (r != 0) = true := by simpa using hr
      refine wpAnyH_takeD (i := 9) (d := some 113) (v := .bool true) rfl rfl (by kernel_rfl) (by kernel_rfl) (by kernel_rfl) (fun _ _ _ h => h) (.inl ⟨by kernel_rfl, fun w' hS => ?t9⟩) hS0 ?_
      case t9 =>
        go_simp
      refine wpAnyH_takeD (i := 10) (d := some 114) (v := .bool true) rfl rfl (by kernel_rfl) (by kernel_rfl) (by kernel_rfl) (fun _ _ _ h => h) (.inl ⟨by kernel_rfl, fun w' hS => ?t10⟩) hS0 ?_
      case t10 =>
        go_simp
      refine wpAnyH_takeD (i := 11) (d := some 115) (v := undef) rfl rfl (by kernel_rfl) (by kernel_rfl) (by kernel_rfl) (fun _ _ _ h => h) (.inr ⟨by kernel_rfl, rfl⟩) hS0 ?_
      refine wpAnyH_skipD (i := 12) (d := some 116) rfl rfl (by kernel_rfl) (by kernel_rfl) hS0 ?_
      refine wpAnyH_skipD (i := 13) (d := some 117) rfl rfl (by kernel_rfl) (by kernel_rfl) hS0 ?_
      refine wpAnyH_takeD (i := 14) (d := some 118) (v := undef) rfl rfl (by kernel_rfl) (by kernel_rfl) (by kernel_rfl) (fun _ _ _ h => h) (.inr ⟨by kernel_rfl, rfl⟩) hS0 ?_
      refine wpAnyH_takeD (i := 15) (d := some 119) (v := .bool true) rfl rfl (by kernel_rfl) (by kernel_rfl) (by kernel_rfl) (fun _ _ _ h => h) (.inl ⟨by kernel_rfl, fun w' hS => ?t15⟩) hS0 ?_
      case t15 =>
        go_simp
      refine wpAnyH_takeD (i := 16) (d := some 120) (v := .bool true) rfl rfl (by kernel_rfl) (by kernel_rfl) (by kernel_rfl) (fun _ _ _ h => h) (.inl ⟨by kernel_rfl, fun w' hS => ?t16⟩) hS0 ?_
      case t16 =>
        go_simp
      refine wpAnyH_takeD (i := 17) (d := some 6) (v := .bool true) rfl rfl (by kernel_rfl) (by kernel_rfl) (by kernel_rfl) (fun _ _ _ h => h) (.inl ⟨by kernel_rfl, fun w' hS => ?t17⟩) hS0 ?_
      case t17 =>
        go_simp
      refine wpAnyH_done (by kernel_rfl) ?_ _
      try simp only [Act.put, List.setIfInBounds_toArray, List.set_cons_zero, List.set_cons_succ]
      have NF := Lib.hid (HB.out.n.new_ hS0)
      clear hS0
      go_wp2_with fail
      go_ret
      exact ⟨rfl, NF.out⟩
  · have y0 := K8.out.y.cell 0
    have y1 := K8.out.y.cell 1
    have y2 := K8.out.y.cell 2
    have y3 := K8.out.y.cell 3
    have y4 := K8.out.y.cell 4
    have y5 := K8.out.y.cell 5
    have x4 := K8.out.x.cell 4
    simp only [List.getElem?_toArray, List.getElem?_cons_zero, List.getElem?_cons_succ] at y0 y1 y2 y3 y4 y5 x4
    have f0 := K8.out.y.free 0
    have f1 := K8.out.y.free 1
    have f2 := K8.out.y.free 2
    have f3 := K8.out.y.free 3
    have f4 := K8.out.y.free 4
    have f5 := K8.out.y.free 5
    have ha1 := HA.out.1
    have ha2 := HA.out.2
    go_wp2_with fail
    refine H8.out _ _ ?_
    clear H8
    try clear K8'
    clear y0 y1 y2 y3 y4 y5 x4 f0 f1 f2 f3 f4 f5 ha1 ha2
    have hB : BiS w (W8.setCell ⟨by_, 1, none⟩ (.int .i64 (t.size + 1))) by_ fb (t.size + 1 : Int) m a ch (some ⟨yA, 0, none⟩) q cpA pl := K8.out.put (by rw [← HQ.out]; simp [maxLen]; omega) rfl
    generalize World.setCell W8 _ _ = W9 at hB ⊢
    clear K8
    have wz : (Lit.int .i64 (t.size + 1 : Int)).wf = true := by
      simp only [Lit.wf, Bool.and_eq_true, decide_eq_true_eq]
      exact ⟨by show (-9223372036854775808 : Int) ≤ _; omega, by show _ ≤ (9223372036854775807 : Int); omega⟩
    have wn : (Lit.int .i64 m).wf = true := by
      simp only [Lit.wf, Bool.and_eq_true, decide_eq_true_eq]
      exact ⟨by show (-9223372036854775808 : Int) ≤ _; omega, by show _ ≤ (9223372036854775807 : Int); omega⟩
    have wi : (Lit.int .i64 a).wf = true := by
      simp only [Lit.wf, Bool.and_eq_true, decide_eq_true_eq]
      exact ⟨by show (-9223372036854775808 : Int) ≤ _; omega, by show _ ≤ (9223372036854775807 : Int); omega⟩
    have wc : ch.size ≤ maxLen := by
      have := HA.out
      have e1 : (⟨#[120]⟩ : ByteArray).size = 1 := rfl
      simp only [ByteArray.size_append, ByteArray.size_extract, maxLen]
      omega
    have VA := Lib.hid fun (w : World) hG hl => verify_any (D := fb) (c := ch) (z := (t.size + 1 : Int)) (n := m) (i := a) (P := (some ⟨yA, 0, none⟩)) (q := q) (cap := cpA) (p := pl) (w := w) hG hl (by omega) (by omega) wc
    have RS := Lib.hid fun (w : World) hl => ref_share (D := fb) (c := ch) (z := (t.size + 1 : Int)) (n := m) (i := a) (P := (some ⟨yA, 0, none⟩)) (q := q) (cap := cpA) (p := pl) (w := w) hl (by omega) (by omega)
    have RV := Lib.hid fun (q2 : Nat) (w : World) hl h1 h2 => refverify_any (D := fb) (c := ch) (z := (t.size + 1 : Int)) (n := m) (i := a) (P := (some ⟨yA, 0, none⟩)) (q := q2) (cap := cpA) (p := List.take 21 (pl)) (w := w) hl h1 (by omega) h2 wc wz wn wi
    have HC := Lib.hid (verB_cut fb (t.size + 1 : Int) m a ch pl 21 (by omega))
    obtain ⟨r, hr⟩ : ∃ r, r = verB fb (t.size + 1 : Int) m a ch (pl) := ⟨_, rfl⟩
    rw [← hr] at VA HC
    have HB := Lib.hid hB
    have HG := Lib.hid hG
    clear hB hG hr wz wn wi wc
    apply wp_seq_k
    intro K26 h26
    have hS0 : New W9 W9.drew := (Fr.refl _ _).drew
    refine wp_region_heldE (fun W' => New W9 W') (by kernel_rfl) ?_
    try simp only [Act.put, List.setIfInBounds_toArray, List.set_cons_zero, List.set_cons_succ]
    refine wpAnyH_takeD (i := 0) (d := some 104) (v := .agg #[.string fb, .int .i64 (t.size + 1 : Int), .int .i64 m, .int .i64 a, .string ch, .slice (some ⟨yA, 0, none⟩) q cpA]) rfl rfl (by kernel_rfl) (by kernel_rfl) (by kernel_rfl) (fun _ _ _ h => h) (.inl ⟨by kernel_rfl, fun w' hS => ?t0⟩) hS0 ?_
    case t0 =>
      obtain ⟨⟨x0, x1, x2, x3, x4, x5⟩, -⟩ := own6s (HB.out.o.new_ hS)
      go_simp
    refine wpAnyH_takeD (i := 2) (d := some 106) (v := .agg #[.string fb, .int .i64 (t.size + 1 : Int), .int .i64 m, .int .i64 a, .string ch, .slice (some ⟨yA, 0, none⟩) q cpA]) rfl rfl (by kernel_rfl) (by kernel_rfl) (by kernel_rfl) (fun _ _ _ h => h) (.inl ⟨by kernel_rfl, fun w' hS => ?t2⟩) hS0 ?_
    case t2 =>
      obtain ⟨⟨x0, x1, x2, x3, x4, x5⟩, -⟩ := own6s (HB.out.o.new_ hS)
      go_simp
    try simp only [Act.put, List.setIfInBounds_toArray, List.set_cons_zero, List.set_cons_succ]
    refine wpAnyH_all (rs := [1]) (by kernel_rfl) (by simp) (fun j hj => ?_)
    rw [List.mem_singleton] at hj
    subst hj
    refine wpOp_step rfl (fun K hK => ?_)
    go_simp
    refine (VA.out _ (glob_new HG.out (HB.out.n.new_ hS0)) (HB.out.s.new_ hS0)).mono ?_
    rintro e W' ⟨rfl, n'⟩
    replace hS0 := hS0.new_ n'
    clear n'
    refine hK _ _ ⟨hS0, ?_⟩
    clear hK K
    try simp only [List.getElem_toArray, List.getElem_cons_succ, List.getElem_cons_zero]
    try simp only [Act.put, List.setIfInBounds_toArray, List.set_cons_zero, List.set_cons_succ]
    refine wpAnyH_all (rs := [3]) (by kernel_rfl) (by simp) (fun j hj => ?_)
    rw [List.mem_singleton] at hj
    subst hj
    refine wpOp_step rfl (fun K hK => ?_)
    go_simp
    refine (RS.out _ (HB.out.s.new_ hS0)).mono ?_
    rintro e W' ⟨q2, rfl, hl2, h21, hqc2, n'⟩
    replace hS0 := hS0.new_ n'
    clear n'
    refine hK _ _ ⟨hS0, ?_⟩
    clear hK K
    try simp only [List.getElem_toArray, List.getElem_cons_succ, List.getElem_cons_zero]
    try simp only [Act.put, List.setIfInBounds_toArray, List.set_cons_zero, List.set_cons_succ]
    refine wpAnyH_all (rs := [4]) (by kernel_rfl) (by simp) (fun j hj => ?_)
    rw [List.mem_singleton] at hj
    subst hj
    refine wpOp_step rfl (fun K hK => ?_)
    go_simp
    refine (RV.out q2 _ hl2 hqc2 h21).mono ?_
    rintro e W' ⟨rfl, n'⟩
    replace hS0 := hS0.new_ n'
    clear n' hl2 hqc2 h21
    rw [HC.out]
    refine hK _ _ ⟨hS0, ?_⟩
    clear hK K
    try simp only [List.getElem_toArray, List.getElem_cons_succ, List.getElem_cons_zero]
    refine wpAnyH_takeD (i := 5) (d := some 109) (v := .bool true) rfl rfl (by kernel_rfl) (by kernel_rfl) (by kernel_rfl) (fun _ _ _ h => h) (.inl ⟨by kernel_rfl, fun w' hS => ?t5⟩) hS0 ?_
    case t5 =>
      go_simp
    refine wpAnyH_takeD (i := 6) (d := some 110) (v := .bool true) rfl rfl (by kernel_rfl) (by kernel_rfl) (by kernel_rfl) (fun _ _ _ h => h) (.inl ⟨by kernel_rfl, fun w' hS => ?t6⟩) hS0 ?_
    case t6 =>
      go_simp
    refine wpAnyH_takeD (i := 7) (d := some 111) (v := .agg #[.string fb, .int .i64 (t.size + 1 : Int), .int .i64 m, .int .i64 a, .string ch, .slice (some ⟨yA, 0, none⟩) q cpA]) rfl rfl (by kernel_rfl) (by kernel_rfl) (by kernel_rfl) (fun _ _ _ h => h) (.inl ⟨by kernel_rfl, fun w' hS => ?t7⟩) hS0 ?_
    case t7 =>
      obtain ⟨⟨x0, x1, x2, x3, x4, x5⟩, -⟩ := own6s (HB.out.o.new_ hS)
      go_simp
    try simp only [Act.put, List.setIfInBounds_toArray, List.set_cons_zero, List.set_cons_succ]
    refine wpAnyH_all (rs := [8]) (by kernel_rfl) (by simp) (fun j hj => ?_)
    rw [List.mem_singleton] at hj
    subst hj
    refine wpOp_step rfl (fun K hK => ?_)
    go_simp
    refine (VA.out _ (glob_new HG.out (HB.out.n.new_ hS0)) (HB.out.s.new_ hS0)).mono ?_
    rintro e W' ⟨rfl, n'⟩
    replace hS0 := hS0.new_ n'
    clear n'
    refine hK _ _ ⟨hS0, ?_⟩
    clear hK K
    try simp only [List.getElem_toArray, List.getElem_cons_succ, List.getElem_cons_zero]
    by_cases hr : r = 0
    · subst hr
      refine wpAnyH_takeD (i := 9) (d := some 113) (v := .bool false) rfl rfl (by kernel_rfl) (by kernel_rfl) (by kernel_rfl) (fun _ _ _ h => h) (.inl ⟨by kernel_rfl, fun w' hS => ?t9⟩) hS0 ?_
      case t9 =>
        go_simp
      refine wpAnyH_takeD (i := 10) (d := some 114) (v := .bool false) rfl rfl (by kernel_rfl) (by kernel_rfl) (by kernel_rfl) (fun _ _ _ h => h) (.inl ⟨by kernel_rfl, fun w' hS => ?t10⟩) hS0 ?_
      case t10 =>
        go_simp
      refine wpAnyH_takeD (i := 11) (d := some 115) (v := .agg #[.string fb, .int .i64 (t.size + 1 : Int), .int .i64 m, .int .i64 a, .string ch, .slice (some ⟨yA, 0, none⟩) q cpA]) rfl rfl (by kernel_rfl) (by kernel_rfl) (by kernel_rfl) (fun _ _ _ h => h) (.inl ⟨by kernel_rfl, fun w' hS => ?t11⟩) hS0 ?_
      case t11 =>
        obtain ⟨⟨x0, x1, x2, x3, x4, x5⟩, -⟩ := own6s (HB.out.o.new_ hS)
        go_simp
      try simp only [Act.put, List.setIfInBounds_toArray, List.set_cons_zero, List.set_cons_succ]
      refine wpAnyH_all (rs := [12]) (by kernel_rfl) (by simp) (fun j hj => ?_)
      rw [List.mem_singleton] at hj
      subst hj
      refine wpOp_step rfl (fun K hK => ?_)
      go_simp
      refine (RS.out _ (HB.out.s.new_ hS0)).mono ?_
      rintro e W' ⟨q2, rfl, hl2, h21, hqc2, n'⟩
      replace hS0 := hS0.new_ n'
      clear n'
      refine hK _ _ ⟨hS0, ?_⟩
      clear hK K
      try simp only [List.getElem_toArray, List.getElem_cons_succ, List.getElem_cons_zero]
      try simp only [Act.put, List.setIfInBounds_toArray, List.set_cons_zero, List.set_cons_succ]
      refine wpAnyH_all (rs := [13]) (by kernel_rfl) (by simp) (fun j hj => ?_)
      rw [List.mem_singleton] at hj
      subst hj
      refine wpOp_step rfl (fun K hK => ?_)
      go_simp
      refine (RV.out q2 _ hl2 hqc2 h21).mono ?_
      rintro e W' ⟨rfl, n'⟩
      replace hS0 := hS0.new_ n'
      clear n' hl2 hqc2 h21
      rw [HC.out]
      refine hK _ _ ⟨hS0, ?_⟩
      clear hK K
      try simp only [List.getElem_toArray, List.getElem_cons_succ, List.getElem_cons_zero]
      refine wpAnyH_takeD (i := 14) (d := some 118) (v := .bool true) rfl rfl (by kernel_rfl) (by kernel_rfl) (by kernel_rfl) (fun _ _ _ h => h) (.inl ⟨by kernel_rfl, fun w' hS => ?t14⟩) hS0 ?_
      case t14 =>
        go_simp
      refine wpAnyH_takeD (i := 15) (d := some 119) (v := .bool true) rfl rfl (by kernel_rfl) (by kernel_rfl) (by kernel_rfl) (fun _ _ _ h => h) (.inl ⟨by kernel_rfl, fun w' hS => ?t15⟩) hS0 ?_
      case t15 =>
        go_simp
      refine wpAnyH_takeD (i := 16) (d := some 120) (v := .bool true) rfl rfl (by kernel_rfl) (by kernel_rfl) (by kernel_rfl) (fun _ _ _ h => h) (.inl ⟨by kernel_rfl, fun w' hS => ?t16⟩) hS0 ?_
      case t16 =>
        go_simp
      refine wpAnyH_takeD (i := 17) (d := some 6) (v := .bool true) rfl rfl (by kernel_rfl) (by kernel_rfl) (by kernel_rfl) (fun _ _ _ h => h) (.inl ⟨by kernel_rfl, fun w' hS => ?t17⟩) hS0 ?_
      case t17 =>
        go_simp
      refine wpAnyH_done (by kernel_rfl) ?_ _
      try simp only [Act.put, List.setIfInBounds_toArray, List.set_cons_zero, List.set_cons_succ]
      have NF := Lib.hid (HB.out.n.new_ hS0)
      clear hS0
      go_wp2_with fail
      go_ret
      exact ⟨rfl, NF.out⟩
    · have hr' : (r == 0) = false := by simpa using hr
      have hr'' : (r != 0) = true := by simpa using hr
      refine wpAnyH_takeD (i := 9) (d := some 113) (v := .bool true) rfl rfl (by kernel_rfl) (by kernel_rfl) (by kernel_rfl) (fun _ _ _ h => h) (.inl ⟨by kernel_rfl, fun w' hS => ?t9⟩) hS0 ?_
      case t9 =>
        go_simp
      refine wpAnyH_takeD (i := 10) (d := some 114) (v := .bool true) rfl rfl (by kernel_rfl) (by kernel_rfl) (by kernel_rfl) (fun _ _ _ h => h) (.inl ⟨by kernel_rfl, fun w' hS => ?t10⟩) hS0 ?_
      case t10 =>
        go_simp
      refine wpAnyH_takeD (i := 11) (d := some 115) (v := undef) rfl rfl (by kernel_rfl) (by kernel_rfl) (by kernel_rfl) (fun _ _ _ h => h) (.inr ⟨by kernel_rfl, rfl⟩) hS0 ?_
      refine wpAnyH_skipD (i := 12) (d := some 116) rfl rfl (by kernel_rfl) (by kernel_rfl) hS0 ?_
      refine wpAnyH_skipD (i := 13) (d := some 117) rfl rfl (by kernel_rfl) (by kernel_rfl) hS0 ?_
      refine wpAnyH_takeD (i := 14) (d := some 118) (v := undef) rfl rfl (by kernel_rfl) (by kernel_rfl) (by kernel_rfl) (fun _ _ _ h => h) (.inr ⟨by kernel_rfl, rfl⟩) hS0 ?_
      refine wpAnyH_takeD (i := 15) (d := some 119) (v := .bool true) rfl rfl (by kernel_rfl) (by kernel_rfl) (by kernel_rfl) (fun _ _ _ h => h) (.inl ⟨by kernel_rfl, fun w' hS => ?t15⟩) hS0 ?_
      case t15 =>
        go_simp
      refine wpAnyH_takeD (i := 16) (d := some 120) (v := .bool true) rfl rfl (by kernel_rfl) (by kernel_rfl) (by kernel_rfl) (fun _ _ _ h => h) (.inl ⟨by kernel_rfl, fun w' hS => ?t16⟩) hS0 ?_
      case t16 =>
        go_simp
      refine wpAnyH_takeD (i := 17) (d := some 6) (v := .bool true) rfl rfl (by kernel_rfl) (by kernel_rfl) (by kernel_rfl) (fun _ _ _ h => h) (.inl ⟨by kernel_rfl, fun w' hS => ?t17⟩) hS0 ?_
      case t17 =>
        go_simp
      refine wpAnyH_done (by kernel_rfl) ?_ _
      try simp only [Act.put, List.setIfInBounds_toArray, List.set_cons_zero, List.set_cons_succ]
      have NF := Lib.hid (HB.out.n.new_ hS0)
      clear hS0
      go_wp2_with fail
      go_ret
      exact ⟨rfl, NF.out⟩
  · have y0 := K8.out.y.cell 0
    have y1 := K8.out.y.cell 1
    have y2 := K8.out.y.cell 2
    have y3 := K8.out.y.cell 3
    have y4 := K8.out.y.cell 4
    have y5 := K8.out.y.cell 5
    have x4 := K8.out.x.cell 4
    simp only [List.getElem?_toArray, List.getElem?_cons_zero, List.getElem?_cons_succ] at y0 y1 y2 y3 y4 y5 x4
    have f0 := K8.out.y.free 0
    have f1 := K8.out.y.free 1
    have f2 := K8.out.y.free 2
    have f3 := K8.out.y.free 3
    have f4 := K8.out.y.free 4
    have f5 := K8.out.y.free 5
    have ha1 := HA.out.1
    have ha2 := HA.out.2
    go_wp2_with fail
    refine H8.out _ _ ?_
    clear H8
    try clear K8'
    clear y0 y1 y2 y3 y4 y5 x4 f0 f1 f2 f3 f4 f5 ha1 ha2
    have hB : BiS w (W8.setCell ⟨by_, 2, none⟩ (.int .i64 (m + 1))) by_ fb t.size (m + 1 : Int) a ch (some ⟨yA, 0, none⟩) q cpA pl := K8.out.put (by rw [← HQ.out]; simp [maxLen]; omega) rfl
    generalize World.setCell W8 _ _ = W9 at hB ⊢
    clear K8
    have wz : (Lit.int .i64 t.size).wf = true := by
      simp only [Lit.wf, Bool.and_eq_true, decide_eq_true_eq]
      exact ⟨by show (-9223372036854775808 : Int) ≤ _; omega, by show _ ≤ (9223372036854775807 : Int); omega⟩
    have wn : (Lit.int .i64 (m + 1 : Int)).wf = true := by
      simp only [Lit.wf, Bool.and_eq_true, decide_eq_true_eq]
      exact ⟨by show (-9223372036854775808 : Int) ≤ _; omega, by show _ ≤ (9223372036854775807 : Int); omega⟩
    have wi : (Lit.int .i64 a).wf = true := by
      simp only [Lit.wf, Bool.and_eq_true, decide_eq_true_eq]
      exact ⟨by show (-9223372036854775808 : Int) ≤ _; omega, by show _ ≤ (9223372036854775807 : Int); omega⟩
    have wc : ch.size ≤ maxLen := by
      have := HA.out
      have e1 : (⟨#[120]⟩ : ByteArray).size = 1 := rfl
      simp only [ByteArray.size_append, ByteArray.size_extract, maxLen]
      omega
    have VA := Lib.hid fun (w : World) hG hl => verify_any (D := fb) (c := ch) (z := t.size) (n := (m + 1 : Int)) (i := a) (P := (some ⟨yA, 0, none⟩)) (q := q) (cap := cpA) (p := pl) (w := w) hG hl (by omega) (by omega) wc
    have RS := Lib.hid fun (w : World) hl => ref_share (D := fb) (c := ch) (z := t.size) (n := (m + 1 : Int)) (i := a) (P := (some ⟨yA, 0, none⟩)) (q := q) (cap := cpA) (p := pl) (w := w) hl (by omega) (by omega)
    have RV := Lib.hid fun (q2 : Nat) (w : World) hl h1 h2 => refverify_any (D := fb) (c := ch) (z := t.size) (n := (m + 1 : Int)) (i := a) (P := (some ⟨yA, 0, none⟩)) (q := q2) (cap := cpA) (p := List.take 21 (pl)) (w := w) hl h1 (by omega) h2 wc wz wn wi
    have HC := Lib.hid (verB_cut fb t.size (m + 1 : Int) a ch pl 21 (by omega))
    obtain ⟨r, hr⟩ : ∃ r, r = verB fb t.size (m + 1 : Int) a ch (pl) := ⟨_, rfl⟩
    rw [← hr] at VA HC
    have HB := Lib.hid hB
    have HG := Lib.hid hG
    clear hB hG hr wz wn wi wc
    apply wp_seq_k
    intro K26 h26
    have hS0 : New W9 W9.drew := (Fr.refl _ _).drew
    refine wp_region_heldE (fun W' => New W9 W') (by kernel_rfl) ?_
    try simp only [Act.put, List.setIfInBounds_toArray, List.set_cons_zero, List.set_cons_succ]
    refine wpAnyH_takeD (i := 0) (d := some 104) (v := .agg #[.string fb, .int .i64 t.size, .int .i64 (m + 1 : Int), .int .i64 a, .string ch, .slice (some ⟨yA, 0, none⟩) q cpA]) rfl rfl (by kernel_rfl) (by kernel_rfl) (by kernel_rfl) (fun _ _ _ h => h) (.inl ⟨by kernel_rfl, fun w' hS => ?t0⟩) hS0 ?_
    case t0 =>
      obtain ⟨⟨x0, x1, x2, x3, x4, x5⟩, -⟩ := own6s (HB.out.o.new_ hS)
      go_simp
    refine wpAnyH_takeD (i := 2) (d := some 106) (v := .agg #[.string fb, .int .i64 t.size, .int .i64 (m + 1 : Int), .int .i64 a, .string ch, .slice (some ⟨yA, 0, none⟩) q cpA]) rfl rfl (by kernel_rfl) (by kernel_rfl) (by kernel_rfl) (fun _ _ _ h => h) (.inl ⟨by kernel_rfl, fun w' hS => ?t2⟩) hS0 ?_
    case t2 =>
      obtain ⟨⟨x0, x1, x2, x3, x4, x5⟩, -⟩ := own6s (HB.out.o.new_ hS)
      go_simp
    try simp only [Act.put, List.setIfInBounds_toArray, List.set_cons_zero, List.set_cons_succ]
    refine wpAnyH_all (rs := [1]) (by kernel_rfl) (by simp) (fun j hj => ?_)
    rw [List.mem_singleton] at hj
    subst hj
    refine wpOp_step rfl (fun K hK => ?_)
    go_simp
    refine (VA.out _ (glob_new HG.out (HB.out.n.new_ hS0)) (HB.out.s.new_ hS0)).mono ?_
    rintro e W' ⟨rfl, n'⟩
    replace hS0 := hS0.new_ n'
    clear n'
    refine hK _ _ ⟨hS0, ?_⟩
    clear hK K
    try simp only [List.getElem_toArray, List.getElem_cons_succ, List.getElem_cons_zero]
    try simp only [Act.put, List.setIfInBounds_toArray, List.set_cons_zero, List.set_cons_succ]
    refine wpAnyH_all (rs := [3]) (by kernel_rfl) (by simp) (fun j hj => ?_)
    rw [List.mem_singleton] at hj
    subst hj
    refine wpOp_step rfl (fun K hK => ?_)
    go_simp
    refine (RS.out _ (HB.out.s.new_ hS0)).mono ?_
    rintro e W' ⟨q2, rfl, hl2, h21, hqc2, n'⟩
    replace hS0 := hS0.new_ n'
    clear n'
    refine hK _ _ ⟨hS0, ?_⟩
    clear hK K
    try simp only [List.getElem_toArray, List.getElem_cons_succ, List.getElem_cons_zero]
    try simp only [Act.put, List.setIfInBounds_toArray, List.set_cons_zero, List.set_cons_succ]
    refine wpAnyH_all (rs := [4]) (by kernel_rfl) (by simp) (fun j hj => ?_)
    rw [List.mem_singleton] at hj
    subst hj
    refine wpOp_step rfl (fun K hK => ?_)
    go_simp
    refine (RV.out q2 _ hl2 hqc2 h21).mono ?_
    rintro e W' ⟨rfl, n'⟩
    replace hS0 := hS0.new_ n'
    clear n' hl2 hqc2 h21
    rw [HC.out]
    refine hK _ _ ⟨hS0, ?_⟩
    clear hK K
    try simp only [List.getElem_toArray, List.getElem_cons_succ, List.getElem_cons_zero]
    refine wpAnyH_takeD (i := 5) (d := some 109) (v := .bool true) rfl rfl (by kernel_rfl) (by kernel_rfl) (by kernel_rfl) (fun _ _ _ h => h) (.inl ⟨by kernel_rfl, fun w' hS => ?t5⟩) hS0 ?_
    case t5 =>
      go_simp
    refine wpAnyH_takeD (i := 6) (d := some 110) (v := .bool true) rfl rfl (by kernel_rfl) (by kernel_rfl) (by kernel_rfl) (fun _ _ _ h => h) (.inl ⟨by kernel_rfl, fun w' hS => ?t6⟩) hS0 ?_
    case t6 =>
      go_simp
    refine wpAnyH_takeD (i := 7) (d := some 111) (v := .agg #[.string fb, .int .i64 t.size, .int .i64 (m + 1 : Int), .int .i64 a, .string ch, .slice (some ⟨yA, 0, none⟩) q cpA]) rfl rfl (by kernel_rfl) (by kernel_rfl) (by kernel_rfl) (fun _ _ _ h => h) (.inl ⟨by kernel_rfl, fun w' hS => ?t7⟩) hS0 ?_
    case t7 =>
      obtain ⟨⟨x0, x1, x2, x3, x4, x5⟩, -⟩ := own6s (HB.out.o.new_ hS)
      go_simp
    try simp only [Act.put, List.setIfInBounds_toArray, List.set_cons_zero, List.set_cons_succ]
    refine wpAnyH_all (rs := [8]) (by kernel_rfl) (by simp) (fun j hj => ?_)
    rw [List.mem_singleton] at hj
    subst hj
    refine wpOp_step rfl (fun K hK => ?_)
    go_simp
    refine (VA.out _ (glob_new HG.out (HB.out.n.new_ hS0)) (HB.out.s.new_ hS0)).mono ?_
    rintro e W' ⟨rfl, n'⟩
    replace hS0 := hS0.new_ n'
    clear n'
    refine hK _ _ ⟨hS0, ?_⟩
    clear hK K
    try simp only [List.getElem_toArray, List.getElem_cons_succ, List.getElem_cons_zero]
    by_cases hr : r = 0
    · subst hr
      refine wpAnyH_takeD (i := 9) (d := some 113) (v := .bool false) rfl rfl (by kernel_rfl) (by kernel_rfl) (by kernel_rfl) (fun _ _ _ h => h) (.inl ⟨by kernel_rfl, fun w' hS => ?t9⟩) hS0 ?_
      case t9 =>
        go_simp
      refine wpAnyH_takeD (i := 10) (d := some 114) (v := .bool false) rfl rfl (by kernel_rfl) (by kernel_rfl) (by kernel_rfl) (fun _ _ _ h => h) (.inl ⟨by kernel_rfl, fun w' hS => ?t10⟩) hS0 ?_
      case t10 =>
        go_simp
      refine wpAnyH_takeD (i := 11) (d := some 115) (v := .agg #[.string fb, .int .i64 t.size, .int .i64 (m + 1 : Int), .int .i64 a, .string ch, .slice (some ⟨yA, 0, none⟩) q cpA]) rfl rfl (by kernel_rfl) (by kernel_rfl) (by kernel_rfl) (fun _ _ _ h => h) (.inl ⟨by kernel_rfl, fun w' hS => ?t11⟩) hS0 ?_
      case t11 =>
        obtain ⟨⟨x0, x1, x2, x3, x4, x5⟩, -⟩ := own6s (HB.out.o.new_ hS)
        go_simp
      try simp only [Act.put, List.setIfInBounds_toArray, List.set_cons_zero, List.set_cons_succ]
      refine wpAnyH_all (rs := [12]) (by kernel_rfl) (by simp) (fun j hj => ?_)
      rw [List.mem_singleton] at hj
      subst hj
      refine wpOp_step rfl (fun K hK => ?_)
      go_simp
      refine (RS.out _ (HB.out.s.new_ hS0)).mono ?_
      rintro e W' ⟨q2, rfl, hl2, h21, hqc2, n'⟩
      replace hS0 := hS0.new_ n'
      clear n'
      refine hK _ _ ⟨hS0, ?_⟩
      clear hK K
      try simp only [List.getElem_toArray, List.getElem_cons_succ, List.getElem_cons_zero]
      try simp only [Act.put, List.setIfInBounds_toArray, List.set_cons_zero, List.set_cons_succ]
      refine wpAnyH_all (rs := [13]) (by kernel_rfl) (by simp) (fun j hj => ?_)
      rw [List.mem_singleton] at hj
      subst hj
      refine wpOp_step rfl (fun K hK => ?_)
      go_simp
      refine (RV.out q2 _ hl2 hqc2 h21).mono ?_
      rintro e W' ⟨rfl, n'⟩
      replace hS0 := hS0.new_ n'
      clear n' hl2 hqc2 h21
      rw [HC.out]
      refine hK _ _ ⟨hS0, ?_⟩
      clear hK K
      try simp only [List.getElem_toArray, List.getElem_cons_succ, List.getElem_cons_zero]
      refine wpAnyH_takeD (i := 14) (d := some 118) (v := .bool true) rfl rfl (by kernel_rfl) (by kernel_rfl) (by kernel_rfl) (fun _ _ _ h => h) (.inl ⟨by kernel_rfl, fun w' hS => ?t14⟩) hS0 ?_
      case t14 =>
        go_simp
      refine wpAnyH_takeD (i := 15) (d := some 119) (v := .bool true) rfl rfl (by kernel_rfl) (by kernel_rfl) (by kernel_rfl) (fun _ _ _ h => h) (.inl ⟨by kernel_rfl, fun w' hS => ?t15⟩) hS0 ?_
      case t15 =>
        go_simp
      refine wpAnyH_takeD (i := 16) (d := some 120) (v := .bool true) rfl rfl (by kernel_rfl) (by kernel_rfl) (by kernel_rfl) (fun _ _ _ h => h) (.inl ⟨by kernel_rfl, fun w' hS => ?t16⟩) hS0 ?_
      case t16 =>
        go_simp
      refine wpAnyH_takeD (i := 17) (d := some 6) (v := .bool true) rfl rfl (by kernel_rfl) (by kernel_rfl) (by kernel_rfl) (fun _ _ _ h => h) (.inl ⟨by kernel_rfl, fun w' hS => ?t17⟩) hS0 ?_
      case t17 =>
        go_simp
      refine wpAnyH_done (by kernel_rfl) ?_ _
      try simp only [Act.put, List.setIfInBounds_toArray, List.set_cons_zero, List.set_cons_succ]
      have NF := Lib.hid (HB.out.n.new_ hS0)
      clear hS0
      go_wp2_with fail
      go_ret
      exact ⟨rfl, NF.out⟩
    · have hr' : (r == 0) = false := by simpa using hr
      have hr'' : (r != 0) = true := by simpa using hr
      refine wpAnyH_takeD (i := 9) (d := some 113) (v := .bool true) rfl rfl (by kernel_rfl) (by kernel_rfl) (by kernel_rfl) (fun _ _ _ h => h) (.inl ⟨by kernel_rfl, fun w' hS => ?t9⟩) hS0 ?_
      case t9 =>
        go_simp
      refine wpAnyH_takeD (i := 10) (d := some 114) (v := .bool true) rfl rfl (by kernel_rfl) (by kernel_rfl) (by kernel_rfl) (fun _ _ _ h => h) (.inl ⟨by kernel_rfl, fun w' hS => ?t10⟩) hS0 ?_
      case t10 =>
        go_simp
      refine wpAnyH_takeD (i := 11) (d := some 115) (v := undef) rfl rfl (by kernel_rfl) (by kernel_rfl) (by kernel_rfl) (fun _ _ _ h => h) (.inr ⟨by kernel_rfl, rfl⟩) hS0 ?_
      refine wpAnyH_skipD (i := 12) (d := some 116) rfl rfl (by kernel_rfl) (by kernel_rfl) hS0 ?_
      refine wpAnyH_skipD (i := 13) (d := some 117) rfl rfl (by kernel_rfl) (by kernel_rfl) hS0 ?_
      refine wpAnyH_takeD (i := 14) (d := some 118) (v := undef) rfl rfl (by kernel_rfl) (by kernel_rfl) (by kernel_rfl) (fun _ _ _ h => h) (.inr ⟨by kernel_rfl, rfl⟩) hS0 ?_
      refine wpAnyH_takeD (i := 15) (d := some 119) (v := .bool true) rfl rfl (by kernel_rfl) (by kernel_rfl) (by kernel_rfl) (fun _ _ _ h => h) (.inl ⟨by kernel_rfl, fun w' hS => ?t15⟩) hS0 ?_
      case t15 =>
        go_simp
      refine wpAnyH_takeD (i := 16) (d := some 120) (v := .bool true) rfl rfl (by kernel_rfl) (by kernel_rfl) (by kernel_rfl) (fun _ _ _ h => h) (.inl ⟨by kernel_rfl, fun w' hS => ?t16⟩) hS0 ?_
      case t16 =>
        go_simp
      refine wpAnyH_takeD (i := 17) (d := some 6) (v := .bool true) rfl rfl (by kernel_rfl) (by kernel_rfl) (by kernel_rfl) (fun _ _ _ h => h) (.inl ⟨by kernel_rfl, fun w' hS => ?t17⟩) hS0 ?_
      case t17 =>
        go_simp
      refine wpAnyH_done (by kernel_rfl) ?_ _
      try simp only [Act.put, List.setIfInBounds_toArray, List.set_cons_zero, List.set_cons_succ]
      have NF := Lib.hid (HB.out.n.new_ hS0)
      clear hS0
      go_wp2_with fail
      go_ret
      exact ⟨rfl, NF.out⟩
  · have y0 := K8.out.y.cell 0
    have y1 := K8.out.y.cell 1
    have y2 := K8.out.y.cell 2
    have y3 := K8.out.y.cell 3
    have y4 := K8.out.y.cell 4
    have y5 := K8.out.y.cell 5
    have x4 := K8.out.x.cell 4
    simp only [List.getElem?_toArray, List.getElem?_cons_zero, List.getElem?_cons_succ] at y0 y1 y2 y3 y4 y5 x4
    have f0 := K8.out.y.free 0
    have f1 := K8.out.y.free 1
    have f2 := K8.out.y.free 2
    have f3 := K8.out.y.free 3
    have f4 := K8.out.y.free 4
    have f5 := K8.out.y.free 5
    have ha1 := HA.out.1
    have ha2 := HA.out.2
    go_wp2_with fail
    refine H8.out _ _ ?_
    clear H8
    try clear K8'
    clear y0 y1 y2 y3 y4 y5 x4 f0 f1 f2 f3 f4 f5 ha1 ha2
    have hB : BiS w (W8.setCell ⟨by_, 3, none⟩ (.int .i64 (a + 1))) by_ fb t.size m (a + 1 : Int) ch (some ⟨yA, 0, none⟩) q cpA pl := K8.out.put (by rw [← HQ.out]; simp [maxLen]; omega) rfl
    generalize World.setCell W8 _ _ = W9 at hB ⊢
    clear K8
    have wz : (Lit.int .i64 t.size).wf = true := by
      simp only [Lit.wf, Bool.and_eq_true, decide_eq_true_eq]
      exact ⟨by show (-9223372036854775808 : Int) ≤ _; omega, by show _ ≤ (9223372036854775807 : Int); omega⟩
    have wn : (Lit.int .i64 m).wf = true := by
      simp only [Lit.wf, Bool.and_eq_true, decide_eq_true_eq]
      exact ⟨by show (-9223372036854775808 : Int) ≤ _; omega, by show _ ≤ (9223372036854775807 : Int); omega⟩
    have wi : (Lit.int .i64 (a + 1 : Int)).wf = true := by
      simp only [Lit.wf, Bool.and_eq_true, decide_eq_true_eq]
      exact ⟨by show (-9223372036854775808 : Int) ≤ _; omega, by show _ ≤ (9223372036854775807 : Int); omega⟩
    have wc : ch.size ≤ maxLen := by
      have := HA.out
      have e1 : (⟨#[120]⟩ : ByteArray).size = 1 := rfl
      simp only [ByteArray.size_append, ByteArray.size_extract, maxLen]
      omega
    have VA := Lib.hid fun (w : World) hG hl => verify_any (D := fb) (c := ch) (z := t.size) (n := m) (i := (a + 1 : Int)) (P := (some ⟨yA, 0, none⟩)) (q := q) (cap := cpA) (p := pl) (w := w) hG hl (by omega) (by omega) wc
    have RS := Lib.hid fun (w : World) hl => ref_share (D := fb) (c := ch) (z := t.size) (n := m) (i := (a + 1 : Int)) (P := (some ⟨yA, 0, none⟩)) (q := q) (cap := cpA) (p := pl) (w := w) hl (by omega) (by omega)
    have RV := Lib.hid fun (q2 : Nat) (w : World) hl h1 h2 => refverify_any (D := fb) (c := ch) (z := t.size) (n := m) (i := (a + 1 : Int)) (P := (some ⟨yA, 0, none⟩)) (q := q2) (cap := cpA) (p := List.take 21 (pl)) (w := w) hl h1 (by omega) h2 wc wz wn wi
    have HC := Lib.hid (verB_cut fb t.size m (a + 1 : Int) ch pl 21 (by omega))
    obtain ⟨r, hr⟩ : ∃ r, r = verB fb t.size m (a + 1 : Int) ch (pl) := ⟨_, rfl⟩
    rw [← hr] at VA HC
    have HB := Lib.hid hB
    have HG := Lib.hid hG
    clear hB hG hr wz wn wi wc
    apply wp_seq_k
    intro K26 h26
    have hS0 : New W9 W9.drew := (Fr.refl _ _).drew
    refine wp_region_heldE (fun W' => New W9 W') (by kernel_rfl) ?_
    try simp only [Act.put, List.setIfInBounds_toArray, List.set_cons_zero, List.set_cons_succ]
    refine wpAnyH_takeD (i := 0) (d := some 104) (v := .agg #[.string fb, .int .i64 t.size, .int .i64 m, .int .i64 (a + 1 : Int), .string ch, .slice (some ⟨yA, 0, none⟩) q cpA]) rfl rfl (by kernel_rfl) (by kernel_rfl) (by kernel_rfl) (fun _ _ _ h => h) (.inl ⟨by kernel_rfl, fun w' hS => ?t0⟩) hS0 ?_
    case t0 =>
      obtain ⟨⟨x0, x1, x2, x3, x4, x5⟩, -⟩ := own6s (HB.out.o.new_ hS)
      go_simp
    refine wpAnyH_takeD (i := 2) (d := some 106) (v := .agg #[.string fb, .int .i64 t.size, .int .i64 m, .int .i64 (a + 1 : Int), .string ch, .slice (some ⟨yA, 0, none⟩) q cpA]) rfl rfl (by kernel_rfl) (by kernel_rfl) (by kernel_rfl) (fun _ _ _ h => h) (.inl ⟨by kernel_rfl, fun w' hS => ?t2⟩) hS0 ?_
    case t2 =>
      obtain ⟨⟨x0, x1, x2, x3, x4, x5⟩, -⟩ := own6s (HB.out.o.new_ hS)
      go_simp
    try simp only [Act.put, List.setIfInBounds_toArray, List.set_cons_zero, List.set_cons_succ]
    refine wpAnyH_all (rs := [1]) (by kernel_rfl) (by simp) (fun j hj => ?_)
    rw [List.mem_singleton] at hj
    subst hj
    refine wpOp_step rfl (fun K hK => ?_)
    go_simp
    refine (VA.out _ (glob_new HG.out (HB.out.n.new_ hS0)) (HB.out.s.new_ hS0)).mono ?_
    rintro e W' ⟨rfl, n'⟩
    replace hS0 := hS0.new_ n'
    clear n'
    refine hK _ _ ⟨hS0, ?_⟩
    clear hK K
    try simp only [List.getElem_toArray, List.getElem_cons_succ, List.getElem_cons_zero]
    try simp only [Act.put, List.setIfInBounds_toArray, List.set_cons_zero, List.set_cons_succ]
    refine wpAnyH_all (rs := [3]) (by kernel_rfl) (by simp) (fun j hj => ?_)
    rw [List.mem_singleton] at hj
    subst hj
    refine wpOp_step rfl (fun K hK => ?_)
    go_simp
    refine (RS.out _ (HB.out.s.new_ hS0)).mono ?_
    rintro e W' ⟨q2, rfl, hl2, h21, hqc2, n'⟩
    replace hS0 := hS0.new_ n'
    clear n'
    refine hK _ _ ⟨hS0, ?_⟩
    clear hK K
    try simp only [List.getElem_toArray, List.getElem_cons_succ, List.getElem_cons_zero]
    try simp only [Act.put, List.setIfInBounds_toArray, List.set_cons_zero, List.set_cons_succ]
    refine wpAnyH_all (rs := [4]) (by kernel_rfl) (by simp) (fun j hj => ?_)
    rw [List.mem_singleton] at hj
    subst hj
    refine wpOp_step rfl (fun K hK => ?_)
    go_simp
    refine (RV.out q2 _ hl2 hqc2 h21).mono ?_
    rintro e W' ⟨rfl, n'⟩
    replace hS0 := hS0.new_ n'
    clear n' hl2 hqc2 h21
    rw [HC.out]
    refine hK _ _ ⟨hS0, ?_⟩
    clear hK K
    try simp only [List.getElem_toArray, List.getElem_cons_succ, List.getElem_cons_zero]
    refine wpAnyH_takeD (i := 5) (d := some 109) (v := .bool true) rfl rfl (by kernel_rfl) (by kernel_rfl) (by kernel_rfl) (fun _ _ _ h => h) (.inl ⟨by kernel_rfl, fun w' hS => ?t5⟩) hS0 ?_
    case t5 =>
      go_simp
    refine wpAnyH_takeD (i := 6) (d := some 110) (v := .bool true) rfl rfl (by kernel_rfl) (by kernel_rfl) (by kernel_rfl) (fun _ _ _ h => h) (.inl ⟨by kernel_rfl, fun w' hS => ?t6⟩) hS0 ?_
    case t6 =>
      go_simp
    refine wpAnyH_takeD (i := 7) (d := some 111) (v := .agg #[.string fb, .int .i64 t.size, .int .i64 m, .int .i64 (a + 1 : Int), .string ch, .slice (some ⟨yA, 0, none⟩) q cpA]) rfl rfl (by kernel_rfl) (by kernel_rfl) (by kernel_rfl) (fun _ _ _ h => h) (.inl ⟨by kernel_rfl, fun w' hS => ?t7⟩) hS0 ?_
    case t7 =>
      obtain ⟨⟨x0, x1, x2, x3, x4, x5⟩, -⟩ := own6s (HB.out.o.new_ hS)
      go_simp
    try simp only [Act.put, List.setIfInBounds_toArray, List.set_cons_zero, List.set_cons_succ]
    refine wpAnyH_all (rs := [8]) (by kernel_rfl) (by simp) (fun j hj => ?_)
    rw [List.mem_singleton] at hj
    subst hj
    refine wpOp_step rfl (fun K hK => ?_)
    go_simp
    refine (VA.out _ (glob_new HG.out (HB.out.n.new_ hS0)) (HB.out.s.new_ hS0)).mono ?_
    rintro e W' ⟨rfl, n'⟩
    replace hS0 := hS0.new_ n'
    clear n'
    refine hK _ _ ⟨hS0, ?_⟩
    clear hK K
    try simp only [List.getElem_toArray, List.getElem_cons_succ, List.getElem_cons_zero]
    by_cases hr : r = 0
    · subst hr
      refine wpAnyH_takeD (i := 9) (d := some 113) (v := .bool false) rfl rfl (by kernel_rfl) (by kernel_rfl) (by kernel_rfl) (fun _ _ _ h => h) (.inl ⟨by kernel_rfl, fun w' hS => ?t9⟩) hS0 ?_
      case t9 =>
        go_simp
      refine wpAnyH_takeD (i := 10) (d := some 114) (v := .bool false) rfl rfl (by kernel_rfl) (by kernel_rfl) (by kernel_rfl) (fun _ _ _ h => h) (.inl ⟨by kernel_rfl, fun w' hS => ?t10⟩) hS0 ?_
      case t10 =>
        go_simp
      refine wpAnyH_takeD (i := 11) (d := some 115) (v := .agg #[.string fb, .int .i64 t.size, .int .i64 m, .int .i64 (a + 1 : Int), .string ch, .slice (some ⟨yA, 0, none⟩) q cpA]) rfl rfl (by kernel_rfl) (by kernel_rfl) (by kernel_rfl) (fun _ _ _ h => h) (.inl ⟨by kernel_rfl, fun w' hS => ?t11⟩) hS0 ?_
      case t11 =>
        obtain ⟨⟨x0, x1, x2, x3, x4, x5⟩, -⟩ := own6s (HB.out.o.new_ hS)
        go_simp
      try simp only [Act.put, List.setIfInBounds_toArray, List.set_cons_zero, List.set_cons_succ]
      refine wpAnyH_all (rs := [12]) (by kernel_rfl) (by simp) (fun j hj => ?_)
      rw [List.mem_singleton] at hj
      subst hj
      refine wpOp_step rfl (fun K hK => ?_)
      go_simp
      refine (RS.out _ (HB.out.s.new_ hS0)).mono ?_
      rintro e W' ⟨q2, rfl, hl2, h21, hqc2, n'⟩
      replace hS0 := hS0.new_ n'
      clear n'
      refine hK _ _ ⟨hS0, ?_⟩
      clear hK K
      try simp only [List.getElem_toArray, List.getElem_cons_succ, List.getElem_cons_zero]
      try simp only [Act.put, List.setIfInBounds_toArray, List.set_cons_zero, List.set_cons_succ]
      refine wpAnyH_all (rs := [13]) (by kernel_rfl) (by simp) (fun j hj => ?_)
      rw [List.mem_singleton] at hj
      subst hj
      refine wpOp_step rfl (fun K hK => ?_)
      go_simp
      refine (RV.out q2 _ hl2 hqc2 h21).mono ?_
      rintro e W' ⟨rfl, n'⟩
      replace hS0 := hS0.new_ n'
      clear n' hl2 hqc2 h21
      rw [HC.out]
      refine hK _ _ ⟨hS0, ?_⟩
      clear hK K
      try simp only [List.getElem_toArray, List.getElem_cons_succ, List.getElem_cons_zero]
      refine wpAnyH_takeD (i := 14) (d := some 118) (v := .bool true) rfl rfl (by kernel_rfl) (by kernel_rfl) (by kernel_rfl) (fun _ _ _ h => h) (.inl ⟨by kernel_rfl, fun w' hS => ?t14⟩) hS0 ?_
      case t14 =>
        go_simp
      refine wpAnyH_takeD (i := 15) (d := some 119) (v := .bool true) rfl rfl (by kernel_rfl) (by kernel_rfl) (by kernel_rfl) (fun _ _ _ h => h) (.inl ⟨by kernel_rfl, fun w' hS => ?t15⟩) hS0 ?_
      case t15 =>
        go_simp
      refine wpAnyH_takeD (i := 16) (d := some 120) (v := .bool true) rfl rfl (by kernel_rfl) (by kernel_rfl) (by kernel_rfl) (fun _ _ _ h => h) (.inl ⟨by kernel_rfl, fun w' hS => ?t16⟩) hS0 ?_
      case t16 =>
        go_simp
      refine wpAnyH_takeD (i := 17) (d := some 6) (v := .bool true) rfl rfl (by kernel_rfl) (by kernel_rfl) (by kernel_rfl) (fun _ _ _ h => h) (.inl ⟨by kernel_rfl, fun w' hS => ?t17⟩) hS0 ?_
      case t17 =>
        go_simp
      refine wpAnyH_done (by kernel_rfl) ?_ _
      try simp only [Act.put, List.setIfInBounds_toArray, List.set_cons_zero, List.set_cons_succ]
      have NF := Lib.hid (HB.out.n.new_ hS0)
      clear hS0
      go_wp2_with fail
      go_ret
      exact ⟨rfl, NF.out⟩
    · have hr' : (r == 0) = false := by simpa using hr
      have hr'' : (r != 0) = true := by simpa using hr
      refine wpAnyH_takeD (i := 9) (d := some 113) (v := .bool true) rfl rfl (by kernel_rfl) (by kernel_rfl) (by kernel_rfl) (fun _ _ _ h => h) (.inl ⟨by kernel_rfl, fun w' hS => ?t9⟩) hS0 ?_
      case t9 =>
        go_simp
      refine wpAnyH_takeD (i := 10) (d := some 114) (v := .bool true) rfl rfl (by kernel_rfl) (by kernel_rfl) (by kernel_rfl) (fun _ _ _ h => h) (.inl ⟨by kernel_rfl, fun w' hS => ?t10⟩) hS0 ?_
      case t10 =>
        go_simp
      refine wpAnyH_takeD (i := 11) (d := some 115) (v := undef) rfl rfl (by kernel_rfl) (by kernel_rfl) (by kernel_rfl) (fun _ _ _ h => h) (.inr ⟨by kernel_rfl, rfl⟩) hS0 ?_
      refine wpAnyH_skipD (i := 12) (d := some 116) rfl rfl (by kernel_rfl) (by kernel_rfl) hS0 ?_
      refine wpAnyH_skipD (i := 13) (d := some 117) rfl rfl (by kernel_rfl) (by kernel_rfl) hS0 ?_
      refine wpAnyH_takeD (i := 14) (d := some 118) (v := undef) rfl rfl (by kernel_rfl) (by kernel_rfl) (by kernel_rfl) (fun _ _ _ h => h) (.inr ⟨by kernel_rfl, rfl⟩) hS0 ?_
      refine wpAnyH_takeD (i := 15) (d := some 119) (v := .bool true) rfl rfl (by kernel_rfl) (by kernel_rfl) (by kernel_rfl) (fun _ _ _ h => h) (.inl ⟨by kernel_rfl, fun w' hS => ?t15⟩) hS0 ?_
      case t15 =>
        go_simp
      refine wpAnyH_takeD (i := 16) (d := some 120) (v := .bool true) rfl rfl (by kernel_rfl) (by kernel_rfl) (by kernel_rfl) (fun _ _ _ h => h) (.inl ⟨by kernel_rfl, fun w' hS => ?t16⟩) hS0 ?_
      case t16 =>
        go_simp
      refine wpAnyH_takeD (i := 17) (d := some 6) (v := .bool true) rfl rfl (by kernel_rfl) (by kernel_rfl) (by kernel_rfl) (fun _ _ _ h => h) (.inl ⟨by kernel_rfl, fun w' hS => ?t17⟩) hS0 ?_
      case t17 =>
        go_simp
      refine wpAnyH_done (by kernel_rfl) ?_ _
      try simp only [Act.put, List.setIfInBounds_toArray, List.set_cons_zero, List.set_cons_succ]
      have NF := Lib.hid (HB.out.n.new_ hS0)
      clear hS0
      go_wp2_with fail
      go_ret
      exact ⟨rfl, NF.out⟩
  · have y0 := K8.out.y.cell 0
    have y1 := K8.out.y.cell 1
    have y2 := K8.out.y.cell 2
    have y3 := K8.out.y.cell 3
    have y4 := K8.out.y.cell 4
    have y5 := K8.out.y.cell 5
    have x4 := K8.out.x.cell 4
    simp only [List.getElem?_toArray, List.getElem?_cons_zero, List.getElem?_cons_succ] at y0 y1 y2 y3 y4 y5 x4
    have f0 := K8.out.y.free 0
    have f1 := K8.out.y.free 1
    have f2 := K8.out.y.free 2
    have f3 := K8.out.y.free 3
    have f4 := K8.out.y.free 4
    have f5 := K8.out.y.free 5
    have ha1 := HA.out.1
    have ha2 := HA.out.2
    go_wp2_with fail
    refine H8.out _ _ ?_
    clear H8
    try clear K8'
    clear y0 y1 y2 y3 y4 y5 x4 f0 f1 f2 f3 f4 f5 ha1 ha2
    have hB : BiS w (W8.setCell ⟨by_, 0, none⟩ (.string ⟨#[49, 50, 51, 52, 53, 54, 55, 56, 57, 48, 49, 50, 51, 52, 53, 54, 55, 56, 57, 48, 49, 50, 51, 52, 53, 54, 55, 56, 57, 48, 49, 50]⟩)) by_ ⟨#[49, 50, 51, 52, 53, 54, 55, 56, 57, 48, 49, 50, 51, 52, 53, 54, 55, 56, 57, 48, 49, 50, 51, 52, 53, 54, 55, 56, 57, 48, 49, 50]⟩ t.size m a ch (some ⟨yA, 0, none⟩) q cpA pl := K8.out.put (by rw [← HQ.out]; simp [maxLen]; omega) rfl
    generalize World.setCell W8 _ _ = W9 at hB ⊢
    clear K8
    have wz : (Lit.int .i64 t.size).wf = true := by
      simp only [Lit.wf, Bool.and_eq_true, decide_eq_true_eq]
      exact ⟨by show (-9223372036854775808 : Int) ≤ _; omega, by show _ ≤ (9223372036854775807 : Int); omega⟩
    have wn : (Lit.int .i64 m).wf = true := by
      simp only [Lit.wf, Bool.and_eq_true, decide_eq_true_eq]
      exact ⟨by show (-9223372036854775808 : Int) ≤ _; omega, by show _ ≤ (9223372036854775807 : Int); omega⟩
    have wi : (Lit.int .i64 a).wf = true := by
      simp only [Lit.wf, Bool.and_eq_true, decide_eq_true_eq]
      exact ⟨by show (-9223372036854775808 : Int) ≤ _; omega, by show _ ≤ (9223372036854775807 : Int); omega⟩
    have wc : ch.size ≤ maxLen := by
      have := HA.out
      have e1 : (⟨#[120]⟩ : ByteArray).size = 1 := rfl
      simp only [ByteArray.size_append, ByteArray.size_extract, maxLen]
      omega
    have VA := Lib.hid fun (w : World) hG hl => verify_any (D := ⟨#[49, 50, 51, 52, 53, 54, 55, 56, 57, 48, 49, 50, 51, 52, 53, 54, 55, 56, 57, 48, 49, 50, 51, 52, 53, 54, 55, 56, 57, 48, 49, 50]⟩) (c := ch) (z := t.size) (n := m) (i := a) (P := (some ⟨yA, 0, none⟩)) (q := q) (cap := cpA) (p := pl) (w := w) hG hl (by omega) (by omega) wc
    have RS := Lib.hid fun (w : World) hl => ref_share (D := ⟨#[49, 50, 51, 52, 53, 54, 55, 56, 57, 48, 49, 50, 51, 52, 53, 54, 55, 56, 57, 48, 49, 50, 51, 52, 53, 54, 55, 56, 57, 48, 49, 50]⟩) (c := ch) (z := t.size) (n := m) (i := a) (P := (some ⟨yA, 0, none⟩)) (q := q) (cap := cpA) (p := pl) (w := w) hl (by omega) (by omega)
    have RV := Lib.hid fun (q2 : Nat) (w : World) hl h1 h2 => refverify_any (D := ⟨#[49, 50, 51, 52, 53, 54, 55, 56, 57, 48, 49, 50, 51, 52, 53, 54, 55, 56, 57, 48, 49, 50, 51, 52, 53, 54, 55, 56, 57, 48, 49, 50]⟩) (c := ch) (z := t.size) (n := m) (i := a) (P := (some ⟨yA, 0, none⟩)) (q := q2) (cap := cpA) (p := List.take 21 (pl)) (w := w) hl h1 (by omega) h2 wc wz wn wi
    have HC := Lib.hid (verB_cut ⟨#[49, 50, 51, 52, 53, 54, 55, 56, 57, 48, 49, 50, 51, 52, 53, 54, 55, 56, 57, 48, 49, 50, 51, 52, 53, 54, 55, 56, 57, 48, 49, 50]⟩ t.size m a ch pl 21 (by omega))
    obtain ⟨r, hr⟩ : ∃ r, r = verB ⟨#[49, 50, 51, 52, 53, 54, 55, 56, 57, 48, 49, 50, 51, 52, 53, 54, 55, 56, 57, 48, 49, 50, 51, 52, 53, 54, 55, 56, 57, 48, 49, 50]⟩ t.size m a ch (pl) := ⟨_, rfl⟩
    rw [← hr] at VA HC
    have HB := Lib.hid hB
    have HG := Lib.hid hG
    clear hB hG hr wz wn wi wc
    apply wp_seq_k
    intro K26 h26
    have hS0 : New W9 W9.drew := (Fr.refl _ _).drew
    refine wp_region_heldE (fun W' => New W9 W') (by kernel_rfl) ?_
    try simp only [Act.put, List.setIfInBounds_toArray, List.set_cons_zero, List.set_cons_succ]
    refine wpAnyH_takeD (i := 0) (d := some 104) (v := .agg #[.string ⟨#[49, 50, 51, 52, 53, 54, 55, 56, 57, 48, 49, 50, 51, 52, 53, 54, 55, 56, 57, 48, 49, 50, 51, 52, 53, 54, 55, 56, 57, 48, 49, 50]⟩, .int .i64 t.size, .int .i64 m, .int .i64 a, .string ch, .slice (some ⟨yA, 0, none⟩) q cpA]) rfl rfl (by kernel_rfl) (by kernel_rfl) (by kernel_rfl) (fun _ _ _ h => h) (.inl ⟨by kernel_rfl, fun w' hS => ?t0⟩) hS0 ?_
    case t0 =>
      obtain ⟨⟨x0, x1, x2, x3, x4, x5⟩, -⟩ := own6s (HB.out.o.new_ hS)
      go_simp
    refine wpAnyH_takeD (i := 2) (d := some 106) (v := .agg #[.string ⟨#[49, 50, 51, 52, 53, 54, 55, 56, 57, 48, 49, 50, 51, 52, 53, 54, 55, 56, 57, 48, 49, 50, 51, 52, 53, 54, 55, 56, 57, 48, 49, 50]⟩, .int .i64 t.size, .int .i64 m, .int .i64 a, .string ch, .slice (some ⟨yA, 0, none⟩) q cpA]) rfl rfl (by kernel_rfl) (by kernel_rfl) (by kernel_rfl) (fun _ _ _ h => h) (.inl ⟨by kernel_rfl, fun w' hS => ?t2⟩) hS0 ?_
    case t2 =>
      obtain ⟨⟨x0, x1, x2, x3, x4, x5⟩, -⟩ := own6s (HB.out.o.new_ hS)
      go_simp
    try simp only [Act.put, List.setIfInBounds_toArray, List.set_cons_zero, List.set_cons_succ]
    refine wpAnyH_all (rs := [1]) (by kernel_rfl) (by simp) (fun j hj => ?_)
    rw [List.mem_singleton] at hj
    subst hj
    refine wpOp_step rfl (fun K hK => ?_)
    go_simp
    refine (VA.out _ (glob_new HG.out (HB.out.n.new_ hS0)) (HB.out.s.new_ hS0)).mono ?_
    rintro e W' ⟨rfl, n'⟩
    replace hS0 := hS0.new_ n'
    clear n'
    refine hK _ _ ⟨hS0, ?_⟩
    clear hK K
    try simp only [List.getElem_toArray, List.getElem_cons_succ, List.getElem_cons_zero]
    try simp only [Act.put, List.setIfInBounds_toArray, List.set_cons_zero, List.set_cons_succ]
    refine wpAnyH_all (rs := [3]) (by kernel_rfl) (by simp) (fun j hj => ?_)
    rw [List.mem_singleton] at hj
    subst hj
    refine wpOp_step rfl (fun K hK => ?_)
    go_simp
    refine (RS.out _ (HB.out.s.new_ hS0)).mono ?_
    rintro e W' ⟨q2, rfl, hl2, h21, hqc2, n'⟩
    replace hS0 := hS0.new_ n'
    clear n'
    refine hK _ _ ⟨hS0, ?_⟩
    clear hK K
    try simp only [List.getElem_toArray, List.getElem_cons_succ, List.getElem_cons_zero]
    try simp only [Act.put, List.setIfInBounds_toArray, List.set_cons_zero, List.set_cons_succ]
    refine wpAnyH_all (rs := [4]) (by kernel_rfl) (by simp) (fun j hj => ?_)
    rw [List.mem_singleton] at hj
    subst hj
    refine wpOp_step rfl (fun K hK => ?_)
    go_simp
    refine (RV.out q2 _ hl2 hqc2 h21).mono ?_
    rintro e W' ⟨rfl, n'⟩
    replace hS0 := hS0.new_ n'
    clear n' hl2 hqc2 h21
    rw [HC.out]
    refine hK _ _ ⟨hS0, ?_⟩
    clear hK K
    try simp only [List.getElem_toArray, List.getElem_cons_succ, List.getElem_cons_zero]
    refine wpAnyH_takeD (i := 5) (d := some 109) (v := .bool true) rfl rfl (by kernel_rfl) (by kernel_rfl) (by kernel_rfl) (fun _ _ _ h => h) (.inl ⟨by kernel_rfl, fun w' hS => ?t5⟩) hS0 ?_
    case t5 =>
      go_simp
    refine wpAnyH_takeD (i := 6) (d := some 110) (v := .bool true) rfl rfl (by kernel_rfl) (by kernel_rfl) (by kernel_rfl) (fun _ _ _ h => h) (.inl ⟨by kernel_rfl, fun w' hS => ?t6⟩) hS0 ?_
    case t6 =>
      go_simp
    refine wpAnyH_takeD (i := 7) (d := some 111) (v := .agg #[.string ⟨#[49, 50, 51, 52, 53, 54, 55, 56, 57, 48, 49, 50, 51, 52, 53, 54, 55, 56, 57, 48, 49, 50, 51, 52, 53, 54, 55, 56, 57, 48, 49, 50]⟩, .int .i64 t.size, .int .i64 m, .int .i64 a, .string ch, .slice (some ⟨yA, 0, none⟩) q cpA]) rfl rfl (by kernel_rfl) (by kernel_rfl) (by kernel_rfl) (fun _ _ _ h => h) (.inl ⟨by kernel_rfl, fun w' hS => ?t7⟩) hS0 ?_
    case t7 =>
      obtain ⟨⟨x0, x1, x2, x3, x4, x5⟩, -⟩ := own6s (HB.out.o.new_ hS)
      go_simp
    try simp only [Act.put, List.setIfInBounds_toArray, List.set_cons_zero, List.set_cons_succ]
    refine wpAnyH_all (rs := [8]) (by kernel_rfl) (by simp) (fun j hj => ?_)
    rw [List.mem_singleton] at hj
    subst hj
    refine wpOp_step rfl (fun K hK => ?_)
    go_simp
    refine (VA.out _ (glob_new HG.out (HB.out.n.new_ hS0)) (HB.out.s.new_ hS0)).mono ?_
    rintro e W' ⟨rfl, n'⟩
    replace hS0 := hS0.new_ n'
    clear n'
    refine hK _ _ ⟨hS0, ?_⟩
    clear hK K
    try simp only [List.getElem_toArray, List.getElem_cons_succ, List.getElem_cons_zero]
    by_cases hr : r = 0
    · subst hr
      refine wpAnyH_takeD (i := 9) (d := some 113) (v := .bool false) rfl rfl (by kernel_rfl) (by kernel_rfl) (by kernel_rfl) (fun _ _ _ h => h) (.inl ⟨by kernel_rfl, fun w' hS => ?t9⟩) hS0 ?_
      case t9 =>
        go_simp
      refine wpAnyH_takeD (i := 10) (d := some 114) (v := .bool false) rfl rfl (by kernel_rfl) (by kernel_rfl) (by kernel_rfl) (fun _ _ _ h => h) (.inl ⟨by kernel_rfl, fun w' hS => ?t10⟩) hS0 ?_
      case t10 =>
        go_simp
      refine wpAnyH_takeD (i := 11) (d := some 115) (v := .agg #[.string ⟨#[49, 50, 51, 52, 53, 54, 55, 56, 57, 48, 49, 50, 51, 52, 53, 54, 55, 56, 57, 48, 49, 50, 51, 52, 53, 54, 55, 56, 57, 48, 49, 50]⟩, .int .i64 t.size, .int .i64 m, .int .i64 a, .string ch, .slice (some ⟨yA, 0, none⟩) q cpA]) rfl rfl (by kernel_rfl) (by kernel_rfl) (by kernel_rfl) (fun _ _ _ h => h) (.inl ⟨by kernel_rfl, fun w' hS => ?t11⟩) hS0 ?_
      case t11 =>
        obtain ⟨⟨x0, x1, x2, x3, x4, x5⟩, -⟩ := own6s (HB.out.o.new_ hS)
        go_simp
      try simp only [Act.put, List.setIfInBounds_toArray, List.set_cons_zero, List.set_cons_succ]
      refine wpAnyH_all (rs := [12]) (by kernel_rfl) (by simp) (fun j hj => ?_)
      rw [List.mem_singleton] at hj
      subst hj
      refine wpOp_step rfl (fun K hK => ?_)
      go_simp
      refine (RS.out _ (HB.out.s.new_ hS0)).mono ?_
      rintro e W' ⟨q2, rfl, hl2, h21, hqc2, n'⟩
      replace hS0 := hS0.new_ n'
      clear n'
      refine hK _ _ ⟨hS0, ?_⟩
      clear hK K
      try simp only [List.getElem_toArray, List.getElem_cons_succ, List.getElem_cons_zero]
      try simp only [Act.put, List.setIfInBounds_toArray, List.set_cons_zero, List.set_cons_succ]
      refine wpAnyH_all (rs := [13]) (by kernel_rfl) (by simp) (fun j hj => ?_)
      rw [List.mem_singleton] at hj
      subst hj
      refine wpOp_step rfl (fun K hK => ?_)
      go_simp
      refine (RV.out q2 _ hl2 hqc2 h21).mono ?_
      rintro e W' ⟨rfl, n'⟩
      replace hS0 := hS0.new_ n'
      clear n' hl2 hqc2 h21
      rw [HC.out]
      refine hK _ _ ⟨hS0, ?_⟩
      clear hK K
      try simp only [List.getElem_toArray, List.getElem_cons_succ, List.getElem_cons_zero]
      refine wpAnyH_takeD (i := 14) (d := some 118) (v := .bool true) rfl rfl (by kernel_rfl) (by kernel_rfl) (by kernel_rfl) (fun _ _ _ h => h) (.inl ⟨by kernel_rfl, fun w' hS => ?t14⟩) hS0 ?_
      case t14 =>
        go_simp
      refine wpAnyH_takeD (i := 15) (d := some 119) (v := .bool true) rfl rfl (by kernel_rfl) (by kernel_rfl) (by kernel_rfl) (fun _ _ _ h => h) (.inl ⟨by kernel_rfl, fun w' hS => ?t15⟩) hS0 ?_
      case t15 =>
        go_simp
      refine wpAnyH_takeD (i := 16) (d := some 120) (v := .bool true) rfl rfl (by kernel_rfl) (by kernel_rfl) (by kernel_rfl) (fun _ _ _ h => h) (.inl ⟨by kernel_rfl, fun w' hS => ?t16⟩) hS0 ?_
      case t16 =>
        go_simp
      refine wpAnyH_takeD (i := 17) (d := some 6) (v := .bool true) rfl rfl (by kernel_rfl) (by kernel_rfl) (by kernel_rfl) (fun _ _ _ h => h) (.inl ⟨by kernel_rfl, fun w' hS => ?t17⟩) hS0 ?_
      case t17 =>
        go_simp
      refine wpAnyH_done (by kernel_rfl) ?_ _
      try simp only [Act.put, List.setIfInBounds_toArray, List.set_cons_zero, List.set_cons_succ]
      have NF := Lib.hid (HB.out.n.new_ hS0)
      clear hS0
      go_wp2_with fail
      go_ret
      exact ⟨rfl, NF.out⟩
    · have hr' : (r == 0) = false := by simpa using hr
      have hr'' : (r != 0) = true := by simpa using hr
      refine wpAnyH_takeD (i := 9) (d := some 113) (v := .bool true) rfl rfl (by kernel_rfl) (by kernel_rfl) (by kernel_rfl) (fun _ _ _ h => h) (.inl ⟨by kernel_rfl, fun w' hS => ?t9⟩) hS0 ?_
      case t9 =>
        go_simp
      refine wpAnyH_takeD (i := 10) (d := some 114) (v := .bool true) rfl rfl (by kernel_rfl) (by kernel_rfl) (by kernel_rfl) (fun _ _ _ h => h) (.inl ⟨by kernel_rfl, fun w' hS => ?t10⟩) hS0 ?_
      case t10 =>
        go_simp
      refine wpAnyH_takeD (i := 11) (d := some 115) (v := undef) rfl rfl (by kernel_rfl) (by kernel_rfl) (by kernel_rfl) (fun _ _ _ h => h) (.inr ⟨by kernel_rfl, rfl⟩) hS0 ?_
      refine wpAnyH_skipD (i := 12) (d := some 116) rfl rfl (by kernel_rfl) (by kernel_rfl) hS0 ?_
      refine wpAnyH_skipD (i := 13) (d := some 117) rfl rfl (by kernel_rfl) (by kernel_rfl) hS0 ?_
      refine wpAnyH_takeD (i := 14) (d := some 118) (v := undef) rfl rfl (by kernel_rfl) (by kernel_rfl) (by kernel_rfl) (fun _ _ _ h => h) (.inr ⟨by kernel_rfl, rfl⟩) hS0 ?_
      refine wpAnyH_takeD (i := 15) (d := some 119) (v := .bool true) rfl rfl (by kernel_rfl) (by kernel_rfl) (by kernel_rfl) (fun _ _ _ h => h) (.inl ⟨by kernel_rfl, fun w' hS => ?t15⟩) hS0 ?_
      case t15 =>
        go_simp
      refine wpAnyH_takeD (i := 16) (d := some 120) (v := .bool true) rfl rfl (by kernel_rfl) (by kernel_rfl) (by kernel_rfl) (fun _ _ _ h => h) (.inl ⟨by kernel_rfl, fun w' hS => ?t16⟩) hS0 ?_
      case t16 =>
        go_simp
      refine wpAnyH_takeD (i := 17) (d := some 6) (v := .bool true) rfl rfl (by kernel_rfl) (by kernel_rfl) (by kernel_rfl) (fun _ _ _ h => h) (.inl ⟨by kernel_rfl, fun w' hS => ?t17⟩) hS0 ?_
      case t17 =>
        go_simp
      refine wpAnyH_done (by kernel_rfl) ?_ _
      try simp only [Act.put, List.setIfInBounds_toArray, List.set_cons_zero, List.set_cons_succ]
      have NF := Lib.hid (HB.out.n.new_ hS0)
      clear hS0
      go_wp2_with fail
      go_ret
      exact ⟨rfl, NF.out⟩
  · have y0 := K8.out.y.cell 0
    have y1 := K8.out.y.cell 1
    have y2 := K8.out.y.cell 2
    have y3 := K8.out.y.cell 3
    have y4 := K8.out.y.cell 4
    have y5 := K8.out.y.cell 5
    have x4 := K8.out.x.cell 4
    simp only [List.getElem?_toArray, List.getElem?_cons_zero, List.getElem?_cons_succ] at y0 y1 y2 y3 y4 y5 x4
    have f0 := K8.out.y.free 0
    have f1 := K8.out.y.free 1
    have f2 := K8.out.y.free 2
    have f3 := K8.out.y.free 3
    have f4 := K8.out.y.free 4
    have f5 := K8.out.y.free 5
    have ha1 := HA.out.1
    have ha2 := HA.out.2
    have hNE : New W8 (W8.alloc (.cells #[.string fb] 9)) := (Fr.refl _ _).alloc _
    have hyl := K8.out.y.lt
    obtain ⟨v', W', hrA, tA, fA, vA⟩ := append_txt (K8.out.t.new_ hNE) (by rw [World.size_alloc]; omega) (by rw [← HQ.out]; omega) (Own.fresh W8 9 #[.string fb])
    have hyy : by_ + 1 ≤ yA := (K8.out.t.base (k := yA) rfl).1
    have oy' : Own W' by_ 27 _ := (K8.out.y.new_ hNE).fr fA (fun e => by
      have e : some yA = some by_ := e
      injection e with e
      omega)
    obtain ⟨A', cp', rfl⟩ := tA.form
    have hcA' := tA.cap
    obtain ⟨q1, hq1⟩ : ∃ q1, q1 = (pl ++ [fb]).length := ⟨_, rfl⟩
    rw [← hq1] at hrA tA hcA'
    have hq1' : q1 = q + 1 := by rw [hq1, HQ.out]; simp
    have nA : New w W' := (K8.out.n.new_ hNE).trans fA fun k hk e => by
      have e : some yA = some k := e
      injection e with e
      have := K8.out.b
      omega
    have z5 := oy'.cell 5
    simp only [List.getElem?_toArray, List.getElem?_cons_zero, List.getElem?_cons_succ] at z5
    have g5 := oy'.free 5
    have fS : Fr (fun k => k = by_) W' (W'.setCell ⟨by_, 5, none⟩ (.slice A' q1 cp')) := Fr.set (F := fun k => k = by_) (p := ⟨by_, 5, none⟩) (Fr.refl _ W') (fun _ => rfl) _
    have hB : BiS w (W'.setCell ⟨by_, 5, none⟩ (.slice A' q1 cp')) by_ fb t.size m a ch A' q1 cp' (pl ++ [fb]) := ⟨oy'.put rfl, nA.trans fS (fun k hk e => by
      have e : k = by_ := e
      have := K8.out.b
      omega), SlT.of_txl (tA.fr fS fun k hk e => by
        have e : k = by_ := e
        have := (tA.base hk).1
        omega) (by rw [← hq1]; simp only [maxLen]; omega)⟩
    have HB0 := Lib.hid hB
    have HQ1 := Lib.hid hq1'
    clear hB fS nA tA oy' vA fA hNE hq1 hyy hyl hq1'
    go_wp2_with (at_builtin; refine wpList_append_run rfl (.tmp 88) (.tmp 91) 24 rfl rfl rfl hrA ?_)
    refine H8.out _ _ ?_
    clear H8
    try clear K8'
    clear hrA z5 g5
    clear y0 y1 y2 y3 y4 y5 x4 f0 f1 f2 f3 f4 f5 ha1 ha2
    have hB := HB0.out
    clear HB0 HQ1
    generalize World.setCell W' _ _ = W9 at hB ⊢
    clear K8
    obtain ⟨pp, hpp⟩ : ∃ pp, pp = pl ++ [fb] := ⟨_, rfl⟩
    rw [← hpp] at hB
    clear hpp
    have wz : (Lit.int .i64 t.size).wf = true := by
      simp only [Lit.wf, Bool.and_eq_true, decide_eq_true_eq]
      exact ⟨by show (-9223372036854775808 : Int) ≤ _; omega, by show _ ≤ (9223372036854775807 : Int); omega⟩
    have wn : (Lit.int .i64 m).wf = true := by
      simp only [Lit.wf, Bool.and_eq_true, decide_eq_true_eq]
      exact ⟨by show (-9223372036854775808 : Int) ≤ _; omega, by show _ ≤ (9223372036854775807 : Int); omega⟩
    have wi : (Lit.int .i64 a).wf = true := by
      simp only [Lit.wf, Bool.and_eq_true, decide_eq_true_eq]
      exact ⟨by show (-9223372036854775808 : Int) ≤ _; omega, by show _ ≤ (9223372036854775807 : Int); omega⟩
    have wc : ch.size ≤ maxLen := by
      have := HA.out
      have e1 : (⟨#[120]⟩ : ByteArray).size = 1 := rfl
      simp only [ByteArray.size_append, ByteArray.size_extract, maxLen]
      omega
    have VA := Lib.hid fun (w : World) hG hl => verify_any (D := fb) (c := ch) (z := t.size) (n := m) (i := a) (P := A') (q := q1) (cap := cp') (p := pp) (w := w) hG hl (by omega) (by omega) wc
    have RS := Lib.hid fun (w : World) hl => ref_share (D := fb) (c := ch) (z := t.size) (n := m) (i := a) (P := A') (q := q1) (cap := cp') (p := pp) (w := w) hl (by omega) (by omega)
    have RV := Lib.hid fun (q2 : Nat) (w : World) hl h1 h2 => refverify_any (D := fb) (c := ch) (z := t.size) (n := m) (i := a) (P := A') (q := q2) (cap := cp') (p := List.take 21 (pp)) (w := w) hl h1 (by omega) h2 wc wz wn wi
    have HC := Lib.hid (verB_cut fb t.size m a ch pp 21 (by omega))
    obtain ⟨r, hr⟩ : ∃ r, r = verB fb t.size m a ch (pp) := ⟨_, rfl⟩
    rw [← hr] at VA HC
    have HB := Lib.hid hB
    have HG := Lib.hid hG
    clear hB hG hr wz wn wi wc
    apply wp_seq_k
    intro K26 h26
    have hS0 : New W9 W9.drew := (Fr.refl _ _).drew
    refine wp_region_heldE (fun W' => New W9 W') (by kernel_rfl) ?_
    try simp only [Act.put, List.setIfInBounds_toArray, List.set_cons_zero, List.set_cons_succ]
    refine wpAnyH_takeD (i := 0) (d := some 104) (v := .agg #[.string fb, .int .i64 t.size, .int .i64 m, .int .i64 a, .string ch, .slice A' q1 cp']) rfl rfl (by kernel_rfl) (by kernel_rfl) (by kernel_rfl) (fun _ _ _ h => h) (.inl ⟨by kernel_rfl, fun w' hS => ?t0⟩) hS0 ?_
    case t0 =>
      obtain ⟨⟨x0, x1, x2, x3, x4, x5⟩, -⟩ := own6s (HB.out.o.new_ hS)
      go_simp
    refine wpAnyH_takeD (i := 2) (d := some 106) (v := .agg #[.string fb, .int .i64 t.size, .int .i64 m, .int .i64 a, .string ch, .slice A' q1 cp']) rfl rfl (by kernel_rfl) (by kernel_rfl) (by kernel_rfl) (fun _ _ _ h => h) (.inl ⟨by kernel_rfl, fun w' hS => ?t2⟩) hS0 ?_
    case t2 =>
      obtain ⟨⟨x0, x1, x2, x3, x4, x5⟩, -⟩ := own6s (HB.out.o.new_ hS)
      go_simp
    try simp only [Act.put, List.setIfInBounds_toArray, List.set_cons_zero, List.set_cons_succ]
    refine wpAnyH_all (rs := [1]) (by kernel_rfl) (by simp) (fun j hj => ?_)
    rw [List.mem_singleton] at hj
    subst hj
    refine wpOp_step rfl (fun K hK => ?_)
    go_simp
    refine (VA.out _ (glob_new HG.out (HB.out.n.new_ hS0)) (HB.out.s.new_ hS0)).mono ?_
    rintro e W' ⟨rfl, n'⟩
    replace hS0 := hS0.new_ n'
    clear n'
    refine hK _ _ ⟨hS0, ?_⟩
    clear hK K
    try simp only [List.getElem_toArray, List.getElem_cons_succ, List.getElem_cons_zero]
    try simp only [Act.put, List.setIfInBounds_toArray, List.set_cons_zero, List.set_cons_succ]
    refine wpAnyH_all (rs := [3]) (by kernel_rfl) (by simp) (fun j hj => ?_)
    rw [List.mem_singleton] at hj
    subst hj
    refine wpOp_step rfl (fun K hK => ?_)
    go_simp
    refine (RS.out _ (HB.out.s.new_ hS0)).mono ?_
    rintro e W' ⟨q2, rfl, hl2, h21, hqc2, n'⟩
    replace hS0 := hS0.new_ n'
    clear n'
    refine hK _ _ ⟨hS0, ?_⟩
    clear hK K
    try simp only [List.getElem_toArray, List.getElem_cons_succ, List.getElem_cons_zero]
    try simp only [Act.put, List.setIfInBounds_toArray, List.set_cons_zero, List.set_cons_succ]
    refine wpAnyH_all (rs := [4]) (by kernel_rfl) (by simp) (fun j hj => ?_)
    rw [List.mem_singleton] at hj
    subst hj
    refine wpOp_step rfl (fun K hK => ?_)
    go_simp
    refine (RV.out q2 _ hl2 hqc2 h21).mono ?_
    rintro e W' ⟨rfl, n'⟩
    replace hS0 := hS0.new_ n'
    clear n' hl2 hqc2 h21
    rw [HC.out]
    refine hK _ _ ⟨hS0, ?_⟩
    clear hK K
    try simp only [List.getElem_toArray, List.getElem_cons_succ, List.getElem_cons_zero]
    refine wpAnyH_takeD (i := 5) (d := some 109) (v := .bool true) rfl rfl (by kernel_rfl) (by kernel_rfl) (by kernel_rfl) (fun _ _ _ h => h) (.inl ⟨by kernel_rfl, fun w' hS => ?t5⟩) hS0 ?_
    case t5 =>
      go_simp
    refine wpAnyH_takeD (i := 6) (d := some 110) (v := .bool true) rfl rfl (by kernel_rfl) (by kernel_rfl) (by kernel_rfl) (fun _ _ _ h => h) (.inl ⟨by kernel_rfl, fun w' hS => ?t6⟩) hS0 ?_
    case t6 =>
      go_simp
    refine wpAnyH_takeD (i := 7) (d := some 111) (v := .agg #[.string fb, .int .i64 t.size, .int .i64 m, .int .i64 a, .string ch, .slice A' q1 cp']) rfl rfl (by kernel_rfl) (by kernel_rfl) (by kernel_rfl) (fun _ _ _ h => h) (.inl ⟨by kernel_rfl, fun w' hS => ?t7⟩) hS0 ?_
    case t7 =>
      obtain ⟨⟨x0, x1, x2, x3, x4, x5⟩, -⟩ := own6s (HB.out.o.new_ hS)
      go_simp
    try simp only [Act.put, List.setIfInBounds_toArray, List.set_cons_zero, List.set_cons_succ]
    refine wpAnyH_all (rs := [8]) (by kernel_rfl) (by simp) (fun j hj => ?_)
    rw [List.mem_singleton] at hj
    subst hj
    refine wpOp_step rfl (fun K hK => ?_)
    go_simp
    refine (VA.out _ (glob_new HG.out (HB.out.n.new_ hS0)) (HB.out.s.new_ hS0)).mono ?_
    rintro e W' ⟨rfl, n'⟩
    replace hS0 := hS0.new_ n'
    clear n'
    refine hK _ _ ⟨hS0, ?_⟩
    clear hK K
    try simp only [List.getElem_toArray, List.getElem_cons_succ, List.getElem_cons_zero]
    by_cases hr : r = 0
    · subst hr
      refine wpAnyH_takeD (i := 9) (d := some 113) (v := .bool false) rfl rfl (by kernel_rfl) (by kernel_rfl) (by kernel_rfl) (fun _ _ _ h => h) (.inl ⟨by kernel_rfl, fun w' hS => ?t9⟩) hS0 ?_
      case t9 =>
        go_simp
      refine wpAnyH_takeD (i := 10) (d := some 114) (v := .bool false) rfl rfl (by kernel_rfl) (by kernel_rfl) (by kernel_rfl) (fun _ _ _ h => h) (.inl ⟨by kernel_rfl, fun w' hS => ?t10⟩) hS0 ?_
      case t10 =>
        go_simp
      refine wpAnyH_takeD (i := 11) (d := some 115) (v := .agg #[.string fb, .int .i64 t.size, .int .i64 m, .int .i64 a, .string ch, .slice A' q1 cp']) rfl rfl (by kernel_rfl) (by kernel_rfl) (by kernel_rfl) (fun _ _ _ h => h) (.inl ⟨by kernel_rfl, fun w' hS => ?t11⟩) hS0 ?_
      case t11 =>
        obtain ⟨⟨x0, x1, x2, x3, x4, x5⟩, -⟩ := own6s (HB.out.o.new_ hS)
        go_simp
      try simp only [Act.put, List.setIfInBounds_toArray, List.set_cons_zero, List.set_cons_succ]
      refine wpAnyH_all (rs := [12]) (by kernel_rfl) (by simp) (fun j hj => ?_)
      rw [List.mem_singleton] at hj
      subst hj
      refine wpOp_step rfl (fun K hK => ?_)
      go_simp
      refine (RS.out _ (HB.out.s.new_ hS0)).mono ?_
      rintro e W' ⟨q2, rfl, hl2, h21, hqc2, n'⟩
      replace hS0 := hS0.new_ n'
      clear n'
      refine hK _ _ ⟨hS0, ?_⟩
      clear hK K
      try simp only [List.getElem_toArray, List.getElem_cons_succ, List.getElem_cons_zero]
      try simp only [Act.put, List.setIfInBounds_toArray, List.set_cons_zero, List.set_cons_succ]
      refine wpAnyH_all (rs := [13]) (by kernel_rfl) (by simp) (fun j hj => ?_)
      rw [List.mem_singleton] at hj
      subst hj
      refine wpOp_step rfl (fun K hK => ?_)
      go_simp
      refine (RV.out q2 _ hl2 hqc2 h21).mono ?_
      rintro e W' ⟨rfl, n'⟩
      replace hS0 := hS0.new_ n'
      clear n' hl2 hqc2 h21
      rw [HC.out]
      refine hK _ _ ⟨hS0, ?_⟩
      clear hK K
      try simp only [List.getElem_toArray, List.getElem_cons_succ, List.getElem_cons_zero]
      refine wpAnyH_takeD (i := 14) (d := some 118) (v := .bool true) rfl rfl (by kernel_rfl) (by kernel_rfl) (by kernel_rfl) (fun _ _ _ h => h) (.inl ⟨by kernel_rfl, fun w' hS => ?t14⟩) hS0 ?_
      case t14 =>
        go_simp
      refine wpAnyH_takeD (i := 15) (d := some 119) (v := .bool true) rfl rfl (by kernel_rfl) (by kernel_rfl) (by kernel_rfl) (fun _ _ _ h => h) (.inl ⟨by kernel_rfl, fun w' hS => ?t15⟩) hS0 ?_
      case t15 =>
        go_simp
      refine wpAnyH_takeD (i := 16) (d := some 120) (v := .bool true) rfl rfl (by kernel_rfl) (by kernel_rfl) (by kernel_rfl) (fun _ _ _ h => h) (.inl ⟨by kernel_rfl, fun w' hS => ?t16⟩) hS0 ?_
      case t16 =>
        go_simp
      refine wpAnyH_takeD (i := 17) (d := some 6) (v := .bool true) rfl rfl (by kernel_rfl) (by kernel_rfl) (by kernel_rfl) (fun _ _ _ h => h) (.inl ⟨by kernel_rfl, fun w' hS => ?t17⟩) hS0 ?_
      case t17 =>
        go_simp
      refine wpAnyH_done (by kernel_rfl) ?_ _
      try simp only [Act.put, List.setIfInBounds_toArray, List.set_cons_zero, List.set_cons_succ]
      have NF := Lib.hid (HB.out.n.new_ hS0)
      clear hS0
      go_wp2_with fail
      go_ret
      exact ⟨rfl, NF.out⟩
    · have hr' : (r == 0) = false := by simpa using hr
      have hr'' : (r != 0) = true := by simpa using hr
      refine wpAnyH_takeD (i := 9) (d := some 113) (v := .bool true) rfl rfl (by kernel_rfl) (by kernel_rfl) (by kernel_rfl) (fun _ _ _ h => h) (.inl ⟨by kernel_rfl, fun w' hS => ?t9⟩) hS0 ?_
      case t9 =>
        go_simp
      refine wpAnyH_takeD (i := 10) (d := some 114) (v := .bool true) rfl rfl (by kernel_rfl) (by kernel_rfl) (by kernel_rfl) (fun _ _ _ h => h) (.inl ⟨by kernel_rfl, fun w' hS => ?t10⟩) hS0 ?_
      case t10 =>
        go_simp
      refine wpAnyH_takeD (i := 11) (d := some 115) (v := undef) rfl rfl (by kernel_rfl) (by kernel_rfl) (by kernel_rfl) (fun _ _ _ h => h) (.inr ⟨by kernel_rfl, rfl⟩) hS0 ?_
      refine wpAnyH_skipD (i := 12) (d := some 116) rfl rfl (by kernel_rfl) (by kernel_rfl) hS0 ?_
      refine wpAnyH_skipD (i := 13) (d := some 117) rfl rfl (by kernel_rfl) (by kernel_rfl) hS0 ?_
      refine wpAnyH_takeD (i := 14) (d := some 118) (v := undef) rfl rfl (by kernel_rfl) (by kernel_rfl) (by kernel_rfl) (fun _ _ _ h => h) (.inr ⟨by kernel_rfl, rfl⟩) hS0 ?_
      refine wpAnyH_takeD (i := 15) (d := some 119) (v := .bool true) rfl rfl (by kernel_rfl) (by kernel_rfl) (by kernel_rfl) (fun _ _ _ h => h) (.inl ⟨by kernel_rfl, fun w' hS => ?t15⟩) hS0 ?_
      case t15 =>
        go_simp
      refine wpAnyH_takeD (i := 16) (d := some 120) (v := .bool true) rfl rfl (by kernel_rfl) (by kernel_rfl) (by kernel_rfl) (fun _ _ _ h => h) (.inl ⟨by kernel_rfl, fun w' hS => ?t16⟩) hS0 ?_
      case t16 =>
        go_simp
      refine wpAnyH_takeD (i := 17) (d := some 6) (v := .bool true) rfl rfl (by kernel_rfl) (by kernel_rfl) (by kernel_rfl) (fun _ _ _ h => h) (.inl ⟨by kernel_rfl, fun w' hS => ?t17⟩) hS0 ?_
      case t17 =>
        go_simp
      refine wpAnyH_done (by kernel_rfl) ?_ _
      try simp only [Act.put, List.setIfInBounds_toArray, List.set_cons_zero, List.set_cons_succ]
      have NF := Lib.hid (HB.out.n.new_ hS0)
      clear hS0
      go_wp2_with fail
      go_ret
      exact ⟨rfl, NF.out⟩
  · by_cases hq0 : q = 0
    · have hqi : (q : Int) = 0 := by omega
      have y0 := K8.out.y.cell 0
      have y1 := K8.out.y.cell 1
      have y2 := K8.out.y.cell 2
      have y3 := K8.out.y.cell 3
      have y4 := K8.out.y.cell 4
      have y5 := K8.out.y.cell 5
      have x4 := K8.out.x.cell 4
      simp only [List.getElem?_toArray, List.getElem?_cons_zero, List.getElem?_cons_succ] at y0 y1 y2 y3 y4 y5 x4
      have f0 := K8.out.y.free 0
      have f1 := K8.out.y.free 1
      have f2 := K8.out.y.free 2
      have f3 := K8.out.y.free 3
      have f4 := K8.out.y.free 4
      have f5 := K8.out.y.free 5
      have ha1 := HA.out.1
      have ha2 := HA.out.2
      have NF := Lib.hid K8.out.n
      go_wp2_with fail
      go_ret
      exact ⟨rfl, NF.out⟩
    · have hqi : ¬ (q : Int) = 0 := by omega
      have hqi1 : 1 ≤ (q : Int) := by omega
      have hqe : ((q : Int) == 0) = false := by simpa using hq0
      have hqd : decide ((q : Int) = 0) = false := by simpa using hq0
      have y0 := K8.out.y.cell 0
      have y1 := K8.out.y.cell 1
      have y2 := K8.out.y.cell 2
      have y3 := K8.out.y.cell 3
      have y4 := K8.out.y.cell 4
      have y5 := K8.out.y.cell 5
      have x4 := K8.out.x.cell 4
      simp only [List.getElem?_toArray, List.getElem?_cons_zero, List.getElem?_cons_succ] at y0 y1 y2 y3 y4 y5 x4
      have f0 := K8.out.y.free 0
      have f1 := K8.out.y.free 1
      have f2 := K8.out.y.free 2
      have f3 := K8.out.y.free 3
      have f4 := K8.out.y.free 4
      have f5 := K8.out.y.free 5
      have ha1 := HA.out.1
      have ha2 := HA.out.2
      repeat (first | go_values | go_skip | go_guarded | go_step | go_upon | go_back)
      trace_state
      refine H8.out _ _ ?_
      clear H8
      try clear K8'
      clear y0 y1 y2 y3 y4 y5 x4 f0 f1 f2 f3 f4 f5 ha1 ha2
      obtain ⟨PP, hPP⟩ : ∃ PP : Option Addr, PP = (if cpA = 1 then some ⟨yA, 0, none⟩ else some ⟨yA, 1, none⟩) := ⟨_, rfl⟩
      rw [← hPP]
      have hblk : ∀ ad, PP = some ad → ad.block = yA := fun ad e => by
        rw [hPP] at e
        split at e <;> (injection e with e; subst e; rfl)
      have fS : Fr (fun k => k = by_) W8 (W8.setCell ⟨by_, 5, none⟩ (.slice PP (q - 1) (cpA - 1))) := Fr.set (F := fun k => k = by_) (p := ⟨by_, 5, none⟩) (Fr.refl _ W8) (fun _ => rfl) _
      have hyy : by_ + 1 ≤ yA := (K8.out.t.base (k := yA) rfl).1
      have hT := SlT.of_txl K8.out.t (by rw [← HQ.out]; simp only [maxLen]; omega)
      have hD : SlT W8 PP (q - 1) (pl.drop 1) := by
        rw [hPP]
        split
        · exact ⟨by rw [List.length_drop, ← HQ.out], Nat.le_trans (Nat.sub_le _ _) hT.2.1, fun i hi => absurd hi (by omega)⟩
        · exact hT.drop (k := 1) (by omega)
      have hB : BiS w (W8.setCell ⟨by_, 5, none⟩ (.slice PP (q - 1) (cpA - 1))) by_ fb t.size m a ch PP (q - 1) (cpA - 1) (pl.drop 1) := ⟨K8.out.y.put rfl, K8.out.n.trans fS (fun k hk e => by
        have e : k = by_ := e
        have := K8.out.b
        omega), hD.fr fS (fun ad e e2 => by
          have := hblk ad e
          have e2 : ad.block = by_ := e2
          omega)⟩
      clear fS hyy hT hD hblk hPP
      generalize World.setCell W8 _ _ = W9 at hB ⊢
      clear K8
      obtain ⟨pp, hpp⟩ : ∃ pp, pp = pl.drop 1 := ⟨_, rfl⟩
      rw [← hpp] at hB
      clear hpp
      clear hqe hqd hqi
      have wz : (Lit.int .i64 t.size).wf = true := by
        simp only [Lit.wf, Bool.and_eq_true, decide_eq_true_eq]
        exact ⟨by show (-9223372036854775808 : Int) ≤ _; omega, by show _ ≤ (9223372036854775807 : Int); omega⟩
      have wn : (Lit.int .i64 m).wf = true := by
        simp only [Lit.wf, Bool.and_eq_true, decide_eq_true_eq]
        exact ⟨by show (-9223372036854775808 : Int) ≤ _; omega, by show _ ≤ (9223372036854775807 : Int); omega⟩
      have wi : (Lit.int .i64 a).wf = true := by
        simp only [Lit.wf, Bool.and_eq_true, decide_eq_true_eq]
        exact ⟨by show (-9223372036854775808 : Int) ≤ _; omega, by show _ ≤ (9223372036854775807 : Int); omega⟩
      have wc : ch.size ≤ maxLen := by
        have := HA.out
        have e1 : (⟨#[120]⟩ : ByteArray).size = 1 := rfl
        simp only [ByteArray.size_append, ByteArray.size_extract, maxLen]
        omega
      have VA := Lib.hid fun (w : World) hG hl => verify_any (D := fb) (c := ch) (z := t.size) (n := m) (i := a) (P := PP) (q := (q - 1)) (cap := (cpA - 1)) (p := pp) (w := w) hG hl (by omega) (by omega) wc
      have RS := Lib.hid fun (w : World) hl => ref_share (D := fb) (c := ch) (z := t.size) (n := m) (i := a) (P := PP) (q := (q - 1)) (cap := (cpA - 1)) (p := pp) (w := w) hl (by omega) (by omega)
      have RV := Lib.hid fun (q2 : Nat) (w : World) hl h1 h2 => refverify_any (D := fb) (c := ch) (z := t.size) (n := m) (i := a) (P := PP) (q := q2) (cap := (cpA - 1)) (p := List.take 21 (pp)) (w := w) hl h1 (by omega) h2 wc wz wn wi
      have HC := Lib.hid (verB_cut fb t.size m a ch pp 21 (by omega))
      obtain ⟨r, hr⟩ : ∃ r, r = verB fb t.size m a ch (pp) := ⟨_, rfl⟩
      rw [← hr] at VA HC
      have HB := Lib.hid hB
      have HG := Lib.hid hG
      clear hB hG hr wz wn wi wc
      apply wp_seq_k
      intro K26 h26
      have hS0 : New W9 W9.drew := (Fr.refl _ _).drew
      refine wp_region_heldE (fun W' => New W9 W') (by kernel_rfl) ?_
      try simp only [Act.put, List.setIfInBounds_toArray, List.set_cons_zero, List.set_cons_succ]
      refine wpAnyH_takeD (i := 0) (d := some 104) (v := .agg #[.string fb, .int .i64 t.size, .int .i64 m, .int .i64 a, .string ch, .slice PP (q - 1) (cpA - 1)]) rfl rfl (by kernel_rfl) (by kernel_rfl) (by kernel_rfl) (fun _ _ _ h => h) (.inl ⟨by kernel_rfl, fun w' hS => ?t0⟩) hS0 ?_
      case t0 =>
        obtain ⟨⟨x0, x1, x2, x3, x4, x5⟩, -⟩ := own6s (HB.out.o.new_ hS)
        go_simp
      refine wpAnyH_takeD (i := 2) (d := some 106) (v := .agg #[.string fb, .int .i64 t.size, .int .i64 m, .int .i64 a, .string ch, .slice PP (q - 1) (cpA - 1)]) rfl rfl (by kernel_rfl) (by kernel_rfl) (by kernel_rfl) (fun _ _ _ h => h) (.inl ⟨by kernel_rfl, fun w' hS => ?t2⟩) hS0 ?_
      case t2 =>
        obtain ⟨⟨x0, x1, x2, x3, x4, x5⟩, -⟩ := own6s (HB.out.o.new_ hS)
        go_simp
      try simp only [Act.put, List.setIfInBounds_toArray, List.set_cons_zero, List.set_cons_succ]
      refine wpAnyH_all (rs := [1]) (by kernel_rfl) (by simp) (fun j hj => ?_)
      rw [List.mem_singleton] at hj
      subst hj
      refine wpOp_step rfl (fun K hK => ?_)
      go_simp
      refine (VA.out _ (glob_new HG.out (HB.out.n.new_ hS0)) (HB.out.s.new_ hS0)).mono ?_
      rintro e W' ⟨rfl, n'⟩
      replace hS0 := hS0.new_ n'
      clear n'
      refine hK _ _ ⟨hS0, ?_⟩
      clear hK K
      try simp only [List.getElem_toArray, List.getElem_cons_succ, List.getElem_cons_zero]
      try simp only [Act.put, List.setIfInBounds_toArray, List.set_cons_zero, List.set_cons_succ]
      refine wpAnyH_all (rs := [3]) (by kernel_rfl) (by simp) (fun j hj => ?_)
      rw [List.mem_singleton] at hj
      subst hj
      refine wpOp_step rfl (fun K hK => ?_)
      go_simp
      refine (RS.out _ (HB.out.s.new_ hS0)).mono ?_
      rintro e W' ⟨q2, rfl, hl2, h21, hqc2, n'⟩
      replace hS0 := hS0.new_ n'
      clear n'
      refine hK _ _ ⟨hS0, ?_⟩
      clear hK K
      try simp only [List.getElem_toArray, List.getElem_cons_succ, List.getElem_cons_zero]
      try simp only [Act.put, List.setIfInBounds_toArray, List.set_cons_zero, List.set_cons_succ]
      refine wpAnyH_all (rs := [4]) (by kernel_rfl) (by simp) (fun j hj => ?_)
      rw [List.mem_singleton] at hj
      subst hj
      refine wpOp_step rfl (fun K hK => ?_)
      go_simp
      refine (RV.out q2 _ hl2 hqc2 h21).mono ?_
      rintro e W' ⟨rfl, n'⟩
      replace hS0 := hS0.new_ n'
      clear n' hl2 hqc2 h21
      rw [HC.out]
      refine hK _ _ ⟨hS0, ?_⟩
      clear hK K
      try simp only [List.getElem_toArray, List.getElem_cons_succ, List.getElem_cons_zero]
      refine wpAnyH_takeD (i := 5) (d := some 109) (v := .bool true) rfl rfl (by kernel_rfl) (by kernel_rfl) (by kernel_rfl) (fun _ _ _ h => h) (.inl ⟨by kernel_rfl, fun w' hS => ?t5⟩) hS0 ?_
      case t5 =>
        go_simp
      refine wpAnyH_takeD (i := 6) (d := some 110) (v := .bool true) rfl rfl (by kernel_rfl) (by kernel_rfl) (by kernel_rfl) (fun _ _ _ h => h) (.inl ⟨by kernel_rfl, fun w' hS => ?t6⟩) hS0 ?_
      case t6 =>
        go_simp
      refine wpAnyH_takeD (i := 7) (d := some 111) (v := .agg #[.string fb, .int .i64 t.size, .int .i64 m, .int .i64 a, .string ch, .slice PP (q - 1) (cpA - 1)]) rfl rfl (by kernel_rfl) (by kernel_rfl) (by kernel_rfl) (fun _ _ _ h => h) (.inl ⟨by kernel_rfl, fun w' hS => ?t7⟩) hS0 ?_
      case t7 =>
        obtain ⟨⟨x0, x1, x2, x3, x4, x5⟩, -⟩ := own6s (HB.out.o.new_ hS)
        go_simp
      try simp only [Act.put, List.setIfInBounds_toArray, List.set_cons_zero, List.set_cons_succ]
      refine wpAnyH_all (rs := [8]) (by kernel_rfl) (by simp) (fun j hj => ?_)
      rw [List.mem_singleton] at hj
      subst hj
      refine wpOp_step rfl (fun K hK => ?_)
      go_simp
      refine (VA.out _ (glob_new HG.out (HB.out.n.new_ hS0)) (HB.out.s.new_ hS0)).mono ?_
      rintro e W' ⟨rfl, n'⟩
      replace hS0 := hS0.new_ n'
      clear n'
      refine hK _ _ ⟨hS0, ?_⟩
      clear hK K
      try simp only [List.getElem_toArray, List.getElem_cons_succ, List.getElem_cons_zero]
      by_cases hr : r = 0
      · subst hr
        refine wpAnyH_takeD (i := 9) (d := some 113) (v := .bool false) rfl rfl (by kernel_rfl) (by kernel_rfl) (by kernel_rfl) (fun _ _ _ h => h) (.inl ⟨by kernel_rfl, fun w' hS => ?t9⟩) hS0 ?_
        case t9 =>
          go_simp
        refine wpAnyH_takeD (i := 10) (d := some 114) (v := .bool false) rfl rfl (by kernel_rfl) (by kernel_rfl) (by kernel_rfl) (fun _ _ _ h => h) (.inl ⟨by kernel_rfl, fun w' hS => ?t10⟩) hS0 ?_
        case t10 =>
          go_simp
        refine wpAnyH_takeD (i := 11) (d := some 115) (v := .agg #[.string fb, .int .i64 t.size, .int .i64 m, .int .i64 a, .string ch, .slice PP (q - 1) (cpA - 1)]) rfl rfl (by kernel_rfl) (by kernel_rfl) (by kernel_rfl) (fun _ _ _ h => h) (.inl ⟨by kernel_rfl, fun w' hS => ?t11⟩) hS0 ?_
        case t11 =>
          obtain ⟨⟨x0, x1, x2, x3, x4, x5⟩, -⟩ := own6s (HB.out.o.new_ hS)
          go_simp
        try simp only [Act.put, List.setIfInBounds_toArray, List.set_cons_zero, List.set_cons_succ]
        refine wpAnyH_all (rs := [12]) (by kernel_rfl) (by simp) (fun j hj => ?_)
        rw [List.mem_singleton] at hj
        subst hj
        refine wpOp_step rfl (fun K hK => ?_)
        go_simp
        refine (RS.out _ (HB.out.s.new_ hS0)).mono ?_
        rintro e W' ⟨q2, rfl, hl2, h21, hqc2, n'⟩
        replace hS0 := hS0.new_ n'
        clear n'
        refine hK _ _ ⟨hS0, ?_⟩
        clear hK K
        try simp only [List.getElem_toArray, List.getElem_cons_succ, List.getElem_cons_zero]
        try simp only [Act.put, List.setIfInBounds_toArray, List.set_cons_zero, List.set_cons_succ]
        refine wpAnyH_all (rs := [13]) (by kernel_rfl) (by simp) (fun j hj => ?_)
        rw [List.mem_singleton] at hj
        subst hj
        refine wpOp_step rfl (fun K hK => ?_)
        go_simp
        refine (RV.out q2 _ hl2 hqc2 h21).mono ?_
        rintro e W' ⟨rfl, n'⟩
        replace hS0 := hS0.new_ n'
        clear n' hl2 hqc2 h21
        rw [HC.out]
        refine hK _ _ ⟨hS0, ?_⟩
        clear hK K
        try simp only [List.getElem_toArray, List.getElem_cons_succ, List.getElem_cons_zero]
        refine wpAnyH_takeD (i := 14) (d := some 118) (v := .bool true) rfl rfl (by kernel_rfl) (by kernel_rfl) (by kernel_rfl) (fun _ _ _ h => h) (.inl ⟨by kernel_rfl, fun w' hS => ?t14⟩) hS0 ?_
        case t14 =>
          go_simp
        refine wpAnyH_takeD (i := 15) (d := some 119) (v := .bool true) rfl rfl (by kernel_rfl) (by kernel_rfl) (by kernel_rfl) (fun _ _ _ h => h) (.inl ⟨by kernel_rfl, fun w' hS => ?t15⟩) hS0 ?_
        case t15 =>
          go_simp
        refine wpAnyH_takeD (i := 16) (d := some 120) (v := .bool true) rfl rfl (by kernel_rfl) (by kernel_rfl) (by kernel_rfl) (fun _ _ _ h => h) (.inl ⟨by kernel_rfl, fun w' hS => ?t16⟩) hS0 ?_
        case t16 =>
          go_simp
        refine wpAnyH_takeD (i := 17) (d := some 6) (v := .bool true) rfl rfl (by kernel_rfl) (by kernel_rfl) (by kernel_rfl) (fun _ _ _ h => h) (.inl ⟨by kernel_rfl, fun w' hS => ?t17⟩) hS0 ?_
        case t17 =>
          go_simp
        refine wpAnyH_done (by kernel_rfl) ?_ _
        try simp only [Act.put, List.setIfInBounds_toArray, List.set_cons_zero, List.set_cons_succ]
        have NF := Lib.hid (HB.out.n.new_ hS0)
        clear hS0
        go_wp2_with fail
        go_ret
        exact ⟨rfl, NF.out⟩
      · have hr' : (r == 0) = false := by simpa using hr
        have hr'' : (r != 0) = true := by simpa using hr
        refine wpAnyH_takeD (i := 9) (d := some 113) (v := .bool true) rfl rfl (by kernel_rfl) (by kernel_rfl) (by kernel_rfl) (fun _ _ _ h => h) (.inl ⟨by kernel_rfl, fun w' hS => ?t9⟩) hS0 ?_
        case t9 =>
          go_simp
        refine wpAnyH_takeD (i := 10) (d := some 114) (v := .bool true) rfl rfl (by kernel_rfl) (by kernel_rfl) (by kernel_rfl) (fun _ _ _ h => h) (.inl ⟨by kernel_rfl, fun w' hS => ?t10⟩) hS0 ?_
        case t10 =>
          go_simp
        refine wpAnyH_takeD (i := 11) (d := some 115) (v := undef) rfl rfl (by kernel_rfl) (by kernel_rfl) (by kernel_rfl) (fun _ _ _ h => h) (.inr ⟨by kernel_rfl, rfl⟩) hS0 ?_
        refine wpAnyH_skipD (i := 12) (d := some 116) rfl rfl (by kernel_rfl) (by kernel_rfl) hS0 ?_
        refine wpAnyH_skipD (i := 13) (d := some 117) rfl rfl (by kernel_rfl) (by kernel_rfl) hS0 ?_
        refine wpAnyH_takeD (i := 14) (d := some 118) (v := undef) rfl rfl (by kernel_rfl) (by kernel_rfl) (by kernel_rfl) (fun _ _ _ h => h) (.inr ⟨by kernel_rfl, rfl⟩) hS0 ?_
        refine wpAnyH_takeD (i := 15) (d := some 119) (v := .bool true) rfl rfl (by kernel_rfl) (by kernel_rfl) (by kernel_rfl) (fun _ _ _ h => h) (.inl ⟨by kernel_rfl, fun w' hS => ?t15⟩) hS0 ?_
        case t15 =>
          go_simp
        refine wpAnyH_takeD (i := 16) (d := some 120) (v := .bool true) rfl rfl (by kernel_rfl) (by kernel_rfl) (by kernel_rfl) (fun _ _ _ h => h) (.inl ⟨by kernel_rfl, fun w' hS => ?t16⟩) hS0 ?_
        case t16 =>
          go_simp
        refine wpAnyH_takeD (i := 17) (d := some 6) (v := .bool true) rfl rfl (by kernel_rfl) (by kernel_rfl) (by kernel_rfl) (fun _ _ _ h => h) (.inl ⟨by kernel_rfl, fun w' hS => ?t17⟩) hS0 ?_
        case t17 =>
          go_simp
        refine wpAnyH_done (by kernel_rfl) ?_ _
        try simp only [Act.put, List.setIfInBounds_toArray, List.set_cons_zero, List.set_cons_succ]
        have NF := Lib.hid (HB.out.n.new_ hS0)
        clear hS0
        go_wp2_with fail
        go_ret
        exact ⟨rfl, NF.out⟩
  · have y0 := K8.out.y.cell 0
    have y1 := K8.out.y.cell 1
    have y2 := K8.out.y.cell 2
    have y3 := K8.out.y.cell 3
    have y4 := K8.out.y.cell 4
    have y5 := K8.out.y.cell 5
    have x4 := K8.out.x.cell 4
    simp only [List.getElem?_toArray, List.getElem?_cons_zero, List.getElem?_cons_succ] at y0 y1 y2 y3 y4 y5 x4
    have f0 := K8.out.y.free 0
    have f1 := K8.out.y.free 1
    have f2 := K8.out.y.free 2
    have f3 := K8.out.y.free 3
    have f4 := K8.out.y.free 4
    have f5 := K8.out.y.free 5
    have ha1 := HA.out.1
    have ha2 := HA.out.2
    go_wp2_with fail
    refine H8.out _ _ ?_
    clear H8
    try clear K8'
    clear y0 y1 y2 y3 y4 y5 x4 f0 f1 f2 f3 f4 f5 ha1 ha2
    have hB : BiS w (W8.setCell ⟨by_, 4, none⟩ (.string (ch.extract 1 ch.size))) by_ fb t.size m a (ch.extract 1 ch.size) (some ⟨yA, 0, none⟩) q cpA pl := K8.out.put (by rw [← HQ.out]; simp [maxLen]; omega) rfl
    generalize World.setCell W8 _ _ = W9 at hB ⊢
    clear K8
    have wz : (Lit.int .i64 t.size).wf = true := by
      simp only [Lit.wf, Bool.and_eq_true, decide_eq_true_eq]
      exact ⟨by show (-9223372036854775808 : Int) ≤ _; omega, by show _ ≤ (9223372036854775807 : Int); omega⟩
    have wn : (Lit.int .i64 m).wf = true := by
      simp only [Lit.wf, Bool.and_eq_true, decide_eq_true_eq]
      exact ⟨by show (-9223372036854775808 : Int) ≤ _; omega, by show _ ≤ (9223372036854775807 : Int); omega⟩
    have wi : (Lit.int .i64 a).wf = true := by
      simp only [Lit.wf, Bool.and_eq_true, decide_eq_true_eq]
      exact ⟨by show (-9223372036854775808 : Int) ≤ _; omega, by show _ ≤ (9223372036854775807 : Int); omega⟩
    have wc : (ch.extract 1 ch.size).size ≤ maxLen := by
      have := HA.out
      have e1 : (⟨#[120]⟩ : ByteArray).size = 1 := rfl
      simp only [ByteArray.size_append, ByteArray.size_extract, maxLen]
      omega
    have VA := Lib.hid fun (w : World) hG hl => verify_any (D := fb) (c := (ch.extract 1 ch.size)) (z := t.size) (n := m) (i := a) (P := (some ⟨yA, 0, none⟩)) (q := q) (cap := cpA) (p := pl) (w := w) hG hl (by omega) (by omega) wc
    have RS := Lib.hid fun (w : World) hl => ref_share (D := fb) (c := (ch.extract 1 ch.size)) (z := t.size) (n := m) (i := a) (P := (some ⟨yA, 0, none⟩)) (q := q) (cap := cpA) (p := pl) (w := w) hl (by omega) (by omega)
    have RV := Lib.hid fun (q2 : Nat) (w : World) hl h1 h2 => refverify_any (D := fb) (c := (ch.extract 1 ch.size)) (z := t.size) (n := m) (i := a) (P := (some ⟨yA, 0, none⟩)) (q := q2) (cap := cpA) (p := List.take 21 (pl)) (w := w) hl h1 (by omega) h2 wc wz wn wi
    have HC := Lib.hid (verB_cut fb t.size m a (ch.extract 1 ch.size) pl 21 (by omega))
    obtain ⟨r, hr⟩ : ∃ r, r = verB fb t.size m a (ch.extract 1 ch.size) (pl) := ⟨_, rfl⟩
    rw [← hr] at VA HC
    have HB := Lib.hid hB
    have HG := Lib.hid hG
    clear hB hG hr wz wn wi wc
    apply wp_seq_k
    intro K26 h26
    have hS0 : New W9 W9.drew := (Fr.refl _ _).drew
    refine wp_region_heldE (fun W' => New W9 W') (by kernel_rfl) ?_
    try simp only [Act.put, List.setIfInBounds_toArray, List.set_cons_zero, List.set_cons_succ]
    refine wpAnyH_takeD (i := 0) (d := some 104) (v := .agg #[.string fb, .int .i64 t.size, .int .i64 m, .int .i64 a, .string (ch.extract 1 ch.size), .slice (some ⟨yA, 0, none⟩) q cpA]) rfl rfl (by kernel_rfl) (by kernel_rfl) (by kernel_rfl) (fun _ _ _ h => h) (.inl ⟨by kernel_rfl, fun w' hS => ?t0⟩) hS0 ?_
    case t0 =>
      obtain ⟨⟨x0, x1, x2, x3, x4, x5⟩, -⟩ := own6s (HB.out.o.new_ hS)
      go_simp
    refine wpAnyH_takeD (i := 2) (d := some 106) (v := .agg #[.string fb, .int .i64 t.size, .int .i64 m, .int .i64 a, .string (ch.extract 1 ch.size), .slice (some ⟨yA, 0, none⟩) q cpA]) rfl rfl (by kernel_rfl) (by kernel_rfl) (by kernel_rfl) (fun _ _ _ h => h) (.inl ⟨by kernel_rfl, fun w' hS => ?t2⟩) hS0 ?_
    case t2 =>
      obtain ⟨⟨x0, x1, x2, x3, x4, x5⟩, -⟩ := own6s (HB.out.o.new_ hS)
      go_simp
    try simp only [Act.put, List.setIfInBounds_toArray, List.set_cons_zero, List.set_cons_succ]
    refine wpAnyH_all (rs := [1]) (by kernel_rfl) (by simp) (fun j hj => ?_)
    rw [List.mem_singleton] at hj
    subst hj
    refine wpOp_step rfl (fun K hK => ?_)
    go_simp
    refine (VA.out _ (glob_new HG.out (HB.out.n.new_ hS0)) (HB.out.s.new_ hS0)).mono ?_
    rintro e W' ⟨rfl, n'⟩
    replace hS0 := hS0.new_ n'
    clear n'
    refine hK _ _ ⟨hS0, ?_⟩
    clear hK K
    try simp only [List.getElem_toArray, List.getElem_cons_succ, List.getElem_cons_zero]
    try simp only [Act.put, List.setIfInBounds_toArray, List.set_cons_zero, List.set_cons_succ]
    refine wpAnyH_all (rs := [3]) (by kernel_rfl) (by simp) (fun j hj => ?_)
    rw [List.mem_singleton] at hj
    subst hj
    refine wpOp_step rfl (fun K hK => ?_)
    go_simp
    refine (RS.out _ (HB.out.s.new_ hS0)).mono ?_
    rintro e W' ⟨q2, rfl, hl2, h21, hqc2, n'⟩
    replace hS0 := hS0.new_ n'
    clear n'
    refine hK _ _ ⟨hS0, ?_⟩
    clear hK K
    try simp only [List.getElem_toArray, List.getElem_cons_succ, List.getElem_cons_zero]
    try simp only [Act.put, List.setIfInBounds_toArray, List.set_cons_zero, List.set_cons_succ]
    refine wpAnyH_all (rs := [4]) (by kernel_rfl) (by simp) (fun j hj => ?_)
    rw [List.mem_singleton] at hj
    subst hj
    refine wpOp_step rfl (fun K hK => ?_)
    go_simp
    refine (RV.out q2 _ hl2 hqc2 h21).mono ?_
    rintro e W' ⟨rfl, n'⟩
    replace hS0 := hS0.new_ n'
    clear n' hl2 hqc2 h21
    rw [HC.out]
    refine hK _ _ ⟨hS0, ?_⟩
    clear hK K
    try simp only [List.getElem_toArray, List.getElem_cons_succ, List.getElem_cons_zero]
    refine wpAnyH_takeD (i := 5) (d := some 109) (v := .bool true) rfl rfl (by kernel_rfl) (by kernel_rfl) (by kernel_rfl) (fun _ _ _ h => h) (.inl ⟨by kernel_rfl, fun w' hS => ?t5⟩) hS0 ?_
    case t5 =>
      go_simp
    refine wpAnyH_takeD (i := 6) (d := some 110) (v := .bool true) rfl rfl (by kernel_rfl) (by kernel_rfl) (by kernel_rfl) (fun _ _ _ h => h) (.inl ⟨by kernel_rfl, fun w' hS => ?t6⟩) hS0 ?_
    case t6 =>
      go_simp
    refine wpAnyH_takeD (i := 7) (d := some 111) (v := .agg #[.string fb, .int .i64 t.size, .int .i64 m, .int .i64 a, .string (ch.extract 1 ch.size), .slice (some ⟨yA, 0, none⟩) q cpA]) rfl rfl (by kernel_rfl) (by kernel_rfl) (by kernel_rfl) (fun _ _ _ h => h) (.inl ⟨by kernel_rfl, fun w' hS => ?t7⟩) hS0 ?_
    case t7 =>
      obtain ⟨⟨x0, x1, x2, x3, x4, x5⟩, -⟩ := own6s (HB.out.o.new_ hS)
      go_simp
    try simp only [Act.put, List.setIfInBounds_toArray, List.set_cons_zero, List.set_cons_succ]
    refine wpAnyH_all (rs := [8]) (by kernel_rfl) (by simp) (fun j hj => ?_)
    rw [List.mem_singleton] at hj
    subst hj
    refine wpOp_step rfl (fun K hK => ?_)
    go_simp
    refine (VA.out _ (glob_new HG.out (HB.out.n.new_ hS0)) (HB.out.s.new_ hS0)).mono ?_
    rintro e W' ⟨rfl, n'⟩
    replace hS0 := hS0.new_ n'
    clear n'
    refine hK _ _ ⟨hS0, ?_⟩
    clear hK K
    try simp only [List.getElem_toArray, List.getElem_cons_succ, List.getElem_cons_zero]
    by_cases hr : r = 0
    · subst hr
      refine wpAnyH_takeD (i := 9) (d := some 113) (v := .bool false) rfl rfl (by kernel_rfl) (by kernel_rfl) (by kernel_rfl) (fun _ _ _ h => h) (.inl ⟨by kernel_rfl, fun w' hS => ?t9⟩) hS0 ?_
      case t9 =>
        go_simp
      refine wpAnyH_takeD (i := 10) (d := some 114) (v := .bool false) rfl rfl (by kernel_rfl) (by kernel_rfl) (by kernel_rfl) (fun _ _ _ h => h) (.inl ⟨by kernel_rfl, fun w' hS => ?t10⟩) hS0 ?_
      case t10 =>
        go_simp
      refine wpAnyH_takeD (i := 11) (d := some 115) (v := .agg #[.string fb, .int .i64 t.size, .int .i64 m, .int .i64 a, .string (ch.extract 1 ch.size), .slice (some ⟨yA, 0, none⟩) q cpA]) rfl rfl (by kernel_rfl) (by kernel_rfl) (by kernel_rfl) (fun _ _ _ h => h) (.inl ⟨by kernel_rfl, fun w' hS => ?t11⟩) hS0 ?_
      case t11 =>
        obtain ⟨⟨x0, x1, x2, x3, x4, x5⟩, -⟩ := own6s (HB.out.o.new_ hS)
        go_simp
      try simp only [Act.put, List.setIfInBounds_toArray, List.set_cons_zero, List.set_cons_succ]
      refine wpAnyH_all (rs := [12]) (by kernel_rfl) (by simp) (fun j hj => ?_)
      rw [List.mem_singleton] at hj
      subst hj
      refine wpOp_step rfl (fun K hK => ?_)
      go_simp
      refine (RS.out _ (HB.out.s.new_ hS0)).mono ?_
      rintro e W' ⟨q2, rfl, hl2, h21, hqc2, n'⟩
      replace hS0 := hS0.new_ n'
      clear n'
      refine hK _ _ ⟨hS0, ?_⟩
      clear hK K
      try simp only [List.getElem_toArray, List.getElem_cons_succ, List.getElem_cons_zero]
      try simp only [Act.put, List.setIfInBounds_toArray, List.set_cons_zero, List.set_cons_succ]
      refine wpAnyH_all (rs := [13]) (by kernel_rfl) (by simp) (fun j hj => ?_)
      rw [List.mem_singleton] at hj
      subst hj
      refine wpOp_step rfl (fun K hK => ?_)
      go_simp
      refine (RV.out q2 _ hl2 hqc2 h21).mono ?_
      rintro e W' ⟨rfl, n'⟩
      replace hS0 := hS0.new_ n'
      clear n' hl2 hqc2 h21
      rw [HC.out]
      refine hK _ _ ⟨hS0, ?_⟩
      clear hK K
      try simp only [List.getElem_toArray, List.getElem_cons_succ, List.getElem_cons_zero]
      refine wpAnyH_takeD (i := 14) (d := some 118) (v := .bool true) rfl rfl (by kernel_rfl) (by kernel_rfl) (by kernel_rfl) (fun _ _ _ h => h) (.inl ⟨by kernel_rfl, fun w' hS => ?t14⟩) hS0 ?_
      case t14 =>
        go_simp
      refine wpAnyH_takeD (i := 15) (d := some 119) (v := .bool true) rfl rfl (by kernel_rfl) (by kernel_rfl) (by kernel_rfl) (fun _ _ _ h => h) (.inl ⟨by kernel_rfl, fun w' hS => ?t15⟩) hS0 ?_
      case t15 =>
        go_simp
      refine wpAnyH_takeD (i := 16) (d := some 120) (v := .bool true) rfl rfl (by kernel_rfl) (by kernel_rfl) (by kernel_rfl) (fun _ _ _ h => h) (.inl ⟨by kernel_rfl, fun w' hS => ?t16⟩) hS0 ?_
      case t16 =>
        go_simp
      refine wpAnyH_takeD (i := 17) (d := some 6) (v := .bool true) rfl rfl (by kernel_rfl) (by kernel_rfl) (by kernel_rfl) (fun _ _ _ h => h) (.inl ⟨by kernel_rfl, fun w' hS => ?t17⟩) hS0 ?_
      case t17 =>
        go_simp
      refine wpAnyH_done (by kernel_rfl) ?_ _
      try simp only [Act.put, List.setIfInBounds_toArray, List.set_cons_zero, List.set_cons_succ]
      have NF := Lib.hid (HB.out.n.new_ hS0)
      clear hS0
      go_wp2_with fail
      go_ret
      exact ⟨rfl, NF.out⟩
    · have hr' : (r == 0) = false := by simpa using hr
      have hr'' : (r != 0) = true := by simpa using hr
      refine wpAnyH_takeD (i := 9) (d := some 113) (v := .bool true) rfl rfl (by kernel_rfl) (by kernel_rfl) (by kernel_rfl) (fun _ _ _ h => h) (.inl ⟨by kernel_rfl, fun w' hS => ?t9⟩) hS0 ?_
      case t9 =>
        go_simp
      refine wpAnyH_takeD (i := 10) (d := some 114) (v := .bool true) rfl rfl (by kernel_rfl) (by kernel_rfl) (by kernel_rfl) (fun _ _ _ h => h) (.inl ⟨by kernel_rfl, fun w' hS => ?t10⟩) hS0 ?_
      case t10 =>
        go_simp
      refine wpAnyH_takeD (i := 11) (d := some 115) (v := undef) rfl rfl (by kernel_rfl) (by kernel_rfl) (by kernel_rfl) (fun _ _ _ h => h) (.inr ⟨by kernel_rfl, rfl⟩) hS0 ?_
      refine wpAnyH_skipD (i := 12) (d := some 116) rfl rfl (by kernel_rfl) (by kernel_rfl) hS0 ?_
      refine wpAnyH_skipD (i := 13) (d := some 117) rfl rfl (by kernel_rfl) (by kernel_rfl) hS0 ?_
      refine wpAnyH_takeD (i := 14) (d := some 118) (v := undef) rfl rfl (by kernel_rfl) (by kernel_rfl) (by kernel_rfl) (fun _ _ _ h => h) (.inr ⟨by kernel_rfl, rfl⟩) hS0 ?_
      refine wpAnyH_takeD (i := 15) (d := some 119) (v := .bool true) rfl rfl (by kernel_rfl) (by kernel_rfl) (by kernel_rfl) (fun _ _ _ h => h) (.inl ⟨by kernel_rfl, fun w' hS => ?t15⟩) hS0 ?_
      case t15 =>
        go_simp
      refine wpAnyH_takeD (i := 16) (d := some 120) (v := .bool true) rfl rfl (by kernel_rfl) (by kernel_rfl) (by kernel_rfl) (fun _ _ _ h => h) (.inl ⟨by kernel_rfl, fun w' hS => ?t16⟩) hS0 ?_
      case t16 =>
        go_simp
      refine wpAnyH_takeD (i := 17) (d := some 6) (v := .bool true) rfl rfl (by kernel_rfl) (by kernel_rfl) (by kernel_rfl) (fun _ _ _ h => h) (.inl ⟨by kernel_rfl, fun w' hS => ?t17⟩) hS0 ?_
      case t17 =>
        go_simp
      refine wpAnyH_done (by kernel_rfl) ?_ _
      try simp only [Act.put, List.setIfInBounds_toArray, List.set_cons_zero, List.set_cons_succ]
      have NF := Lib.hid (HB.out.n.new_ hS0)
      clear hS0
      go_wp2_with fail
      go_ret
      exact ⟨rfl, NF.out⟩
theorem merkleBinds_walk {w : World} (hG : w.cell? ⟨0, 0, none⟩ = some errT) (seed : Int) (hseed : (Lit.int .u64 seed).wf = true) (kind : Int) (hkind : (Lit.int .i64 kind).wf = true) (at_ : Int) (hat : (Lit.int .i64 at_).wf = true) :
    Calls Tryz.prog 3 #[.int .u64 seed, .int .i64 kind, .int .i64 at_] w fun e W => e = .returned (.bool true) ∧ New w W := by
  have h1 : IntKind.u64.min = 0 := rfl
  have h2 : IntKind.u64.max = 18446744073709551615 := rfl
  simp only [Lit.wf, Bool.and_eq_true, decide_eq_true_eq] at hseed
  rw [h1, h2] at hseed
  have e : (Value.int .u64 seed) = U (BitVec.ofNat 64 seed.toNat) := by
    unfold U
    congr 1
    rw [BitVec.toNat_ofNat]
    omega
  rw [e]
  exact merkleBinds_core hG
end Go.Proofs.YtjcpdpdhegcgoaaGreatDoor
