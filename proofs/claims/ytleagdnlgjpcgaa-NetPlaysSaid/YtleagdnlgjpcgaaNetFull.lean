/- When too many packets are under way. -/
import Derived.Test.YtleagdnlgjpcgaaNetAwake
namespace Go.Proofs.Ytleagdnlgjpcgaa
open Go.RowKit Go.Maps
set_option linter.unusedVariables false
set_option linter.unusedSimpArgs false

set_option maxHeartbeats 4000000 in
theorem insert_full {w : World} {n : Nat} {X : Nat → Prop} {s : NetV} {p : Pkt} (h : NetB w n X s) (hl : s.l.length = 4096) :
    Calls Try.prog 17 #[.pointer (some ⟨n, 0, none⟩), .int .i64 0, p.v] w fun e W => e = .returned (.bool false) ∧ New w W := by
  obtain ⟨lv, wv, m, z, h1, h2, h3, h4, h5, h6⟩ := h
  obtain ⟨A, cap, rfl⟩ := h2.form
  rw [hl] at h1
  obtain ⟨⟨c0, c1, c2, c3, c4⟩, f0, f1, f2, f3, f4⟩ := own5 h1
  have hlt := h1.lt
  clear h1 h2 h3 h4 h5 h6
  go_enter Try.func17, Try.ntmps17
  go_wp2
  go_ret
  exact ⟨rfl, (Fr.refl _ _).alloc _⟩
set_option maxHeartbeats 4000000 in
theorem double_in {w : World} {n : Nat} {X : Nat → Prop} {s : NetV} {p : Pkt} {i : Nat} (h : NetB w n X s) (hi : s.l[i]? = some p) (hl : s.l.length ≤ 4096) (hs : s.lost ≤ 1000000) :
    Calls Try.prog 18 #[.pointer (some ⟨n, 0, none⟩), .int .i64 (i : Nat)] w fun e W => e = .returned (.bool true) ∧ NetTo w X n W (s.push p) := by
  have HP := Lib.hid (fun ww (g : NetB ww n X s) => push_any (p := p) g hl hs)
  go_enter Try.func18, Try.ntmps18
  go_wp2_with fail
  refine (peek_in h hi hl).mono ?_
  rintro e W1 ⟨rfl, g1⟩
  replace h := h.new_ g1
  have hb := Own.fresh W1 26 #[.int .i64 p.f, .int .i64 p.t, .string p.s]
  obtain ⟨⟨d0, d1, d2⟩, -⟩ := own3c hb
  have H := Lib.hid (And.intro h g1)
  clear h g1 hb
  go_wp2_with fail
  refine calls_world (fun W => NetB W n X s ∧ New w W) ⟨H.out.1.new_ ((Fr.refl _ _).alloc _), H.out.2.alloc _⟩ ?_
  clear d0 d1 d2 H
  rintro W2 ⟨h, hN⟩
  refine (HP.out _ h).mono ?_
  rintro e W3 ⟨rfl, hst⟩
  go_wp2_with fail
  go_ret
  exact ⟨rfl, NetTo.of (hN.mono fun _ g => g.elim) (fun _ g => .inl g) hst⟩
def pkI (i : Nat) : Pkt := ⟨0, 1, ⟨#[UInt8.ofNat i, UInt8.ofNat (i / 256)]⟩⟩
def fullV (i : Nat) : NetV := ⟨((List.range i).map pkI).drop (i - 4096), [], [], i, i - 4096⟩
theorem fullV_length (i : Nat) : (fullV i).l.length = i - (i - 4096) := by simp [fullV]
theorem push_lt (s : NetV) (p : Pkt) (h : s.l.length < 4096) : s.push p = { s with l := s.l ++ [p] } := if_pos h
theorem push_ge (s : NetV) (p : Pkt) (h : ¬ s.l.length < 4096) : s.push p = { s with l := (s.l ++ [p]).drop 1, lost := s.lost + 1 } := if_neg h
theorem one_nc (s : NetV) (p : Pkt) (h : s.c = []) : s.one p = (⟨s.l, s.w, s.c, s.sent + 1, s.lost⟩ : NetV).push p := if_neg (by simp [h])
set_option maxRecDepth 100000 in
theorem fullV_one (i : Nat) : (fullV i).one (pkI i) = fullV (i + 1) := by
  have hl := fullV_length i
  rw [one_nc _ _ rfl]
  generalize hL : (fullV i).l = L at hl ⊢
  have hL' : L = ((List.range i).map pkI).drop (i - 4096) := hL.symm
  clear hL
  by_cases h : i < 4096
  · rw [push_lt _ _ (by simp only; omega)]
    unfold fullV
    simp only [NetV.mk.injEq, true_and]
    refine ⟨?_, by omega⟩
    rw [hL', show i - 4096 = 0 by omega, show i + 1 - 4096 = 0 by omega, List.range_succ, List.map_append]
    simp
  · rw [push_ge _ _ (by simp only; omega)]
    unfold fullV
    simp only [NetV.mk.injEq, true_and]
    refine ⟨?_, by omega⟩
    rw [hL', List.range_succ, List.map_append]
    have h1 : ((List.range i).map pkI).drop (i - 4096) ++ [pkI i] = ((List.range i).map pkI ++ [pkI i]).drop (i - 4096) := by
      rw [List.drop_append_of_le_length (by simp)]
    simp only [List.map_cons, List.map_nil]
    rw [h1, List.drop_drop, show i - 4096 + 1 = i + 1 - 4096 by omega]
theorem fullV_get (k : Nat) : (fullV (4096 + k)).l[0]? = some (pkI k) := by
  simp [fullV]
theorem i64_and63 (x : Int) : ∃ k, bits .and .i64 x 63 = k ∧ 0 ≤ k ∧ k < 64 := by
  refine ⟨_, rfl, ?_⟩
  unfold bits
  simp only [IntKind.bits]
  have h : (BitVec.ofInt 64 x &&& BitVec.ofInt 64 63).toNat < 64 := by
    rw [BitVec.toNat_and]
    have : (BitVec.ofInt 64 63).toNat = 63 := by decide
    rw [this]
    exact Nat.lt_of_le_of_lt Nat.and_le_right (by omega)
  show 0 ≤ IntKind.i64.wrap (((BitVec.ofInt 64 x &&& BitVec.ofInt 64 63).toNat : Nat) : Int) ∧ IntKind.i64.wrap (((BitVec.ofInt 64 x &&& BitVec.ofInt 64 63).toNat : Nat) : Int) < 64
  rw [IntKind.wrap_i64]
  omega
set_option maxRecDepth 100000 in
set_option maxHeartbeats 8000000 in
theorem netFull_core {w : World} {mo : Int} (hmo : (Lit.int .i64 mo).wf = true) {p : Pkt} : Calls Try.prog 4 #[.int .i64 mo, p.v] w fun e W => e = .returned (.bool true) ∧ New w W := by
  obtain ⟨kz, hkz, k0, k1⟩ := i64_and63 mo
  obtain ⟨k, rfl⟩ := Int.eq_ofNat_of_zero_le k0
  go_enter Try.func4, Try.ntmps4
  go_wp2_with fail
  refine calls_world (fun W => Own W w.heap.size 26 #[.int .i64 p.f, .int .i64 p.t, .string p.s] ∧ New w W) ⟨Own.fresh _ _ _, (Fr.refl _ _).alloc _⟩ ?_
  rintro W1 ⟨hp, hN⟩
  refine new_any.mono ?_
  rintro e W2 ⟨n, X, rfl, h, hN2, hX⟩
  go_wp2_with fail
  have hN2' := hN.new_ hN2
  have hX' : ∀ j, X j → w.heap.size ≤ j := fun j hj => Nat.le_trans hN.size (hX j hj)
  have hp2 := hp.new_ hN2
  have hXp : ¬ X w.heap.size := fun hx => by have := hX _ hx; have := hp.lt; omega
  clear hp hN hN2 hX
  go_loopw [7] (fun iv wr => ∃ i : Nat, iv = .int .i64 i ∧ i ≤ 4096 + k ∧ NetTo W2 X n wr (fullV i)) (fun iv _ => 4096 + k - (intOf iv).toNat)
  case atStart => exact ⟨0, rfl, Nat.zero_le _, NetTo.refl h⟩
  case round =>
    clear h
    obtain ⟨i, rfl, hi, X', h, hf, hXX⟩ := hrel
    by_cases hlt : i < 4096 + k
    · have hlt2 : (i : Int) < 4096 + (k : Int) := by omega
      have hb := Own.fresh wr 5 #[.int .u8 ((i : Int) % 256), .int .u8 ((i : Int) / 256)]
      have hconv : (convert 35 9 (.slice (some ⟨wr.heap.size, 0, none⟩) 2 2)).run Try.prog (wr.alloc (.cells #[.int .u8 ((i : Int) % 256), .int .u8 ((i : Int) / 256)] 5)) = .ok (.string (pkI i).s) (wr.alloc (.cells #[.int .u8 ((i : Int) % 256), .int .u8 ((i : Int) / 256)] 5)) := by
        refine run_convert_bytes_back (P := Try.prog) _ 35 9 5 ⟨wr.heap.size, 0, none⟩ 2 [UInt8.ofNat i, UInt8.ofNat (i / 256)] Try.underlying35 Try.underlying5 Try.underlying9 (fun j hj => ?_)
        rcases j with _ | _ | j
        · refine (hb.cell 0).trans ?_
          simp
        · refine (hb.cell 1).trans ?_
          simp
          omega
        · simp at hj; omega
      have HH := Lib.hid (And.intro h (And.intro hf hXX))
      have hone : ((fullV i).send [pkI i]).1 = fullV (i + 1) := fullV_one i
      have honeN : ((fullV i).send [pkI i]).2 = 1 := by
        show (fullV i).oneN (pkI i) + 0 = 1
        rw [NetV.oneN, if_neg (by simp [fullV])]
      have HO := Lib.hid (And.intro hone honeN)
      clear h hf hXX hone honeN
      go_wp2_with fail
      refine calls_world (fun W => NetB W n X' (fullV i) ∧ PkS W (some ⟨wr.heap.size + 1, 0, none⟩) [pkI i] ∧ wr.heap.size + 1 < W.heap.size ∧ New wr W) ⟨(HH.out.1.new_ ((Fr.refl _ _).alloc _)).new_ ((Fr.refl _ _).alloc _), pks_one (p := pkI i) (show Own _ (wr.heap.size + 1) 26 #[.int .i64 0, .int .i64 1, .string (pkI i).s] from Own.new' (by simp)), by simp, ((Fr.refl _ _).alloc _).alloc _⟩ ?_
      have hXr : ∀ j, X' j → j < wr.heap.size := fun j hj => HH.out.1.lt hj
      clear hb hconv
      rintro W3 ⟨h, hps, hl3, hN3⟩
      refine (send_any (l := [pkI i]) (cap := 1) h hps (fun a e => by cases e; exact ⟨fun hx => by have := hXr _ hx; simp at this; omega, hl3⟩) (by rw [fullV_length]; omega) (by simp [fullV]) (by simp [fullV]; omega) (by simp [fullV]; omega) (fun q hq => by simp at hq; subst hq; exact ⟨show (Lit.int .i64 0).wf = true by decide, show (Lit.int .i64 1).wf = true by decide, show (2 : Nat) ≤ maxLen by simp [maxLen]⟩)).mono ?_
      rintro e W4 ⟨rfl, hst⟩
      obtain ⟨ho1, ho2⟩ := HO.out
      rw [ho1] at hst
      rw [ho2]
      clear h hps
      go_wp2_with fail
      refine ⟨⟨i + 1, by simp, by omega, NetTo.of (HH.out.2.1.new_ hN3) HH.out.2.2 hst⟩, by simp [intOf]; omega⟩
    · have hie : i = 4096 + k := by omega
      subst hie
      have hX4 : ∀ j, X' j → w.heap.size ≤ j := fun j hj => by
        rcases hXX j hj with e | e
        · exact hX' j e
        · exact Nat.le_trans hN2'.size e
      have hN4 : New w wr := hN2'.trans hf fun j hj hx => by have := hX' j hx; omega
      have hp4 := hp2.fr hf hXp
      have hlen : (fullV (4096 + k)).l.length = 4096 := by rw [fullV_length]; omega
      have hge : ¬ (((4096 + k : Nat) : Int) < 4096 + (k : Int)) := by omega
      clear hf hXX hp2 hN2'
      go_wp2_with fail
      refine (peek_in (i := 0) (p := pkI k) h (fullV_get k) (by omega)).mono ?_
      rintro e W5 ⟨rfl, g5⟩
      replace h := h.new_ g5
      replace hp4 := hp4.new_ g5
      replace hN4 := hN4.new_ g5
      clear g5
      go_wp2_with fail
      refine calls_world (fun W => NetB W n X' (fullV (4096 + k)) ∧ Own W w.heap.size 26 #[.int .i64 p.f, .int .i64 p.t, .string p.s] ∧ Own W W5.heap.size 26 #[.int .i64 (pkI k).f, .int .i64 (pkI k).t, .string (pkI k).s] ∧ New w W) ⟨h.new_ ((Fr.refl _ _).alloc _), hp4.alloc _, Own.fresh _ _ _, hN4.alloc _⟩ ?_
      have hXs : ∀ j, X' j → j < W5.heap.size := fun j hj => h.lt hj
      have hw5 : w.heap.size ≤ W5.heap.size := hN4.size
      clear h hp4 hN4
      rintro W6 ⟨h, hp, hq, hN⟩
      refine (counts_any h).mono ?_
      rintro e W7 ⟨rfl, g⟩
      replace h := h.new_ g
      replace hp := hp.new_ g
      replace hq := hq.new_ g
      replace hN := hN.new_ g
      clear g
      rw [show (fullV (4096 + k)).sent = 4096 + k from rfl, show (fullV (4096 + k)).lost = k by simp [fullV]]
      have hb := Own.fresh W7 5 #[.int .u8 (k : Int), .int .u8 ((k : Int) / 256)]
      have hconv : (convert 35 9 (.slice (some ⟨W7.heap.size, 0, none⟩) 2 2)).run Try.prog (W7.alloc (.cells #[.int .u8 (k : Int), .int .u8 ((k : Int) / 256)] 5)) = .ok (.string (pkI k).s) (W7.alloc (.cells #[.int .u8 (k : Int), .int .u8 ((k : Int) / 256)] 5)) := by
        refine run_convert_bytes_back (P := Try.prog) _ 35 9 5 ⟨W7.heap.size, 0, none⟩ 2 [UInt8.ofNat k, UInt8.ofNat (k / 256)] Try.underlying35 Try.underlying5 Try.underlying9 (fun j hj => ?_)
        rcases j with _ | _ | j
        · refine (hb.cell 0).trans ?_
          simp
          omega
        · refine (hb.cell 1).trans ?_
          simp
          omega
        · simp at hj; omega
      have HH := Lib.hid (And.intro h (And.intro hp (And.intro hq (And.intro hN (And.intro hX4 hXs)))))
      clear h hp hq hN hX4 hXs hX' hXp
      go_wp2_with fail
      refine calls_world (fun W => NetB W n X' (fullV (4096 + k)) ∧ Own W w.heap.size 26 #[.int .i64 p.f, .int .i64 p.t, .string p.s] ∧ Own W W5.heap.size 26 #[.int .i64 (pkI k).f, .int .i64 (pkI k).t, .string (pkI k).s] ∧ New w W) ⟨HH.out.1.new_ ((Fr.refl _ _).alloc _), HH.out.2.1.alloc _, HH.out.2.2.1.alloc _, HH.out.2.2.2.1.alloc _⟩ ?_
      have hX4 := HH.out.2.2.2.2.1
      have hXs := HH.out.2.2.2.2.2
      clear hb hconv HH
      rintro W8 ⟨h, hp, hq, hN⟩
      refine awake_any.mono ?_
      rintro e W9 ⟨rfl, g⟩
      replace h := h.new_ g
      replace hp := hp.new_ g
      replace hq := hq.new_ g
      replace hN := hN.new_ g
      clear g
      go_wp2_with fail
      refine (len_any h).mono ?_
      rintro e w' ⟨rfl, rfl⟩
      rw [hlen]
      obtain ⟨⟨q0, q1, q2⟩, -⟩ := own3c hq
      obtain ⟨⟨p0, p1, p2⟩, -⟩ := own3c hp
      have HH := Lib.hid (And.intro h (And.intro hp (And.intro hq (And.intro hN (And.intro hX4 hXs)))))
      clear h hp hq hN hX4 hXs
      go_wp2_with fail
      obtain ⟨h, hp, hq, hN, hX4, hXs⟩ := HH.out
      clear HH q0 q1 q2 p0 p1 p2
      refine (insert_full (p := p) h hlen).mono ?_
      rintro e W10 ⟨rfl, g⟩
      replace h := h.new_ g
      replace hN := hN.new_ g
      clear g hp hq
      go_wp2_with fail
      refine (double_in (i := 0) h (fullV_get k) (by omega) (by simp [fullV]; omega)).mono ?_
      rintro e W11 ⟨rfl, X11, h11, f11, hX11⟩
      replace hN : New w W11 := hN.trans f11 fun j hj hx => by have := hX4 j hx; omega
      have hlen2 : ((fullV (4096 + k)).push (pkI k)).l.length = 4096 := by
        rw [push_ge _ _ (by omega)]
        simp only [List.length_drop, List.length_append, List.length_cons, List.length_nil]
        omega
      clear h f11 hX11 hX4 hXs
      go_wp2_with fail
      refine (len_any h11).mono ?_
      rintro e w' ⟨rfl, rfl⟩
      rw [hlen2]
      clear h11
      go_wp2_with fail
      go_ret
      exact ⟨rfl, hN⟩
theorem netFull_walk (mo : Int) (hmo : (Lit.int .i64 mo).wf = true) (x : EPacket) {w : World} (hx : x.facts w) :
    Calls Try.prog 4 #[.int .i64 mo, .agg x.cells.toArray] w fun e W => e = .returned (.bool true) ∧ New w W := by
  obtain ⟨f, t, s⟩ := x
  exact netFull_core (p := ⟨f, t, s⟩) hmo
end Go.Proofs.Ytleagdnlgjpcgaa
