/- Operations: Put. -/
import Derived.Test.YtfkbljanmjnefaaOpCheck
import Derived.Test.YtfkbljanmjnefaaWrF
namespace Go.Proofs.Ytfkbljanmjnefaa
open Go.RowKit
set_option linter.unusedVariables false
set_option linter.unusedSimpArgs false

theorem opApp_empty (t : ByteArray) : t ++ ByteArray.empty = t := by
  apply ByteArray.ext
  apply Array.ext'
  simp
theorem opB_one (c who th par : Nat) (nm : ByteArray) (dir : Bool) (dig : ByteArray) (sz : Int) (x : ByteArray) :
    x ++ numB 1 1 ++ numB 8 c ++ numB 1 who ++ numB 8 th ++ boolB dir ++ numB 8 par ++ textB nm = x ++ opB ⟨1, c, who, th, par, nm, dir, dig, sz⟩ := by
  unfold opB opHead opTail
  simp only [if_pos, ByteArray.append_assoc]
  rfl
theorem opB_two (c who th par : Nat) (nm : ByteArray) (dir : Bool) (dig : ByteArray) (sz : Int) (x : ByteArray) :
    x ++ numB 1 2 ++ numB 8 c ++ numB 1 who ++ numB 8 th ++ numB 8 par ++ textB nm = x ++ opB ⟨2, c, who, th, par, nm, dir, dig, sz⟩ := by
  unfold opB opHead opTail
  rw [if_neg (by show ¬ (2 : Int) = 1; decide), if_pos (by rfl)]
  simp only [ByteArray.append_assoc]
  rfl
theorem opB_three (c who th par : Nat) (nm : ByteArray) (dir : Bool) (dig : ByteArray) (sz : Int) (x : ByteArray) :
    x ++ numB 1 3 ++ numB 8 c ++ numB 1 who ++ numB 8 th = x ++ opB ⟨3, c, who, th, par, nm, dir, dig, sz⟩ := by
  unfold opB opHead opTail
  rw [if_neg (by show ¬ (3 : Int) = 1; decide), if_neg (by show ¬ (3 : Int) = 2; decide), if_neg (by show ¬ (3 : Int) = 4; decide), opApp_empty]
  simp only [ByteArray.append_assoc]
  rfl
theorem opB_four (c who th par : Nat) (nm : ByteArray) (dir : Bool) (dig : ByteArray) (sz : Nat) (x : ByteArray) :
    x ++ numB 1 4 ++ numB 8 c ++ numB 1 who ++ numB 8 th ++ hashB dig ++ numB 4 sz = x ++ opB ⟨4, c, who, th, par, nm, dir, dig, sz⟩ := by
  unfold opB opHead opTail
  rw [if_neg (by show ¬ (4 : Int) = 1; decide), if_neg (by show ¬ (4 : Int) = 2; decide), if_pos (by rfl)]
  simp only [ByteArray.append_assoc]
  rfl
/-- What of an operation matters to its bytes. -/
def OpFit (o : OpV) : Prop := 1 ≤ o.kind ∧ o.kind ≤ 4 ∧ 0 ≤ o.who ∧ o.who < 256 ∧ 0 ≤ o.size ∧ o.size ≤ 9223372036854775807 ∧ o.name.size ≤ 1000 ∧ o.digest.size ≤ 1000 ∧ OpB o
theorem OpOk.fit {o : OpV} (hg : Good o.count o.who) (hk : OpOk o) (hb : OpB o) : OpFit o := by
  unfold Good at hg
  unfold OpOk Place Bare NoBytes at hk
  refine ⟨by omega, by omega, by omega, by omega, by omega, by omega, by omega, by omega, hb⟩
set_option maxRecDepth 100000 in
set_option maxHeartbeats 4000000 in
theorem opPutF {w : World} {F : Nat → Prop} {b : Nat} {x : ByteArray} (h : WrF w F b x) (k : Int) (c : Nat) (who : Int) (th par : Nat) (nm : ByteArray) (dir : Bool) (dig : ByteArray) (sz : Int)
    (hf : OpFit ⟨k, c, who, th, par, nm, dir, dig, sz⟩) (hlen : x.size + 2000 ≤ 140737488355328) :
    Calls Try.prog 44 #[.pointer (some ⟨b, 0, none⟩), (OpV.mk k c who th par nm dir dig sz).val] w fun e w' => e = .returned (.tuple #[]) ∧ WrF w' F b (x ++ opB ⟨k, c, who, th, par, nm, dir, dig, sz⟩) ∧ Fr F w w' := by
  obtain ⟨k1, k4, w0, w1, s0, s1, n1, d1, hc, ht, hp⟩ := hf
  simp only at *
  obtain ⟨wn, rfl⟩ := Int.eq_ofNat_of_zero_le w0
  obtain ⟨sn, rfl⟩ := Int.eq_ofNat_of_zero_le s0
  have E1 := Lib.hid (opB_one c wn th par nm dir dig sn x)
  have E2 := Lib.hid (opB_two c wn th par nm dir dig sn x)
  have E3 := Lib.hid (opB_three c wn th par nm dir dig sn x)
  have E4 := Lib.hid (opB_four c wn th par nm dir dig sn x)
  have H0 := Lib.hid h.1
  have z1 := numB_size 1
  have z8 := numB_size 8
  have z4 := numB_size 4
  have zh := hashB_size
  have zb := boolB_size1
  have sz' : ∀ a b : ByteArray, (a ++ b).size = a.size + b.size := fun a b => ByteArray.size_append
  have Z1 := Lib.hid z1
  have Z8 := Lib.hid z8
  have Z4 := Lib.hid z4
  have ZH := Lib.hid zh
  have ZB := Lib.hid zb
  have SZ := Lib.hid sz'
  clear z1 z8 z4 zh zb sz'
  rcases (by omega : k = 1 ∨ k = 2 ∨ k = 3 ∨ k = 4) with rfl | rfl | rfl | rfl
  · have h0 := h.beside (.cells (OpV.mk 1 c wn th par nm dir dig sn).cells 39)
    have o0 := Own.fresh w 39 (OpV.mk 1 c wn th par nm dir dig sn).cells
    have g0 : Fr (Ex F w.heap.size) w (w.alloc (.cells (OpV.mk 1 c wn th par nm dir dig sn).cells 39)) := (Fr.refl _ _).alloc _
    obtain ⟨c0, c1, c2, c3, c4, c5, c6, c7, c8⟩ := opCells o0
    go_enter Try.func44, Try.ntmps44
    have HP1 := Lib.hid (numF 1 (by decide) h0 1 (by omega) (by have q1 := Z1.out; have q8 := Z8.out; have q4 := Z4.out; have qh := ZH.out; have qb := ZB.out; (try simp only [SZ.out, q1, q8, q4, qh, qb]); clear q1 q8 q4 qh qb; omega))
    clear h0
    go_wp2_with fail
    refine HP1.out.mono ?_
    rintro e w1 ⟨rfl, h1, f1⟩
    have o1 := o0.fr f1 (Ex.no _ _)
    have g1 := g0.trans f1 fun _ _ e => e
    clear HP1 o0 g0 f1 c0 c1 c2 c3 c4 c5 c6 c7 c8
    obtain ⟨c0, c1, c2, c3, c4, c5, c6, c7, c8⟩ := opCells o1
    have HP2 := Lib.hid (stampPutF h1 c wn hc (by omega) (by have q1 := Z1.out; have q8 := Z8.out; have q4 := Z4.out; have qh := ZH.out; have qb := ZB.out; (try simp only [SZ.out, q1, q8, q4, qh, qb]); clear q1 q8 q4 qh qb; omega))
    clear h1
    go_wp2_with fail
    refine HP2.out.mono ?_
    rintro e w2 ⟨rfl, h2, f2⟩
    have o2 := o1.fr f2 (Ex.no _ _)
    have g2 := g1.trans f2 fun _ _ e => e
    clear HP2 o1 g1 f2 c0 c1 c2 c3 c4 c5 c6 c7 c8
    obtain ⟨c0, c1, c2, c3, c4, c5, c6, c7, c8⟩ := opCells o2
    have HP3 := Lib.hid (numF 8 (by decide) h2 th ht (by have q1 := Z1.out; have q8 := Z8.out; have q4 := Z4.out; have qh := ZH.out; have qb := ZB.out; (try simp only [SZ.out, q1, q8, q4, qh, qb]); clear q1 q8 q4 qh qb; omega))
    clear h2
    go_wp2_with fail
    refine HP3.out.mono ?_
    rintro e w3 ⟨rfl, h3, f3⟩
    have o3 := o2.fr f3 (Ex.no _ _)
    have g3 := g2.trans f3 fun _ _ e => e
    clear HP3 o2 g2 f3 c0 c1 c2 c3 c4 c5 c6 c7 c8
    obtain ⟨c0, c1, c2, c3, c4, c5, c6, c7, c8⟩ := opCells o3
    have HP4 := Lib.hid (boolF h3 dir (by have q1 := Z1.out; have q8 := Z8.out; have q4 := Z4.out; have qh := ZH.out; have qb := ZB.out; (try simp only [SZ.out, q1, q8, q4, qh, qb]); clear q1 q8 q4 qh qb; omega))
    clear h3
    go_wp2_with fail
    refine HP4.out.mono ?_
    rintro e w4 ⟨rfl, h4, f4⟩
    have o4 := o3.fr f4 (Ex.no _ _)
    have g4 := g3.trans f4 fun _ _ e => e
    clear HP4 o3 g3 f4 c0 c1 c2 c3 c4 c5 c6 c7 c8
    obtain ⟨c0, c1, c2, c3, c4, c5, c6, c7, c8⟩ := opCells o4
    have HP5 := Lib.hid (numF 8 (by decide) h4 par hp (by have q1 := Z1.out; have q8 := Z8.out; have q4 := Z4.out; have qh := ZH.out; have qb := ZB.out; (try simp only [SZ.out, q1, q8, q4, qh, qb]); clear q1 q8 q4 qh qb; omega))
    clear h4
    go_wp2_with fail
    refine HP5.out.mono ?_
    rintro e w5 ⟨rfl, h5, f5⟩
    have o5 := o4.fr f5 (Ex.no _ _)
    have g5 := g4.trans f5 fun _ _ e => e
    clear HP5 o4 g4 f5 c0 c1 c2 c3 c4 c5 c6 c7 c8
    obtain ⟨c0, c1, c2, c3, c4, c5, c6, c7, c8⟩ := opCells o5
    have HP6 := Lib.hid (textF h5 nm (by have q1 := Z1.out; have q8 := Z8.out; have q4 := Z4.out; have qh := ZH.out; have qb := ZB.out; (try simp only [SZ.out, q1, q8, q4, qh, qb]); clear q1 q8 q4 qh qb; omega))
    clear h5
    go_wp2_with fail
    refine HP6.out.mono ?_
    rintro e w6 ⟨rfl, h6, f6⟩
    have o6 := o5.fr f6 (Ex.no _ _)
    have g6 := g5.trans f6 fun _ _ e => e
    clear HP6 o5 g5 f6 c0 c1 c2 c3 c4 c5 c6 c7 c8
    obtain ⟨c0, c1, c2, c3, c4, c5, c6, c7, c8⟩ := opCells o6
    go_wp2
    go_end0
    exact ⟨rfl, (h6.cast E1.out).mono (Ex.up H0.out), g6.mono (Ex.up H0.out)⟩
  · have h0 := h.beside (.cells (OpV.mk 2 c wn th par nm dir dig sn).cells 39)
    have o0 := Own.fresh w 39 (OpV.mk 2 c wn th par nm dir dig sn).cells
    have g0 : Fr (Ex F w.heap.size) w (w.alloc (.cells (OpV.mk 2 c wn th par nm dir dig sn).cells 39)) := (Fr.refl _ _).alloc _
    obtain ⟨c0, c1, c2, c3, c4, c5, c6, c7, c8⟩ := opCells o0
    go_enter Try.func44, Try.ntmps44
    have HP1 := Lib.hid (numF 1 (by decide) h0 2 (by omega) (by have q1 := Z1.out; have q8 := Z8.out; have q4 := Z4.out; have qh := ZH.out; have qb := ZB.out; (try simp only [SZ.out, q1, q8, q4, qh, qb]); clear q1 q8 q4 qh qb; omega))
    clear h0
    go_wp2_with fail
    refine HP1.out.mono ?_
    rintro e w1 ⟨rfl, h1, f1⟩
    have o1 := o0.fr f1 (Ex.no _ _)
    have g1 := g0.trans f1 fun _ _ e => e
    clear HP1 o0 g0 f1 c0 c1 c2 c3 c4 c5 c6 c7 c8
    obtain ⟨c0, c1, c2, c3, c4, c5, c6, c7, c8⟩ := opCells o1
    have HP2 := Lib.hid (stampPutF h1 c wn hc (by omega) (by have q1 := Z1.out; have q8 := Z8.out; have q4 := Z4.out; have qh := ZH.out; have qb := ZB.out; (try simp only [SZ.out, q1, q8, q4, qh, qb]); clear q1 q8 q4 qh qb; omega))
    clear h1
    go_wp2_with fail
    refine HP2.out.mono ?_
    rintro e w2 ⟨rfl, h2, f2⟩
    have o2 := o1.fr f2 (Ex.no _ _)
    have g2 := g1.trans f2 fun _ _ e => e
    clear HP2 o1 g1 f2 c0 c1 c2 c3 c4 c5 c6 c7 c8
    obtain ⟨c0, c1, c2, c3, c4, c5, c6, c7, c8⟩ := opCells o2
    have HP3 := Lib.hid (numF 8 (by decide) h2 th ht (by have q1 := Z1.out; have q8 := Z8.out; have q4 := Z4.out; have qh := ZH.out; have qb := ZB.out; (try simp only [SZ.out, q1, q8, q4, qh, qb]); clear q1 q8 q4 qh qb; omega))
    clear h2
    go_wp2_with fail
    refine HP3.out.mono ?_
    rintro e w3 ⟨rfl, h3, f3⟩
    have o3 := o2.fr f3 (Ex.no _ _)
    have g3 := g2.trans f3 fun _ _ e => e
    clear HP3 o2 g2 f3 c0 c1 c2 c3 c4 c5 c6 c7 c8
    obtain ⟨c0, c1, c2, c3, c4, c5, c6, c7, c8⟩ := opCells o3
    have HP4 := Lib.hid (numF 8 (by decide) h3 par hp (by have q1 := Z1.out; have q8 := Z8.out; have q4 := Z4.out; have qh := ZH.out; have qb := ZB.out; (try simp only [SZ.out, q1, q8, q4, qh, qb]); clear q1 q8 q4 qh qb; omega))
    clear h3
    go_wp2_with fail
    refine HP4.out.mono ?_
    rintro e w4 ⟨rfl, h4, f4⟩
    have o4 := o3.fr f4 (Ex.no _ _)
    have g4 := g3.trans f4 fun _ _ e => e
    clear HP4 o3 g3 f4 c0 c1 c2 c3 c4 c5 c6 c7 c8
    obtain ⟨c0, c1, c2, c3, c4, c5, c6, c7, c8⟩ := opCells o4
    have HP5 := Lib.hid (textF h4 nm (by have q1 := Z1.out; have q8 := Z8.out; have q4 := Z4.out; have qh := ZH.out; have qb := ZB.out; (try simp only [SZ.out, q1, q8, q4, qh, qb]); clear q1 q8 q4 qh qb; omega))
    clear h4
    go_wp2_with fail
    refine HP5.out.mono ?_
    rintro e w5 ⟨rfl, h5, f5⟩
    have o5 := o4.fr f5 (Ex.no _ _)
    have g5 := g4.trans f5 fun _ _ e => e
    clear HP5 o4 g4 f5 c0 c1 c2 c3 c4 c5 c6 c7 c8
    obtain ⟨c0, c1, c2, c3, c4, c5, c6, c7, c8⟩ := opCells o5
    go_wp2
    go_end0
    exact ⟨rfl, (h5.cast E2.out).mono (Ex.up H0.out), g5.mono (Ex.up H0.out)⟩
  · have h0 := h.beside (.cells (OpV.mk 3 c wn th par nm dir dig sn).cells 39)
    have o0 := Own.fresh w 39 (OpV.mk 3 c wn th par nm dir dig sn).cells
    have g0 : Fr (Ex F w.heap.size) w (w.alloc (.cells (OpV.mk 3 c wn th par nm dir dig sn).cells 39)) := (Fr.refl _ _).alloc _
    obtain ⟨c0, c1, c2, c3, c4, c5, c6, c7, c8⟩ := opCells o0
    go_enter Try.func44, Try.ntmps44
    have HP1 := Lib.hid (numF 1 (by decide) h0 3 (by omega) (by have q1 := Z1.out; have q8 := Z8.out; have q4 := Z4.out; have qh := ZH.out; have qb := ZB.out; (try simp only [SZ.out, q1, q8, q4, qh, qb]); clear q1 q8 q4 qh qb; omega))
    clear h0
    go_wp2_with fail
    refine HP1.out.mono ?_
    rintro e w1 ⟨rfl, h1, f1⟩
    have o1 := o0.fr f1 (Ex.no _ _)
    have g1 := g0.trans f1 fun _ _ e => e
    clear HP1 o0 g0 f1 c0 c1 c2 c3 c4 c5 c6 c7 c8
    obtain ⟨c0, c1, c2, c3, c4, c5, c6, c7, c8⟩ := opCells o1
    have HP2 := Lib.hid (stampPutF h1 c wn hc (by omega) (by have q1 := Z1.out; have q8 := Z8.out; have q4 := Z4.out; have qh := ZH.out; have qb := ZB.out; (try simp only [SZ.out, q1, q8, q4, qh, qb]); clear q1 q8 q4 qh qb; omega))
    clear h1
    go_wp2_with fail
    refine HP2.out.mono ?_
    rintro e w2 ⟨rfl, h2, f2⟩
    have o2 := o1.fr f2 (Ex.no _ _)
    have g2 := g1.trans f2 fun _ _ e => e
    clear HP2 o1 g1 f2 c0 c1 c2 c3 c4 c5 c6 c7 c8
    obtain ⟨c0, c1, c2, c3, c4, c5, c6, c7, c8⟩ := opCells o2
    have HP3 := Lib.hid (numF 8 (by decide) h2 th ht (by have q1 := Z1.out; have q8 := Z8.out; have q4 := Z4.out; have qh := ZH.out; have qb := ZB.out; (try simp only [SZ.out, q1, q8, q4, qh, qb]); clear q1 q8 q4 qh qb; omega))
    clear h2
    go_wp2_with fail
    refine HP3.out.mono ?_
    rintro e w3 ⟨rfl, h3, f3⟩
    have o3 := o2.fr f3 (Ex.no _ _)
    have g3 := g2.trans f3 fun _ _ e => e
    clear HP3 o2 g2 f3 c0 c1 c2 c3 c4 c5 c6 c7 c8
    obtain ⟨c0, c1, c2, c3, c4, c5, c6, c7, c8⟩ := opCells o3
    go_wp2
    go_end0
    exact ⟨rfl, (h3.cast E3.out).mono (Ex.up H0.out), g3.mono (Ex.up H0.out)⟩
  · have h0 := h.beside (.cells (OpV.mk 4 c wn th par nm dir dig sn).cells 39)
    have o0 := Own.fresh w 39 (OpV.mk 4 c wn th par nm dir dig sn).cells
    have g0 : Fr (Ex F w.heap.size) w (w.alloc (.cells (OpV.mk 4 c wn th par nm dir dig sn).cells 39)) := (Fr.refl _ _).alloc _
    obtain ⟨c0, c1, c2, c3, c4, c5, c6, c7, c8⟩ := opCells o0
    go_enter Try.func44, Try.ntmps44
    have HP1 := Lib.hid (numF 1 (by decide) h0 4 (by omega) (by have q1 := Z1.out; have q8 := Z8.out; have q4 := Z4.out; have qh := ZH.out; have qb := ZB.out; (try simp only [SZ.out, q1, q8, q4, qh, qb]); clear q1 q8 q4 qh qb; omega))
    clear h0
    go_wp2_with fail
    refine HP1.out.mono ?_
    rintro e w1 ⟨rfl, h1, f1⟩
    have o1 := o0.fr f1 (Ex.no _ _)
    have g1 := g0.trans f1 fun _ _ e => e
    clear HP1 o0 g0 f1 c0 c1 c2 c3 c4 c5 c6 c7 c8
    obtain ⟨c0, c1, c2, c3, c4, c5, c6, c7, c8⟩ := opCells o1
    have HP2 := Lib.hid (stampPutF h1 c wn hc (by omega) (by have q1 := Z1.out; have q8 := Z8.out; have q4 := Z4.out; have qh := ZH.out; have qb := ZB.out; (try simp only [SZ.out, q1, q8, q4, qh, qb]); clear q1 q8 q4 qh qb; omega))
    clear h1
    go_wp2_with fail
    refine HP2.out.mono ?_
    rintro e w2 ⟨rfl, h2, f2⟩
    have o2 := o1.fr f2 (Ex.no _ _)
    have g2 := g1.trans f2 fun _ _ e => e
    clear HP2 o1 g1 f2 c0 c1 c2 c3 c4 c5 c6 c7 c8
    obtain ⟨c0, c1, c2, c3, c4, c5, c6, c7, c8⟩ := opCells o2
    have HP3 := Lib.hid (numF 8 (by decide) h2 th ht (by have q1 := Z1.out; have q8 := Z8.out; have q4 := Z4.out; have qh := ZH.out; have qb := ZB.out; (try simp only [SZ.out, q1, q8, q4, qh, qb]); clear q1 q8 q4 qh qb; omega))
    clear h2
    go_wp2_with fail
    refine HP3.out.mono ?_
    rintro e w3 ⟨rfl, h3, f3⟩
    have o3 := o2.fr f3 (Ex.no _ _)
    have g3 := g2.trans f3 fun _ _ e => e
    clear HP3 o2 g2 f3 c0 c1 c2 c3 c4 c5 c6 c7 c8
    obtain ⟨c0, c1, c2, c3, c4, c5, c6, c7, c8⟩ := opCells o3
    have HP4 := Lib.hid (hashF h3 dig (by omega) (by have q1 := Z1.out; have q8 := Z8.out; have q4 := Z4.out; have qh := ZH.out; have qb := ZB.out; (try simp only [SZ.out, q1, q8, q4, qh, qb]); clear q1 q8 q4 qh qb; omega))
    clear h3
    go_wp2_with fail
    refine HP4.out.mono ?_
    rintro e w4 ⟨rfl, h4, f4⟩
    have o4 := o3.fr f4 (Ex.no _ _)
    have g4 := g3.trans f4 fun _ _ e => e
    clear HP4 o3 g3 f4 c0 c1 c2 c3 c4 c5 c6 c7 c8
    obtain ⟨c0, c1, c2, c3, c4, c5, c6, c7, c8⟩ := opCells o4
    have HP5 := Lib.hid (countF h4 sn (by omega) (by have q1 := Z1.out; have q8 := Z8.out; have q4 := Z4.out; have qh := ZH.out; have qb := ZB.out; (try simp only [SZ.out, q1, q8, q4, qh, qb]); clear q1 q8 q4 qh qb; omega))
    clear h4
    go_wp2_with fail
    refine HP5.out.mono ?_
    rintro e w5 ⟨rfl, h5, f5⟩
    have o5 := o4.fr f5 (Ex.no _ _)
    have g5 := g4.trans f5 fun _ _ e => e
    clear HP5 o4 g4 f5 c0 c1 c2 c3 c4 c5 c6 c7 c8
    obtain ⟨c0, c1, c2, c3, c4, c5, c6, c7, c8⟩ := opCells o5
    go_wp2
    go_end0
    exact ⟨rfl, (h5.cast E4.out).mono (Ex.up H0.out), g5.mono (Ex.up H0.out)⟩
end Go.Proofs.Ytfkbljanmjnefaa
