/- Times are put, and taken again; any bytes are one, or refused. -/
import Derived.Test.YtlefmnoaejpllaaStampRefTake
namespace Go.Proofs.Ytlefmnoaejpllaa
open Go.RowKit
set_option linter.unusedVariables false

theorem empty_app (t : ByteArray) : ByteArray.empty ++ t = t := by
  apply ByteArray.ext
  apply Array.ext'
  simp
theorem app_emp (t : ByteArray) : t ++ ByteArray.empty = t := by
  apply ByteArray.ext
  apply Array.ext'
  simp
/-- What was put is taken. -/
theorem take_again (k n : Nat) (hk : k ≤ 18446744073709551615) (hn : n < 256) (hg : checkI k n = 0) :
    rTake ⟨.empty ++ numB 8 k ++ numB 1 n, 0, 0⟩ = (⟨.empty ++ numB 8 k ++ numB 1 n, 18, 0⟩, (k : Int), (n : Int)) := by
  have h1 := rNumber_at .empty (numB 1 n) 8 k (by omega)
  have h2 := rNumber_at (.empty ++ numB 8 k) .empty 1 n (by omega)
  have e0 : ((ByteArray.empty.size : Nat) : Int) = 0 := rfl
  have e8 : (16 : Nat) ^ (2 * 8) = 18446744073709551616 := by decide
  have e1 : (16 : Nat) ^ (2 * 1) = 256 := by decide
  have e9 : ((ByteArray.empty ++ numB 8 k : ByteArray).size : Int) = 16 := by rw [empty_app, numB_size]; rfl
  rw [app_emp, e9, e1, Nat.mod_eq_of_lt hn] at h2
  rw [e0, e8, Nat.mod_eq_of_lt (by omega)] at h1
  unfold rTake
  have h1' : rNumber ⟨.empty ++ numB 8 k ++ numB 1 n, 0, 0⟩ 8 = (⟨.empty ++ numB 8 k ++ numB 1 n, 16, 0⟩, k) := h1
  have h2' : rNumber ⟨.empty ++ numB 8 k ++ numB 1 n, 16, 0⟩ 1 = (⟨.empty ++ numB 8 k ++ numB 1 n, 18, 0⟩, n) := h2
  rw [h1']
  simp only
  rw [h2']
  simp only
  rw [if_pos trivial, if_pos hg]
theorem end_again (t : ByteArray) (ht : t.size = 18) : rEnd ⟨t, 18, 0⟩ = ⟨t, 18, 0⟩ := by
  unfold rEnd
  simp [ht]
theorem wrAll_keep {w : World} {B b : Nat} {c : ByteArray} (h : WrR w B b c) {q : Nat} {r : Rd} (hq : OwnR w q r) :
    Calls Try.prog 60 #[.pointer (some ⟨b, 0, none⟩)] w fun e w' => e = .returned (.string c) ∧ WrR w' B b c ∧ OwnR w' q r ∧ Fr (B ≤ ·) w w' := by
  obtain ⟨h0, v, hv, hk⟩ := h
  have HL := Lib.hid (bldString_any btWriter hv)
  have hl : (⟨c.data.toList.toArray⟩ : ByteArray) = c := by cases c; simp
  rw [hl] at HL
  have hvq : v.ownBlock ≠ some q := by
    obtain ⟨⟨p, ho⟩, hown, _⟩ := hv
    exact Lib.ownBlock_neF hown hq (by decide)
  clear hl
  go_enter Try.func60, Try.ntmps60
  go_wp2_with fail
  refine HL.out.mono ?_
  rintro e w1 ⟨rfl, h1, f1⟩
  go_wp2
  go_ret
  exact ⟨rfl, ⟨h0, v, h1, hk⟩, Own.fr hq f1 hvq, f1.mono fun i e => hk i e⟩
set_option maxRecDepth 100000 in
set_option maxHeartbeats 4000000 in
theorem stampBytes_walk (x : EStamp) {wa : World} (ha : x.facts wa) (s : ByteArray) (hs : s.size ≤ 140737488351232) (w : World) :
    Calls Try.prog 12 #[.agg x.cells.toArray, .string s] w fun e w' => e = .returned (.bool true) ∧ New w w' := by
  obtain ⟨kI, nI⟩ := x
  obtain ⟨k0, k1⟩ := bounds_u64 ha.1
  clear ha
  have hrd : Rd.ok ⟨s, 0, 0⟩ := ⟨by simp only; omega, by simp, by simp⟩
  have hok := rTake_ok hrd
  have RT_ := Lib.hid (fun ww => refTake_any ⟨s, 0, 0⟩ hrd ww)
  have TT := Lib.hid (fun ww b hh => take_any (w := ww) (b := b) (r := ⟨s, 0, 0⟩) hh hrd)
  obtain ⟨⟨⟨rs, rp, re⟩, c, m⟩, hT⟩ : ∃ p, rTake ⟨s, 0, 0⟩ = p := ⟨_, rfl⟩
  rw [hT] at RT_ TT hok
  simp only [Rd.val] at RT_
  clear hT
  go_enter Try.func12, Try.ntmps12
  go_wp2_with fail
  refine (newReader_any s _).mono ?_
  rintro e w1 ⟨rfl, rfl⟩
  have oa : Own ((w.alloc (.cells #[.int .u64 kI, .int .i64 nI] 33)).alloc (.cells #[.string s, .int .i64 0, .int .i64 0] 108)) w.heap.size 33 #[.int .u64 kI, .int .i64 nI] := (Own.fresh w _ _).alloc _
  have or_ : OwnR ((w.alloc (.cells #[.int .u64 kI, .int .i64 nI] 33)).alloc (.cells #[.string s, .int .i64 0, .int .i64 0] 108)) (w.heap.size + 1) ⟨s, 0, 0⟩ := Own.new' (by simp)
  have on : New w ((w.alloc (.cells #[.int .u64 kI, .int .i64 nI] 33)).alloc (.cells #[.string s, .int .i64 0, .int .i64 0] 108)) := ((Fr.refl _ _).alloc _).alloc _
  go_wp2_with fail
  refine (TT.out _ _ or_).mono ?_
  rintro e w2 ⟨rfl, or2, f2⟩
  have oa2 : Own w2 w.heap.size 33 #[.int .u64 kI, .int .i64 nI] := oa.fr f2 (by show ¬ (_ = _); omega)
  have on2 : New w w2 := on.trans f2 fun i hi e => by have : i = w.heap.size + 1 := e; omega
  have hz2 := Own.lt or2
  clear oa or_ on f2 TT
  go_wp2_with fail
  refine (RT_.out _).mono ?_
  rintro e w3 ⟨rfl, g3⟩
  have oa3 : Own w3 w.heap.size 33 #[.int .u64 kI, .int .i64 nI] := (oa2.alloc _).new_ g3
  have or3 : OwnR w3 (w.heap.size + 1) ⟨rs, rp, re⟩ := Own.new_ (Own.alloc or2 _) g3
  have on3 : New w w3 := (on2.alloc _).new_ g3
  have ot3 : Own w3 w2.heap.size 33 #[.int .u64 c, .int .i64 m] := (Own.fresh w2 _ _).new_ g3
  have hz3 := ot3.lt
  clear oa2 or2 on2 g3 RT_
  go_wp2_with fail
  refine wp_world (fun W => Own W w.heap.size 33 #[.int .u64 kI, .int .i64 nI] ∧ OwnR W (w.heap.size + 1) ⟨rs, rp, re⟩ ∧ Own W w2.heap.size 33 #[.int .u64 c, .int .i64 m] ∧ Own W w3.heap.size 52 #[.string rs, .int .i64 rp, .int .i64 re] ∧ Own W (w3.heap.size + 1) 35 #[.int .u64 c, .int .i64 m] ∧ New w W)
    ⟨(oa3.alloc _).alloc _, Own.alloc (Own.alloc or3 _) _, (ot3.alloc _).alloc _, (Own.fresh w3 _ _).alloc _, Own.new' (by simp), (on3.alloc _).alloc _⟩ ?_
  clear oa3 or3 ot3 on3
  rintro W ⟨oa, or_, ot, ork, oru, on⟩
  have A1 : ∀ x, Calls Try.prog 15 #[] (nw W x) fun e w' => e = .returned (.bool true) ∧ ∃ y, w' = nw W y := fun x => Calls.nw_of (awake04 _)
  have A2 : ∀ x, Calls Try.prog 34 #[.pointer (some ⟨w.heap.size + 1, 0, none⟩)] (nw W x) fun e w' => e = .returned (.int .i64 re) ∧ ∃ y, w' = nw W y := fun x => Calls.nw_same' (err_any (r := ⟨rs, rp, re⟩) (Own.new_ or_ (nw_new W x)))
  obtain ⟨b0, b1⟩ := ot.nw2
  obtain ⟨c0, c1, c2⟩ := ork.nw3
  obtain ⟨d0, d1⟩ := oru.nw2
  refine wp_region_new_lit (by kernel_rfl) (by kernel_rfl) ?_; (repeat (any_goals (first | go_big_quiet_step ((first | (go_at_call 15; with_reducible exact A1 _) | (go_at_call 34; with_reducible exact A2 _))) | quiet_step ((first | (go_at_call 15; with_reducible exact A1 _) | (go_at_call 34; with_reducible exact A2 _))) | (refine wpQuiet_step (fun K hK => ?_); go_simp; split <;> (refine hK _ ?_; clear hK K))))); all_goals (refine wpQuiet_nil ?_; intro _ hw'; obtain ⟨xq, hw''⟩ := hw'; subst hw''; have hnq := nw_new _ xq)
  have oa2 := oa.new_ hnq
  have on2 := on.new_ hnq
  clear oa or_ ot ork oru on A1 A2 b0 b1 c0 c1 c2 d0 d1
  generalize nw W xq = W2 at *
  obtain ⟨a0, a1, a2, a3⟩ := oa2.two
  have alt := oa2.lt
  have HRC := Lib.hid (fun w => refCheck_any kI nI k0 w)
  by_cases hg : checkI kI nI = 0
  · rw [hg] at HRC
    go_wp2_with fail
    refine (ref_any kI nI _).mono ?_
    rintro e w5 ⟨rfl, g5⟩
    go_wp2_with fail
    refine (HRC.out _).mono ?_
    rintro e w6 ⟨rfl, g6⟩
    have oa6 := (oa2.new_ g5).new_ g6
    have on6 := (on2.new_ g5).new_ g6
    clear oa2 on2 g5 g6 a0 a1 a2 a3 hnq HRC
    obtain ⟨k, n, rfl, rfl, hk, hn⟩ : ∃ k n : Nat, kI = (k : Int) ∧ nI = (n : Int) ∧ k ≤ 281474976710655 ∧ n ≤ 15 := by
      have hG : Good kI nI := by
        by_cases h : Good kI nI
        · exact h
        · exfalso
          unfold checkI at hg
          rw [if_neg h] at hg
          omega
      unfold Good at hG
      exact ⟨kI.toNat, nI.toNat, by omega, by omega, by omega, by omega⟩
    have hTA := take_again k n (by omega) (by omega) hg
    have hts : (ByteArray.empty ++ numB 8 k ++ numB 1 n : ByteArray).size = 18 := by rw [ByteArray.size_append, ByteArray.size_append, numB_size, numB_size]; rfl
    have hEA := end_again _ hts
    have hBY := Lib.hid (fun w => refBytes04_any k n (by omega) (by omega) w)
    have htl : ((ByteArray.empty ++ numB 8 k ++ numB 1 n : ByteArray).toList == (numB 8 k ++ numB 1 n : ByteArray).toList) = true := by rw [empty_app]; simp
    obtain ⟨tb, htb⟩ : ∃ tb, numB 8 k ++ numB 1 n = tb := ⟨_, rfl⟩
    rw [htb] at hBY htl
    clear htb
    go_wp2_with fail
    refine (newWriter_any _).mono ?_
    rintro e w7 ⟨rfl, wr7, g7⟩
    have oa7 := oa6.new_ g7
    have on7 := on6.new_ g7
    have lt6 := oa6.lt
    have sz6 := on6.size
    have sz7 := g7.size
    obtain ⟨a0, a1, a2, a3⟩ := oa7.two
    clear oa6 on6 g7
    go_wp2_with fail
    refine (wrPut_any wr7 sz7 k n (by omega) (by omega) (by decide)).mono ?_
    rintro e w8 ⟨rfl, wr8, f8⟩
    have oa8 : Own w8 w.heap.size 33 #[.int .u64 k, .int .i64 n] := oa7.fr f8 (by show ¬ (_ ≤ _); omega)
    have on8 : New w w8 := Fr.upto on7 f8 sz6
    clear oa7 on7 f8 wr7 a0 a1 a2 a3
    obtain ⟨t, ht⟩ : ∃ t, ByteArray.empty ++ numB 8 k ++ numB 1 n = t := ⟨_, rfl⟩
    rw [ht] at wr8 hTA hts hEA htl
    clear ht
    have sz8 := on8.size
    go_wp2_with fail
    refine (wrAll_any wr8.reads).mono ?_
    rintro e w9 ⟨rfl, wr9, f9⟩
    have oa9 : Own w9 w.heap.size 33 #[.int .u64 k, .int .i64 n] := oa8.fr f9 (by show ¬ (_ ≤ _); omega)
    have on9 : New w w9 := Fr.upto on8 f9 sz6
    clear oa8 on8 f9 wr8
    go_wp2_with fail
    refine (newReader_any t _).mono ?_
    rintro e w10 ⟨rfl, rfl⟩
    have orq : OwnR (w9.alloc (.cells #[.string t, .int .i64 0, .int .i64 0] 108)) w9.heap.size ⟨t, 0, 0⟩ := Own.fresh _ _ _
    have oa10 := oa9.alloc (.cells #[.string t, .int .i64 0, .int .i64 0] 108)
    have on10 := on9.alloc (.cells #[.string t, .int .i64 0, .int .i64 0] 108)
    have wr10 := wr9.new_ ((Fr.refl _ _).alloc (.cells #[.string t, .int .i64 0, .int .i64 0] 108))
    have lt9 := oa9.lt
    clear oa9 on9 wr9
    go_wp2_with fail
    refine wp_world (fun W => Own W w.heap.size 33 #[.int .u64 k, .int .i64 n] ∧ OwnR W w9.heap.size ⟨t, 0, 0⟩ ∧ WrR W w6.heap.size w6.heap.size t ∧ New w W) ⟨oa10, orq, wr10, on10⟩ ?_
    clear oa10 orq wr10 on10
    rintro W3 ⟨oa, orq, wr, on⟩
    obtain ⟨a0, a1, a2, a3⟩ := oa.two
    have hrt : Rd.ok ⟨t, 0, 0⟩ := ⟨by simp only; omega, by simp, by simp⟩
    have hrt2 : Rd.ok ⟨t, 18, 0⟩ := ⟨by simp only; omega, by simp, by simp only; omega⟩
    have TK := Lib.hid (fun ww b hh => take_any (w := ww) (b := b) (r := ⟨t, 0, 0⟩) hh hrt)
    rw [hTA] at TK
    have TE := Lib.hid (fun ww b hh => end_any (w := ww) (b := b) (r := ⟨t, 18, 0⟩) hh hrt2)
    rw [hEA] at TE
    clear hTA hEA hrt hrt2 hrd hok k0 k1
    go_region_with (first
      | (go_at_call 60; refine (wrAll_keep (wr.new_ ((Fr.refl _ _).drew)) (Own.drew orq)).mono ?_; rintro e v1 ⟨rfl, _, q1, f1⟩; have p1 : Own v1 w.heap.size 33 #[.int .u64 k, .int .i64 n] := (oa.drew).fr f1 (by show ¬ (_ ≤ _); omega); have n1 : New w v1 := Fr.upto on.drew f1 sz6; obtain ⟨r0, r1, r2, r3⟩ := p1.two)
      | (go_at_call 21; refine (ref_any k n _).mono ?_; rintro e v2 ⟨rfl, g2⟩; have p2 := p1.new_ g2; have q2 := Own.new_ q1 g2; have n2 := n1.new_ g2; obtain ⟨r4, r5, r6, r7⟩ := p2.two)
      | (go_at_call 61; refine (hBY.out _).mono ?_; rintro e v3 ⟨rfl, g3⟩; have p3 := p2.new_ g3; have q3 := Own.new_ q2 g3; have n3 := n2.new_ g3; obtain ⟨r8, r9, r10, r11⟩ := p3.two)
      | (go_at_call 56; refine (TK.out _ _ q3).mono ?_; rintro e v4 ⟨rfl, q4, f4⟩; have p4 : Own v4 w.heap.size 33 #[.int .u64 k, .int .i64 n] := p3.fr f4 (by show ¬ (_ = _); omega); have n4 : New w v4 := n3.trans f4 (fun i hi e => by have : i = w9.heap.size := e; omega); obtain ⟨r12, r13, r14, r15⟩ := p4.two)
      | (go_at_call 42; refine (TE.out _ _ q4).mono ?_; rintro e v5 ⟨rfl, q5, f5⟩; have p5 : Own v5 w.heap.size 33 #[.int .u64 k, .int .i64 n] := p4.fr f5 (by show ¬ (_ = _); omega); have n5 : New w v5 := n4.trans f5 (fun i hi e => by have : i = w9.heap.size := e; omega); obtain ⟨r16, r17, r18, r19⟩ := p5.two))
    all_goals go_wp2
    all_goals
      go_ret
      exact ⟨rfl, n5⟩
  · have hg40 : checkI kI nI = 40 := by
      unfold checkI at hg ⊢
      split at hg
      · exact absurd rfl hg
      · rw [if_neg ‹_›]
    rw [hg40] at HRC
    go_wp2_with fail
    refine (ref_any kI nI _).mono ?_
    rintro e w5 ⟨rfl, g5⟩
    go_wp2_with fail
    refine (HRC.out _).mono ?_
    rintro e w6 ⟨rfl, g6⟩
    go_wp2
    go_ret
    exact ⟨rfl, (on2.new_ g5).new_ g6⟩
end Go.Proofs.Ytlefmnoaejpllaa
