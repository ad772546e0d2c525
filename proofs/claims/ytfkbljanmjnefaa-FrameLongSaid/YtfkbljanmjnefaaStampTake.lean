/- Times in bytes: Take of both programs, Put, Bytes. -/
import Derived.Test.YtfkbljanmjnefaaWireWrite
import Derived.Test.YtfkbljanmjnefaaStampF
namespace Go.Proofs.Ytfkbljanmjnefaa
open Go.RowKit
set_option linter.unusedVariables false

theorem rNumber_bound (r : Rd) (k : Nat) (hr : r.ok) (hk : k ≤ 8) : (rNumber r k).2 < 16 ^ (2 * k) := by
  have hpos : 0 < 16 ^ (2 * k) := Nat.pow_pos (by omega)
  obtain ⟨h0, h1, h2⟩ := hr
  unfold rNumber
  split
  · rw [if_neg (by omega)]
    split
    · exact hpos
    · rename_i hc
      cases hh : numL (r.s.extract r.pos.toNat (r.pos + 2 * k).toNat).data.toList with
      | none => exact hpos
      | some n =>
        have := numL_lt hh
        have hl : (r.s.extract r.pos.toNat (r.pos + 2 * k).toNat).data.toList.length = 2 * k := by
          have : (r.s.extract r.pos.toNat (r.pos + 2 * k).toNat).size = 2 * k := by
            rw [ByteArray.size_extract]
            omega
          exact this
        rw [hl] at this
        exact this
  · exact hpos
/-- What Take takes. -/
def rTake (r : Rd) : Rd × Int × Int :=
  if (rNumber (rNumber r 8).1 1).1.err = 0 then
    if checkI (rNumber r 8).2 (rNumber (rNumber r 8).1 1).2 = 0 then ((rNumber (rNumber r 8).1 1).1, (rNumber r 8).2, (rNumber (rNumber r 8).1 1).2)
    else ((rNumber (rNumber r 8).1 1).1.withErr 40, 0, 0)
  else ((rNumber (rNumber r 8).1 1).1, 0, 0)
theorem take_steps (r : Rd) (hr : r.ok) : ∃ (p1 e1 p2 e2 : Int) (c n : Nat), rNumber r 8 = (⟨r.s, p1, e1⟩, c) ∧ rNumber ⟨r.s, p1, e1⟩ 1 = (⟨r.s, p2, e2⟩, n) ∧ c ≤ 18446744073709551615 ∧ n < 256 ∧ Rd.ok ⟨r.s, p1, e1⟩ ∧ Rd.ok ⟨r.s, p2, e2⟩ ∧
    rTake r = if e2 = 0 then (if checkI c n = 0 then (⟨r.s, p2, e2⟩, (c : Int), (n : Int)) else (⟨r.s, p2, 40⟩, 0, 0)) else (⟨r.s, p2, e2⟩, 0, 0) := by
  have k1 := rNumber_ok hr 8
  have s1 := rNumber_s r 8
  have b1 := rNumber_bound r 8 hr (by omega)
  obtain ⟨⟨⟨t1, p1, e1⟩, c⟩, h1⟩ : ∃ p, rNumber r 8 = p := ⟨_, rfl⟩
  have b1' : (rNumber r 8).2 < 16 ^ (2 * 8) := b1
  rw [h1] at k1 s1 b1'
  simp only at k1 s1 b1'
  subst s1
  have k2 := rNumber_ok k1 1
  have s2 := rNumber_s ⟨r.s, p1, e1⟩ 1
  have b2 := rNumber_bound ⟨r.s, p1, e1⟩ 1 k1 (by omega)
  obtain ⟨⟨⟨t2, p2, e2⟩, n⟩, h2⟩ : ∃ p, rNumber ⟨r.s, p1, e1⟩ 1 = p := ⟨_, rfl⟩
  have b2' : (rNumber ⟨r.s, p1, e1⟩ 1).2 < 16 ^ (2 * 1) := b2
  rw [h2] at k2 s2 b2'
  simp only at k2 s2 b2'
  subst s2
  have e8 : (16 : Nat) ^ (2 * 8) = 18446744073709551616 := by decide
  have e9 : (16 : Nat) ^ (2 * 1) = 256 := by decide
  rw [e8] at b1'
  rw [e9] at b2'
  refine ⟨p1, e1, p2, e2, c, n, h1, h2, by omega, b2', k1, k2, ?_⟩
  unfold rTake
  simp only [h1, h2]
  rfl
theorem rTake_ok {r : Rd} (h : r.ok) : (rTake r).1.ok := by
  obtain ⟨p1, e1, p2, e2, c, n, h1, h2, hc, hn, k1, k2, hT⟩ := take_steps r h
  rw [hT]
  split
  · split <;> exact k2
  · exact k2

set_option maxRecDepth 100000 in
set_option maxHeartbeats 2000000 in
theorem take_any {b : Nat} {r : Rd} {w : World} (h : OwnR w b r) (hr : r.ok) :
    Calls Try.prog 87 #[.pointer (some ⟨b, 0, none⟩)] w fun e w' => e = .returned (.agg #[.int .u64 (rTake r).2.1, .int .i64 (rTake r).2.2]) ∧ OwnR w' b (rTake r).1 ∧ Fr (· = b) w w' := by
  obtain ⟨p1, e1, p2, e2, c, n, h1, h2, hc, hn, k1, k2, hT⟩ := take_steps r hr
  have HN := Lib.hid (fun ww (hh : OwnR ww b r) => rdNumber_any hh hr 8)
  have HM := Lib.hid (fun ww (hh : OwnR ww b ⟨r.s, p1, e1⟩) => rdNumber_any hh k1 1)
  rw [h1] at HN
  rw [h2] at HM
  have hlt := Own.lt h
  have hcase : (e2 = 0 ∧ checkI c n = 0) ∨ (e2 = 0 ∧ checkI c n = 40) ∨ (e2 == 0) = false := by
    by_cases e : e2 = 0
    · unfold checkI
      split
      · exact .inl ⟨e, rfl⟩
      · exact .inr (.inl ⟨e, rfl⟩)
    · exact .inr (.inr (by rw [beq_eq_false_iff_ne]; exact e))
  clear h1 h2 k1 k2
  rcases hcase with ⟨rfl, e⟩ | ⟨rfl, e⟩ | e
  · have HT : Hid (rTake r = (⟨r.s, p2, 0⟩, (c : Int), (n : Int))) := by show _ = _; rw [hT, if_pos rfl, if_pos e]
    have HK := Lib.hid (fun ww => check_any c n ww)
    rw [e] at HK
    clear e
    clear hT
    go_enter Try.func87, Try.ntmps87
    go_wp2_with fail
    refine (HN.out _ (Own.alloc h _)).mono ?_
    rintro e w1 ⟨rfl, o1, g1⟩
    go_wp2_with fail
    refine (HM.out _ o1).mono ?_
    rintro e w2 ⟨rfl, o2, g2⟩
    have q2 : Own w2 w.heap.size 37 #[.int .u64 0, .int .i64 0] := Own.fr (Own.fr (Own.fresh w _ _) g1 (by show ¬ (_ = _); omega)) g2 (by show ¬ (_ = _); omega)
    have n2 : Fr (· = b) w w2 := Fr.trans (Fr.trans ((Fr.refl _ _).alloc _) g1 fun _ _ e => e) g2 fun _ _ e => e
    have hz2 := q2.lt
    clear o1 g1 g2
    have o3 : OwnR (w2.alloc (.cells #[.int .u64 c, .int .i64 n] 37)) b ⟨r.s, p2, 0⟩ := Own.alloc o2 _
    have q3 := q2.alloc (.cells #[.int .u64 c, .int .i64 n] 37)
    have s3 := Own.fresh w2 37 #[.int .u64 c, .int .i64 n]
    have n3 : Fr (· = b) w (w2.alloc (.cells #[.int .u64 c, .int .i64 n] 37)) := Fr.alloc n2 _
    obtain ⟨x0, x1, x2, x3⟩ := q3.two
    go_wp2_with fail
    refine (err_any o3).mono ?_
    rintro e wq ⟨rfl, rfl⟩
    go_wp2_with fail
    refine (HK.out _).mono ?_
    rintro e w4 ⟨rfl, g4⟩
    have o4 : OwnR w4 b ⟨r.s, p2, 0⟩ := Own.new_ o3 g4
    have q4 := q3.new_ g4
    have s4 := s3.new_ g4
    have n4 := Fr.new_ n3 g4
    go_wp2_with fail
    refine (fail_any o4 0).mono ?_
    rintro e w5 ⟨rfl, o5', g5⟩
    have o5 : OwnR w5 b ⟨r.s, p2, 0⟩ := o5'
    have q5 := q4.fr g5 (by show ¬ (_ = _); omega)
    have s5 := s4.fr g5 (by show ¬ (_ = _); omega)
    have n5 : Fr (· = b) w w5 := Fr.trans n4 g5 fun _ _ e => e
    obtain ⟨y0, y1, y2, y3⟩ := q5.two
    obtain ⟨z0, z1, z2, z3⟩ := s5.two
    have hz5 := s5.lt
    clear x0 x1 x2 x3 q3 s3 o3 n3 q4 s4 o4 n4
    go_wp2_with fail
    refine (err_any o5).mono ?_
    rintro e wq ⟨rfl, rfl⟩
    go_wp2
    refine bodyPost_ret (v := .agg #[.int .u64 c, .int .i64 n]) (by simp [results, Try.results87, go_sem, *]) rfl ⟨?_, ?_, ?_⟩
    · rw [HT.out]
    · rw [HT.out]; show Own _ _ _ _; have o6 : Own w5 b 86 #[.string r.s, .int .i64 p2, .int .i64 0] := o5; repeat (first | with_reducible assumption | with_reducible exact Own.fresh _ _ _ | (with_reducible apply Own.new'; simp; done) | with_reducible apply Own.drew | with_reducible apply Own.drewN | with_reducible apply Own.alloc | with_reducible apply Own.put | rfl | (refine Own.far ?_ (by first | (simp; done) | (simp; omega) | omega) _) | (with_reducible refine Own.new_ ?_ (by with_reducible assumption)) | (refine Own.fr ?_ (by with_reducible assumption) (by show ¬ (_ = _); omega)))
    · repeat (first | with_reducible exact Fr.refl _ _ | with_reducible assumption | with_reducible refine Fr.drew ?_ | with_reducible refine Fr.drewN ?_ _ | with_reducible refine Fr.alloc ?_ _ | with_reducible refine Fr.set ?_ (by first | exact fun _ => rfl | (intro hlt; exfalso; simp at hlt; try omega) | (simp; omega)) _ | with_reducible refine Fr.new_ ?_ (by with_reducible assumption) | (with_reducible refine Fr.trans ?_ (by with_reducible assumption) (fun i hi e => by (first | omega | (simp at e; omega)))))
  · have HT : Hid (rTake r = (⟨r.s, p2, 40⟩, 0, 0)) := by show _ = _; rw [hT, if_pos rfl, if_neg (by omega)]
    have HK := Lib.hid (fun ww => check_any c n ww)
    rw [e] at HK
    clear e
    clear hT
    go_enter Try.func87, Try.ntmps87
    go_wp2_with fail
    refine (HN.out _ (Own.alloc h _)).mono ?_
    rintro e w1 ⟨rfl, o1, g1⟩
    go_wp2_with fail
    refine (HM.out _ o1).mono ?_
    rintro e w2 ⟨rfl, o2, g2⟩
    have q2 : Own w2 w.heap.size 37 #[.int .u64 0, .int .i64 0] := Own.fr (Own.fr (Own.fresh w _ _) g1 (by show ¬ (_ = _); omega)) g2 (by show ¬ (_ = _); omega)
    have n2 : Fr (· = b) w w2 := Fr.trans (Fr.trans ((Fr.refl _ _).alloc _) g1 fun _ _ e => e) g2 fun _ _ e => e
    have hz2 := q2.lt
    clear o1 g1 g2
    have o3 : OwnR (w2.alloc (.cells #[.int .u64 c, .int .i64 n] 37)) b ⟨r.s, p2, 0⟩ := Own.alloc o2 _
    have q3 := q2.alloc (.cells #[.int .u64 c, .int .i64 n] 37)
    have s3 := Own.fresh w2 37 #[.int .u64 c, .int .i64 n]
    have n3 : Fr (· = b) w (w2.alloc (.cells #[.int .u64 c, .int .i64 n] 37)) := Fr.alloc n2 _
    obtain ⟨x0, x1, x2, x3⟩ := q3.two
    go_wp2_with fail
    refine (err_any o3).mono ?_
    rintro e wq ⟨rfl, rfl⟩
    go_wp2_with fail
    refine (HK.out _).mono ?_
    rintro e w4 ⟨rfl, g4⟩
    have o4 : OwnR w4 b ⟨r.s, p2, 0⟩ := Own.new_ o3 g4
    have q4 := q3.new_ g4
    have s4 := s3.new_ g4
    have n4 := Fr.new_ n3 g4
    go_wp2_with fail
    refine (fail_any o4 40).mono ?_
    rintro e w5 ⟨rfl, o5', g5⟩
    have o5 : OwnR w5 b ⟨r.s, p2, 40⟩ := o5'
    have q5 := q4.fr g5 (by show ¬ (_ = _); omega)
    have s5 := s4.fr g5 (by show ¬ (_ = _); omega)
    have n5 : Fr (· = b) w w5 := Fr.trans n4 g5 fun _ _ e => e
    obtain ⟨y0, y1, y2, y3⟩ := q5.two
    obtain ⟨z0, z1, z2, z3⟩ := s5.two
    have hz5 := s5.lt
    clear x0 x1 x2 x3 q3 s3 o3 n3 q4 s4 o4 n4
    go_wp2_with fail
    refine (err_any o5).mono ?_
    rintro e wq ⟨rfl, rfl⟩
    go_wp2
    refine bodyPost_ret (v := .agg #[.int .u64 0, .int .i64 0]) (by simp [results, Try.results87, go_sem, *]) rfl ⟨?_, ?_, ?_⟩
    · rw [HT.out]
    · rw [HT.out]; show Own _ _ _ _; have o6 : Own w5 b 86 #[.string r.s, .int .i64 p2, .int .i64 40] := o5; repeat (first | with_reducible assumption | with_reducible exact Own.fresh _ _ _ | (with_reducible apply Own.new'; simp; done) | with_reducible apply Own.drew | with_reducible apply Own.drewN | with_reducible apply Own.alloc | with_reducible apply Own.put | rfl | (refine Own.far ?_ (by first | (simp; done) | (simp; omega) | omega) _) | (with_reducible refine Own.new_ ?_ (by with_reducible assumption)) | (refine Own.fr ?_ (by with_reducible assumption) (by show ¬ (_ = _); omega)))
    · repeat (first | with_reducible exact Fr.refl _ _ | with_reducible assumption | with_reducible refine Fr.drew ?_ | with_reducible refine Fr.drewN ?_ _ | with_reducible refine Fr.alloc ?_ _ | with_reducible refine Fr.set ?_ (by first | exact fun _ => rfl | (intro hlt; exfalso; simp at hlt; try omega) | (simp; omega)) _ | with_reducible refine Fr.new_ ?_ (by with_reducible assumption) | (with_reducible refine Fr.trans ?_ (by with_reducible assumption) (fun i hi e => by (first | omega | (simp at e; omega)))))
  · have HT : Hid (rTake r = (⟨r.s, p2, e2⟩, 0, 0)) := by show _ = _; rw [hT, if_neg (by simpa using e)]
    have e' : (e2 != 0) = true := by rw [bne, e]; rfl
    clear hT
    go_enter Try.func87, Try.ntmps87
    go_wp2_with fail
    refine (HN.out _ (Own.alloc h _)).mono ?_
    rintro e w1 ⟨rfl, o1, g1⟩
    go_wp2_with fail
    refine (HM.out _ o1).mono ?_
    rintro e w2 ⟨rfl, o2, g2⟩
    have q2 : Own w2 w.heap.size 37 #[.int .u64 0, .int .i64 0] := Own.fr (Own.fr (Own.fresh w _ _) g1 (by show ¬ (_ = _); omega)) g2 (by show ¬ (_ = _); omega)
    have n2 : Fr (· = b) w w2 := Fr.trans (Fr.trans ((Fr.refl _ _).alloc _) g1 fun _ _ e => e) g2 fun _ _ e => e
    have hz2 := q2.lt
    clear o1 g1 g2
    have o3 : OwnR (w2.alloc (.cells #[.int .u64 c, .int .i64 n] 37)) b ⟨r.s, p2, e2⟩ := Own.alloc o2 _
    have q3 := q2.alloc (.cells #[.int .u64 c, .int .i64 n] 37)
    have s3 := Own.fresh w2 37 #[.int .u64 c, .int .i64 n]
    have n3 : Fr (· = b) w (w2.alloc (.cells #[.int .u64 c, .int .i64 n] 37)) := Fr.alloc n2 _
    obtain ⟨x0, x1, x2, x3⟩ := q3.two
    obtain ⟨v0, v1, v2, v3⟩ := q2.two
    go_wp2_with fail
    refine (err_any o3).mono ?_
    rintro e wq ⟨rfl, rfl⟩
    go_wp2_with fail
    refine (err_any o3).mono ?_
    rintro e wq ⟨rfl, rfl⟩
    go_wp2
    refine bodyPost_ret (v := .agg #[.int .u64 0, .int .i64 0]) (by simp [results, Try.results87, go_sem, *]) rfl ⟨?_, ?_, ?_⟩
    · rw [HT.out]
    · rw [HT.out]; show Own _ b 86 #[.string r.s, .int .i64 p2, .int .i64 e2]; have o6 : Own w2 b 86 #[.string r.s, .int .i64 p2, .int .i64 e2] := o2; repeat (first | with_reducible assumption | with_reducible exact Own.fresh _ _ _ | (with_reducible apply Own.new'; simp; done) | with_reducible apply Own.drew | with_reducible apply Own.drewN | with_reducible apply Own.alloc | with_reducible apply Own.put | rfl | (refine Own.far ?_ (by first | (simp; done) | (simp; omega) | omega) _) | (with_reducible refine Own.new_ ?_ (by with_reducible assumption)) | (refine Own.fr ?_ (by with_reducible assumption) (by show ¬ (_ = _); omega)))
    · repeat (first | with_reducible exact Fr.refl _ _ | with_reducible assumption | with_reducible refine Fr.drew ?_ | with_reducible refine Fr.drewN ?_ _ | with_reducible refine Fr.alloc ?_ _ | with_reducible refine Fr.set ?_ (by first | exact fun _ => rfl | (intro hlt; exfalso; simp at hlt; try omega) | (simp; omega)) _ | with_reducible refine Fr.new_ ?_ (by with_reducible assumption) | (with_reducible refine Fr.trans ?_ (by with_reducible assumption) (fun i hi e => by (first | omega | (simp at e; omega)))))

theorem wrNumber_fine {w : World} {b : Nat} {v : Value} {l : List UInt8} (hv : Bld 110 b v l w) (n : Nat) (hn : n ≤ 18446744073709551615) (k : Int) (hlen : l.length + 16 ≤ 140737488355328) :
    Calls Try.prog 52 #[.pointer (some ⟨b, 0, none⟩), .int .u64 n, .int .i64 k] w fun e w' => e = .returned (.tuple #[]) ∧ BldStep 110 b v (l ++ (numB (clip k) n).data.toList) w w' := by
  have HN := Lib.hid (number_any n hn k)
  have hz := numB_size (clip k) n
  have hc := (clip_cases k).1
  obtain ⟨s, hs⟩ : ∃ s, numB (clip k) n = s := ⟨_, rfl⟩
  rw [hs] at HN hz ⊢
  clear hs
  have HP : Hid (∀ w1, New w w1 → Calls Try.prog 74 #[.pointer (some ⟨b, 0, none⟩), .string s] w1 fun e w' => e = .returned (.tuple #[]) ∧ BldStep 110 b v (l ++ s.data.toList) w1 w') := by
    intro w1 hn1
    have HW := Lib.hid (writeString_any btWriter (hv.new_ hn1) s (by omega))
    go_enter Try.func74, Try.ntmps74
    go_wp2_with fail
    refine HW.out.mono ?_
    rintro e w2 ⟨rfl, h2⟩
    go_wp2
    go_end0
    exact ⟨rfl, h2⟩
  go_enter Try.func52, Try.ntmps52
  go_wp2_with fail
  refine (HN.out _).mono ?_
  rintro e w1 ⟨rfl, hn1⟩
  go_wp2_with fail
  refine (HP.out _ hn1).mono ?_
  rintro e w2 ⟨rfl, v', h1, h2, h3⟩
  go_wp2
  go_end0
  refine ⟨rfl, v', h1, Fr.trans (hn1.mono fun _ f => f.elim) h2 fun _ _ e => e, ?_⟩
  rcases h3 with h3 | ⟨k2, e, hk2⟩
  · exact .inl h3
  · exact .inr ⟨k2, e, Nat.le_trans hn1.size hk2⟩
theorem wrPut_any {w : World} {B b : Nat} {c : ByteArray} (h : WrB w B b c) (hB : B ≤ w.heap.size) (k n : Nat) (hk : k ≤ 18446744073709551615) (hn : n < 256) (hlen : c.size + 40 ≤ 140737488355328) :
    Calls Try.prog 70 #[.pointer (some ⟨b, 0, none⟩), .agg #[.int .u64 k, .int .i64 n]] w fun e w' => e = .returned (.tuple #[]) ∧ WrB w' B b (c ++ numB 8 k ++ numB 1 n) ∧ Fr (B ≤ ·) w w' := by
  have hz := numB_size 8 k
  have hc8 : clip 8 = 8 := by decide
  have hc1 : clip 1 = 1 := by decide
  obtain ⟨hBb, v, hv, hvk⟩ := h
  have hl : c.data.toList.length = c.size := by simp
  have hb := hv.lt
  have h0 : Bld 110 b v c.data.toList (w.alloc (.cells #[.int .u64 k, .int .i64 n] 37)) := hv.new_ ((Fr.refl _ _).alloc _)
  have HP := Lib.hid (wrNumber_fine h0 k hk 8 (by omega))
  rw [hc8] at HP
  have hap : (c ++ numB 8 k).data.toList = c.data.toList ++ (numB 8 k).data.toList := by simp
  have hcs : (c ++ numB 8 k).size = c.size + 16 := by rw [ByteArray.size_append, hz]
  obtain ⟨nb, hnb⟩ : ∃ nb, numB 8 k = nb := ⟨_, rfl⟩
  rw [hnb] at hz HP hap hcs ⊢
  have HA := Lib.hid hap
  clear hnb hap
  go_enter Try.func70, Try.ntmps70
  go_wp2_with fail
  refine HP.out.mono ?_
  rintro e w1 ⟨rfl, v1, hv1, f1, ho1⟩
  have s1 : Own w1 w.heap.size 37 #[.int .u64 k, .int .i64 n] := Own.fr (Own.fresh w _ _) f1 (by
    rintro (e | e)
    · omega
    · have := hb.2 _ e
      omega)
  obtain ⟨x0, x1, x2, x3⟩ := s1.two
  have hB1 : B ≤ w1.heap.size := by have := f1.size; simp at this; omega
  have hW : WrB w1 B b (c ++ nb) := by
    refine ⟨hBb, v1, by rw [HA.out]; exact hv1, ?_⟩
    intro q hq
    rcases ho1 with e | ⟨k2, e, hk2⟩
    · exact hvk q (e ▸ hq)
    · rw [e] at hq
      injection hq with hq
      simp at hk2
      omega
  have g1 : Fr (B ≤ ·) w w1 := by
    refine Fr.trans ((Fr.refl _ _).alloc _) f1 ?_
    rintro i hi (rfl | e)
    · exact hBb
    · exact hvk i e
  have HM := Lib.hid (wrNumber_any hW hB1 n (by omega) 1 (by omega))
  rw [hc1] at HM
  clear f1 ho1 hv1 hW s1 hc1 hc8 hcs h0 hv hvk hb
  go_wp2_with fail
  refine HM.out.mono ?_
  rintro e w2 ⟨rfl, h2, g2⟩
  go_wp2
  go_end0
  exact ⟨rfl, h2, Fr.trans g1 g2 fun _ _ e => e⟩
end Go.Proofs.Ytfkbljanmjnefaa
