/- Any bytes are a share, or refused. -/
import Derived.Test.YtjcpdpdhegcgoaaGreatDoorMkPut
namespace Go.Proofs.YtjcpdpdhegcgoaaGreatDoor
open Go.RowKit
set_option linter.unusedVariables false
set_option linter.unusedSimpArgs false

set_option maxRecDepth 100000 in
set_option maxHeartbeats 8000000 in
theorem merkleReads_walk (s : ByteArray) (hs : s.size ≤ 140737488351232) {w : World} : Calls Tryz.prog 6 #[.string s] w fun e W => e = .returned (.bool true) ∧ New w W := by
  have hok : (⟨s, 0, 0⟩ : Rd).ok := ⟨by simp only; omega, Int.le_refl _, by simp only; omega⟩
  have hb := fun h => share_back hok h
  have hrs : rShare ⟨s, 0, 0⟩ = if (rShare0 ⟨s, 0, 0⟩).1.err = 0 then rShare0 ⟨s, 0, 0⟩ else ((rShare0 ⟨s, 0, 0⟩).1, noSh) := rfl
  have SA := Lib.hid (fun (W : World) b (h : OwnR W b ⟨s, 0, 0⟩) => share_any h hok)
  unfold SharePost at SA
  obtain ⟨r1, hr1⟩ : ∃ r1, r1 = rShare0 ⟨s, 0, 0⟩ := ⟨_, rfl⟩
  rw [← hr1] at hb hrs
  obtain ⟨r2, hr2⟩ : ∃ r2, r2 = rShare ⟨s, 0, 0⟩ := ⟨_, rfl⟩
  rw [← hr2] at SA hrs
  clear hr1 hr2 hok
  have HB := Lib.hid hb
  have HR := Lib.hid hrs
  clear hb hrs
  go_enter Tryz.func6, Tryz.ntmps6
  go_wp2_with fail
  refine (newReader_any s w).mono ?_
  rintro e w1 ⟨rfl, rfl⟩
  have q1 : OwnR (w.alloc (.cells #[.string s, .int .i64 0, .int .i64 0] 91)) w.heap.size ⟨s, 0, 0⟩ := Own.fresh _ _ _
  have n1 : New w (w.alloc (.cells #[.string s, .int .i64 0, .int .i64 0] 91)) := (Fr.refl _ _).alloc _
  have hz1 : (w.alloc (.cells #[.string s, .int .i64 0, .int .i64 0] 91)).heap.size = w.heap.size + 1 := by simp
  obtain ⟨w1, hw1⟩ : ∃ w1, w1 = w.alloc (.cells #[.string s, .int .i64 0, .int .i64 0] 91) := ⟨_, rfl⟩
  rw [← hw1] at q1 n1 hz1 ⊢
  clear hw1
  go_wp2_with fail
  refine (SA.out _ _ q1).mono ?_
  rintro e w2 ⟨v, rfl, t2, q2, f2⟩
  have n2 : New w w2 := n1.trans f2 fun k hk e => by have e : k = w.heap.size := e; omega
  clear SA q1 n1
  obtain ⟨⟨R, P, E⟩, dig, sz, mn, at_, ch, l⟩ := r2
  obtain ⟨A, cap, rfl⟩ := t2.form
  have hln := t2.cap
  have hz2 := f2.size
  have o3 := Own.fresh w2 27 #[.string dig, .int .i64 sz, .int .i64 mn, .int .i64 at_, .string ch, .slice A l.length cap]
  have n3 : New w2 (w2.alloc (.cells #[.string dig, .int .i64 sz, .int .i64 mn, .int .i64 at_, .string ch, .slice A l.length cap] 27)) := (Fr.refl _ _).alloc _
  go_wp2_with fail
  refine calls_worldR (fun W => Own W w2.heap.size 27 #[.string dig, .int .i64 sz, .int .i64 mn, .int .i64 at_, .string ch, .slice A l.length cap] ∧ New w W ∧ OwnR W w.heap.size ⟨R, P, E⟩ ∧ TxL W w1.heap.size (.slice A l.length cap) l) ⟨o3, n2.new_ n3, Own.new_ q2 n3, t2.new_ n3⟩ ?_
  clear o3 n3 q2 t2 n2 f2
  rintro w3 ⟨o3, n3, q3, t3⟩
  refine merkle_awake.mono ?_
  rintro e w4 ⟨rfl, g4⟩
  have o4 := o3.new_ g4
  have n4 := n3.new_ g4
  have q4 := Own.new_ q3 g4
  have t4 := t3.new_ g4
  clear o3 n3 q3 t3 g4
  have EZ := err_any q4
  have HI := Lib.hid (And.intro o4 (And.intro n4 (And.intro q4 t4)))
  obtain ⟨⟨x0, x1, x2, x3, x4, x5⟩, -⟩ := own6s o4
  clear o4 n4 q4 t4
  by_cases hE : E = 0
  · have he1 : r1.1.err = 0 := by
      by_cases h : r1.1.err = 0
      · exact h
      · have := HR.out
        rw [if_neg h] at this
        have e : E = r1.1.err := congrArg (fun z => z.1.err) this
        omega
    have hr1 : r1 = (⟨R, P, E⟩, ⟨dig, sz, mn, at_, ch, l⟩) := by
      have := HR.out
      rw [if_pos he1] at this
      exact this.symm
    have hb := HB.out he1
    rw [hr1] at hb
    obtain ⟨hbk, hfit⟩ := hb
    obtain ⟨f1, f2, f3, f4, f5, f6, f7⟩ := hfit
    simp only at f1 f2 f3 f4 f5 f6 f7
    obtain ⟨sn, rfl⟩ := Int.eq_ofNat_of_zero_le f2.1
    obtain ⟨mm, rfl⟩ := Int.eq_ofNat_of_zero_le f3.1
    obtain ⟨an, rfl⟩ := Int.eq_ofNat_of_zero_le f4.1
    have hR : R = s := hbk.s
    have hP := hbk.p1
    have hP2 := hbk.p2
    have hT := hbk.t
    simp only at hP hP2 hT
    obtain ⟨p, rfl⟩ := Int.eq_ofNat_of_zero_le hP
    subst hR hE
    unfold shareB at hT
    simp only [Int.toNat_natCast, Int.toNat_zero] at hT
    have HT := Lib.hid hT
    have HFT := Lib.hid (And.intro f1 (And.intro f2 (And.intro f3 (And.intro f4 (And.intro f5 (And.intro f6 f7))))))
    have hps : (p : Int) ≤ (R.size : Int) := hP2
    clear hbk hT f1 f2 f3 f4 f5 f6 f7 hr1 he1 HR HB hP2 hP
    go_wp2_with fail
    refine EZ.mono ?_
    rintro e wq ⟨rfl, rfl⟩
    go_wp2_with fail
    refine (newWriterF w4).mono ?_
    rintro e w5 ⟨rfl, h5, g5⟩
    clear x0 x1 x2 x3 x4 x5 EZ
    have o5 := HI.out.1.new_ g5
    have n5 := HI.out.2.1.new_ g5
    have q5 := Own.new_ HI.out.2.2.1 g5
    have t5 := HI.out.2.2.2.new_ g5
    have hbs : ∀ ad, A = some ad → ¬ (w4.heap.size ≤ ad.block) ∧ ad.block < w5.heap.size := fun ad e => by
      have hb := (HI.out.2.2.2.base (k := ad.block) (by rw [e]; rfl)).2
      have := g5.size
      exact ⟨by omega, by omega⟩
    have hq4 := Own.lt HI.out.2.2.1
    have ho4 := HI.out.1.lt
    have hn4 := HI.out.2.1.size
    obtain ⟨⟨x0, x1, x2, x3, x4, x5⟩, -⟩ := own6s o5
    have H5 := Lib.hid (And.intro h5 (And.intro n5 (And.intro q5 (And.intro t5 hbs))))
    clear h5 g5 o5 n5 q5 t5 hbs HI
    go_wp2_with fail
    obtain ⟨f1, f2, f3, f4, f5, f6, f7⟩ := HFT.out
    refine (put_share H5.out.1 (by simp) dig ch sn mm an l A l.length cap (by omega) (by omega) (by omega) (by omega) (by omega) (SlT.of_txl H5.out.2.2.2.1 (by simp [maxLen]; omega)) f6 hln.1 (fun y hy => by rw [f7 y hy]; omega) H5.out.2.2.2.2).mono ?_
    rintro e w6 ⟨rfl, h6, f6'⟩
    rw [bempty_app, ← HT.out] at h6
    have n6 : New w w6 := H5.out.2.1.trans f6' fun k hk e => by have e : w4.heap.size ≤ k := e; omega
    have q6 : OwnR w6 w.heap.size ⟨R, p, 0⟩ := Own.fr H5.out.2.2.1 f6' (by show ¬ (w4.heap.size ≤ _); omega)
    clear f1 f2 f3 f4 f5 f6 f7 f6' x0 x1 x2 x3 x4 x5 H5
    have H6 := Lib.hid (And.intro h6 (And.intro n6 q6))
    clear h6 n6 q6
    go_wp2_with fail
    refine (allF H6.out.1.reads).mono ?_
    rintro e w7 ⟨rfl, h7, f7⟩
    have n7 : New w w7 := H6.out.2.1.trans f7 fun k hk e => by have e : w4.heap.size ≤ k := e; omega
    have q7 : OwnR w7 w.heap.size ⟨R, p, 0⟩ := Own.fr H6.out.2.2 f7 (by show ¬ (w4.heap.size ≤ _); omega)
    clear h7 f7 H6
    go_wp2_with fail
    refine (at_any q7).mono ?_
    rintro e wq ⟨rfl, rfl⟩
    go_wp2_with fail
    go_ret
    exact ⟨rfl, n7⟩
  · have hns : (⟨⟨R, P, E⟩, ⟨dig, sz, mn, at_, ch, l⟩⟩ : Rd × ShV).2 = noSh := by
      have h : ¬ r1.1.err = 0 := fun h => hE (by
        have hb := HB.out h
        have := HR.out
        rw [if_pos h] at this
        have e : E = r1.1.err := congrArg (fun z => z.1.err) this
        omega)
      have := HR.out
      rw [if_neg h] at this
      exact congrArg Prod.snd this
    simp only [noSh, ShV.mk.injEq] at hns
    obtain ⟨rfl, rfl, rfl, rfl, rfl, rfl⟩ := hns
    clear HR HB
    go_wp2_with fail
    refine EZ.mono ?_
    rintro e wq ⟨rfl, rfl⟩
    go_wp2_with fail
    go_ret
    exact ⟨rfl, HI.out.2.1⟩
end Go.Proofs.YtjcpdpdhegcgoaaGreatDoor
