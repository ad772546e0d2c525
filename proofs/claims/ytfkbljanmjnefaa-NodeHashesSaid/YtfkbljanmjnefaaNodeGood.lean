/- Nodes: Good, Sign, and awake of the law. -/
import Derived.Test.YtfkbljanmjnefaaNodeHash
import Derived.Test.YtfkbljanmjnefaaMacCheck
namespace Go.Proofs.Ytfkbljanmjnefaa
open Go.RowKit
set_option linter.unusedVariables false
set_option linter.unusedSimpArgs false

theorem nodeFit {au : Int} {n : Nat} {V : Nat → ByteArray} {o : OpV} {tg : ByteArray} (hb : OpB o) (hc : nodeCheck au V n o tg = 0) :
    (∀ j, j < n → (V j).size ≤ 1000) ∧ (0 ≤ au ∧ au < 256) ∧ n ≤ 8 ∧ OpFit o ∧ (opB o).size ≤ 2000 := by
  obtain ⟨h1, h2, h3, h4, h5⟩ := nodeCheck_zero.1 hc
  obtain ⟨h6, h7⟩ := opCheck_zero.1 h4
  have h8 := opB_size o h7
  refine ⟨fun j hj => by have := (h1 j hj).1; omega, ?_, h2, h7.fit h6 hb, by omega⟩
  unfold Good at h6
  omega
theorem tag1_size (p : UInt8) (s : ByteArray) : (tag1 p s).size = 32 := shaB_size _
/-- Whether a node's tag is right. -/
def goodB (s : ByteArray) (m : Nat) (au : Int) (V : Nat → ByteArray) (n : Nat) (o : OpV) (tg : ByteArray) : Bool :=
  if nodeCheck au V n o tg = 0 ∧ au < m then decide (tg = macB (ringKey s au.toNat) (nodeHash au V n o)) else false
set_option maxRecDepth 100000 in
set_option maxHeartbeats 4000000 in
theorem nodeGood_any {w : World} {rb rb2 m : Nat} {s : ByteArray} (hR : RingO w rb rb2 s m) (au : Int) (A : Option Addr) (n cap : Nat) (k : Int) (c : Nat) (who : Int) (th par : Nat) (nm : ByteArray) (dir : Bool) (dig : ByteArray) (sz : Int) (tg : ByteArray) (V : Nat → ByteArray) (hsl : Sl w 1 A n fun i => [.string (V i)]) (hV : ∀ j, j < n → (V j).size ≤ maxLen)
    (hb : OpB ⟨k, c, who, th, par, nm, dir, dig, sz⟩) (hs : nm.size ≤ maxLen) (hd : dig.size ≤ maxLen) (ht : tg.size ≤ maxLen) :
    Calls Try.prog 35 #[.pointer (some ⟨rb, 0, none⟩), .agg (ndC au A n cap k c who th par nm dir dig sz tg)] w fun e w' => e = .returned (.bool (goodB s m au V n ⟨k, c, who, th, par, nm, dir, dig, sz⟩ tg)) ∧ New w w' := by
  have HC := Lib.hid (fun ww (hh : Sl ww 1 A n fun i => [.string (V i)]) => nodeCheck_any au A n cap k c who th par nm dir dig sz tg V ww hh hV hb hs hd ht)
  have hG : goodB s m au V n ⟨k, c, who, th, par, nm, dir, dig, sz⟩ tg = if nodeCheck au V n ⟨k, c, who, th, par, nm, dir, dig, sz⟩ tg = 0 ∧ au < m then decide (tg = macB (ringKey s au.toNat) (nodeHash au V n ⟨k, c, who, th, par, nm, dir, dig, sz⟩)) else false := rfl
  by_cases hc : nodeCheck au V n ⟨k, c, who, th, par, nm, dir, dig, sz⟩ tg = 0
  · obtain ⟨f1, f2, f3, f4, f5⟩ := nodeFit hb hc
    have htg := (nodeCheck_zero.1 hc).2.2.1
    have HH := Lib.hid (fun ww (hh : Sl ww 1 A n fun i => [.string (V i)]) => nodeHash_any au A n cap k c who th par nm dir dig sz tg V ww hh f1 f2 f3 f4 f5)
    rw [hc] at HC
    have hhz : (nodeHash au V n ⟨k, c, who, th, par, nm, dir, dig, sz⟩).size = 32 := tag1_size _ _
    obtain ⟨an, rfl⟩ := Int.eq_ofNat_of_zero_le f2.1
    simp only [Int.toNat_natCast] at hG
    obtain ⟨hh, hhh⟩ : ∃ s, nodeHash an V n ⟨k, c, who, th, par, nm, dir, dig, sz⟩ = s := ⟨_, rfl⟩
    rw [hhh] at HH hG hhz
    obtain ⟨g, hg⟩ : ∃ g, goodB s m an V n ⟨k, c, who, th, par, nm, dir, dig, sz⟩ tg = g := ⟨_, rfl⟩
    rw [hg] at hG ⊢
    have MC : Hid (∀ ww, New w ww → Calls Try.prog 65 #[.pointer (some ⟨rb, 0, none⟩), .int .i64 an, .string hh, .string tg] ww fun e w' => e = .returned (.bool g) ∧ New ww w') := by
      intro ww gg
      by_cases hm : an < m
      · have := check_is (hR.new_ gg) an hh tg (by omega) (by omega) hm
        rw [hG, if_pos ⟨hc, by omega⟩]
        exact this
      · have := mcheck_no (hR.new_ gg) an hh tg (by omega)
        rw [hG, if_neg (by intro e; have := e.2; omega)]
        exact this.mono fun e w' ⟨he, hw⟩ => ⟨he, by rw [hw]; exact Fr.refl _ _⟩
    clear hG hg hhh hc f1 f2 f3 f4 f5 hb hs hd ht hV hR htg hhz
    go_enter Try.func35, Try.ntmps35
    go_wp2_with fail
    refine wp_world (fun W => Own W w.heap.size 41 (ndC an A n cap k c who th par nm dir dig sz tg) ∧ New w W) ⟨Own.fresh _ _ _, (Fr.refl _ _).alloc _⟩ ?_
    rintro w1 ⟨o1, n1⟩
    have N0 : ∀ x, (nw w1 x).cell? ⟨w.heap.size, 0, none⟩ = some (.int .i64 an) := o1.nw 0
    have N1 : ∀ x, (nw w1 x).cell? ⟨w.heap.size, 1, none⟩ = some (.slice A n cap) := o1.nw 1
    have N2 : ∀ x, (nw w1 x).cell? ⟨w.heap.size, 2, none⟩ = some (.int .i64 k) := o1.nw 2
    have N3 : ∀ x, (nw w1 x).cell? ⟨w.heap.size, 3, none⟩ = some (.int .u64 c) := o1.nw 3
    have N4 : ∀ x, (nw w1 x).cell? ⟨w.heap.size, 4, none⟩ = some (.int .i64 who) := o1.nw 4
    have N5 : ∀ x, (nw w1 x).cell? ⟨w.heap.size, 5, none⟩ = some (.int .u64 th) := o1.nw 5
    have N6 : ∀ x, (nw w1 x).cell? ⟨w.heap.size, 6, none⟩ = some (.int .u64 par) := o1.nw 6
    have N7 : ∀ x, (nw w1 x).cell? ⟨w.heap.size, 7, none⟩ = some (.string nm) := o1.nw 7
    have N8 : ∀ x, (nw w1 x).cell? ⟨w.heap.size, 8, none⟩ = some (.bool dir) := o1.nw 8
    have N9 : ∀ x, (nw w1 x).cell? ⟨w.heap.size, 9, none⟩ = some (.string dig) := o1.nw 9
    have N10 : ∀ x, (nw w1 x).cell? ⟨w.heap.size, 10, none⟩ = some (.int .i64 sz) := o1.nw 10
    have N11 : ∀ x, (nw w1 x).cell? ⟨w.heap.size, 11, none⟩ = some (.string tg) := o1.nw 11
    have B1 := fun (x : Nx w1) => Calls.nw_of (HC.out (nw w1 x) ((hsl.new_ n1).new_ (nw_new w1 x)))
    have B2 := fun (x : Nx w1) => Calls.nw_of (HH.out (nw w1 x) ((hsl.new_ n1).new_ (nw_new w1 x)))
    have B3 := fun (x : Nx w1) => Calls.nw_of (MC.out (nw w1 x) (n1.new_ (nw_new w1 x)))
    refine wp_region_new_lit (by kernel_rfl) (by kernel_rfl) ?_; (repeat (any_goals (first | go_big_quiet_step ((first | (go_at_call 10; with_reducible exact B1 _) | (go_at_call 14; with_reducible exact B2 _) | (go_at_call 65; with_reducible exact B3 _))) | quiet_step ((first | (go_at_call 10; with_reducible exact B1 _) | (go_at_call 14; with_reducible exact B2 _) | (go_at_call 65; with_reducible exact B3 _))) | (refine wpQuiet_step (fun K hK => ?_); go_simp; split <;> (refine hK _ ?_; clear hK K))))); all_goals (refine wpQuiet_nil ?_; intro _ hw'; obtain ⟨xq, hw''⟩ := hw'; subst hw''; have hnq := nw_new _ xq)
    all_goals go_wp2
    all_goals go_ret
    all_goals exact ⟨rfl, n1.new_ hnq⟩
  · have hg : goodB s m au V n ⟨k, c, who, th, par, nm, dir, dig, sz⟩ tg = false := by rw [hG, if_neg (fun e => hc e.1)]
    rw [hg]
    obtain ⟨u, hu⟩ : ∃ u, nodeCheck au V n ⟨k, c, who, th, par, nm, dir, dig, sz⟩ tg = u := ⟨_, rfl⟩
    rw [hu] at HC hc
    have hcb : (u == 0) = false := by rw [beq_eq_false_iff_ne]; exact hc
    clear hG hg hu hb hs hd ht hV hR hc
    go_enter Try.func35, Try.ntmps35
    go_wp2_with fail
    refine wp_world (fun W => Own W w.heap.size 41 (ndC au A n cap k c who th par nm dir dig sz tg) ∧ New w W) ⟨Own.fresh _ _ _, (Fr.refl _ _).alloc _⟩ ?_
    rintro w1 ⟨o1, n1⟩
    have N0 : ∀ x, (nw w1 x).cell? ⟨w.heap.size, 0, none⟩ = some (.int .i64 au) := o1.nw 0
    have N1 : ∀ x, (nw w1 x).cell? ⟨w.heap.size, 1, none⟩ = some (.slice A n cap) := o1.nw 1
    have N2 : ∀ x, (nw w1 x).cell? ⟨w.heap.size, 2, none⟩ = some (.int .i64 k) := o1.nw 2
    have N3 : ∀ x, (nw w1 x).cell? ⟨w.heap.size, 3, none⟩ = some (.int .u64 c) := o1.nw 3
    have N4 : ∀ x, (nw w1 x).cell? ⟨w.heap.size, 4, none⟩ = some (.int .i64 who) := o1.nw 4
    have N5 : ∀ x, (nw w1 x).cell? ⟨w.heap.size, 5, none⟩ = some (.int .u64 th) := o1.nw 5
    have N6 : ∀ x, (nw w1 x).cell? ⟨w.heap.size, 6, none⟩ = some (.int .u64 par) := o1.nw 6
    have N7 : ∀ x, (nw w1 x).cell? ⟨w.heap.size, 7, none⟩ = some (.string nm) := o1.nw 7
    have N8 : ∀ x, (nw w1 x).cell? ⟨w.heap.size, 8, none⟩ = some (.bool dir) := o1.nw 8
    have N9 : ∀ x, (nw w1 x).cell? ⟨w.heap.size, 9, none⟩ = some (.string dig) := o1.nw 9
    have N10 : ∀ x, (nw w1 x).cell? ⟨w.heap.size, 10, none⟩ = some (.int .i64 sz) := o1.nw 10
    have N11 : ∀ x, (nw w1 x).cell? ⟨w.heap.size, 11, none⟩ = some (.string tg) := o1.nw 11
    have B1 := fun (x : Nx w1) => Calls.nw_of (HC.out (nw w1 x) ((hsl.new_ n1).new_ (nw_new w1 x)))
    refine wp_region_new_lit (by kernel_rfl) (by kernel_rfl) ?_; (repeat (any_goals (first | go_big_quiet_step ((go_at_call 10; with_reducible exact B1 _)) | quiet_step ((go_at_call 10; with_reducible exact B1 _)) | (refine wpQuiet_step (fun K hK => ?_); go_simp; split <;> (refine hK _ ?_; clear hK K))))); all_goals (refine wpQuiet_nil ?_; intro _ hw'; obtain ⟨xq, hw''⟩ := hw'; subst hw''; have hnq := nw_new _ xq)
    all_goals go_wp2
    all_goals go_ret
    all_goals exact ⟨rfl, n1.new_ hnq⟩
end Go.Proofs.Ytfkbljanmjnefaa
