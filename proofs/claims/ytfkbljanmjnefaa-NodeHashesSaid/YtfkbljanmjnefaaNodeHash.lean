/- Nodes: digest, Encode, Same. -/
import Derived.Test.YtfkbljanmjnefaaNodeBody
import Derived.Test.YtfkbljanmjnefaaOpHashes
namespace Go.Proofs.Ytfkbljanmjnefaa
open Go.RowKit
set_option linter.unusedVariables false
set_option linter.unusedSimpArgs false

def nodeHash (au : Int) (V : Nat → ByteArray) (n : Nat) (o : OpV) : ByteArray := tag1 68 (bodyB au V n o)
set_option maxRecDepth 100000 in
set_option maxHeartbeats 2000000 in
theorem nodeHash_any (au : Int) (A : Option Addr) (n cap : Nat) (k : Int) (c : Nat) (who : Int) (th par : Nat) (nm : ByteArray) (dir : Bool) (dig : ByteArray) (sz : Int) (tg : ByteArray) (V : Nat → ByteArray) (w : World) (hsl : Sl w 1 A n fun i => [.string (V i)]) (hV : ∀ j, j < n → (V j).size ≤ 1000)
    (hau : 0 ≤ au ∧ au < 256) (hn : n ≤ 8) (hf : OpFit ⟨k, c, who, th, par, nm, dir, dig, sz⟩) (hz : (opB ⟨k, c, who, th, par, nm, dir, dig, sz⟩).size ≤ 2000) :
    Calls Try.prog 14 #[.agg (ndC au A n cap k c who th par nm dir dig sz tg)] w fun e w' => e = .returned (.string (nodeHash au V n ⟨k, c, who, th, par, nm, dir, dig, sz⟩)) ∧ New w w' := by
  have hzz := bodyB_size au V n ⟨k, c, who, th, par, nm, dir, dig, sz⟩ hz hn
  have HB := Lib.hid (fun ww (hh : Sl ww 1 A n fun i => [.string (V i)]) => nodeBody_any au A n cap k c who th par nm dir dig sz tg V ww hh hV hau (by omega) hf)
  have HN : Hid (nodeHash au V n ⟨k, c, who, th, par, nm, dir, dig, sz⟩ = tag1 68 (bodyB au V n ⟨k, c, who, th, par, nm, dir, dig, sz⟩)) := rfl
  obtain ⟨s, hs⟩ : ∃ s, bodyB au V n ⟨k, c, who, th, par, nm, dir, dig, sz⟩ = s := ⟨_, rfl⟩
  rw [hs] at HB HN hzz
  clear hs
  go_enter Try.func14, Try.ntmps14
  go_wp2_with fail
  refine (HB.out _ (hsl.new_ ((Fr.refl _ _).alloc _))).mono ?_
  rintro e w1 ⟨rfl, g1⟩
  have n1 : New w w1 := ((Fr.refl _ _).alloc _).new_ g1
  go_wp2_with fail
  refine (tag1_any 68 s (by omega) (Own.fresh _ _ _)).mono ?_
  rintro e w2 ⟨rfl, g2⟩
  go_wp2
  go_ret
  exact ⟨ret_str HN.out.symm, (n1.alloc _).new_ g2⟩
set_option maxRecDepth 100000 in
set_option maxHeartbeats 4000000 in
theorem nodeEncode_yes (au : Int) (A : Option Addr) (n cap : Nat) (k : Int) (c : Nat) (who : Int) (th par : Nat) (nm : ByteArray) (dir : Bool) (dig : ByteArray) (sz : Int) (tg : ByteArray) (V : Nat → ByteArray) (w : World) (hsl : Sl w 1 A n fun i => [.string (V i)]) (hV : ∀ j, j < n → (V j).size ≤ 1000)
    (hau : 0 ≤ au ∧ au < 256) (hn : n ≤ 8) (hf : OpFit ⟨k, c, who, th, par, nm, dir, dig, sz⟩) (hz : (opB ⟨k, c, who, th, par, nm, dir, dig, sz⟩).size ≤ 2000)
    (hb : OpB ⟨k, c, who, th, par, nm, dir, dig, sz⟩) (ht : tg.size ≤ maxLen) (hc : nodeCheck au V n ⟨k, c, who, th, par, nm, dir, dig, sz⟩ tg = 0) :
    Calls Try.prog 12 #[.agg (ndC au A n cap k c who th par nm dir dig sz tg)] w fun e w' => e = .returned (.tuple #[.string (bodyB au V n ⟨k, c, who, th, par, nm, dir, dig, sz⟩ ++ tg), .int .i64 0]) ∧ New w w' := by
  have hzz := bodyB_size au V n ⟨k, c, who, th, par, nm, dir, dig, sz⟩ hz hn
  have htg : tg.size = 32 := (nodeCheck_zero.1 hc).2.2.1
  have HB := Lib.hid (fun ww (hh : Sl ww 1 A n fun i => [.string (V i)]) => nodeBody_any au A n cap k c who th par nm dir dig sz tg V ww hh hV hau (by omega) hf)
  have HC := Lib.hid (fun ww (hh : Sl ww 1 A n fun i => [.string (V i)]) => nodeCheck_any au A n cap k c who th par nm dir dig sz tg V ww hh (fun j hj => by have := hV j hj; unfold maxLen; omega) hb (by have := hf.2.2.2.2.2.2.1; unfold maxLen; simp only at this; omega) (by have := hf.2.2.2.2.2.2.2.1; unfold maxLen; simp only at this; omega) ht)
  rw [hc] at HC
  obtain ⟨s, hs⟩ : ∃ s, bodyB au V n ⟨k, c, who, th, par, nm, dir, dig, sz⟩ = s := ⟨_, rfl⟩
  rw [hs] at HB hzz ⊢
  clear hs hc ht hb hz hf hV hau
  go_enter Try.func12, Try.ntmps12
  go_wp2_with fail
  refine (HC.out _ (hsl.new_ ((Fr.refl _ _).alloc _))).mono ?_
  rintro e w1 ⟨rfl, g1⟩
  have o1 := (Own.fresh w 41 (ndC au A n cap k c who th par nm dir dig sz tg)).new_ g1
  have n1 : New w w1 := ((Fr.refl _ _).alloc _).new_ g1
  clear g1
  go_wp2_with fail
  have N0 : ∀ x, (nw w1 x).cell? ⟨w.heap.size, 0, none⟩ = some (.int .i64 au) := o1.nw 0
  have N1 : ∀ x, (nw w1 x).cell? ⟨w.heap.size, 1, none⟩ = some (.slice A n cap) := o1.nw 1
  have N2 : ∀ x, (nw w1 x).cell? ⟨w.heap.size, 2, none⟩ = some (.int .i64 k) := o1.nw 2
  have N3 : ∀ x, (nw w1 x).cell? ⟨w.heap.size, 3, none⟩ = some (.int .u64 c) := o1.nw 3
  have N4 : ∀ x, (nw w1 x).cell? ⟨w.heap.size, 4, none⟩ = some (.int .i64 who) := o1.nw 4
  have N5 : ∀ x, (nw w1 x).cell? ⟨w.heap.size, 5, none⟩ = some (.int .u64 th) := o1.nw 5
  have N6 : ∀ x, (nw w1 x).cell? ⟨w.heap.size, 6, none⟩ = some (.int .u64 par) := o1.nw 6
  have N7 : ∀ x, (nw w1 x).cell? ⟨w.heap.size, 7, none⟩ = some (.string nm) := o1.nw 7
  have N8 : ∀ x, (nw w1 x).cell? ⟨w.heap.size, 8, none⟩ = some (.bool dir) := o1.nw 8
  have N9 : ∀ x, (nw w1 x).cell? ⟨w.heap.size, 9, none⟩ = some (.string dig) := o1.nw 9
  have N10 : ∀ x, (nw w1 x).cell? ⟨w.heap.size, 10, none⟩ = some (.int .i64 sz) := o1.nw 10
  have N11 : ∀ x, (nw w1 x).cell? ⟨w.heap.size, 11, none⟩ = some (.string tg) := o1.nw 11
  have B1 := fun (x : Nx w1) => Calls.nw_of (HB.out (nw w1 x) ((hsl.new_ n1).new_ (nw_new w1 x)))
  refine wp_region_new_lit (by kernel_rfl) (by kernel_rfl) ?_; (repeat (any_goals (first | go_big_quiet_step ((go_at_call 36; with_reducible exact B1 _)) | quiet_step ((go_at_call 36; with_reducible exact B1 _)) | (refine wpQuiet_step (fun K hK => ?_); go_simp; split <;> (refine hK _ ?_; clear hK K))))); all_goals (refine wpQuiet_nil ?_; intro _ hw'; obtain ⟨xq, hw''⟩ := hw'; subst hw''; have hnq := nw_new _ xq)
  all_goals go_wp2
  all_goals go_ret2
  all_goals exact ⟨rfl, n1.new_ hnq⟩
def SameL (n m : Nat) (V U : Nat → ByteArray) : Prop := n = m ∧ ∀ i, i < n → V i = U i
instance (n m : Nat) (V U : Nat → ByteArray) : Decidable (SameL n m V U) := by unfold SameL; infer_instance
def sameLB (n m : Nat) (V U : Nat → ByteArray) : Bool := decide (SameL n m V U)
set_option maxRecDepth 100000 in
set_option maxHeartbeats 4000000 in
theorem equalS_any (A : Option Addr) (n cap : Nat) (V : Nat → ByteArray) (B : Option Addr) (m cap2 : Nat) (U : Nat → ByteArray) (w : World) (ha : Sl w 1 A n fun i => [.string (V i)]) (hb : Sl w 1 B m fun i => [.string (U i)]) :
    Calls Try.prog 42 #[.slice A n cap, .slice B m cap2] w fun e w' => e = .returned (.bool (sameLB n m V U)) ∧ New w w' := by
  have hn := ha.1
  have hm := hb.1
  unfold maxLen at hn hm
  by_cases e : n = m
  · subst e
    go_enter Try.func42, Try.ntmps42
    go_wp2_with fail
    go_loopw [13] (fun iv wr => ∃ i : Nat, i ≤ n ∧ iv = .int .i64 i ∧ Hid (∀ j, j < i → V j = U j) ∧ New w wr) (fun iv _ => n - (intOf iv).toNat)
    case atStart => exact ⟨0, by omega, rfl, fun i hi => absurd hi (Nat.not_lt_zero i), Fr.refl _ _⟩
    case round =>
      obtain ⟨i, hi, rfl, HR, g⟩ := hrel
      by_cases hlt : i < n
      · have hlt2 : (i : Int) < (n : Int) := by omega
        have hlt0 : (0 : Int) ≤ (i : Int) := by omega
        obtain ⟨sb, so, hA, hc⟩ := (ha.new_ g).2 i hlt
        have hc0 := hc 0 _ rfl
        obtain ⟨sb2, so2, hA2, hc2⟩ := (hb.new_ g).2 i hlt
        have hd0 := hc2 0 _ rfl
        simp only [Nat.mul_one, Nat.add_zero] at hc0 hd0
        have HX : Hid (V i = U i → ∀ j, j < i + 1 → V j = U j) := fun hx j hj => by
          by_cases e : j = i
          · subst e; exact hx
          · exact HR.out j (by omega)
        have HY : Hid (¬ V i = U i → sameLB n n V U = false) := fun hx => decide_eq_false fun e => hx (e.2 i hlt)
        have hbq := beqB (V i) (U i)
        obtain ⟨vi, hvv⟩ : ∃ v, V i = v := ⟨_, rfl⟩
        obtain ⟨ui, huu⟩ : ∃ v, U i = v := ⟨_, rfl⟩
        rw [hvv] at hc0 HX HY hbq
        rw [huu] at hd0 HX HY hbq
        have HAA := Lib.hid hA
        have HBB := Lib.hid hA2
        clear hc hc2 hvv huu
        subst hA hA2
        by_cases hq : vi = ui
        · subst hq
          have HX2 := Lib.hid (HX.out rfl)
          clear hbq HX HY
          go_wp2_with fail
          go_quiet (fail)
          go_wp2_with fail
          go_roundw
          case rel => exact ⟨i + 1, by omega, by go_num, HX2.out, g.drewN nq⟩
          case measure => simp [intOf]; omega
        · rw [decide_eq_false hq] at hbq
          have HY2 := Lib.hid (HY.out hq)
          clear HX HY
          go_wp2_with fail
          go_quiet (fail)
          go_wp2
          go_ret
          exact ⟨ret_bool HY2.out.symm, g.drewN nq⟩
      · have hlt2 : ¬ (i : Int) < (n : Int) := by omega
        obtain rfl : i = n := by omega
        have HB : Hid (sameLB i i V U = true) := decide_eq_true ⟨rfl, HR.out⟩
        go_wp2
        go_ret
        exact ⟨ret_bool HB.out.symm, g⟩
  · have hne : ¬ (n : Int) = (m : Int) := by omega
    have HB : Hid (sameLB n m V U = false) := decide_eq_false fun h => e h.1
    go_enter Try.func42, Try.ntmps42
    go_wp2
    go_ret
    exact ⟨ret_bool HB.out.symm, Fr.refl _ _⟩
set_option maxRecDepth 100000 in
theorem cloneNil_any (w : World) : Calls Try.prog 62 #[.slice none 0 0] w fun e w' => e = .returned (.slice none 0 0) ∧ w = w' := by
  have hnil : ∀ w : World, (binOp .eql 23 (.slice none 0 0) (.slice none 0 0)).run Try.prog w = .ok (.bool true) w := fun w => Lib.run_eql_slice_nil w 23 9 none 0 0 0 0 Try.underlying23
  go_enter Try.func62, Try.ntmps62
  go_wp2
  go_ret
  exact ⟨rfl, rfl⟩
end Go.Proofs.Ytfkbljanmjnefaa
