/- Nodes: which digests may be parents; which nodes may be. -/
import Derived.Test.YtfkbljanmjnefaaOpHash
namespace Go.Proofs.Ytfkbljanmjnefaa
open Go.RowKit
set_option linter.unusedVariables false
set_option linter.unusedSimpArgs false

def ltS (a b : ByteArray) : Bool := Op.bytesLess a.toList b.toList
def RisOk (V : Nat → ByteArray) (n : Nat) : Prop := ∀ i, i < n → (V i).size = 32 ∧ (0 < i → ltS (V (i - 1)) (V i) = true)
instance (V : Nat → ByteArray) (n : Nat) : Decidable (RisOk V n) := by unfold RisOk; infer_instance
def risB (V : Nat → ByteArray) (n : Nat) : Bool := decide (RisOk V n ∧ n ≤ 8)
theorem RisOk.succ {V : Nat → ByteArray} {i : Nat} (h : RisOk V i) (h1 : (V i).size = 32) (h2 : 0 < i → ltS (V (i - 1)) (V i) = true) : RisOk V (i + 1) := by
  intro j hj
  by_cases e : j = i
  · subst e; exact ⟨h1, h2⟩
  · exact h j (by omega)
set_option maxRecDepth 100000 in
set_option maxHeartbeats 2000000 in
theorem rising_any (A : Option Addr) (n cap : Nat) (V : Nat → ByteArray) (w : World) (hsl : Sl w 1 A n fun i => [.string (V i)]) (hV : ∀ j, j < n → (V j).size ≤ maxLen) :
    Calls Try.prog 31 #[.slice A n cap] w fun e w' => e = .returned (.bool (risB V n)) ∧ w = w' := by
  have hn := hsl.1
  unfold maxLen at hn hV
  go_enter Try.func31, Try.ntmps31
  go_wp2_with fail
  go_loop [7] (fun iv => ∃ i : Nat, i ≤ n ∧ iv = .int .i64 i ∧ Hid (RisOk V i)) (fun iv => n - (intOf iv).toNat)
  case atStart => exact ⟨0, by omega, rfl, fun i hi => absurd hi (Nat.not_lt_zero i)⟩
  case round =>
    obtain ⟨i, hi, rfl, HR⟩ := hrel
    by_cases hlt : i < n
    · have hlt2 : (i : Int) < (n : Int) := by omega
      have hvi := hV i hlt
      obtain ⟨sb, so, hA, hc⟩ := hsl.2 i hlt
      have hc0 := hc 0 _ rfl
      simp only [Nat.mul_one, Nat.add_zero] at hc0
      have HN : Hid (∀ (hz : (V i).size = 32) (h2 : 0 < i → ltS (V (i - 1)) (V i) = true), RisOk V (i + 1)) := fun hz h2 => HR.out.succ hz h2
      have HX : Hid (¬ ((V i).size = 32 ∧ (0 < i → ltS (V (i - 1)) (V i) = true)) → risB V n = false) := fun hx => decide_eq_false fun e => hx (e.1 i hlt)
      rcases i with _ | j
      · obtain ⟨vi, hvv⟩ : ∃ v, V 0 = v := ⟨_, rfl⟩
        rw [hvv] at hc0 hvi HN HX
        simp only [Nat.add_zero] at hc0
        have HAA := Lib.hid hA
        clear hc hvv
        subst hA
        by_cases hz : vi.size = 32
        · have hz2 : (vi.size : Int) = 32 := by omega
          go_wp2_with fail
          go_round
          case rel => exact ⟨1, by omega, by go_num, HN.out hz (by omega)⟩
          case measure => simp [intOf]; omega
        · have hz2 : ¬ (vi.size : Int) = 32 := by omega
          have hx := HX.out (fun e => hz e.1)
          have HX2 := Lib.hid hx
          clear hx HX HN
          go_wp2_with fail
          go_ret
          exact ⟨ret_bool HX2.out.symm, rfl⟩
      · obtain ⟨sb2, so2, hA2, hcp⟩ := hsl.2 j (by omega)
        have hcp0 := hcp 0 _ rfl
        simp only [Nat.mul_one, Nat.add_zero] at hcp0
        rw [hA] at hA2
        injection hA2 with hA2
        injection hA2 with e1 e2
        subst e1 e2
        simp only [Nat.add_sub_cancel] at HN HX
        have HL : Hid (∀ b, Op.bytesLess (V j).toList (V (j + 1)).toList = b → ltS (V j) (V (j + 1)) = b) := fun b h => h
        obtain ⟨vi, hvv⟩ : ∃ v, V (j + 1) = v := ⟨_, rfl⟩
        obtain ⟨vp, hvp⟩ : ∃ v, V j = v := ⟨_, rfl⟩
        rw [hvv] at hc0 hvi HN HX HL
        rw [hvp] at hcp0 HN HX HL
        have HAA := Lib.hid hA
        clear hc hcp hvv hvp
        subst hA
        by_cases hz : vi.size = 32
        · have hz2 : (vi.size : Int) = 32 := by omega
          cases hb : Op.bytesLess vp.toList vi.toList
          · have hx := HX.out (fun e => by have := e.2 (by omega); rw [HL.out _ hb] at this; cases this)
            have HX2 := Lib.hid hx
            clear hx HX HN
            go_wp2_with fail
            go_ret
            exact ⟨ret_bool HX2.out.symm, rfl⟩
          · have hn := HN.out hz (fun _ => HL.out _ hb)
            have HN2 := Lib.hid hn
            clear hn HN HX HL
            go_wp2_with fail
            go_round
            case rel => exact ⟨j + 1 + 1, by omega, by go_num, HN2.out⟩
            case measure => simp [intOf]; omega
        · have hz2 : ¬ (vi.size : Int) = 32 := by omega
          have hx := HX.out (fun e => hz e.1)
          have HX2 := Lib.hid hx
          clear hx HX HN
          go_wp2_with fail
          go_ret
          exact ⟨ret_bool HX2.out.symm, rfl⟩
    · have hlt2 : ¬ (i : Int) < (n : Int) := by omega
      obtain rfl : i = n := by omega
      have hb : risB V i = decide (i ≤ 8) := by
        unfold risB
        rw [decide_eq_decide]
        exact ⟨fun e => e.2, fun e => ⟨HR.out, e⟩⟩
      have HB := Lib.hid hb
      clear hb
      go_wp2_with fail
      go_ret
      exact ⟨ret_bool (by rw [HB.out]; (first | (rw [decide_eq_decide]; omega) | (symm; rw [decide_eq_false_iff_not]; omega) | (symm; rw [decide_eq_true_eq]; omega) | (rw [decide_eq_false_iff_not]; omega) | (rw [decide_eq_true_eq]; omega))), rfl⟩
/-- The twelve cells of a node. -/
abbrev ndC (au : Int) (A : Option Addr) (n cap : Nat) (k : Int) (c : Nat) (who : Int) (th par : Nat) (nm : ByteArray) (dir : Bool) (dig : ByteArray) (sz : Int) (tg : ByteArray) : Array Value :=
  #[.int .i64 au, .slice A n cap, .int .i64 k, .int .u64 c, .int .i64 who, .int .u64 th, .int .u64 par, .string nm, .bool dir, .string dig, .int .i64 sz, .string tg]
theorem ndCells {w : World} {b : Nat} {au : Int} {A : Option Addr} {n cap : Nat} {k : Int} {c : Nat} {who : Int} {th par : Nat} {nm : ByteArray} {dir : Bool} {dig : ByteArray} {sz : Int} {tg : ByteArray} (h : Own w b 41 (ndC au A n cap k c who th par nm dir dig sz tg)) :
    w.cell? ⟨b, 0, none⟩ = some (.int .i64 au) ∧ w.cell? ⟨b, 1, none⟩ = some (.slice A n cap) ∧ w.cell? ⟨b, 2, none⟩ = some (.int .i64 k) ∧ w.cell? ⟨b, 3, none⟩ = some (.int .u64 c) ∧ w.cell? ⟨b, 4, none⟩ = some (.int .i64 who) ∧ w.cell? ⟨b, 5, none⟩ = some (.int .u64 th) ∧ w.cell? ⟨b, 6, none⟩ = some (.int .u64 par) ∧
    w.cell? ⟨b, 7, none⟩ = some (.string nm) ∧ w.cell? ⟨b, 8, none⟩ = some (.bool dir) ∧ w.cell? ⟨b, 9, none⟩ = some (.string dig) ∧ w.cell? ⟨b, 10, none⟩ = some (.int .i64 sz) ∧ w.cell? ⟨b, 11, none⟩ = some (.string tg) :=
  ⟨h.cell 0, h.cell 1, h.cell 2, h.cell 3, h.cell 4, h.cell 5, h.cell 6, h.cell 7, h.cell 8, h.cell 9, h.cell 10, h.cell 11⟩
/-- The error of a node. -/
def nodeCheck (au : Int) (V : Nat → ByteArray) (n : Nat) (o : OpV) (tg : ByteArray) : Int :=
  if risB V n = true ∧ tg.size = 32 then (if opCheck o = 0 then (if o.who = au then 0 else 6) else opCheck o) else 6
theorem nodeCheck_zero {au : Int} {V : Nat → ByteArray} {n : Nat} {o : OpV} {tg : ByteArray} : nodeCheck au V n o tg = 0 ↔ RisOk V n ∧ n ≤ 8 ∧ tg.size = 32 ∧ opCheck o = 0 ∧ o.who = au := by
  have hr : risB V n = true ↔ RisOk V n ∧ n ≤ 8 := by unfold risB; exact decide_eq_true_iff
  unfold nodeCheck
  by_cases h1 : risB V n = true ∧ tg.size = 32
  · rw [if_pos h1]
    have h0 := hr.1 h1.1
    by_cases h2 : opCheck o = 0
    · rw [if_pos h2]
      by_cases h3 : o.who = au
      · rw [if_pos h3]; exact ⟨fun _ => ⟨h0.1, h0.2, h1.2, h2, h3⟩, fun _ => rfl⟩
      · rw [if_neg h3]; exact ⟨fun h => by omega, fun h => absurd h.2.2.2.2 h3⟩
    · rw [if_neg h2]; exact ⟨fun h => absurd h h2, fun h => absurd h.2.2.2.1 h2⟩
  · rw [if_neg h1]; exact ⟨fun h => by omega, fun h => absurd ⟨hr.2 ⟨h.1, h.2.1⟩, h.2.2.1⟩ h1⟩
set_option maxRecDepth 100000 in
set_option maxHeartbeats 4000000 in
theorem nodeCheck_any (au : Int) (A : Option Addr) (n cap : Nat) (k : Int) (c : Nat) (who : Int) (th par : Nat) (nm : ByteArray) (dir : Bool) (dig : ByteArray) (sz : Int) (tg : ByteArray) (V : Nat → ByteArray) (w : World) (hsl : Sl w 1 A n fun i => [.string (V i)]) (hV : ∀ j, j < n → (V j).size ≤ maxLen)
    (hb : OpB ⟨k, c, who, th, par, nm, dir, dig, sz⟩) (hs : nm.size ≤ maxLen) (hd : dig.size ≤ maxLen) (ht : tg.size ≤ maxLen) :
    Calls Try.prog 10 #[.agg (ndC au A n cap k c who th par nm dir dig sz tg)] w fun e w' => e = .returned (.int .i64 (nodeCheck au V n ⟨k, c, who, th, par, nm, dir, dig, sz⟩ tg)) ∧ New w w' := by
  have HC := Lib.hid (fun ww => opCheck_any k c who th par nm dir dig sz hb.2.1 hb.2.2 hs hd ww)
  have HR := Lib.hid (fun ww (hh : Sl ww 1 A n fun i => [.string (V i)]) => rising_any A n cap V ww hh hV)
  unfold maxLen at ht
  have hN : nodeCheck au V n ⟨k, c, who, th, par, nm, dir, dig, sz⟩ tg = if risB V n = true ∧ tg.size = 32 then (if opCheck ⟨k, c, who, th, par, nm, dir, dig, sz⟩ = 0 then (if who = au then 0 else 6) else opCheck ⟨k, c, who, th, par, nm, dir, dig, sz⟩) else 6 := rfl
  obtain ⟨r, hr⟩ : ∃ r, risB V n = r := ⟨_, rfl⟩
  obtain ⟨u, hu⟩ : ∃ r, opCheck ⟨k, c, who, th, par, nm, dir, dig, sz⟩ = r := ⟨_, rfl⟩
  obtain ⟨v, hv⟩ : ∃ r, nodeCheck au V n ⟨k, c, who, th, par, nm, dir, dig, sz⟩ tg = r := ⟨_, rfl⟩
  rw [hr] at HR hN
  rw [hu] at HC hN
  rw [hv] at hN ⊢
  have HN := Lib.hid hN
  clear hN hr hu hv hb hs hd hV
  have hcase : (r = true ∧ tg.size = 32 ∧ (tg.size : Int) = 32 ∧ u = 0 ∧ who = au) ∨ (r = true ∧ tg.size = 32 ∧ (tg.size : Int) = 32 ∧ u = 0 ∧ ¬ who = au ∧ (who != au) = true) ∨ (r = true ∧ tg.size = 32 ∧ (tg.size : Int) = 32 ∧ ¬ u = 0 ∧ (u != 0) = true) ∨ (r = true ∧ ¬ tg.size = 32 ∧ ¬ (tg.size : Int) = 32) ∨ r = false := by
    cases r
    · exact .inr (.inr (.inr (.inr rfl)))
    · by_cases h1 : tg.size = 32
      · by_cases h2 : u = 0
        · by_cases h3 : who = au
          · exact .inl ⟨rfl, h1, by omega, h2, h3⟩
          · exact .inr (.inl ⟨rfl, h1, by omega, h2, h3, by rw [bne_iff_ne]; exact h3⟩)
        · exact .inr (.inr (.inl ⟨rfl, h1, by omega, h2, by rw [bne_iff_ne]; exact h2⟩))
      · exact .inr (.inr (.inr (.inl ⟨rfl, h1, by omega⟩)))
  have hs1 := hsl.new_ ((Fr.refl _ w).alloc (.cells (ndC au A n cap k c who th par nm dir dig sz tg) 41))
  rcases hcase with ⟨rfl, t1, t2, rfl, rfl⟩ | ⟨rfl, t1, t2, rfl, t3, t4⟩ | ⟨rfl, t1, t2, t3, t4⟩ | ⟨rfl, t1, t2⟩ | rfl
  case inl =>
    go_enter Try.func10, Try.ntmps10
    go_wp2_with fail
    refine (HR.out _ hs1).mono ?_
    rintro e w1 ⟨rfl, rfl⟩
    go_wp2_with fail
    refine (HC.out _).mono ?_
    rintro e w1 ⟨rfl, g1⟩
    have o1 := (Own.fresh w 41 (ndC _ A n cap k c _ th par nm dir dig sz tg)).new_ g1
    obtain ⟨c0, c1, c2, c3, c4, c5, c6, c7, c8, c9, c10, c11⟩ := ndCells o1
    go_wp2
    go_ret
    exact ⟨ret_int (by rw [HN.out]; simp [t1]), ((Fr.refl _ _).alloc _).new_ g1⟩
  case inr.inl =>
    go_enter Try.func10, Try.ntmps10
    go_wp2_with fail
    refine (HR.out _ hs1).mono ?_
    rintro e w1 ⟨rfl, rfl⟩
    go_wp2_with fail
    refine (HC.out _).mono ?_
    rintro e w1 ⟨rfl, g1⟩
    have o1 := (Own.fresh w 41 (ndC _ A n cap k c _ th par nm dir dig sz tg)).new_ g1
    obtain ⟨c0, c1, c2, c3, c4, c5, c6, c7, c8, c9, c10, c11⟩ := ndCells o1
    go_wp2
    go_ret
    exact ⟨ret_int (by rw [HN.out]; simp [t1, t3]), ((Fr.refl _ _).alloc _).new_ g1⟩
  case inr.inr.inl =>
    go_enter Try.func10, Try.ntmps10
    go_wp2_with fail
    refine (HR.out _ hs1).mono ?_
    rintro e w1 ⟨rfl, rfl⟩
    go_wp2_with fail
    refine (HC.out _).mono ?_
    rintro e w1 ⟨rfl, g1⟩
    go_wp2
    go_ret
    exact ⟨ret_int (by rw [HN.out]; simp [t1, t3]), ((Fr.refl _ _).alloc _).new_ g1⟩
  all_goals
    go_enter Try.func10, Try.ntmps10
    go_wp2_with fail
    refine (HR.out _ hs1).mono ?_
    rintro e w1 ⟨rfl, rfl⟩
    go_wp2
    go_ret
    exact ⟨ret_int (by rw [HN.out]; first | simp [t1] | simp), (Fr.refl _ _).alloc _⟩
end Go.Proofs.Ytfkbljanmjnefaa
