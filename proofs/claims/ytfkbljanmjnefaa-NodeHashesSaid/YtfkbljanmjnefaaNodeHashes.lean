/- Nodes that may be, and are unlike in more than their tags, have unlike digests, unless the digest collides. -/
import Derived.Test.YtfkbljanmjnefaaNodeAwake
namespace Go.Proofs.Ytfkbljanmjnefaa
open Go.RowKit
set_option linter.unusedVariables false
set_option linter.unusedSimpArgs false

theorem parB_inj {V U : Nat → ByteArray} : ∀ n, (∀ i, i < n → (V i).size = 32) → (∀ i, i < n → (U i).size = 32) → parB V n = parB U n → ∀ i, i < n → V i = U i := by
  intro n
  induction n with
  | zero => intro _ _ _ i hi; exact absurd hi (Nat.not_lt_zero i)
  | succ n ih =>
    intro hv hu he i hi
    unfold parB at he
    obtain ⟨h1, h2⟩ := ba_inj he (by rw [parB_size, parB_size])
    by_cases e : i = n
    · subst e
      rw [hashB_self (hv i (by omega)), hashB_self (hu i (by omega))] at h2
      exact h2
    · exact ih (fun j hj => hv j (by omega)) (fun j hj => hu j (by omega)) h1 i (by omega)
theorem parB_congr {V U : Nat → ByteArray} : ∀ n, (∀ i, i < n → V i = U i) → parB V n = parB U n := by
  intro n
  induction n with
  | zero => intro _; rfl
  | succ n ih => intro h; unfold parB; rw [ih fun i hi => h i (by omega), h n (by omega)]
theorem bodyB_iff {au au' : Int} {n n' : Nat} {V V' : Nat → ByteArray} {o o' : OpV} {tg tg' : ByteArray} (hb : OpB o) (hb' : OpB o') (hc : nodeCheck au V n o tg = 0) (hc' : nodeCheck au' V' n' o' tg' = 0) :
    bodyB au V n o = bodyB au' V' n' o' ↔ au = au' ∧ SameL n n' V V' ∧ o = o' := by
  obtain ⟨f1, f2, f3, f4, f5⟩ := nodeFit hb hc
  obtain ⟨g1, g2, g3, g4, g5⟩ := nodeFit hb' hc'
  have c1 := nodeCheck_zero.1 hc
  have c2 := nodeCheck_zero.1 hc'
  constructor
  · intro h
    unfold bodyB at h
    simp only [ByteArray.append_assoc] at h
    obtain ⟨h1, h2⟩ := ba_inj h (by simp only [numB_size])
    obtain ⟨h2, h3⟩ := ba_inj h2 (by simp only [numB_size])
    have e1 := numB_inj (by rw [pow1]; omega) (by rw [pow1]; omega) h1
    have e2 := numB_inj (by rw [pow1]; omega) (by rw [pow1]; omega) h2
    subst e2
    obtain ⟨h3, h4⟩ := ba_inj h3 (by rw [parB_size, parB_size])
    have o1 := opCheck_zero.1 c1.2.2.2.1
    have o2 := opCheck_zero.1 c2.2.2.2.1
    exact ⟨by omega, ⟨rfl, parB_inj n (fun i hi => (c1.1 i hi).1) (fun i hi => (c2.1 i hi).1) h3⟩, opB_inj o1.1 o1.2 o2.1 o2.2 hb hb' h4⟩
  · rintro ⟨rfl, ⟨rfl, h⟩, rfl⟩
    unfold bodyB
    rw [parB_congr n h]
set_option maxRecDepth 100000 in
set_option maxHeartbeats 8000000 in
theorem nodeSame_ex (au : Int) (A : Option Addr) (n cap : Nat) (k : Int) (c : Nat) (who : Int) (th par : Nat) (nm : ByteArray) (dir : Bool) (dig : ByteArray) (sz : Int) (tg : ByteArray) (V : Nat → ByteArray) (au' : Int) (A' : Option Addr) (n' cap' : Nat) (k' : Int) (c' : Nat) (who' : Int) (th' par' : Nat) (nm' : ByteArray) (dir' : Bool) (dig' : ByteArray) (sz' : Int) (tg' : ByteArray) (V' : Nat → ByteArray) (ha : OpW ⟨k, c, who, th, par, nm, dir, dig, sz⟩) (hb : OpW ⟨k', c', who', th', par', nm', dir', dig', sz'⟩) :
    ∃ r : Bool, (r = true ↔ au = au' ∧ SameL n n' V V' ∧ OpV.mk k c who th par nm dir dig sz = OpV.mk k' c' who' th' par' nm' dir' dig' sz' ∧ tg = tg') ∧
      ∀ w, (Sl w 1 A n fun i => [.string (V i)]) → (Sl w 1 A' n' fun i => [.string (V' i)]) → Calls Try.prog 15 #[.agg (ndC au A n cap k c who th par nm dir dig sz tg), .agg (ndC au' A' n' cap' k' c' who' th' par' nm' dir' dig' sz' tg')] w fun e w' => e = .returned (.bool r) ∧ New w w' := by
  have hEQ : ∃ ro : Bool, (ro = true ↔ OpV.mk k c who th par nm dir dig sz = OpV.mk k' c' who' th' par' nm' dir' dig' sz') ∧ ∀ w, (Op.equalIn 10000 39 (.agg (OpV.mk k c who th par nm dir dig sz).cells) (.agg (OpV.mk k' c' who' th' par' nm' dir' dig' sz').cells)).run Try.prog w = .ok ro w := by
    by_cases e : OpV.mk k c who th par nm dir dig sz = OpV.mk k' c' who' th' par' nm' dir' dig' sz'
    · exact ⟨true, ⟨fun _ => e, fun _ => rfl⟩, fun w => by have := eqOp_same _ ha w; rw [← e]; exact this⟩
    · exact ⟨false, ⟨fun h => (by cases h), fun h => absurd h e⟩, eqOp_ne _ _ ha hb e⟩
  obtain ⟨ro, hro, heq⟩ := hEQ
  have hrs : sameLB n n' V V' = true ↔ SameL n n' V V' := decide_eq_true_iff
  have HE : Hid (∀ ww, (Sl ww 1 A n fun i => [.string (V i)]) → (Sl ww 1 A' n' fun i => [.string (V' i)]) → Calls Try.prog 42 #[.slice A n cap, .slice A' n' cap'] ww fun e w' => e = .returned (.bool (sameLB n n' V V')) ∧ New ww w') :=
    fun ww h1 h2 => equalS_any A n cap V A' n' cap' V' ww h1 h2
  obtain ⟨rs, hrs'⟩ : ∃ rs, sameLB n n' V V' = rs := ⟨_, rfl⟩
  rw [hrs'] at hrs HE
  have hbt := beqB tg tg'
  refine ⟨decide (au = au') && rs && ro && (tg.toList == tg'.toList), ?_, ?_⟩
  · rw [hbt, Bool.and_eq_true, Bool.and_eq_true, Bool.and_eq_true, decide_eq_true_eq, decide_eq_true_eq, hro, hrs]
    exact ⟨fun ⟨⟨⟨h1, h2⟩, h3⟩, h4⟩ => ⟨h1, h2, h3, h4⟩, fun ⟨h1, h2, h3, h4⟩ => ⟨⟨⟨h1, h2⟩, h3⟩, h4⟩⟩
  · intro w hs1 hs2
    clear hro hrs hrs' hbt ha hb
    have HQ := Lib.hid heq
    clear heq
    have hn1 : New w ((w.alloc (.cells (ndC au A n cap k c who th par nm dir dig sz tg) 41)).alloc (.cells (ndC au' A' n' cap' k' c' who' th' par' nm' dir' dig' sz' tg') 41)) := ((Fr.refl _ _).alloc _).alloc _
    by_cases e : au = au'
    · subst e
      rw [show decide (au = au) = true from decide_eq_true rfl]
      have heq := HQ.out
      cases rs <;> cases ro
      all_goals
        go_enter Try.func15, Try.ntmps15
        go_wp2_with fail
        refine (HE.out _ (hs1.new_ hn1) (hs2.new_ hn1)).mono ?_
        rintro e w1 ⟨rfl, g1⟩
        have o1 := ((Own.fresh w 41 (ndC au A n cap k c who th par nm dir dig sz tg)).alloc (.cells (ndC au A' n' cap' k' c' who' th' par' nm' dir' dig' sz' tg') 41)).new_ g1
        have p1 := (Own.new' (b := w.heap.size + 1) (cs := (ndC au A' n' cap' k' c' who' th' par' nm' dir' dig' sz' tg')) (t := 41) (w := w.alloc (.cells (ndC au A n cap k c who th par nm dir dig sz tg) 41)) (by simp)).new_ g1
        obtain ⟨c0, c1, c2, c3, c4, c5, c6, c7, c8, c9, c10, c11⟩ := ndCells o1
        obtain ⟨x0, x1, x2, x3, x4, x5, x6, x7, x8, x9, x10, x11⟩ := ndCells p1
        go_wp2
        go_ret
        exact ⟨by simp, hn1.new_ g1⟩
    · rw [show decide (au = au') = false from decide_eq_false e]
      have heb : (au == au') = false := by rw [beq_eq_false_iff_ne]; exact e
      go_enter Try.func15, Try.ntmps15
      go_wp2
      go_ret
      exact ⟨by simp, hn1⟩
set_option maxRecDepth 100000 in
set_option maxHeartbeats 8000000 in
theorem nodeHashes_bad (au : Int) (A : Option Addr) (n cap : Nat) (k : Int) (c : Nat) (who : Int) (th par : Nat) (nm : ByteArray) (dir : Bool) (dig : ByteArray) (sz : Int) (tg : ByteArray) (V : Nat → ByteArray) (au' : Int) (A' : Option Addr) (n' cap' : Nat) (k' : Int) (c' : Nat) (who' : Int) (th' par' : Nat) (nm' : ByteArray) (dir' : Bool) (dig' : ByteArray) (sz' : Int) (tg' : ByteArray) (V' : Nat → ByteArray) {w : World} (hs1 : Sl w 1 A n fun i => [.string (V i)]) (hs2 : Sl w 1 A' n' fun i => [.string (V' i)]) (hV : ∀ j, j < n → (V j).size ≤ maxLen) (hV' : ∀ j, j < n' → (V' j).size ≤ maxLen)
    (ha : OpW ⟨k, c, who, th, par, nm, dir, dig, sz⟩) (hb : OpW ⟨k', c', who', th', par', nm', dir', dig', sz'⟩) (ba : OpB ⟨k, c, who, th, par, nm, dir, dig, sz⟩) (bb : OpB ⟨k', c', who', th', par', nm', dir', dig', sz'⟩) (ht : tg.size ≤ maxLen) (ht' : tg'.size ≤ maxLen) (hz : ¬ (nodeCheck au V n ⟨k, c, who, th, par, nm, dir, dig, sz⟩ tg = 0 ∧ nodeCheck au' V' n' ⟨k', c', who', th', par', nm', dir', dig', sz'⟩ tg' = 0)) :
    Calls Try.prog 5 #[.agg (ndC au A n cap k c who th par nm dir dig sz tg), .agg (ndC au' A' n' cap' k' c' who' th' par' nm' dir' dig' sz' tg')] w fun e w' => e = .returned (.bool true) ∧ New w w' := by
  have HA := Lib.hid (fun ww (hh : Sl ww 1 A n fun i => [.string (V i)]) => nodeCheck_any au A n cap k c who th par nm dir dig sz tg V ww hh hV ba ha.2.2.2.2.2.2.1 ha.2.2.2.2.2.2.2 ht)
  have HB := Lib.hid (fun ww (hh : Sl ww 1 A' n' fun i => [.string (V' i)]) => nodeCheck_any au' A' n' cap' k' c' who' th' par' nm' dir' dig' sz' tg' V' ww hh hV' bb hb.2.2.2.2.2.2.1 hb.2.2.2.2.2.2.2 ht')
  obtain ⟨u, hu⟩ : ∃ v, nodeCheck au V n ⟨k, c, who, th, par, nm, dir, dig, sz⟩ tg = v := ⟨_, rfl⟩
  obtain ⟨v, hv⟩ : ∃ v, nodeCheck au' V' n' ⟨k', c', who', th', par', nm', dir', dig', sz'⟩ tg' = v := ⟨_, rfl⟩
  rw [hu] at HA hz
  rw [hv] at HB hz
  have hc : (u != 0) = true ∨ (u = 0 ∧ (v != 0) = true) := by
    by_cases e : u = 0
    · exact .inr ⟨e, by rw [bne_iff_ne]; exact fun e' => hz ⟨e, e'⟩⟩
    · exact .inl (by rw [bne_iff_ne]; exact e)
  clear hz hu hv ha hb ba bb hV hV' ht ht'
  rcases hc with hc | ⟨rfl, hc⟩
  · go_enter Try.func5, Try.ntmps5
    go_wp2_with fail
    refine calls_world (fun W => Own W w.heap.size 41 (ndC au A n cap k c who th par nm dir dig sz tg) ∧ Own W (w.heap.size + 1) 41 (ndC au' A' n' cap' k' c' who' th' par' nm' dir' dig' sz' tg') ∧ New w W) ⟨(Own.fresh w _ _).alloc _, Own.new' (by simp), ((Fr.refl _ _).alloc _).alloc _⟩ ?_
    rintro w1 ⟨o1, p1, n1⟩
    refine (HA.out _ (hs1.new_ n1)).mono ?_
    rintro e w2 ⟨rfl, g2⟩
    have o2 := o1.new_ g2
    have p2 := p1.new_ g2
    have n2 := n1.new_ g2
    clear o1 p1 n1 g2
    obtain ⟨c0, c1, c2, c3, c4, c5, c6, c7, c8, c9, c10, c11⟩ := ndCells o2
    obtain ⟨x0, x1, x2, x3, x4, x5, x6, x7, x8, x9, x10, x11⟩ := ndCells p2
    go_wp2_with fail
    refine (awake11_any _).mono ?_
    rintro e w3 ⟨rfl, g3⟩
    go_wp2
    go_ret
    exact ⟨rfl, n2.new_ g3⟩
  · go_enter Try.func5, Try.ntmps5
    go_wp2_with fail
    refine calls_world (fun W => Own W w.heap.size 41 (ndC au A n cap k c who th par nm dir dig sz tg) ∧ Own W (w.heap.size + 1) 41 (ndC au' A' n' cap' k' c' who' th' par' nm' dir' dig' sz' tg') ∧ New w W) ⟨(Own.fresh w _ _).alloc _, Own.new' (by simp), ((Fr.refl _ _).alloc _).alloc _⟩ ?_
    rintro w1 ⟨o1, p1, n1⟩
    refine (HA.out _ (hs1.new_ n1)).mono ?_
    rintro e w2 ⟨rfl, g2⟩
    have o2 := o1.new_ g2
    have p2 := p1.new_ g2
    have n2 := n1.new_ g2
    clear o1 p1 n1 g2
    obtain ⟨c0, c1, c2, c3, c4, c5, c6, c7, c8, c9, c10, c11⟩ := ndCells o2
    obtain ⟨x0, x1, x2, x3, x4, x5, x6, x7, x8, x9, x10, x11⟩ := ndCells p2
    go_wp2_with fail
    refine (HB.out _ (hs2.new_ n2)).mono ?_
    rintro e w3 ⟨rfl, g3⟩
    go_wp2_with fail
    refine (awake11_any _).mono ?_
    rintro e w4 ⟨rfl, g4⟩
    go_wp2
    go_ret
    exact ⟨rfl, (n2.new_ g3).new_ g4⟩
theorem cut_tag (P tg : ByteArray) (h : tg.size = 32) : (P ++ tg).extract 0 ((P ++ tg).size - 32) = P := by
  have e : (P ++ tg).size - 32 = P.size := by rw [ByteArray.size_append, h]; omega
  rw [e]
  have := extract_mid .empty P tg 0 P.size rfl (by simp)
  rw [opEmpty_app] at this
  exact this
set_option maxRecDepth 100000 in
set_option maxHeartbeats 16000000 in
theorem nodeHashes_good (au : Int) (A : Option Addr) (n cap : Nat) (k : Int) (c : Nat) (who : Int) (th par : Nat) (nm : ByteArray) (dir : Bool) (dig : ByteArray) (sz : Int) (tg : ByteArray) (V : Nat → ByteArray) (au' : Int) (A' : Option Addr) (n' cap' : Nat) (k' : Int) (c' : Nat) (who' : Int) (th' par' : Nat) (nm' : ByteArray) (dir' : Bool) (dig' : ByteArray) (sz' : Int) (tg' : ByteArray) (V' : Nat → ByteArray) {w : World} (hs1 : Sl w 1 A n fun i => [.string (V i)]) (hs2 : Sl w 1 A' n' fun i => [.string (V' i)]) (hV : ∀ j, j < n → (V j).size ≤ maxLen) (hV' : ∀ j, j < n' → (V' j).size ≤ maxLen)
    (ha : OpW ⟨k, c, who, th, par, nm, dir, dig, sz⟩) (hb : OpW ⟨k', c', who', th', par', nm', dir', dig', sz'⟩) (ba : OpB ⟨k, c, who, th, par, nm, dir, dig, sz⟩) (bb : OpB ⟨k', c', who', th', par', nm', dir', dig', sz'⟩) (ht : tg.size ≤ maxLen) (ht' : tg'.size ≤ maxLen) (hz : nodeCheck au V n ⟨k, c, who, th, par, nm, dir, dig, sz⟩ tg = 0) (hz' : nodeCheck au' V' n' ⟨k', c', who', th', par', nm', dir', dig', sz'⟩ tg' = 0) :
    Calls Try.prog 5 #[.agg (ndC au A n cap k c who th par nm dir dig sz tg), .agg (ndC au' A' n' cap' k' c' who' th' par' nm' dir' dig' sz' tg')] w fun e w' => e = .returned (.bool true) ∧ New w w' := by
  have HA := Lib.hid (fun ww (hh : Sl ww 1 A n fun i => [.string (V i)]) => nodeCheck_any au A n cap k c who th par nm dir dig sz tg V ww hh hV ba ha.2.2.2.2.2.2.1 ha.2.2.2.2.2.2.2 ht)
  have HB := Lib.hid (fun ww (hh : Sl ww 1 A' n' fun i => [.string (V' i)]) => nodeCheck_any au' A' n' cap' k' c' who' th' par' nm' dir' dig' sz' tg' V' ww hh hV' bb hb.2.2.2.2.2.2.1 hb.2.2.2.2.2.2.2 ht')
  rw [hz] at HA
  rw [hz'] at HB
  obtain ⟨f1, f2, f3, f4, f5⟩ := nodeFit ba hz
  obtain ⟨g1, g2, g3, g4, g5⟩ := nodeFit bb hz'
  have hiff := bodyB_iff ba bb hz hz'
  have t32 := (nodeCheck_zero.1 hz).2.2.1
  have t32' := (nodeCheck_zero.1 hz').2.2.1
  have EA := Lib.hid (fun ww (hh : Sl ww 1 A n fun i => [.string (V i)]) => nodeEncode_yes au A n cap k c who th par nm dir dig sz tg V ww hh f1 f2 f3 f4 f5 ba ht hz)
  have EB := Lib.hid (fun ww (hh : Sl ww 1 A' n' fun i => [.string (V' i)]) => nodeEncode_yes au' A' n' cap' k' c' who' th' par' nm' dir' dig' sz' tg' V' ww hh g1 g2 g3 g4 g5 bb ht' hz')
  have HHA := Lib.hid (fun ww (hh : Sl ww 1 A n fun i => [.string (V i)]) => nodeHash_any au A n cap k c who th par nm dir dig sz tg V ww hh f1 f2 f3 f4 f5)
  have HHB := Lib.hid (fun ww (hh : Sl ww 1 A' n' fun i => [.string (V' i)]) => nodeHash_any au' A' n' cap' k' c' who' th' par' nm' dir' dig' sz' tg' V' ww hh g1 g2 g3 g4 g5)
  have hP := bodyB_size au V n ⟨k, c, who, th, par, nm, dir, dig, sz⟩ f5 f3
  have hQ := bodyB_size au' V' n' ⟨k', c', who', th', par', nm', dir', dig', sz'⟩ g5 g3
  obtain ⟨r, hr, hS⟩ := nodeSame_ex au A n cap k c who th par nm dir dig sz tg V au' A' n' cap' k' c' who' th' par' nm' dir' dig' sz' tg V' ha hb
  have hrb : r = decide (bodyB au V n ⟨k, c, who, th, par, nm, dir, dig, sz⟩ = bodyB au' V' n' ⟨k', c', who', th', par', nm', dir', dig', sz'⟩) := by
    rw [Bool.eq_iff_iff, hr, decide_eq_true_eq, hiff]
    exact ⟨fun h => ⟨h.1, h.2.1, h.2.2.1⟩, fun h => ⟨h.1, h.2.1, h.2.2, rfl⟩⟩
  subst hrb
  have HS := Lib.hid hS
  have hna : nodeHash au V n ⟨k, c, who, th, par, nm, dir, dig, sz⟩ = tag1 68 (bodyB au V n ⟨k, c, who, th, par, nm, dir, dig, sz⟩) := rfl
  have hnb : nodeHash au' V' n' ⟨k', c', who', th', par', nm', dir', dig', sz'⟩ = tag1 68 (bodyB au' V' n' ⟨k', c', who', th', par', nm', dir', dig', sz'⟩) := rfl
  rw [hna] at HHA
  rw [hnb] at HHB
  obtain ⟨P, hPP⟩ : ∃ s, bodyB au V n ⟨k, c, who, th, par, nm, dir, dig, sz⟩ = s := ⟨_, rfl⟩
  obtain ⟨Q, hQQ⟩ : ∃ s, bodyB au' V' n' ⟨k', c', who', th', par', nm', dir', dig', sz'⟩ = s := ⟨_, rfl⟩
  rw [hPP] at EA HHA HS hP
  rw [hQQ] at EB HHB HS hQ
  have cX := cut_tag P tg t32
  have cY := cut_tag Q tg' t32'
  have sX : (P ++ tg).size = P.size + 32 := by rw [ByteArray.size_append, t32]
  have sY : (Q ++ tg').size = Q.size + 32 := by rw [ByteArray.size_append, t32']
  obtain ⟨X, hX⟩ : ∃ X, P ++ tg = X := ⟨_, rfl⟩
  obtain ⟨Y, hY⟩ : ∃ X, Q ++ tg' = X := ⟨_, rfl⟩
  rw [hX] at EA cX sX
  rw [hY] at EB cY sY
  have i1 : (32 : Int) ≤ (X.size : Int) := by omega
  have i2 : (32 : Int) ≤ (Y.size : Int) := by omega
  have i3 : (X.size : Int) ≤ 100000 := by omega
  have i4 : (Y.size : Int) ≤ 100000 := by omega
  clear hS hr hiff hX hY hPP hQQ hna hnb f1 f2 f3 f4 f5 g1 g2 g3 g4 g5 ha hb ba bb hV hV' ht ht' t32 t32' hz hz' sX sY
  have HCX := Lib.hid cX
  have HCY := Lib.hid cY
  clear cX cY
  have hc1 := beqB P Q
  have hc2 := beqB (tag1 68 P) (tag1 68 Q)
  have TX := Lib.hid (fun ww b hh => tag1_any (W := ww) (b := b) 68 P (by omega) hh)
  have TY := Lib.hid (fun ww b hh => tag1_any (W := ww) (b := b) 68 Q (by omega) hh)
  have hcase : P = Q ∨ (¬ P = Q ∧ (P.toList == Q.toList) = false ∧ tag1 68 P = tag1 68 Q) ∨ (¬ P = Q ∧ (P.toList == Q.toList) = false ∧ ((tag1 68 P).toList == (tag1 68 Q).toList) = false) := by
    by_cases e : P = Q
    · exact .inl e
    · by_cases e2 : tag1 68 P = tag1 68 Q
      · exact .inr (.inl ⟨e, by rw [hc1]; exact decide_eq_false e, e2⟩)
      · exact .inr (.inr ⟨e, by rw [hc1]; exact decide_eq_false e, by rw [hc2]; exact decide_eq_false e2⟩)
  clear hc1 hc2
  rcases hcase with e | ⟨hne, hnb, he⟩ | ⟨hne, hnb, hnt⟩
  · rw [show decide (P = Q) = true from decide_eq_true e] at HS
    subst e
    go_enter Try.func5, Try.ntmps5
    go_wp2_with fail
    refine calls_world (fun W => Own W w.heap.size 41 (ndC au A n cap k c who th par nm dir dig sz tg) ∧ Own W (w.heap.size + 1) 41 (ndC au' A' n' cap' k' c' who' th' par' nm' dir' dig' sz' tg') ∧ New w W) ⟨(Own.fresh w _ _).alloc _, Own.new' (by simp), ((Fr.refl _ _).alloc _).alloc _⟩ ?_
    rintro w1 ⟨o1, p1, n1⟩
    refine (HA.out _ (hs1.new_ n1)).mono ?_
    rintro e w2 ⟨rfl, g2⟩
    have o2 := o1.new_ g2
    have p2 := p1.new_ g2
    have n2 := n1.new_ g2
    clear o1 p1 n1 g2
    obtain ⟨c0, c1, c2, c3, c4, c5, c6, c7, c8, c9, c10, c11⟩ := ndCells o2
    obtain ⟨x0, x1, x2, x3, x4, x5, x6, x7, x8, x9, x10, x11⟩ := ndCells p2
    go_wp2_with fail
    refine (HB.out _ (hs2.new_ n2)).mono ?_
    rintro e w3 ⟨rfl, g3⟩
    have o3 := o2.new_ g3
    have p3 := p2.new_ g3
    have n3 := n2.new_ g3
    clear o2 p2 n2 g3 c0 c1 c2 c3 c4 c5 c6 c7 c8 c9 c10 c11 x0 x1 x2 x3 x4 x5 x6 x7 x8 x9 x10 x11
    obtain ⟨c0, c1, c2, c3, c4, c5, c6, c7, c8, c9, c10, c11⟩ := ndCells o3
    obtain ⟨x0, x1, x2, x3, x4, x5, x6, x7, x8, x9, x10, x11⟩ := ndCells p3
    go_wp2_with fail
    refine (EA.out _ (hs1.new_ n3)).mono ?_
    rintro e w4 ⟨rfl, g4⟩
    have o4 := o3.new_ g4
    have p4 := p3.new_ g4
    have n4 := n3.new_ g4
    clear o3 p3 n3 g4 c0 c1 c2 c3 c4 c5 c6 c7 c8 c9 c10 c11 x0 x1 x2 x3 x4 x5 x6 x7 x8 x9 x10 x11
    obtain ⟨c0, c1, c2, c3, c4, c5, c6, c7, c8, c9, c10, c11⟩ := ndCells o4
    obtain ⟨x0, x1, x2, x3, x4, x5, x6, x7, x8, x9, x10, x11⟩ := ndCells p4
    go_wp2_with fail
    refine (EB.out _ (hs2.new_ n4)).mono ?_
    rintro e w5 ⟨rfl, g5⟩
    have o5 := o4.new_ g5
    have p5 := p4.new_ g5
    have n5 := n4.new_ g5
    clear o4 p4 n4 g5 c0 c1 c2 c3 c4 c5 c6 c7 c8 c9 c10 c11 x0 x1 x2 x3 x4 x5 x6 x7 x8 x9 x10 x11
    obtain ⟨c0, c1, c2, c3, c4, c5, c6, c7, c8, c9, c10, c11⟩ := ndCells o5
    obtain ⟨x0, x1, x2, x3, x4, x5, x6, x7, x8, x9, x10, x11⟩ := ndCells p5
    go_wp2_with fail
    go_quiet (fail)
    rw [HCX.out, HCY.out]
    have o5d := o5.drewN nq
    have p5d := p5.drewN nq
    have n5d := n5.drewN nq
    obtain ⟨w5d, hw5⟩ : ∃ x, w5.drewN nq = x := ⟨_, rfl⟩
    rw [hw5] at o5d p5d n5d ⊢
    clear hw5 o5 p5 n5 c0 c1 c2 c3 c4 c5 c6 c7 c8 c9 c10 c11 x0 x1 x2 x3 x4 x5 x6 x7 x8 x9 x10 x11
    obtain ⟨c0, c1, c2, c3, c4, c5, c6, c7, c8, c9, c10, c11⟩ := ndCells o5d
    obtain ⟨x0, x1, x2, x3, x4, x5, x6, x7, x8, x9, x10, x11⟩ := ndCells p5d
    have l5 := o5d.lt
    have l6 := p5d.lt
    go_wp2_with fail
    refine wp_world (fun W => Own W w.heap.size 41 (ndC au A n cap k c who th par nm dir dig sz tg) ∧ Own W (w.heap.size + 1) 41 (ndC au' A' n' cap' k' c' who' th' par' nm' dir' dig' sz' tg') ∧ Own W w5d.heap.size 41 (ndC au' A' n' cap' k' c' who' th' par' nm' dir' dig' sz' tg) ∧ New w W) ⟨o5d.alloc _, p5d.alloc _, Own.new' (by simp), n5d.alloc _⟩ ?_
    clear c0 c1 c2 c3 c4 c5 c6 c7 c8 c9 c10 c11 x0 x1 x2 x3 x4 x5 x6 x7 x8 x9 x10 x11 o5d p5d n5d
    rintro w6 ⟨o6, p6, q6, n6⟩
    have N0 : ∀ x, (nw w6 x).cell? ⟨w.heap.size, 0, none⟩ = some (.int .i64 au) := o6.nw 0
    have N1 : ∀ x, (nw w6 x).cell? ⟨w.heap.size, 1, none⟩ = some (.slice A n cap) := o6.nw 1
    have N2 : ∀ x, (nw w6 x).cell? ⟨w.heap.size, 2, none⟩ = some (.int .i64 k) := o6.nw 2
    have N3 : ∀ x, (nw w6 x).cell? ⟨w.heap.size, 3, none⟩ = some (.int .u64 c) := o6.nw 3
    have N4 : ∀ x, (nw w6 x).cell? ⟨w.heap.size, 4, none⟩ = some (.int .i64 who) := o6.nw 4
    have N5 : ∀ x, (nw w6 x).cell? ⟨w.heap.size, 5, none⟩ = some (.int .u64 th) := o6.nw 5
    have N6 : ∀ x, (nw w6 x).cell? ⟨w.heap.size, 6, none⟩ = some (.int .u64 par) := o6.nw 6
    have N7 : ∀ x, (nw w6 x).cell? ⟨w.heap.size, 7, none⟩ = some (.string nm) := o6.nw 7
    have N8 : ∀ x, (nw w6 x).cell? ⟨w.heap.size, 8, none⟩ = some (.bool dir) := o6.nw 8
    have N9 : ∀ x, (nw w6 x).cell? ⟨w.heap.size, 9, none⟩ = some (.string dig) := o6.nw 9
    have N10 : ∀ x, (nw w6 x).cell? ⟨w.heap.size, 10, none⟩ = some (.int .i64 sz) := o6.nw 10
    have N11 : ∀ x, (nw w6 x).cell? ⟨w.heap.size, 11, none⟩ = some (.string tg) := o6.nw 11
    have M0 : ∀ x, (nw w6 x).cell? ⟨w.heap.size + 1, 0, none⟩ = some (.int .i64 au') := p6.nw 0
    have M1 : ∀ x, (nw w6 x).cell? ⟨w.heap.size + 1, 1, none⟩ = some (.slice A' n' cap') := p6.nw 1
    have M2 : ∀ x, (nw w6 x).cell? ⟨w.heap.size + 1, 2, none⟩ = some (.int .i64 k') := p6.nw 2
    have M3 : ∀ x, (nw w6 x).cell? ⟨w.heap.size + 1, 3, none⟩ = some (.int .u64 c') := p6.nw 3
    have M4 : ∀ x, (nw w6 x).cell? ⟨w.heap.size + 1, 4, none⟩ = some (.int .i64 who') := p6.nw 4
    have M5 : ∀ x, (nw w6 x).cell? ⟨w.heap.size + 1, 5, none⟩ = some (.int .u64 th') := p6.nw 5
    have M6 : ∀ x, (nw w6 x).cell? ⟨w.heap.size + 1, 6, none⟩ = some (.int .u64 par') := p6.nw 6
    have M7 : ∀ x, (nw w6 x).cell? ⟨w.heap.size + 1, 7, none⟩ = some (.string nm') := p6.nw 7
    have M8 : ∀ x, (nw w6 x).cell? ⟨w.heap.size + 1, 8, none⟩ = some (.bool dir') := p6.nw 8
    have M9 : ∀ x, (nw w6 x).cell? ⟨w.heap.size + 1, 9, none⟩ = some (.string dig') := p6.nw 9
    have M10 : ∀ x, (nw w6 x).cell? ⟨w.heap.size + 1, 10, none⟩ = some (.int .i64 sz') := p6.nw 10
    have M11 : ∀ x, (nw w6 x).cell? ⟨w.heap.size + 1, 11, none⟩ = some (.string tg') := p6.nw 11
    have L0 : ∀ x, (nw w6 x).cell? ⟨w5d.heap.size, 0, none⟩ = some (.int .i64 au') := q6.nw 0
    have L1 : ∀ x, (nw w6 x).cell? ⟨w5d.heap.size, 1, none⟩ = some (.slice A' n' cap') := q6.nw 1
    have L2 : ∀ x, (nw w6 x).cell? ⟨w5d.heap.size, 2, none⟩ = some (.int .i64 k') := q6.nw 2
    have L3 : ∀ x, (nw w6 x).cell? ⟨w5d.heap.size, 3, none⟩ = some (.int .u64 c') := q6.nw 3
    have L4 : ∀ x, (nw w6 x).cell? ⟨w5d.heap.size, 4, none⟩ = some (.int .i64 who') := q6.nw 4
    have L5 : ∀ x, (nw w6 x).cell? ⟨w5d.heap.size, 5, none⟩ = some (.int .u64 th') := q6.nw 5
    have L6 : ∀ x, (nw w6 x).cell? ⟨w5d.heap.size, 6, none⟩ = some (.int .u64 par') := q6.nw 6
    have L7 : ∀ x, (nw w6 x).cell? ⟨w5d.heap.size, 7, none⟩ = some (.string nm') := q6.nw 7
    have L8 : ∀ x, (nw w6 x).cell? ⟨w5d.heap.size, 8, none⟩ = some (.bool dir') := q6.nw 8
    have L9 : ∀ x, (nw w6 x).cell? ⟨w5d.heap.size, 9, none⟩ = some (.string dig') := q6.nw 9
    have L10 : ∀ x, (nw w6 x).cell? ⟨w5d.heap.size, 10, none⟩ = some (.int .i64 sz') := q6.nw 10
    have L11 : ∀ x, (nw w6 x).cell? ⟨w5d.heap.size, 11, none⟩ = some (.string tg) := q6.nw 11
    have AW := fun (x : Nx w6) => Calls.nw_of (awake11_any (nw w6 x))
    have H1 := fun (x : Nx w6) => Calls.nw_of (HHA.out (nw w6 x) (hs1.new_ (n6.new_ (nw_new w6 x))))
    have H2 := fun (x : Nx w6) => Calls.nw_of (HHB.out (nw w6 x) (hs2.new_ (n6.new_ (nw_new w6 x))))
    have S1 := fun (x : Nx w6) => Calls.nw_of (HS.out (nw w6 x) (hs1.new_ (n6.new_ (nw_new w6 x))) (hs2.new_ (n6.new_ (nw_new w6 x))))
    refine wp_region_new_lit (by kernel_rfl) (by kernel_rfl) ?_; (repeat (any_goals (first | go_big_quiet_step ((first | (go_at_call 11; with_reducible exact AW _) | (go_at_call 14; with_reducible exact H1 _) | (go_at_call 14; with_reducible exact H2 _) | (go_at_call 15; with_reducible exact S1 _))) | quiet_step ((first | (go_at_call 11; with_reducible exact AW _) | (go_at_call 14; with_reducible exact H1 _) | (go_at_call 14; with_reducible exact H2 _) | (go_at_call 15; with_reducible exact S1 _))) | (refine wpQuiet_step (fun K hK => ?_); go_simp; split <;> (refine hK _ ?_; clear hK K))))); all_goals (refine wpQuiet_nil ?_; intro _ hw'; obtain ⟨xq, hw''⟩ := hw'; subst hw''; have hnq := nw_new _ xq)
    all_goals go_wp2
    all_goals go_ret
    all_goals exact ⟨rfl, n6.new_ hnq⟩
  · rw [he] at HHA TX
    go_enter Try.func5, Try.ntmps5
    go_wp2_with fail
    refine calls_world (fun W => Own W w.heap.size 41 (ndC au A n cap k c who th par nm dir dig sz tg) ∧ Own W (w.heap.size + 1) 41 (ndC au' A' n' cap' k' c' who' th' par' nm' dir' dig' sz' tg') ∧ New w W) ⟨(Own.fresh w _ _).alloc _, Own.new' (by simp), ((Fr.refl _ _).alloc _).alloc _⟩ ?_
    rintro w1 ⟨o1, p1, n1⟩
    refine (HA.out _ (hs1.new_ n1)).mono ?_
    rintro e w2 ⟨rfl, g2⟩
    have o2 := o1.new_ g2
    have p2 := p1.new_ g2
    have n2 := n1.new_ g2
    clear o1 p1 n1 g2
    obtain ⟨c0, c1, c2, c3, c4, c5, c6, c7, c8, c9, c10, c11⟩ := ndCells o2
    obtain ⟨x0, x1, x2, x3, x4, x5, x6, x7, x8, x9, x10, x11⟩ := ndCells p2
    go_wp2_with fail
    refine (HB.out _ (hs2.new_ n2)).mono ?_
    rintro e w3 ⟨rfl, g3⟩
    have o3 := o2.new_ g3
    have p3 := p2.new_ g3
    have n3 := n2.new_ g3
    clear o2 p2 n2 g3 c0 c1 c2 c3 c4 c5 c6 c7 c8 c9 c10 c11 x0 x1 x2 x3 x4 x5 x6 x7 x8 x9 x10 x11
    obtain ⟨c0, c1, c2, c3, c4, c5, c6, c7, c8, c9, c10, c11⟩ := ndCells o3
    obtain ⟨x0, x1, x2, x3, x4, x5, x6, x7, x8, x9, x10, x11⟩ := ndCells p3
    go_wp2_with fail
    refine (EA.out _ (hs1.new_ n3)).mono ?_
    rintro e w4 ⟨rfl, g4⟩
    have o4 := o3.new_ g4
    have p4 := p3.new_ g4
    have n4 := n3.new_ g4
    clear o3 p3 n3 g4 c0 c1 c2 c3 c4 c5 c6 c7 c8 c9 c10 c11 x0 x1 x2 x3 x4 x5 x6 x7 x8 x9 x10 x11
    obtain ⟨c0, c1, c2, c3, c4, c5, c6, c7, c8, c9, c10, c11⟩ := ndCells o4
    obtain ⟨x0, x1, x2, x3, x4, x5, x6, x7, x8, x9, x10, x11⟩ := ndCells p4
    go_wp2_with fail
    refine (EB.out _ (hs2.new_ n4)).mono ?_
    rintro e w5 ⟨rfl, g5⟩
    have o5 := o4.new_ g5
    have p5 := p4.new_ g5
    have n5 := n4.new_ g5
    clear o4 p4 n4 g5 c0 c1 c2 c3 c4 c5 c6 c7 c8 c9 c10 c11 x0 x1 x2 x3 x4 x5 x6 x7 x8 x9 x10 x11
    obtain ⟨c0, c1, c2, c3, c4, c5, c6, c7, c8, c9, c10, c11⟩ := ndCells o5
    obtain ⟨x0, x1, x2, x3, x4, x5, x6, x7, x8, x9, x10, x11⟩ := ndCells p5
    go_wp2_with fail
    go_quiet (fail)
    rw [HCX.out, HCY.out]
    have o5d := o5.drewN nq
    have p5d := p5.drewN nq
    have n5d := n5.drewN nq
    obtain ⟨w5d, hw5⟩ : ∃ x, w5.drewN nq = x := ⟨_, rfl⟩
    rw [hw5] at o5d p5d n5d ⊢
    clear hw5 o5 p5 n5 c0 c1 c2 c3 c4 c5 c6 c7 c8 c9 c10 c11 x0 x1 x2 x3 x4 x5 x6 x7 x8 x9 x10 x11
    obtain ⟨c0, c1, c2, c3, c4, c5, c6, c7, c8, c9, c10, c11⟩ := ndCells o5d
    obtain ⟨x0, x1, x2, x3, x4, x5, x6, x7, x8, x9, x10, x11⟩ := ndCells p5d
    have l5 := o5d.lt
    have l6 := p5d.lt
    go_wp2_with fail
    refine (TX.out _ _ (Own.fresh _ _ _)).mono ?_
    rintro e w6 ⟨rfl, g6⟩
    have n6 := (n5d.alloc (.cells #[.string P] 9)).new_ g6
    go_wp2_with fail
    refine (TY.out _ _ (Own.fresh _ _ _)).mono ?_
    rintro e w7 ⟨rfl, g7⟩
    have n7 := (n6.alloc (.cells #[.string Q] 9)).new_ g7
    go_wp2_with fail
    refine (awake11_any _).mono ?_
    rintro e w8 ⟨rfl, g8⟩
    go_wp2
    go_ret
    exact ⟨rfl, n7.new_ g8⟩
  · rw [show decide (P = Q) = false from decide_eq_false hne] at HS
    obtain ⟨tx, htx⟩ : ∃ s, tag1 68 P = s := ⟨_, rfl⟩
    obtain ⟨ty, hty⟩ : ∃ s, tag1 68 Q = s := ⟨_, rfl⟩
    rw [htx] at HHA TX hnt
    rw [hty] at HHB TY hnt
    clear htx hty hne
    go_enter Try.func5, Try.ntmps5
    go_wp2_with fail
    refine calls_world (fun W => Own W w.heap.size 41 (ndC au A n cap k c who th par nm dir dig sz tg) ∧ Own W (w.heap.size + 1) 41 (ndC au' A' n' cap' k' c' who' th' par' nm' dir' dig' sz' tg') ∧ New w W) ⟨(Own.fresh w _ _).alloc _, Own.new' (by simp), ((Fr.refl _ _).alloc _).alloc _⟩ ?_
    rintro w1 ⟨o1, p1, n1⟩
    refine (HA.out _ (hs1.new_ n1)).mono ?_
    rintro e w2 ⟨rfl, g2⟩
    have o2 := o1.new_ g2
    have p2 := p1.new_ g2
    have n2 := n1.new_ g2
    clear o1 p1 n1 g2
    obtain ⟨c0, c1, c2, c3, c4, c5, c6, c7, c8, c9, c10, c11⟩ := ndCells o2
    obtain ⟨x0, x1, x2, x3, x4, x5, x6, x7, x8, x9, x10, x11⟩ := ndCells p2
    go_wp2_with fail
    refine (HB.out _ (hs2.new_ n2)).mono ?_
    rintro e w3 ⟨rfl, g3⟩
    have o3 := o2.new_ g3
    have p3 := p2.new_ g3
    have n3 := n2.new_ g3
    clear o2 p2 n2 g3 c0 c1 c2 c3 c4 c5 c6 c7 c8 c9 c10 c11 x0 x1 x2 x3 x4 x5 x6 x7 x8 x9 x10 x11
    obtain ⟨c0, c1, c2, c3, c4, c5, c6, c7, c8, c9, c10, c11⟩ := ndCells o3
    obtain ⟨x0, x1, x2, x3, x4, x5, x6, x7, x8, x9, x10, x11⟩ := ndCells p3
    go_wp2_with fail
    refine (EA.out _ (hs1.new_ n3)).mono ?_
    rintro e w4 ⟨rfl, g4⟩
    have o4 := o3.new_ g4
    have p4 := p3.new_ g4
    have n4 := n3.new_ g4
    clear o3 p3 n3 g4 c0 c1 c2 c3 c4 c5 c6 c7 c8 c9 c10 c11 x0 x1 x2 x3 x4 x5 x6 x7 x8 x9 x10 x11
    obtain ⟨c0, c1, c2, c3, c4, c5, c6, c7, c8, c9, c10, c11⟩ := ndCells o4
    obtain ⟨x0, x1, x2, x3, x4, x5, x6, x7, x8, x9, x10, x11⟩ := ndCells p4
    go_wp2_with fail
    refine (EB.out _ (hs2.new_ n4)).mono ?_
    rintro e w5 ⟨rfl, g5⟩
    have o5 := o4.new_ g5
    have p5 := p4.new_ g5
    have n5 := n4.new_ g5
    clear o4 p4 n4 g5 c0 c1 c2 c3 c4 c5 c6 c7 c8 c9 c10 c11 x0 x1 x2 x3 x4 x5 x6 x7 x8 x9 x10 x11
    obtain ⟨c0, c1, c2, c3, c4, c5, c6, c7, c8, c9, c10, c11⟩ := ndCells o5
    obtain ⟨x0, x1, x2, x3, x4, x5, x6, x7, x8, x9, x10, x11⟩ := ndCells p5
    go_wp2_with fail
    go_quiet (fail)
    rw [HCX.out, HCY.out]
    have o5d := o5.drewN nq
    have p5d := p5.drewN nq
    have n5d := n5.drewN nq
    obtain ⟨w5d, hw5⟩ : ∃ x, w5.drewN nq = x := ⟨_, rfl⟩
    rw [hw5] at o5d p5d n5d ⊢
    clear hw5 o5 p5 n5 c0 c1 c2 c3 c4 c5 c6 c7 c8 c9 c10 c11 x0 x1 x2 x3 x4 x5 x6 x7 x8 x9 x10 x11
    obtain ⟨c0, c1, c2, c3, c4, c5, c6, c7, c8, c9, c10, c11⟩ := ndCells o5d
    obtain ⟨x0, x1, x2, x3, x4, x5, x6, x7, x8, x9, x10, x11⟩ := ndCells p5d
    have l5 := o5d.lt
    have l6 := p5d.lt
    go_wp2_with fail
    refine (TX.out _ _ (Own.fresh _ _ _)).mono ?_
    rintro e w6 ⟨rfl, g6⟩
    have o6 := (o5d.alloc (.cells #[.string P] 9)).new_ g6
    have p6 := (p5d.alloc (.cells #[.string P] 9)).new_ g6
    have n6' := (n5d.alloc (.cells #[.string P] 9)).new_ g6
    clear o5d p5d n5d g6 c0 c1 c2 c3 c4 c5 c6 c7 c8 c9 c10 c11 x0 x1 x2 x3 x4 x5 x6 x7 x8 x9 x10 x11
    go_wp2_with fail
    refine (TY.out _ _ (Own.fresh _ _ _)).mono ?_
    rintro e w5 ⟨rfl, g7⟩
    have o5 := (o6.alloc (.cells #[.string Q] 9)).new_ g7
    have p5 := (p6.alloc (.cells #[.string Q] 9)).new_ g7
    have n5 := (n6'.alloc (.cells #[.string Q] 9)).new_ g7
    clear o6 p6 n6' g7 l5 l6
    have l5 := o5.lt
    have l6 := p5.lt
    obtain ⟨c0, c1, c2, c3, c4, c5, c6, c7, c8, c9, c10, c11⟩ := ndCells o5
    obtain ⟨x0, x1, x2, x3, x4, x5, x6, x7, x8, x9, x10, x11⟩ := ndCells p5
    go_wp2_with fail
    refine wp_world (fun W => Own W w.heap.size 41 (ndC au A n cap k c who th par nm dir dig sz tg) ∧ Own W (w.heap.size + 1) 41 (ndC au' A' n' cap' k' c' who' th' par' nm' dir' dig' sz' tg') ∧ Own W w5.heap.size 41 (ndC au' A' n' cap' k' c' who' th' par' nm' dir' dig' sz' tg) ∧ New w W) ⟨o5.alloc _, p5.alloc _, Own.new' (by simp), n5.alloc _⟩ ?_
    clear c0 c1 c2 c3 c4 c5 c6 c7 c8 c9 c10 c11 x0 x1 x2 x3 x4 x5 x6 x7 x8 x9 x10 x11 o5 p5 n5
    rintro w6 ⟨o6, p6, q6, n6⟩
    have N0 : ∀ x, (nw w6 x).cell? ⟨w.heap.size, 0, none⟩ = some (.int .i64 au) := o6.nw 0
    have N1 : ∀ x, (nw w6 x).cell? ⟨w.heap.size, 1, none⟩ = some (.slice A n cap) := o6.nw 1
    have N2 : ∀ x, (nw w6 x).cell? ⟨w.heap.size, 2, none⟩ = some (.int .i64 k) := o6.nw 2
    have N3 : ∀ x, (nw w6 x).cell? ⟨w.heap.size, 3, none⟩ = some (.int .u64 c) := o6.nw 3
    have N4 : ∀ x, (nw w6 x).cell? ⟨w.heap.size, 4, none⟩ = some (.int .i64 who) := o6.nw 4
    have N5 : ∀ x, (nw w6 x).cell? ⟨w.heap.size, 5, none⟩ = some (.int .u64 th) := o6.nw 5
    have N6 : ∀ x, (nw w6 x).cell? ⟨w.heap.size, 6, none⟩ = some (.int .u64 par) := o6.nw 6
    have N7 : ∀ x, (nw w6 x).cell? ⟨w.heap.size, 7, none⟩ = some (.string nm) := o6.nw 7
    have N8 : ∀ x, (nw w6 x).cell? ⟨w.heap.size, 8, none⟩ = some (.bool dir) := o6.nw 8
    have N9 : ∀ x, (nw w6 x).cell? ⟨w.heap.size, 9, none⟩ = some (.string dig) := o6.nw 9
    have N10 : ∀ x, (nw w6 x).cell? ⟨w.heap.size, 10, none⟩ = some (.int .i64 sz) := o6.nw 10
    have N11 : ∀ x, (nw w6 x).cell? ⟨w.heap.size, 11, none⟩ = some (.string tg) := o6.nw 11
    have M0 : ∀ x, (nw w6 x).cell? ⟨w.heap.size + 1, 0, none⟩ = some (.int .i64 au') := p6.nw 0
    have M1 : ∀ x, (nw w6 x).cell? ⟨w.heap.size + 1, 1, none⟩ = some (.slice A' n' cap') := p6.nw 1
    have M2 : ∀ x, (nw w6 x).cell? ⟨w.heap.size + 1, 2, none⟩ = some (.int .i64 k') := p6.nw 2
    have M3 : ∀ x, (nw w6 x).cell? ⟨w.heap.size + 1, 3, none⟩ = some (.int .u64 c') := p6.nw 3
    have M4 : ∀ x, (nw w6 x).cell? ⟨w.heap.size + 1, 4, none⟩ = some (.int .i64 who') := p6.nw 4
    have M5 : ∀ x, (nw w6 x).cell? ⟨w.heap.size + 1, 5, none⟩ = some (.int .u64 th') := p6.nw 5
    have M6 : ∀ x, (nw w6 x).cell? ⟨w.heap.size + 1, 6, none⟩ = some (.int .u64 par') := p6.nw 6
    have M7 : ∀ x, (nw w6 x).cell? ⟨w.heap.size + 1, 7, none⟩ = some (.string nm') := p6.nw 7
    have M8 : ∀ x, (nw w6 x).cell? ⟨w.heap.size + 1, 8, none⟩ = some (.bool dir') := p6.nw 8
    have M9 : ∀ x, (nw w6 x).cell? ⟨w.heap.size + 1, 9, none⟩ = some (.string dig') := p6.nw 9
    have M10 : ∀ x, (nw w6 x).cell? ⟨w.heap.size + 1, 10, none⟩ = some (.int .i64 sz') := p6.nw 10
    have M11 : ∀ x, (nw w6 x).cell? ⟨w.heap.size + 1, 11, none⟩ = some (.string tg') := p6.nw 11
    have L0 : ∀ x, (nw w6 x).cell? ⟨w5.heap.size, 0, none⟩ = some (.int .i64 au') := q6.nw 0
    have L1 : ∀ x, (nw w6 x).cell? ⟨w5.heap.size, 1, none⟩ = some (.slice A' n' cap') := q6.nw 1
    have L2 : ∀ x, (nw w6 x).cell? ⟨w5.heap.size, 2, none⟩ = some (.int .i64 k') := q6.nw 2
    have L3 : ∀ x, (nw w6 x).cell? ⟨w5.heap.size, 3, none⟩ = some (.int .u64 c') := q6.nw 3
    have L4 : ∀ x, (nw w6 x).cell? ⟨w5.heap.size, 4, none⟩ = some (.int .i64 who') := q6.nw 4
    have L5 : ∀ x, (nw w6 x).cell? ⟨w5.heap.size, 5, none⟩ = some (.int .u64 th') := q6.nw 5
    have L6 : ∀ x, (nw w6 x).cell? ⟨w5.heap.size, 6, none⟩ = some (.int .u64 par') := q6.nw 6
    have L7 : ∀ x, (nw w6 x).cell? ⟨w5.heap.size, 7, none⟩ = some (.string nm') := q6.nw 7
    have L8 : ∀ x, (nw w6 x).cell? ⟨w5.heap.size, 8, none⟩ = some (.bool dir') := q6.nw 8
    have L9 : ∀ x, (nw w6 x).cell? ⟨w5.heap.size, 9, none⟩ = some (.string dig') := q6.nw 9
    have L10 : ∀ x, (nw w6 x).cell? ⟨w5.heap.size, 10, none⟩ = some (.int .i64 sz') := q6.nw 10
    have L11 : ∀ x, (nw w6 x).cell? ⟨w5.heap.size, 11, none⟩ = some (.string tg) := q6.nw 11
    have AW := fun (x : Nx w6) => Calls.nw_of (awake11_any (nw w6 x))
    have H1 := fun (x : Nx w6) => Calls.nw_of (HHA.out (nw w6 x) (hs1.new_ (n6.new_ (nw_new w6 x))))
    have H2 := fun (x : Nx w6) => Calls.nw_of (HHB.out (nw w6 x) (hs2.new_ (n6.new_ (nw_new w6 x))))
    have S1 := fun (x : Nx w6) => Calls.nw_of (HS.out (nw w6 x) (hs1.new_ (n6.new_ (nw_new w6 x))) (hs2.new_ (n6.new_ (nw_new w6 x))))
    refine wp_region_new_lit (by kernel_rfl) (by kernel_rfl) ?_; (repeat (any_goals (first | go_big_quiet_step ((first | (go_at_call 11; with_reducible exact AW _) | (go_at_call 14; with_reducible exact H1 _) | (go_at_call 14; with_reducible exact H2 _) | (go_at_call 15; with_reducible exact S1 _))) | quiet_step ((first | (go_at_call 11; with_reducible exact AW _) | (go_at_call 14; with_reducible exact H1 _) | (go_at_call 14; with_reducible exact H2 _) | (go_at_call 15; with_reducible exact S1 _))) | (refine wpQuiet_step (fun K hK => ?_); go_simp; split <;> (refine hK _ ?_; clear hK K))))); all_goals (refine wpQuiet_nil ?_; intro _ hw'; obtain ⟨xq, hw''⟩ := hw'; subst hw''; have hnq := nw_new _ xq)
    all_goals go_wp2
    all_goals go_ret
    all_goals exact ⟨rfl, n6.new_ hnq⟩
theorem nodeHashes_walk (x : ENode) {w : World} (hx : x.facts w) (y : ENode) (hy : y.facts w) :
    Calls Try.prog 5 #[.agg x.cells.toArray, .agg y.cells.toArray] w fun e w' => e = .returned (.bool true) ∧ New w w' := by
  obtain ⟨au, ⟨A, n, cap, V⟩, ⟨k, ⟨c, who⟩, th, par, nm, dir, dig, sz⟩, tg⟩ := x
  obtain ⟨au', ⟨A', n', cap', V'⟩, ⟨k', ⟨c', who'⟩, th', par', nm', dir', dig', sz'⟩, tg'⟩ := y
  obtain ⟨a0, ⟨s1, s2, s3, s4⟩, ⟨a1, ⟨a2, a3⟩, a4, a5, a6, a7, a8⟩, a9⟩ := hx
  obtain ⟨b0, ⟨r1, r2, r3, r4⟩, ⟨b1, ⟨b2, b3⟩, b4, b5, b6, b7, b8⟩, b9⟩ := hy
  simp only at *
  have p2 := bounds_u64 a2
  have p4 := bounds_u64 a4
  have p5 := bounds_u64 a5
  have q2 := bounds_u64 b2
  have q4 := bounds_u64 b4
  have q5 := bounds_u64 b5
  obtain ⟨c, rfl⟩ := Int.eq_ofNat_of_zero_le p2.1
  obtain ⟨th, rfl⟩ := Int.eq_ofNat_of_zero_le p4.1
  obtain ⟨par, rfl⟩ := Int.eq_ofNat_of_zero_le p5.1
  obtain ⟨c', rfl⟩ := Int.eq_ofNat_of_zero_le q2.1
  obtain ⟨th', rfl⟩ := Int.eq_ofNat_of_zero_le q4.1
  obtain ⟨par', rfl⟩ := Int.eq_ofNat_of_zero_le q5.1
  have ha : OpW ⟨k, c, who, th, par, nm, dir, dig, sz⟩ := ⟨a1, a2, a3, a4, a5, a8, a6, a7⟩
  have hb : OpW ⟨k', c', who', th', par', nm', dir', dig', sz'⟩ := ⟨b1, b2, b3, b4, b5, b8, b6, b7⟩
  have ba : OpB ⟨k, c, who, th, par, nm, dir, dig, sz⟩ := ⟨by show c ≤ _; omega, by show th ≤ _; omega, by show par ≤ _; omega⟩
  have bb : OpB ⟨k', c', who', th', par', nm', dir', dig', sz'⟩ := ⟨by show c' ≤ _; omega, by show th' ≤ _; omega, by show par' ≤ _; omega⟩
  show Calls Try.prog 5 #[.agg (ndC au A n cap k c who th par nm dir dig sz tg), .agg (ndC au' A' n' cap' k' c' who' th' par' nm' dir' dig' sz' tg')] w _
  by_cases hz : nodeCheck au V n ⟨k, c, who, th, par, nm, dir, dig, sz⟩ tg = 0 ∧ nodeCheck au' V' n' ⟨k', c', who', th', par', nm', dir', dig', sz'⟩ tg' = 0
  · exact nodeHashes_good _ _ _ _ _ _ _ _ _ _ _ _ _ _ V _ _ _ _ _ _ _ _ _ _ _ _ _ _ V' s1 r1 s4 r4 ha hb ba bb a9 b9 hz.1 hz.2
  · exact nodeHashes_bad _ _ _ _ _ _ _ _ _ _ _ _ _ _ V _ _ _ _ _ _ _ _ _ _ _ _ _ _ V' s1 r1 s4 r4 ha hb ba bb a9 b9 hz
end Go.Proofs.Ytfkbljanmjnefaa
