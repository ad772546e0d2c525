/- Operations: place, bare, Check. -/
import Derived.Test.YtfkbljanmjnefaaOpSpec
namespace Go.Proofs.Ytfkbljanmjnefaa
open Go.RowKit
set_option linter.unusedVariables false
set_option linter.unusedSimpArgs false

theorem nil_size (s : ByteArray) : s.toList = [] ↔ s.size = 0 := by
  rw [ByteArray.toList_eq, List.eq_nil_iff_length_eq_zero]
  simp
set_option maxRecDepth 100000 in
set_option maxHeartbeats 1000000 in
theorem bare_any (k : Int) (c : Nat) (who : Int) (th par : Nat) (nm : ByteArray) (dir : Bool) (dig : ByteArray) (sz : Int) (w : World) :
    Calls Try.prog 61 #[(OpV.mk k c who th par nm dir dig sz).val] w fun e w' => e = .returned (.bool (bareB ⟨k, c, who, th, par, nm, dir, dig, sz⟩)) ∧ New w w' := by
  obtain ⟨v, hv⟩ : ∃ v, bareB ⟨k, c, who, th, par, nm, dir, dig, sz⟩ = v := ⟨_, rfl⟩
  have HB : Hid (bareB ⟨k, c, who, th, par, nm, dir, dig, sz⟩ = v) := hv
  rw [hv]
  clear hv
  go_enter Try.func61, Try.ntmps61
  go_wp2
  all_goals
    go_ret
    refine ⟨ret_bool ?_, by repeat (first | with_reducible exact Fr.refl _ _ | with_reducible assumption | with_reducible refine Fr.drew ?_ | with_reducible refine Fr.drewN ?_ _ | with_reducible refine Fr.alloc ?_ _ | with_reducible refine Fr.set ?_ (by first | exact fun _ => rfl | (intro hlt; exfalso; simp at hlt; try omega) | (simp; omega)) _ | with_reducible refine Fr.new_ ?_ (by assumption))⟩
    rw [← HB.out]
    unfold bareB Bare
    simp_all [nil_size]
set_option maxRecDepth 100000 in
set_option maxHeartbeats 1000000 in
theorem place_any (k : Int) (c : Nat) (who : Int) (th par : Nat) (nm : ByteArray) (dir : Bool) (dig : ByteArray) (sz : Int) (hp : par ≤ 18446744073709551615) (hs : nm.size ≤ maxLen) (w : World) :
    Calls Try.prog 60 #[(OpV.mk k c who th par nm dir dig sz).val] w fun e w' => e = .returned (.bool (placeB ⟨k, c, who, th, par, nm, dir, dig, sz⟩)) ∧ New w w' := by
  obtain ⟨v, hv⟩ : ∃ v, placeB ⟨k, c, who, th, par, nm, dir, dig, sz⟩ = v := ⟨_, rfl⟩
  have HB : Hid (placeB ⟨k, c, who, th, par, nm, dir, dig, sz⟩ = v) := hv
  rw [hv]
  clear hv
  unfold maxLen at hs
  have HM := Lib.hid (made_any par (by omega) (by omega))
  obtain ⟨m, hm⟩ : ∃ m, madeB par = m := ⟨_, rfl⟩
  rw [hm] at HM
  have HMM := Lib.hid hm
  clear hm
  cases m
  all_goals
    go_enter Try.func60, Try.ntmps60
    go_wp2_with (go_at_call 58; refine (HM.out _).mono ?_; rintro e w' ⟨rfl, rfl⟩)
    all_goals
      go_ret
      refine ⟨ret_bool ?_, by repeat (first | with_reducible exact Fr.refl _ _ | with_reducible assumption | with_reducible refine Fr.drew ?_ | with_reducible refine Fr.drewN ?_ _ | with_reducible refine Fr.alloc ?_ _ | with_reducible refine Fr.set ?_ (by first | exact fun _ => rfl | (intro hlt; exfalso; simp at hlt; try omega) | (simp; omega)) _ | with_reducible refine Fr.new_ ?_ (by assumption))⟩
      rw [← HB.out]
      unfold placeB Place
      simp only [HMM.out, or_true, true_and, Bool.false_eq_true, or_false]
      clear HB HM HMM
      (rw [Bool.eq_iff_iff]; simp only [Bool.and_eq_true, Bool.or_eq_true, bne_iff_ne, ne_eq, beq_iff_eq, decide_eq_true_eq, Bool.false_eq_true, Bool.not_eq_true, false_iff, true_iff, iff_true, iff_false]; omega)
/-- The nine cells of an operation in memory. -/
theorem opCells {w : World} {b : Nat} {k : Int} {c : Nat} {who : Int} {th par : Nat} {nm : ByteArray} {dir : Bool} {dig : ByteArray} {sz : Int} (h : Own w b 39 (OpV.mk k c who th par nm dir dig sz).cells) :
    w.cell? ⟨b, 0, none⟩ = some (.int .i64 k) ∧ w.cell? ⟨b, 1, none⟩ = some (.int .u64 c) ∧ w.cell? ⟨b, 2, none⟩ = some (.int .i64 who) ∧ w.cell? ⟨b, 3, none⟩ = some (.int .u64 th) ∧ w.cell? ⟨b, 4, none⟩ = some (.int .u64 par) ∧
    w.cell? ⟨b, 5, none⟩ = some (.string nm) ∧ w.cell? ⟨b, 6, none⟩ = some (.bool dir) ∧ w.cell? ⟨b, 7, none⟩ = some (.string dig) ∧ w.cell? ⟨b, 8, none⟩ = some (.int .i64 sz) :=
  ⟨h.cell 0, h.cell 1, h.cell 2, h.cell 3, h.cell 4, h.cell 5, h.cell 6, h.cell 7, h.cell 8⟩
set_option maxRecDepth 100000 in
set_option maxHeartbeats 4000000 in
theorem opCheck_two (k : Int) (c : Nat) (who : Int) (th par : Nat) (nm : ByteArray) (dir : Bool) (dig : ByteArray) (sz : Int) (hth : th ≤ 18446744073709551615) (hp : par ≤ 18446744073709551615) (hs : nm.size ≤ maxLen) (hd : dig.size ≤ maxLen) (hg : checkI c who = 0) (hk : k = 2) (w : World) :
    Calls Try.prog 32 #[(OpV.mk k c who th par nm dir dig sz).val] w fun e w' => e = .returned (.int .i64 (opCheck ⟨k, c, who, th, par, nm, dir, dig, sz⟩)) ∧ New w w' := by
  have HC := Lib.hid (check_any c who)
  rw [hg] at HC
  have hv : opCheck ⟨k, c, who, th, par, nm, dir, dig, sz⟩ = if OpOk ⟨k, c, who, th, par, nm, dir, dig, sz⟩ then 0 else 50 := if_pos hg
  obtain ⟨v, hv'⟩ : ∃ v, opCheck ⟨k, c, who, th, par, nm, dir, dig, sz⟩ = v := ⟨_, rfl⟩
  rw [hv'] at hv ⊢
  have HB := Lib.hid hv
  clear hv hv' hg
  have HP := Lib.hid (fun w => place_any k c who th par nm dir dig sz hp hs w)
  obtain ⟨pl, hpl⟩ : ∃ m, placeB ⟨k, c, who, th, par, nm, dir, dig, sz⟩ = m := ⟨_, rfl⟩
  rw [hpl] at HP
  have Hpl := Lib.hid hpl
  clear hpl
  have HM := Lib.hid (made_any th (by omega) (by omega))
  unfold maxLen at hs hd
  obtain ⟨m, hm⟩ : ∃ m, madeB th = m := ⟨_, rfl⟩
  rw [hm] at HM
  have Hm := Lib.hid hm
  clear hm
  have hz : sz = 0 ∨ ¬ sz = 0 := by omega
  have hn := nil_size dig
  have HN := Lib.hid hn
  clear hn
  subst hk
  rcases hz with rfl | hz
  all_goals
    go_enter Try.func32, Try.ntmps32
    go_wp2_with fail
    refine (HC.out _).mono ?_
    rintro e w1 ⟨rfl, g1⟩
    have o1 := (Own.fresh w 39 (OpV.mk 2 c who th par nm dir dig _).cells).new_ g1
    obtain ⟨c0, c1, c2, c3, c4, c5, c6, c7, c8⟩ := opCells o1
    have nw1 : New w w1 := ((Fr.refl _ _).alloc _).new_ g1
    clear g1
    go_wp2_with (first | (go_at_call 58; refine (HM.out _).mono ?_; rintro e w' ⟨rfl, rfl⟩) | (go_at_call 60; refine (HP.out _).mono ?_; rintro e w' ⟨rfl, g2⟩; have o2 := o1.new_ g2; obtain ⟨d0, d1, d2, d3, d4, d5, d6, d7, d8⟩ := opCells o2))
    all_goals go_ret
    all_goals refine ⟨ret_int ?_, by first | (with_reducible exact nw1) | (with_reducible exact nw1.new_ g2)⟩
    all_goals (rw [HB.out]; have hn := HN.out; have hmm := Hm.out; have h1 := Hpl.out; clear HB HN Hm HP Hpl HM HC; unfold OpOk NoBytes; unfold placeB at *; simp_all; try omega)
set_option maxRecDepth 100000 in
set_option maxHeartbeats 4000000 in
theorem opCheck_three (k : Int) (c : Nat) (who : Int) (th par : Nat) (nm : ByteArray) (dir : Bool) (dig : ByteArray) (sz : Int) (hth : th ≤ 18446744073709551615) (hp : par ≤ 18446744073709551615) (hs : nm.size ≤ maxLen) (hd : dig.size ≤ maxLen) (hg : checkI c who = 0) (hk : k = 3) (w : World) :
    Calls Try.prog 32 #[(OpV.mk k c who th par nm dir dig sz).val] w fun e w' => e = .returned (.int .i64 (opCheck ⟨k, c, who, th, par, nm, dir, dig, sz⟩)) ∧ New w w' := by
  have HC := Lib.hid (check_any c who)
  rw [hg] at HC
  have hv : opCheck ⟨k, c, who, th, par, nm, dir, dig, sz⟩ = if OpOk ⟨k, c, who, th, par, nm, dir, dig, sz⟩ then 0 else 50 := if_pos hg
  obtain ⟨v, hv'⟩ : ∃ v, opCheck ⟨k, c, who, th, par, nm, dir, dig, sz⟩ = v := ⟨_, rfl⟩
  rw [hv'] at hv ⊢
  have HB := Lib.hid hv
  clear hv hv' hg
  have HR := Lib.hid (fun w => bare_any k c who th par nm dir dig sz w)
  obtain ⟨br, hbr⟩ : ∃ m, bareB ⟨k, c, who, th, par, nm, dir, dig, sz⟩ = m := ⟨_, rfl⟩
  rw [hbr] at HR
  have Hbr := Lib.hid hbr
  clear hbr
  have HM := Lib.hid (made_any th (by omega) (by omega))
  unfold maxLen at hs hd
  obtain ⟨m, hm⟩ : ∃ m, madeB th = m := ⟨_, rfl⟩
  rw [hm] at HM
  have Hm := Lib.hid hm
  clear hm
  have hz : sz = 0 ∨ ¬ sz = 0 := by omega
  have hn := nil_size dig
  have HN := Lib.hid hn
  clear hn
  subst hk
  rcases hz with rfl | hz
  all_goals
    go_enter Try.func32, Try.ntmps32
    go_wp2_with fail
    refine (HC.out _).mono ?_
    rintro e w1 ⟨rfl, g1⟩
    have o1 := (Own.fresh w 39 (OpV.mk 3 c who th par nm dir dig _).cells).new_ g1
    obtain ⟨c0, c1, c2, c3, c4, c5, c6, c7, c8⟩ := opCells o1
    have nw1 : New w w1 := ((Fr.refl _ _).alloc _).new_ g1
    clear g1
    go_wp2_with (first | (go_at_call 58; refine (HM.out _).mono ?_; rintro e w' ⟨rfl, rfl⟩) | (go_at_call 61; refine (HR.out _).mono ?_; rintro e w' ⟨rfl, g2⟩))
    all_goals go_ret
    all_goals refine ⟨ret_int ?_, by first | (with_reducible exact nw1) | (with_reducible exact nw1.new_ g2)⟩
    all_goals (rw [HB.out]; have hn := HN.out; have hmm := Hm.out; have h1 := Hbr.out; clear HB HN Hm HR Hbr HM HC; unfold OpOk NoBytes; unfold bareB at *; simp_all; try omega)
set_option maxRecDepth 100000 in
set_option maxHeartbeats 4000000 in
theorem opCheck_four (k : Int) (c : Nat) (who : Int) (th par : Nat) (nm : ByteArray) (dir : Bool) (dig : ByteArray) (sz : Int) (hth : th ≤ 18446744073709551615) (hp : par ≤ 18446744073709551615) (hs : nm.size ≤ maxLen) (hd : dig.size ≤ maxLen) (hg : checkI c who = 0) (hk : k = 4) (w : World) :
    Calls Try.prog 32 #[(OpV.mk k c who th par nm dir dig sz).val] w fun e w' => e = .returned (.int .i64 (opCheck ⟨k, c, who, th, par, nm, dir, dig, sz⟩)) ∧ New w w' := by
  have HC := Lib.hid (check_any c who)
  rw [hg] at HC
  have hv : opCheck ⟨k, c, who, th, par, nm, dir, dig, sz⟩ = if OpOk ⟨k, c, who, th, par, nm, dir, dig, sz⟩ then 0 else 50 := if_pos hg
  obtain ⟨v, hv'⟩ : ∃ v, opCheck ⟨k, c, who, th, par, nm, dir, dig, sz⟩ = v := ⟨_, rfl⟩
  rw [hv'] at hv ⊢
  have HB := Lib.hid hv
  clear hv hv' hg
  have HR := Lib.hid (fun w => bare_any k c who th par nm dir dig sz w)
  obtain ⟨br, hbr⟩ : ∃ m, bareB ⟨k, c, who, th, par, nm, dir, dig, sz⟩ = m := ⟨_, rfl⟩
  rw [hbr] at HR
  have Hbr := Lib.hid hbr
  clear hbr
  have HM := Lib.hid (made_any th (by omega) (by omega))
  unfold maxLen at hs hd
  obtain ⟨m, hm⟩ : ∃ m, madeB th = m := ⟨_, rfl⟩
  rw [hm] at HM
  have Hm := Lib.hid hm
  clear hm
  have hz : sz = 0 ∨ ¬ sz = 0 := by omega
  have hn := nil_size dig
  have HN := Lib.hid hn
  clear hn
  subst hk
  rcases hz with rfl | hz
  all_goals
    go_enter Try.func32, Try.ntmps32
    go_wp2_with fail
    refine (HC.out _).mono ?_
    rintro e w1 ⟨rfl, g1⟩
    have o1 := (Own.fresh w 39 (OpV.mk 4 c who th par nm dir dig _).cells).new_ g1
    obtain ⟨c0, c1, c2, c3, c4, c5, c6, c7, c8⟩ := opCells o1
    have nw1 : New w w1 := ((Fr.refl _ _).alloc _).new_ g1
    clear g1
    go_wp2_with (first | (go_at_call 58; refine (HM.out _).mono ?_; rintro e w' ⟨rfl, rfl⟩) | (go_at_call 61; refine (HR.out _).mono ?_; rintro e w' ⟨rfl, g2⟩))
    all_goals go_ret
    all_goals refine ⟨ret_int ?_, by first | (with_reducible exact nw1) | (with_reducible exact nw1.new_ g2)⟩
    all_goals (rw [HB.out]; have hn := HN.out; have hmm := Hm.out; have h1 := Hbr.out; clear HB HN Hm HR Hbr HM HC; unfold OpOk NoBytes; unfold bareB at *; simp_all; try omega)
set_option maxRecDepth 100000 in
set_option maxHeartbeats 4000000 in
theorem opCheck_none (k : Int) (c : Nat) (who : Int) (th par : Nat) (nm : ByteArray) (dir : Bool) (dig : ByteArray) (sz : Int) (hth : th ≤ 18446744073709551615) (hp : par ≤ 18446744073709551615) (hs : nm.size ≤ maxLen) (hd : dig.size ≤ maxLen) (hg : checkI c who = 0) (hk : k ≠ 1 ∧ k ≠ 2 ∧ k ≠ 3 ∧ k ≠ 4) (w : World) :
    Calls Try.prog 32 #[(OpV.mk k c who th par nm dir dig sz).val] w fun e w' => e = .returned (.int .i64 (opCheck ⟨k, c, who, th, par, nm, dir, dig, sz⟩)) ∧ New w w' := by
  have HC := Lib.hid (check_any c who)
  rw [hg] at HC
  have hv : opCheck ⟨k, c, who, th, par, nm, dir, dig, sz⟩ = if OpOk ⟨k, c, who, th, par, nm, dir, dig, sz⟩ then 0 else 50 := if_pos hg
  obtain ⟨v, hv'⟩ : ∃ v, opCheck ⟨k, c, who, th, par, nm, dir, dig, sz⟩ = v := ⟨_, rfl⟩
  rw [hv'] at hv ⊢
  have HB := Lib.hid hv
  clear hv hv' hg
  have HM := Lib.hid (made_any th (by omega) (by omega))
  unfold maxLen at hs hd
  obtain ⟨m, hm⟩ : ∃ m, madeB th = m := ⟨_, rfl⟩
  rw [hm] at HM
  have Hm := Lib.hid hm
  clear hm
  have hz : sz = 0 ∨ ¬ sz = 0 := by omega
  have hn := nil_size dig
  have HN := Lib.hid hn
  clear hn
  obtain ⟨k1, k2, k3, k4⟩ := hk
  rcases hz with rfl | hz
  all_goals
    go_enter Try.func32, Try.ntmps32
    go_wp2_with fail
    refine (HC.out _).mono ?_
    rintro e w1 ⟨rfl, g1⟩
    have o1 := (Own.fresh w 39 (OpV.mk k c who th par nm dir dig _).cells).new_ g1
    obtain ⟨c0, c1, c2, c3, c4, c5, c6, c7, c8⟩ := opCells o1
    have nw1 : New w w1 := ((Fr.refl _ _).alloc _).new_ g1
    clear g1
    go_wp2_with (go_at_call 58; refine (HM.out _).mono ?_; rintro e w' ⟨rfl, rfl⟩)
    all_goals go_ret
    all_goals refine ⟨ret_int ?_, by first | (with_reducible exact nw1) | (with_reducible exact nw1.new_ g2)⟩
    all_goals (rw [HB.out]; have hn := HN.out; have hmm := Hm.out; clear HB HN Hm HM HC; unfold OpOk NoBytes; simp_all; try omega)
set_option maxRecDepth 100000 in
set_option maxHeartbeats 4000000 in
theorem opCheck_one (c : Nat) (who : Int) (th par : Nat) (nm : ByteArray) (dir : Bool) (dig : ByteArray) (sz : Int) (hth : th ≤ 18446744073709551615) (hp : par ≤ 18446744073709551615) (hs : nm.size ≤ maxLen) (hd : dig.size ≤ maxLen) (hg : checkI c who = 0) (w : World) :
    Calls Try.prog 32 #[(OpV.mk 1 c who th par nm dir dig sz).val] w fun e w' => e = .returned (.int .i64 (opCheck ⟨1, c, who, th, par, nm, dir, dig, sz⟩)) ∧ New w w' := by
  have HC := Lib.hid (check_any c who)
  rw [hg] at HC
  have hv : opCheck ⟨1, c, who, th, par, nm, dir, dig, sz⟩ = if OpOk ⟨1, c, who, th, par, nm, dir, dig, sz⟩ then 0 else 50 := if_pos hg
  obtain ⟨v, hv'⟩ : ∃ v, opCheck ⟨1, c, who, th, par, nm, dir, dig, sz⟩ = v := ⟨_, rfl⟩
  rw [hv'] at hv ⊢
  have HB := Lib.hid hv
  clear hv hv' hg
  have HT := Lib.hid (thing_any c who)
  obtain ⟨tv, htv⟩ : ∃ m, thingI c who = m := ⟨_, rfl⟩
  rw [htv] at HT
  have Htv := Lib.hid htv
  clear htv
  have HP := Lib.hid (fun w => place_any 1 c who th par nm dir dig sz hp hs w)
  obtain ⟨pl, hpl⟩ : ∃ m, placeB ⟨1, c, who, th, par, nm, dir, dig, sz⟩ = m := ⟨_, rfl⟩
  rw [hpl] at HP
  have Hpl := Lib.hid hpl
  clear hpl
  have HM := Lib.hid (made_any th (by omega) (by omega))
  unfold maxLen at hs hd
  obtain ⟨m, hm⟩ : ∃ m, madeB th = m := ⟨_, rfl⟩
  rw [hm] at HM
  have Hm := Lib.hid hm
  clear hm
  have hn := nil_size dig
  have HN := Lib.hid hn
  clear hn
  have h4 : ((m = true ∧ dig.toList = [] ∧ sz = 0 ∧ tv = (th : Int)) ∨ (m = true ∧ dig.toList = [] ∧ sz = 0 ∧ ¬ (th : Int) = tv ∧ ((th : Int) == tv) = false)) ∨ m = false ∨ (m = true ∧ ¬ dig.toList = [] ∧ dig.toList.isEmpty = false) ∨ (m = true ∧ dig.toList = [] ∧ ¬ sz = 0 ∧ (sz == 0) = false) := by
    cases m
    · exact .inr (.inl rfl)
    · by_cases h1 : dig.toList = []
      · by_cases h2 : sz = 0
        · by_cases h3 : (th : Int) = tv
          · exact .inl (.inl ⟨rfl, h1, h2, h3.symm⟩)
          · exact .inl (.inr ⟨rfl, h1, h2, h3, by simpa using h3⟩)
        · exact .inr (.inr (.inr ⟨rfl, h1, h2, by simpa using h2⟩))
      · exact .inr (.inr (.inl ⟨rfl, h1, by simpa using h1⟩))
  rcases h4 with h4 | h4
  · rcases h4 with ⟨rfl, hdg, rfl, rfl⟩ | ⟨rfl, hdg, rfl, hne, hnb⟩
    all_goals
      go_enter Try.func32, Try.ntmps32
      go_wp2_with fail
      refine (HC.out _).mono ?_
      rintro e w1 ⟨rfl, g1⟩
      have o1 := (Own.fresh w 39 (OpV.mk 1 c who th par nm dir dig _).cells).new_ g1
      obtain ⟨c0, c1, c2, c3, c4, c5, c6, c7, c8⟩ := opCells o1
      have nw1 : New w w1 := ((Fr.refl _ _).alloc _).new_ g1
      clear g1
      go_wp2_with (go_at_call 58; refine (HM.out _).mono ?_; rintro e w' ⟨rfl, rfl⟩)
      have TT := fun (x : Nx w1) => Calls.nw_of (HT.out (nw w1 x))
      have N1 : ∀ x, (nw w1 x).cell? ⟨w.heap.size, 1, none⟩ = some (.int .u64 c) := o1.nw 1
      have N2 : ∀ x, (nw w1 x).cell? ⟨w.heap.size, 2, none⟩ = some (.int .i64 who) := o1.nw 2
      have N3 : ∀ x, (nw w1 x).cell? ⟨w.heap.size, 3, none⟩ = some (.int .u64 th) := o1.nw 3
      refine wp_region_new_lit (by kernel_rfl) (by kernel_rfl) ?_; (repeat (any_goals (first | go_big_quiet_step ((go_at_call 59; with_reducible exact TT _)) | quiet_step ((go_at_call 59; with_reducible exact TT _)) | (refine wpQuiet_step (fun K hK => ?_); go_simp; split <;> (refine hK _ ?_; clear hK K))))); all_goals (refine wpQuiet_nil ?_; intro _ hw'; obtain ⟨xq, hw''⟩ := hw'; subst hw''; have hnq := nw_new _ xq)
      all_goals
        have o3 := o1.new_ hnq
        have nw3 := nw1.new_ hnq
        obtain ⟨w3, hw3⟩ : ∃ w3, nw w1 xq = w3 := ⟨_, rfl⟩
        rw [hw3] at o3 nw3 ⊢
        clear hnq hw3 TT N1 N2 N3 c0 c1 c2 c3 c4 c5 c6 c7 c8 o1 nw1
        obtain ⟨c0, c1, c2, c3, c4, c5, c6, c7, c8⟩ := opCells o3
        go_wp2_with (go_at_call 60; refine (HP.out _).mono ?_; rintro e w' ⟨rfl, g2⟩; have o2 := o3.new_ g2; obtain ⟨d0, d1, d2, d3, d4, d5, d6, d7, d8⟩ := opCells o2)
      all_goals go_ret
      all_goals refine ⟨ret_int ?_, by first | (with_reducible exact nw3) | (with_reducible exact nw3.new_ g2)⟩
      all_goals (rw [HB.out]; have hn := HN.out; have hmm := Hm.out; have h1 := Hpl.out; have h2 := Htv.out; clear HB HN Hm HP Hpl HM HC HT Htv; unfold OpOk NoBytes; unfold placeB at *; simp_all; try omega)
  rcases h4 with rfl | ⟨rfl, hdg, hde⟩ | ⟨rfl, hdg, hz, hz0⟩
  all_goals
    go_enter Try.func32, Try.ntmps32
    go_wp2_with fail
    refine (HC.out _).mono ?_
    rintro e w1 ⟨rfl, g1⟩
    have o1 := (Own.fresh w 39 (OpV.mk 1 c who th par nm dir dig _).cells).new_ g1
    obtain ⟨c0, c1, c2, c3, c4, c5, c6, c7, c8⟩ := opCells o1
    have nw1 : New w w1 := ((Fr.refl _ _).alloc _).new_ g1
    clear g1
    go_wp2_with (go_at_call 58; refine (HM.out _).mono ?_; rintro e w' ⟨rfl, rfl⟩)
    go_quiet (fail)
    go_wp2
    go_ret
    refine ⟨ret_int ?_, nw1.drewN nq⟩
    rw [HB.out]; have hn := HN.out; have hmm := Hm.out; have h1 := Hpl.out; have h2 := Htv.out; clear HB HN Hm HP Hpl HM HC HT Htv; unfold OpOk NoBytes; unfold placeB at *; simp_all; try omega
/-- Whether an operation may be. -/
theorem opCheck_any (k : Int) (c : Nat) (who : Int) (th par : Nat) (nm : ByteArray) (dir : Bool) (dig : ByteArray) (sz : Int) (hth : th ≤ 18446744073709551615) (hp : par ≤ 18446744073709551615) (hs : nm.size ≤ maxLen) (hd : dig.size ≤ maxLen) (w : World) :
    Calls Try.prog 32 #[(OpV.mk k c who th par nm dir dig sz).val] w fun e w' => e = .returned (.int .i64 (opCheck ⟨k, c, who, th, par, nm, dir, dig, sz⟩)) ∧ New w w' := by
  by_cases hg : checkI c who = 0
  · by_cases k1 : k = 1
    · subst k1; exact opCheck_one c who th par nm dir dig sz hth hp hs hd hg w
    · by_cases k2 : k = 2
      · exact opCheck_two k c who th par nm dir dig sz hth hp hs hd hg k2 w
      · by_cases k3 : k = 3
        · exact opCheck_three k c who th par nm dir dig sz hth hp hs hd hg k3 w
        · by_cases k4 : k = 4
          · exact opCheck_four k c who th par nm dir dig sz hth hp hs hd hg k4 w
          · exact opCheck_none k c who th par nm dir dig sz hth hp hs hd hg ⟨k1, k2, k3, k4⟩ w
  · have hv : opCheck ⟨k, c, who, th, par, nm, dir, dig, sz⟩ = 40 := if_neg hg
    have h40 : checkI c who = 40 := by unfold checkI at hg ⊢; split at hg <;> simp_all
    have HC := Lib.hid (check_any c who)
    rw [h40] at HC
    rw [hv]
    clear hg hv h40
    go_enter Try.func32, Try.ntmps32
    go_wp2_with fail
    refine (HC.out _).mono ?_
    rintro e w1 ⟨rfl, g1⟩
    go_wp2
    go_ret
    exact ⟨rfl, ((Fr.refl _ _).alloc _).new_ g1⟩
end Go.Proofs.Ytfkbljanmjnefaa
