/- A tag of which a byte is another one is not right. -/
import Derived.Test.YtceopjolkapijaaMacCheck
namespace Go.Proofs.Ytceopjolkapijaa
open Go.RowKit
set_option linter.unusedVariables false

theorem i64_and31 (n : Int) : bits .and .i64 n 31 = n % 32 := by
  have h127 : (BitVec.ofInt 64 31).toNat = 2 ^ 5 - 1 := by decide
  have key : (BitVec.ofInt 64 n &&& BitVec.ofInt 64 31).toNat = (n % ((2 ^ 64 : Nat) : Int)).toNat % 2 ^ 5 := by
    rw [BitVec.toNat_and, BitVec.toNat_ofInt, h127, Nat.and_two_pow_sub_one_eq_mod]
  show IntKind.i64.wrap ((BitVec.ofInt 64 n &&& BitVec.ofInt 64 31).toNat : Nat) = n % 32
  rw [key, IntKind.wrap_i64]
  omega
theorem byte_lit {a : Int} (h : (Lit.int .u8 a).wf = true) : ∃ p : UInt8, a = (p.toNat : Int) := by
  have h0 : (0 : Int) ≤ a ∧ a ≤ 255 := by
    simp only [Lit.wf, Bool.and_eq_true, decide_eq_true_eq] at h
    exact ⟨h.1, h.2⟩
  refine ⟨UInt8.ofNat a.toNat, ?_⟩
  simp
  omega
/-- A text as bytes, one of them another one, as a text again. -/
theorem conv_turn (W : World) (m : ByteArray) (i : Nat) (y : UInt8) (hi : i < m.size) : ∃ c w4, (convert 9 54 (.string m)).run Try.prog W = .ok (.slice (some ⟨W.heap.size, 0, none⟩) m.size c) w4 ∧ New W w4 ∧
    w4.cell? ⟨W.heap.size, i, none⟩ = some (.int .u8 (m[i].toNat : Int)) ∧ w4.frozen? ⟨W.heap.size, i, none⟩ = false ∧ w4.heap.size = W.heap.size + 1 ∧
    ∀ W' c', New (w4.setCell ⟨W.heap.size, i, none⟩ (.int .u8 (y.toNat : Int))) W' → (convert 54 9 (.slice (some ⟨W.heap.size, 0, none⟩) m.size c')).run Try.prog W' = .ok (.string ⟨(m.data.toList.set i y).toArray⟩) W' := by
  have hsz : m.size ≤ (Lib.bytesCells W 5 m).size := by simp [Lib.bytesCells]
  have hat := Lib.bytesWorld_at_new W 5 m
  have hcell : ∀ j, (Lib.bytesWorld W 5 m).cell? ⟨W.heap.size, j, none⟩ = (Lib.bytesCells W 5 m)[j]? := fun j => by simp [World.cell?, hat]
  have hc := Lib.bytesWorld_cell W 5 m
  refine ⟨_, _, Lib.run_convert_string_bytes W 9 54 5 m Try.underlying9 Try.underlying54 Try.underlying5, ⟨rfl, rfl, rfl, by rw [Lib.bytesWorld_size]; omega, fun k hk _ => Lib.bytesWorld_at_old W _ m k hk⟩, ?_, ?_, Lib.bytesWorld_size W _ m, ?_⟩
  · rw [hc i hi, getD_get _ _ (by rw [data_len]; exact hi)]
    rfl
  · simp [World.frozen?, hat]
    omega
  · intro W' c' hn
    have hl : (m.data.toList.set i y).length = m.size := by rw [List.length_set, data_len]
    have hb := run_convert_bytes_back (P := Try.prog) W' 54 9 5 ⟨W.heap.size, 0, none⟩ c' (m.data.toList.set i y) Try.underlying54 Try.underlying5 Try.underlying9 (fun j hj => by
      have ea : (⟨W.heap.size, 0, none⟩ : Addr).add j = ⟨W.heap.size, j, none⟩ := by unfold Addr.add; split <;> simp_all
      have hlt : W.heap.size < ((Lib.bytesWorld W 5 m).setCell ⟨W.heap.size, i, none⟩ (.int .u8 (y.toNat : Int))).heap.size := by
        simp [World.setCell, Lib.bytesWorld_size]
      rw [ea, World.cell?_of_block (a := ⟨W.heap.size, j, none⟩) (hn.block _ hlt fun f => f.elim)]
      have h2 : ((Lib.bytesWorld W 5 m).setCell ⟨W.heap.size, i, none⟩ (.int .u8 (y.toNat : Int))).cell? ⟨W.heap.size, j, none⟩ = ((Lib.bytesCells W 5 m).setIfInBounds i (.int .u8 (y.toNat : Int)))[j]? := by
        simp [World.cell?, World.setCell, Array.getElem?_modify, hat]
      rw [h2, Array.getElem?_setIfInBounds]
      by_cases e : i = j
      · subst e
        simp
        omega
      · rw [if_neg e, ← hcell j, hc j (by omega), getD_get _ _ (by rw [data_len]; omega)]
        simp [e])
    rw [hl] at hb
    exact hb
theorem turn_same (m : ByteArray) (i : Nat) (hi : i < m.size) (y : UInt8) : decide ((⟨(m.data.toList.set i (m[i] ^^^ y)).toArray⟩ : ByteArray) = m) = decide (y = 0) := by
  rw [decide_eq_decide]
  constructor
  · intro e
    have h1 : m.data.toList.set i (m[i] ^^^ y) = m.data.toList := by
      have := congrArg (fun b : ByteArray => b.data.toList) e
      exact this
    have h2 : (m.data.toList.set i (m[i] ^^^ y))[i]? = m.data.toList[i]? := by rw [h1]
    rw [List.getElem?_set_self (by rw [data_len]; exact hi), get_list m i hi] at h2
    have h3 : m[i] ^^^ y = m[i] := Option.some.inj h2
    have h4 : m[i] ^^^ (m[i] ^^^ y) = m[i] ^^^ m[i] := by rw [h3]
    rw [← UInt8.xor_assoc, UInt8.xor_self, UInt8.zero_xor] at h4
    exact h4
  · rintro rfl
    rw [UInt8.xor_zero]
    have : m.data.toList.set i m[i] = m.data.toList := by
      apply List.ext_getElem?
      intro j
      rw [List.getElem?_set]
      split
      · rename_i e
        subst e
        rw [if_pos (by rw [data_len]; exact hi), get_list m i hi]
      · rfl
    rw [this]
set_option maxRecDepth 100000 in
set_option maxHeartbeats 2000000 in
theorem macTurned_walk (s : ByteArray) (h : s.size ≤ 140737488351232) (at_ : Int) (hat : (Lit.int .i64 at_).wf = true) (by_ : Int) (hby : (Lit.int .u8 by_).wf = true) (w : World) :
    Calls Try.prog 10 #[.string s, .int .i64 at_, .int .u8 by_] w fun e w' => e = .returned (.bool true) ∧ New w w' := by
  have hf := few02_size s
  have HF := Lib.hid (fun w => few02_any s (by omega) w)
  obtain ⟨t, htt⟩ : ∃ t, few02 s = t := ⟨_, rfl⟩
  rw [htt] at hf HF
  clear htt
  have HR := Lib.hid (fun w => newRing_any seedB (by decide) 1 (by omega) w)
  have HT := Lib.hid (fun (W : World) (b b2 : Nat) (h : RingO W b b2 seedB 1) => tag_is h 0 t (by omega) (by omega))
  have HC := Lib.hid (fun (g : ByteArray) (hg : g.size ≤ 1000000) (W : World) (b b2 : Nat) (h : RingO W b b2 seedB 1) => check_is h 0 t g (by omega) hg (by omega))
  have hz := macB_size (ringKey seedB 0) t
  obtain ⟨m, hm⟩ : ∃ m, macB (ringKey seedB 0) t = m := ⟨_, rfl⟩
  rw [hm] at hz HT HC
  have hz2 : (m.size : Int) = 32 := by omega
  clear hm
  go_enter Try.func10, Try.ntmps10
  go_wp2_with fail
  refine (HR.out _).mono ?_
  rintro e w1 ⟨rfl, o1, o2, g1⟩
  have R1 : RingO w1 (w.heap.size + 1) w.heap.size seedB 1 := ⟨o1, o2⟩
  clear o1 o2
  go_wp2_with fail
  refine (HF.out _).mono ?_
  rintro e w2 ⟨rfl, rfl⟩
  go_wp2_with fail
  refine (HT.out _ _ _ R1).mono ?_
  rintro e w2 ⟨rfl, g2⟩
  have R2 := R1.new_ g2
  go_wp2_with fail
  refine (awake02_any _).mono ?_
  rintro e w3 ⟨rfl, g3⟩
  have R3 := R2.new_ g3
  obtain ⟨y, rfl⟩ := byte_lit hby
  obtain ⟨i, hi, hi2⟩ : ∃ i : Nat, bits .and .i64 at_ 31 = (i : Int) ∧ i < 32 := ⟨(at_ % 32).toNat, by rw [i64_and31]; omega, by omega⟩
  have him : i < m.size := by omega
  have hi3 : (i : Int) < 32 := by omega
  have hx := xor_u8 m[i] y
  have hsame := turn_same m i him y
  obtain ⟨v, hv⟩ : ∃ v, m[i] ^^^ y = v := ⟨_, rfl⟩
  rw [hv] at hx hsame
  obtain ⟨c, w4, hcv, n4, c4, f4, z4, back⟩ := conv_turn w3 m i v him
  have HC1 := HC.out ⟨(m.data.toList.set i v).toArray⟩ (by rw [← data_len]; simp; omega)
  have HC2 := HC.out (m.extract 1 m.size) (by rw [ByteArray.size_extract]; omega)
  have HC3 := HC.out (m ++ ⟨#[120]⟩) (by rw [ByteArray.size_append]; show m.size + 1 ≤ _; omega)
  rw [hsame] at HC1
  rw [decide_eq_false (fun e => by have := congrArg ByteArray.size e; rw [ByteArray.size_extract] at this; omega)] at HC2
  rw [decide_eq_false (fun e => by have := congrArg ByteArray.size e; rw [ByteArray.size_append] at this; have h1 : (⟨#[120]⟩ : ByteArray).size = 1 := rfl; omega)] at HC3
  obtain ⟨T, hT⟩ : ∃ T : ByteArray, ⟨(m.data.toList.set i v).toArray⟩ = T := ⟨_, rfl⟩
  rw [hT] at HC1 back
  rw [hz] at hcv back
  have n5 : New w3 (w4.setCell ⟨w3.heap.size, i, none⟩ (.int .u8 (v.toNat : Int))) := Fr.set n4 (fun h => by simp at h) _
  have R5 := R3.new_ n5
  clear hv hT hsame
  go_wp2_with fail
  refine wp_world (fun W => RingO W (w.heap.size + 1) w.heap.size seedB 1 ∧ New w3 W ∧ ∀ W' c', New W W' → (convert 54 9 (.slice (some ⟨w3.heap.size, 0, none⟩) 32 c')).run Try.prog W' = .ok (.string T) W') ⟨R5, n5, back⟩ ?_
  clear R5 n5 back
  rintro W5 ⟨R5, n5, back⟩
  have A1 : ∀ x, Calls Try.prog 25 #[.string s] (nw W5 x) fun e w' => e = .returned (.string t) ∧ ∃ y, w' = nw W5 y := fun x => Calls.nw_same' (HF.out _)
  have BK : ∀ x, (convert 54 9 (.slice (some ⟨w3.heap.size, 0, none⟩) 32 c)).run Try.prog (nw W5 x) = .ok (.string T) (nw W5 x) := fun x => back _ c (nw_new W5 x)
  have K1 : ∀ x, Calls Try.prog 31 #[.pointer (some ⟨w.heap.size + 1, 0, none⟩), .int .i64 0, .string t, .string T] (nw W5 x) fun e w' => e = .returned (.bool (decide (y = 0))) ∧ ∃ y, w' = nw W5 y := fun x => Calls.nw_of (HC1 _ _ _ (R5.new_ (nw_new W5 x)))
  have K2 : ∀ x, Calls Try.prog 31 #[.pointer (some ⟨w.heap.size + 1, 0, none⟩), .int .i64 0, .string t, .string (m.extract 1 m.size)] (nw W5 x) fun e w' => e = .returned (.bool false) ∧ ∃ y, w' = nw W5 y := fun x => Calls.nw_of (HC2 _ _ _ (R5.new_ (nw_new W5 x)))
  have K3 : ∀ x, Calls Try.prog 31 #[.pointer (some ⟨w.heap.size + 1, 0, none⟩), .int .i64 0, .string t, .string (m ++ ⟨#[120]⟩)] (nw W5 x) fun e w' => e = .returned (.bool false) ∧ ∃ y, w' = nw W5 y := fun x => Calls.nw_of (HC3 _ _ _ (R5.new_ (nw_new W5 x)))
  have hy : (y = 0 ∧ (y.toNat : Int) = 0) ∨ (¬ y = 0 ∧ ¬ (y.toNat : Int) = 0) := by
    by_cases e : y = 0
    · subst e; exact .inl ⟨rfl, rfl⟩
    · refine .inr ⟨e, fun e2 => e (UInt8.toNat_inj.1 ?_)⟩
      show y.toNat = 0
      omega
  have ex : m.extract 1 32 = m.extract 1 m.size := by rw [hz]
  rcases hy with ⟨e1, e2⟩ | ⟨e1, e2⟩
  · rw [decide_eq_true e1] at K1
    clear e1 hx back
    first | (have e3 : ((y.toNat : Int) == 0) = true := by rw [beq_iff_eq]; exact e2) | (have e3 : ((y.toNat : Int) == 0) = false := by rw [beq_eq_false_iff_ne]; exact e2)
    go_wp2_with fail
    refine wp_region_new_lit (by kernel_rfl) (by kernel_rfl) ?_; (repeat (any_goals (first | go_big_quiet_step ((first | (go_at_call 25; with_reducible exact A1 _) | (go_at_call 31; with_reducible exact K1 _) | (go_at_call 31; with_reducible exact K2 _) | (go_at_call 31; with_reducible exact K3 _))) | quiet_step ((first | (go_at_call 25; with_reducible exact A1 _) | (go_at_call 31; with_reducible exact K1 _) | (go_at_call 31; with_reducible exact K2 _) | (go_at_call 31; with_reducible exact K3 _))) | (refine wpQuiet_step (fun K hK => ?_); go_simp; split <;> (refine hK _ ?_; clear hK K))))); all_goals (refine wpQuiet_nil ?_; intro _ hw'; obtain ⟨xq, hw''⟩ := hw'; subst hw''; have hnq := nw_new _ xq)
    all_goals go_wp2
    all_goals go_ret
    all_goals exact ⟨rfl, ((((g1.new_ g2).new_ g3).new_ n5).new_ hnq)⟩
  · rw [decide_eq_false e1] at K1
    clear e1 hx back
    first | (have e3 : ((y.toNat : Int) == 0) = true := by rw [beq_iff_eq]; exact e2) | (have e3 : ((y.toNat : Int) == 0) = false := by rw [beq_eq_false_iff_ne]; exact e2)
    go_wp2_with fail
    refine wp_region_new_lit (by kernel_rfl) (by kernel_rfl) ?_; (repeat (any_goals (first | go_big_quiet_step ((first | (go_at_call 25; with_reducible exact A1 _) | (go_at_call 31; with_reducible exact K1 _) | (go_at_call 31; with_reducible exact K2 _) | (go_at_call 31; with_reducible exact K3 _))) | quiet_step ((first | (go_at_call 25; with_reducible exact A1 _) | (go_at_call 31; with_reducible exact K1 _) | (go_at_call 31; with_reducible exact K2 _) | (go_at_call 31; with_reducible exact K3 _))) | (refine wpQuiet_step (fun K hK => ?_); go_simp; split <;> (refine hK _ ?_; clear hK K))))); all_goals (refine wpQuiet_nil ?_; intro _ hw'; obtain ⟨xq, hw''⟩ := hw'; subst hw''; have hnq := nw_new _ xq)
    all_goals go_wp2
    all_goals go_ret
    all_goals exact ⟨rfl, ((((g1.new_ g2).new_ g3).new_ n5).new_ hnq)⟩
end Go.Proofs.Ytceopjolkapijaa
