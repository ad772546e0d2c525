/- The numbers behind a block are the document's. -/
import Derived.Test.YtceopjolkapijaaShaWhole
import Derived.DeepKeys
namespace Go.Proofs.Ytceopjolkapijaa
open Go.RowKit
set_option linter.unusedVariables false

theorem word_of {a : Int} (h : (Lit.int .u64 a).wf = true) : ∃ b : W64, a = (b.toNat : Int) := by
  obtain ⟨h0, h1⟩ := bounds_u64 h
  refine ⟨BitVec.ofNat 64 a.toNat, ?_⟩
  rw [BitVec.toNat_ofNat]
  omega
set_option maxRecDepth 100000 in
set_option maxHeartbeats 2000000 in
theorem mix_none (s : ShaS) (t : ByteArray) (ht : ¬ t.size = 128) (hz : t.size ≤ 9223372036854775807) (w : World) :
    Calls Try.prog 15 #[.agg s.cells, .string t] w fun e w' => e = .returned (.agg s.cells) ∧ New w w' := by
  have ht2 : ¬ (t.size : Int) = 128 := by omega
  go_enter Try.func15, Try.ntmps15
  go_wp2_with fail
  refine bodyPost_ret (v := .agg s.cells) ?_ rfl ⟨rfl, by repeat (first | with_reducible exact Fr.refl _ _ | with_reducible assumption | with_reducible refine Fr.drew ?_ | with_reducible refine Fr.drewN ?_ _ | with_reducible refine Fr.alloc ?_ _ | with_reducible refine Fr.set ?_ (by first | exact fun _ => rfl | (intro hlt; exfalso; simp at hlt; try omega) | (simp; omega)) _ | with_reducible refine Fr.new_ ?_ (by with_reducible assumption) | (with_reducible refine Fr.trans ?_ (by with_reducible assumption) (fun i hi e => by (first | omega | (simp at e; omega)))))⟩
  refine results_own (b := w.heap.size + 1) rfl _ rfl ?_ Try.underlying23 (by kernel_rfl)
  exact Own.new' (by simp)
theorem wfU (x : W64) : (Lit.int .u64 (x.toNat : Int)).wf = true := by
  have := x.isLt
  simp only [Lit.wf, Bool.and_eq_true, decide_eq_true_eq]
  exact ⟨by show (0 : Int) ≤ _; omega, by show _ ≤ (18446744073709551615 : Int); omega⟩
theorem lits8 (s : ShaS) : Try.prog.keyLits 10 23 s.cells.toList = some [.int .u64 s.a.toNat, .int .u64 s.b.toNat, .int .u64 s.c.toNat, .int .u64 s.d.toNat, .int .u64 s.e.toNat, .int .u64 s.f.toNat, .int .u64 s.g.toNat, .int .u64 s.h.toNat] := by
  have c8 : Try.prog.cellsOf 23 = 8 := by kernel_rfl
  have c1 : Try.prog.cellsOf 22 = 1 := by kernel_rfl
  have one : ∀ x : W64, Try.prog.keyLits 9 22 [U x] = some [.int .u64 x.toNat] := fun x => by
    unfold Program.keyLits
    rw [Try.underlying22]
    simp [wfU]
  unfold Program.keyLits
  rw [Try.underlying23]
  simp only [c8, c1]
  simp [List.range, List.range.loop, one]
theorem eq8_same (s : ShaS) (w : World) : (Op.equalIn 10000 23 (.agg s.cells) (.agg s.cells)).run Try.prog w = .ok true w := by
  have hf : (Value.agg s.cells).formed Try.prog 23 = true := by kernel_rfl
  obtain ⟨r, hr, hiff⟩ := run_equalIn_deep (P := Try.prog) 9990 10 23 (by kernel_rfl) w 10 10 _ _ _ _ hf hf (lits8 s) (lits8 s)
  rw [hiff.2 rfl] at hr
  exact hr
theorem app_empty (t : ByteArray) : t = t ++ ⟨(List.replicate 0 (0 : UInt8)).toArray⟩ := by
  apply ByteArray.ext
  apply Array.ext'
  rw [app_list]
  simp
/-- A text filled up with noughts. -/
def fillB (t : ByteArray) : ByteArray := (t ++ ⟨(List.replicate (128 - t.size) (0 : UInt8)).toArray⟩).extract 0 128
theorem fillB_size (t : ByteArray) : (fillB t).size = 128 := by
  unfold fillB
  rw [ByteArray.size_extract, ByteArray.size_append]
  have : (⟨(List.replicate (128 - t.size) (0 : UInt8)).toArray⟩ : ByteArray).size = 128 - t.size := by rw [← data_len]; simp
  omega
set_option maxRecDepth 100000 in
set_option maxHeartbeats 2000000 in
theorem shaMixes_walk (x : E8uint6423) {wa : World} (ha : x.facts wa) (s : ByteArray) (hs : s.size ≤ 140737488351232) (w : World) :
    Calls Try.prog 3 #[.agg x.cells.toArray, .string s] w fun e w' => e = .returned (.bool true) ∧ New w w' := by
  obtain ⟨H, hH⟩ : ∃ H : ShaS, x.cells.toArray = H.cells := by
    obtain ⟨f0, f1, f2, f3, f4, f5, f6, f7⟩ := ha
    obtain ⟨b0, e0⟩ := word_of f0
    obtain ⟨b1, e1⟩ := word_of f1
    obtain ⟨b2, e2⟩ := word_of f2
    obtain ⟨b3, e3⟩ := word_of f3
    obtain ⟨b4, e4⟩ := word_of f4
    obtain ⟨b5, e5⟩ := word_of f5
    obtain ⟨b6, e6⟩ := word_of f6
    obtain ⟨b7, e7⟩ := word_of f7
    refine ⟨⟨b0, b1, b2, b3, b4, b5, b6, b7⟩, ?_⟩
    simp only [E8uint6423.cells, ShaS.cells, e0, e1, e2, e3, e4, e5, e6, e7]
  rw [hH]
  clear hH ha
  have hf := few01_size s
  have HF := Lib.hid (fun w => few01_any s (by omega) w)
  obtain ⟨t, htt⟩ : ∃ t, few01 s = t := ⟨_, rfl⟩
  rw [htt] at hf HF
  clear htt
  have hfz := fillB_size t
  have HB : Hid (fillB t = (t ++ ⟨(List.replicate (128 - t.size) (0 : UInt8)).toArray⟩).extract 0 128) := rfl
  go_enter Try.func3, Try.ntmps3
  go_wp2_with fail
  refine (HF.out _).mono ?_
  rintro e w1 ⟨rfl, rfl⟩
  go_wp2_with fail
  go_loop [6] (fun bv => ∃ (k : Nat) (r : ByteArray), bv = .string r ∧ r.size = t.size + k ∧ (k = 0 ∨ r.size ≤ 128) ∧ Hid (r = t ++ ⟨(List.replicate k (0 : UInt8)).toArray⟩)) (fun bv => 128 - strLen bv)
  case atStart => exact ⟨0, t, rfl, by omega, .inl rfl, app_empty t⟩
  case round =>
    obtain ⟨k, r, rfl, hr, hk, HR⟩ := hrel
    by_cases hlt : r.size < 128
    · have hlt2 : (r.size : Int) < 128 := by omega
      have e : (r ++ ⟨#[0]⟩ : ByteArray).size = r.size + 1 := by rw [ByteArray.size_append]; rfl
      have HE := Lib.hid e
      clear e
      go_wp2_with fail
      go_round
      case rel =>
        refine ⟨k + 1, r ++ ⟨#[0]⟩, rfl, by rw [HE.out, hr]; omega, .inr (by rw [HE.out]; omega), ?_⟩
        show _ = _
        rw [HR.out, ByteArray.append_assoc]
        congr 1
        apply ByteArray.ext
        apply Array.ext'
        rw [app_list]
        show List.replicate k 0 ++ [0] = List.replicate (k + 1) 0
        rw [List.replicate_succ']
      case measure =>
        simp only [strLen, HE.out]
        omega
    · have hlt2 : (128 : Int) ≤ (r.size : Int) := by omega
      obtain ⟨b, hb⟩ : ∃ b, r.extract 0 128 = b := ⟨_, rfl⟩
      have hbz : b.size = 128 := by rw [← hb, ByteArray.size_extract]; omega
      have h0 := Own.fresh w 23 H.cells
      have q0 := h0.nw 0
      have q1 := h0.nw 1
      have q2 := h0.nw 2
      have q3 := h0.nw 3
      have q4 := h0.nw 4
      have q5 := h0.nw 5
      have q6 := h0.nw 6
      have q7 := h0.nw 7
      simp only [ShaS.cells, List.getElem?_toArray, List.getElem?_cons_zero, List.getElem?_cons_succ] at q0 q1 q2 q3 q4 q5 q6 q7
      have A1 : ∀ x, Calls Try.prog 12 #[] (nw (w.alloc (.cells H.cells 23)) x) fun e w' => e = .returned (.bool true) ∧ ∃ y, w' = nw (w.alloc (.cells H.cells 23)) y := fun x => Calls.nw_of (awake01_any _)
      have A2 : ∀ x, Calls Try.prog 13 #[] (nw (w.alloc (.cells H.cells 23)) x) fun e w' => e = .returned (.agg shaStart.cells) ∧ ∃ y, w' = nw (w.alloc (.cells H.cells 23)) y := fun x => Calls.nw_of (start_any _)
      have A3 : ∀ x, Calls Try.prog 14 #[] (nw (w.alloc (.cells H.cells 23)) x) fun e w' => e = .returned (.agg shaStart.cells) ∧ ∃ y, w' = nw (w.alloc (.cells H.cells 23)) y := fun x => Calls.nw_of (refStart_any _)
      have A4 : ∀ x, Calls Try.prog 15 #[.agg H.cells, .string b] (nw (w.alloc (.cells H.cells 23)) x) fun e w' => e = .returned (.agg (shaMix H b.data.toList).cells) ∧ ∃ y, w' = nw (w.alloc (.cells H.cells 23)) y := fun x => Calls.nw_of (mix_any H b hbz _)
      have A5 : ∀ x, Calls Try.prog 16 #[.agg H.cells, .string b] (nw (w.alloc (.cells H.cells 23)) x) fun e w' => e = .returned (.agg (shaMix H b.data.toList).cells) ∧ ∃ y, w' = nw (w.alloc (.cells H.cells 23)) y := fun x => Calls.nw_of (refMix_any H b hbz _)
      obtain ⟨M, hM⟩ : ∃ M, shaMix H b.data.toList = M := ⟨_, rfl⟩
      rw [hM] at A4 A5
      clear hM hbz
      have EQ1 := fun w => eq8_same shaStart w
      have EQ2 := fun w => eq8_same M w
      have EQ3 := fun w => eq8_same H w
      have hlN : (shaStart.cells.size) = 8 := rfl
      clear hlN
      by_cases h128 : t.size = 128
      · have h128' : (t.size : Int) = 128 := by omega
        go_wp2_with fail
        refine wp_region_new_lit (by kernel_rfl) (by kernel_rfl) ?_; (repeat (any_goals (first | go_big_quiet_step ((first | (go_at_call 12; with_reducible exact A1 _) | (go_at_call 13; with_reducible exact A2 _) | (go_at_call 14; with_reducible exact A3 _) | (go_at_call 15; with_reducible exact A4 _) | (go_at_call 16; with_reducible exact A5 _))) | quiet_step ((first | (go_at_call 12; with_reducible exact A1 _) | (go_at_call 13; with_reducible exact A2 _) | (go_at_call 14; with_reducible exact A3 _) | (go_at_call 15; with_reducible exact A4 _) | (go_at_call 16; with_reducible exact A5 _))) | (refine wpQuiet_step (fun K hK => ?_); go_simp; split <;> (refine hK _ ?_; clear hK K))))); all_goals (refine wpQuiet_nil ?_; intro _ hw'; obtain ⟨xq, hw''⟩ := hw'; subst hw''; have hnq := nw_new _ xq)
        go_wp2
        go_ret
        exact ⟨rfl, ((Fr.refl _ _).alloc _).new_ hnq⟩
      · have h128' : ¬ (t.size : Int) = 128 := by omega
        have A6 : ∀ x, Calls Try.prog 15 #[.agg H.cells, .string t] (nw (w.alloc (.cells H.cells 23)) x) fun e w' => e = .returned (.agg H.cells) ∧ ∃ y, w' = nw (w.alloc (.cells H.cells 23)) y := fun x => Calls.nw_of (mix_none H t h128 (by omega) _)
        go_wp2_with fail
        refine wp_region_new_lit (by kernel_rfl) (by kernel_rfl) ?_; (repeat (any_goals (first | go_big_quiet_step ((first | (go_at_call 12; with_reducible exact A1 _) | (go_at_call 13; with_reducible exact A2 _) | (go_at_call 14; with_reducible exact A3 _) | (go_at_call 15; with_reducible exact A4 _) | (go_at_call 15; with_reducible exact A6 _) | (go_at_call 16; with_reducible exact A5 _))) | quiet_step ((first | (go_at_call 12; with_reducible exact A1 _) | (go_at_call 13; with_reducible exact A2 _) | (go_at_call 14; with_reducible exact A3 _) | (go_at_call 15; with_reducible exact A4 _) | (go_at_call 15; with_reducible exact A6 _) | (go_at_call 16; with_reducible exact A5 _))) | (refine wpQuiet_step (fun K hK => ?_); go_simp; split <;> (refine hK _ ?_; clear hK K))))); all_goals (refine wpQuiet_nil ?_; intro _ hw'; obtain ⟨xq, hw''⟩ := hw'; subst hw''; have hnq := nw_new _ xq)
        go_wp2
        go_ret
        exact ⟨rfl, ((Fr.refl _ _).alloc _).new_ hnq⟩
end Go.Proofs.Ytceopjolkapijaa
