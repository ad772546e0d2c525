/- Small functions of the Move laws: an operation as move has it; what a nil tree still answers. -/
import Derived.Test.YtedfgbkaijjaeaaMvNil
import Derived.Test.YtedfgbkaijjaeaaMvDoH
import Derived.Test.YtedfgbkaijjaeaaRangeBoxX
namespace Go.Proofs.Ytedfgbkaijjaeaa
open Go.RowKit Go.Maps Go.Shelf
set_option linter.unusedVariables false
set_option linter.unusedSimpArgs false
attribute [local go_sem] Oper.semAt_some

theorem conv1 {W : World} {b : Nat} {h : Int} (hO : Own W b 5 #[.int .u8 h]) (hh : (Lit.int .u8 h).wf = true) : (convert 97 9 (.slice (some ⟨b, 0, none⟩) 1 1)).run Try.prog W = .ok (.string ⟨#[UInt8.ofNat h.toNat]⟩) W := by
  have hr : 0 ≤ h ∧ h ≤ 255 := by
    have h1 : IntKind.u8.min = 0 := rfl
    have h2 : IntKind.u8.max = 255 := rfl
    simp only [Lit.wf, Bool.and_eq_true, decide_eq_true_eq] at hh
    rw [h1, h2] at hh
    exact ⟨by omega, by omega⟩
  refine run_convert_bytes_back (P := Try.prog) W 97 9 5 ⟨b, 0, none⟩ 1 [UInt8.ofNat h.toNat] Try.underlying97 Try.underlying5 Try.underlying9 fun j hj => ?_
  have hj0 : j = 0 := by simpa using hj
  subst hj0
  have := hO.cell 0
  rw [show (⟨b, 0, none⟩ : Addr).add 0 = ⟨b, 0, none⟩ by unfold Addr.add; rfl, this]
  have e : ((UInt8.ofNat h.toNat).toNat : Int) = h := by
    rw [UInt8.toNat_ofNat']
    omega
  simp [e]
  omega
set_option maxRecDepth 100000 in
set_option maxHeartbeats 2000000 in
theorem entry_any {kd ct wh th pa sz h : Int} {nm dg : ByteArray} {dr : Bool} {w : World} (hh : (Lit.int .u8 h).wf = true) :
    Calls Try.prog 10 #[.agg #[.int .i64 kd, .int .u64 ct, .int .i64 wh, .int .u64 th, .int .u64 pa, .string nm, .bool dr, .string dg, .int .i64 sz, .int .u8 h]] w fun r W => r = .returned (.agg #[.int .i64 kd, .int .u64 ct, .int .i64 wh, .int .u64 th, .int .u64 pa, .string nm, .bool dr, .string dg, .int .i64 sz, .string ⟨#[UInt8.ofNat h.toNat]⟩]) ∧ New w W := by
  have hcv := conv1 (W := ((w.alloc (.cells #[.int .i64 kd, .int .u64 ct, .int .i64 wh, .int .u64 th, .int .u64 pa, .string nm, .bool dr, .string dg, .int .i64 sz, .int .u8 h] 28)).alloc (.cells #[.int .i64 0, .int .u64 0, .int .i64 0, .int .u64 0, .int .u64 0, .string ⟨#[]⟩, .bool false, .string ⟨#[]⟩, .int .i64 0, .string ⟨#[]⟩] 31)).alloc (.cells #[.int .u8 h] 5)) (b := w.heap.size + 1 + 1) (Own.new' (by simp)) hh
  go_enter Try.func10, Try.ntmps10
  go_wp2
  exact bodyPost_ret (v := .agg #[.int .i64 kd, .int .u64 ct, .int .i64 wh, .int .u64 th, .int .u64 pa, .string nm, .bool dr, .string dg, .int .i64 sz, .string ⟨#[UInt8.ofNat h.toNat]⟩]) (by simp [results, Try.results10, go_sem, *]) rfl ⟨rfl, by repeat (first | with_reducible exact Fr.refl _ _ | with_reducible assumption | with_reducible refine Fr.drew ?_ | with_reducible refine Fr.drewN ?_ _ | with_reducible refine Fr.alloc ?_ _ | with_reducible refine Fr.set ?_ (by first | exact fun _ => rfl | (intro hlt; exfalso; simp at hlt; try omega) | (simp; omega)) _ | with_reducible refine Fr.new_ ?_ (by assumption))⟩
set_option maxRecDepth 100000 in
theorem deep_nil {id : Int} {w : World} : Calls Try.prog 17 #[.pointer none, .int .u64 id] w fun e W => e = .returned (.int .i64 (-1)) ∧ New w W := by
  refine (callsIn_wide (n := 4)).1 ?_
  refine callsIn_of_wp_marks Try.func17 rfl trivial ?_
  simp only [Try.ntmps17, List.size_toArray, List.length_cons, List.length_nil, Nat.reduceAdd, Nat.reduceSub, Array.replicate_succ, Array.replicate_zero, List.push_toArray, List.append_toArray, List.nil_append, List.cons_append]
  refine wpIn_wide.2 ?_
  go_wp2
  exact ⟨.int .i64 (-1), by simp [results, Try.results17, go_sem, *], rfl, by repeat (first | with_reducible exact Fr.refl _ _ | with_reducible assumption | with_reducible refine Fr.drew ?_ | with_reducible refine Fr.drewN ?_ _ | with_reducible refine Fr.alloc ?_ _ | with_reducible refine Fr.set ?_ (by first | exact fun _ => rfl | (intro hlt; exfalso; simp at hlt; try omega) | (simp; omega)) _ | with_reducible refine Fr.new_ ?_ (by assumption))⟩
set_option maxHeartbeats 1000000 in
theorem all_fn {w : World} {v : Option Addr} : Calls Try.prog 28 #[.pointer v] w fun e W => e = .returned (.func (.func 64) #[] #[.pointer (some ⟨w.heap.size, 0, none⟩)]) ∧ W = w.alloc (.cells #[.pointer v] 42) := by
  go_enter Try.func28, Try.ntmps28
  go_wp2
  go_ret
  exact ⟨rfl, rfl⟩
set_option maxRecDepth 100000 in
set_option maxHeartbeats 2000000 in
/-- No rounds over a tree that is not. -/
theorem all_none {w : World} {b : Nat} (hB : Own w b 42 #[.pointer none]) (n : Nat) (hn : 1 ≤ n) :
    BoxStops Fence.wide n Try.prog 64 #[.pointer (some ⟨b, 0, none⟩)] (fun x : Value => #[x]) (fun _ => True) (fun xs => xs = []) (fun _ => False) 0 b (fun _ => True) w := by
  intro lp J Jx W hN hK hJ hJx hY hj0
  have hb := hB.new_ hN
  have c0 : W.cell? ⟨b, 0, none⟩ = some (.pointer none) := hb.cell 0
  refine callsIn_of_wp Try.func64 rfl trivial ?_ rfl
  simp only [Try.ntmps64, List.size_toArray, List.length_cons, List.length_nil, Nat.reduceAdd, Nat.reduceSub, Array.replicate_succ, Array.replicate_zero, List.push_toArray, List.append_toArray, List.nil_append, List.cons_append]
  gi_wp2
  refine bodyPost_ret (results_none rfl _ _ _) rfl ?_
  first
    | exact ⟨⟨_, rfl⟩, Or.inl ⟨_, rfl, hj0⟩⟩
    | exact ⟨⟨_, rfl⟩, hj0⟩
    | exact hj0
end Go.Proofs.Ytedfgbkaijjaeaa
