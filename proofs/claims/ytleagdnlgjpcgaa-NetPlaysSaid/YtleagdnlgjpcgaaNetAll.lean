/- All, ranged over: each packet, in its order, as long as the body keeps what All's walker reads. -/
import Derived.RangeFuncNested
import Derived.RangeFuncBound
import Derived.RangeFuncCalls
import Derived.RangeFuncLeaves
import Derived.RangeFuncBox
import Derived.Shelf.Abstract
import Derived.Shelf.RegionOpen
import Derived.WalkKit
import Derived.OwnWalkIn
import Derived.TacticsInMore
import Derived.LoopNIn
import Derived.LoopIn
import Derived.Test.YtleagdnlgjpcgaaNetHeal
namespace Go.Proofs.Ytleagdnlgjpcgaa
open Go.RowKit Go.Maps Go.Shelf
set_option linter.unusedVariables false
set_option linter.unusedSimpArgs false
attribute [local go_sem] Oper.semAt_some

/-- What a body keeps: the cells of RS. -/
def KeepC (RS : Addr → Prop) (W W' : World) : Prop := ∀ a v, RS a → W.cell? a = some v → W'.cell? a = some v
theorem KeepC.refl (RS : Addr → Prop) (W : World) : KeepC RS W W := fun _ _ _ h => h
theorem KeepC.trans {RS : Addr → Prop} {A B C : World} (h : KeepC RS A B) (k : KeepC RS B C) : KeepC RS A C := fun a v r e => k a v r (h a v r e)
def pairs (l : List Pkt) (k : Nat) : List (Nat × Pkt) := (List.range k).map fun j => (j, l[j]?.getD noPkt)
theorem pairs_succ (l : List Pkt) (k : Nat) : pairs l (k + 1) = pairs l k ++ [(k, l[k]?.getD noPkt)] := by simp [pairs, List.range_succ]
theorem pairs_length (l : List Pkt) (k : Nat) : (pairs l k).length = k := by simp [pairs]
set_option maxHeartbeats 4000000 in
theorem len_cell {w : World} {n k cap : Nat} {A : Option Addr} (c0 : w.cell? ⟨n, 0, none⟩ = some (.slice A k cap)) : Calls Try.prog 10 #[.pointer (some ⟨n, 0, none⟩)] w fun e W => e = .returned (.int .i64 k) ∧ W = w := by
  go_enter Try.func10, Try.ntmps10
  go_wp2
  go_ret
  exact ⟨rfl, rfl⟩
set_option maxRecDepth 100000 in
set_option maxHeartbeats 4000000 in
theorem all1_in (F : Fence) (n : Nat) (h8 : F.fn 32) (h9 : F.fn 10) (hro : F.round = none) (hn : 1 ≤ n) (l Bs nb sb so cap : Nat) (L : List Pkt) (RS : Addr → Prop) (hL : L.length ≤ 4096)
    (HL : ∀ W, W.cell? ⟨nb, 0, none⟩ = some (.slice (some ⟨sb, so, none⟩) L.length cap) → CallsIn F (n - 1) Try.prog 10 #[.pointer (some ⟨nb, 0, none⟩)] W fun e W' => e = .returned (.int .i64 L.length) ∧ W' = W)
    (hr1 : RS ⟨Bs, 0, none⟩) (hr2 : RS ⟨nb, 0, none⟩) (hr3 : ∀ i, RS ⟨sb, i, none⟩) (J Jx : List (Nat × Pkt) → World → Prop)
    (hY : ∀ pre x W, J pre W → pre.length < L.length → YieldAt F (n - 1) Try.prog l #[.int .i64 (x.1 : Int), x.2.v] W fun e W' =>
      (e = .returned (.bool true) ∧ J (pre ++ [x]) W' ∧ KeepC RS W W') ∨ (e = .returned (.bool false) ∧ Jx (pre ++ [x]) W'))
    (W : World) (hBs : W.cell? ⟨Bs, 0, none⟩ = some (.pointer (some ⟨nb, 0, none⟩))) (hc0 : W.cell? ⟨nb, 0, none⟩ = some (.slice (some ⟨sb, so, none⟩) L.length cap)) (hc : PkS W (some ⟨sb, so, none⟩) L) (h0 : J [] W) :
    CallsIn F n Try.prog 32 #[.func (.yield l) #[] #[], .pointer (some ⟨Bs, 0, none⟩)] W fun e W' => (∃ v, e = .returned v) ∧
      ((∃ ys, ys = pairs L L.length ∧ J ys W') ∨ (∃ pre, (∃ k, k ≤ L.length ∧ pre = pairs L k) ∧ Jx pre W')) := by
  refine callsIn_of_wp Try.func32 rfl h8 ?_ hro
  simp only [Try.ntmps32, List.size_toArray, List.length_cons, List.length_nil, Nat.reduceAdd, Nat.reduceSub, Array.replicate_succ, Array.replicate_zero, List.push_toArray, List.append_toArray, List.nil_append, List.cons_append]
  gi_wp2_with (gi_at_call 10; refine (HL _ hc0).mono ?_; rintro e w' ⟨rfl, rfl⟩)
  gi_loopw [6] (fun i wr => ∃ k : Nat, k ≤ L.length ∧ i = .int .i64 k ∧ J (pairs L k) wr ∧ KeepC RS w' wr) (fun i _ => L.length - (intOf i).toNat)
  case atStart => exact ⟨0, Nat.zero_le _, rfl, h0, KeepC.refl _ _⟩
  case round =>
    obtain ⟨k, hk, rfl, hJs, hnx⟩ := hrel
    have hBs' := hnx _ _ hr1 hBs
    have hc0' := hnx _ _ hr2 hc0
    by_cases hlt : k < L.length
    · obtain ⟨p, hpi⟩ : ∃ p, L[k]? = some p := ⟨L[k], List.getElem?_eq_getElem hlt⟩
      obtain ⟨fn, tmps, assign, body, hy, hR⟩ := hY _ (k, L[k]?.getD noPkt) wr hJs (by rw [pairs_length]; exact hlt)
      simp only [hpi, Option.getD_some] at hy hR
      obtain ⟨sb', so', hAe, hcc⟩ := hc.2 k hlt
      cases hAe
      simp only [hpi] at hcc
      have a0 := hnx _ _ (hr3 _) (hcc 0 _ rfl)
      have a1 := hnx _ _ (hr3 _) (hcc 1 _ rfl)
      have a2 := hnx _ _ (hr3 _) (hcc 2 _ rfl)
      simp only [Nat.add_zero] at a0
      have hlt2 : (k : Int) < (L.length : Int) := by omega
      gi_wp2
      refine hR.mono ?_
      rintro e W3 (⟨rfl, hJ3, hk3⟩ | ⟨rfl, hJx3⟩)
      · gi_wp2
        go_roundw
        case rel => exact ⟨k + 1, by omega, by simp, by rw [pairs_succ, hpi]; exact hJ3, hnx.trans hk3⟩
        case measure => simp [intOf]; omega
      · gi_wp2
        refine bodyPost_ret (results_none rfl _ _ _) rfl ?_
        exact ⟨⟨_, rfl⟩, .inr ⟨_, ⟨k + 1, by omega, by rw [pairs_succ, hpi]; rfl⟩, hJx3⟩⟩
    · obtain rfl : k = L.length := by omega
      gi_wp2
      go_end0
      exact ⟨⟨_, rfl⟩, .inl ⟨_, rfl, hJs⟩⟩
set_option maxRecDepth 100000 in
set_option maxHeartbeats 4000000 in
theorem all1_nil_in {α : Type} (F : Fence) (n : Nat) (h8 : F.fn 32) (h9 : F.fn 10) (hn : 1 ≤ n) (hro : F.round = none) (l Bs : Nat) (pn : Option Addr)
    (HL : ∀ W, W.cell? ⟨Bs, 0, none⟩ = some (.pointer pn) → (∀ nb, pn = some nb → ∃ A cap, nb.spot = none ∧ W.cell? nb = some (.slice A 0 cap)) → CallsIn F (n - 1) Try.prog 10 #[.pointer pn] W fun e W' => e = .returned (.int .i64 0) ∧ W' = W)
    (J : List α → World → Prop) (W : World) (hBs : W.cell? ⟨Bs, 0, none⟩ = some (.pointer pn)) (hc0 : ∀ nb, pn = some nb → ∃ A cap, nb.spot = none ∧ W.cell? nb = some (.slice A 0 cap)) (h0 : J [] W) :
    CallsIn F n Try.prog 32 #[.func (.yield l) #[] #[], .pointer (some ⟨Bs, 0, none⟩)] W fun e W' => (∃ v, e = .returned v) ∧ J [] W' := by
  refine callsIn_of_wp Try.func32 rfl h8 ?_ hro
  simp only [Try.ntmps32, List.size_toArray, List.length_cons, List.length_nil, Nat.reduceAdd, Nat.reduceSub, Array.replicate_succ, Array.replicate_zero, List.push_toArray, List.append_toArray, List.nil_append, List.cons_append]
  gi_wp2_with (gi_at_call 10; refine (HL _ hBs hc0).mono ?_; rintro e w' ⟨rfl, rfl⟩)
  gi_loopw [6] (fun i wr => i = .int .i64 0 ∧ J [] wr) (fun _ _ => 0)
  case atStart => exact ⟨rfl, h0⟩
  case round =>
    obtain ⟨rfl, hJs⟩ := hrel
    gi_wp2
    go_end0
    exact ⟨⟨_, rfl⟩, hJs⟩
set_option maxHeartbeats 1000000 in
theorem all_fn {w : World} {v : Option Addr} : Calls Try.prog 21 #[.pointer v] w fun e W => e = .returned (.func (.func 32) #[] #[.pointer (some ⟨w.heap.size, 0, none⟩)]) ∧ W = w.alloc (.cells #[.pointer v] 23) := by
  go_enter Try.func21, Try.ntmps21
  go_wp2
  go_ret
  exact ⟨rfl, rfl⟩
/-- The packets of a network, ranged over. -/
theorem all_stops (Bs nb cap : Nat) (A : Option Addr) (L : List Pkt) (RS : Addr → Prop) (hL : L.length ≤ 4096) (w : World)
    (hr1 : RS ⟨Bs, 0, none⟩) (hr2 : RS ⟨nb, 0, none⟩) (hr3 : ∀ sb so, A = some ⟨sb, so, none⟩ → ∀ i, RS ⟨sb, i, none⟩) (hb1 : Bs < w.heap.size) (hb2 : nb < w.heap.size) (hb3 : ∀ a, A = some a → a.block < w.heap.size)
    (hBs : w.cell? ⟨Bs, 0, none⟩ = some (.pointer (some ⟨nb, 0, none⟩))) (hc0 : w.cell? ⟨nb, 0, none⟩ = some (.slice A L.length cap)) (hc : PkS w A L) (n : Nat) (hn : 1 ≤ n) :
    SeqStopsK Fence.wide n Try.prog 32 #[.pointer (some ⟨Bs, 0, none⟩)] (fun x : Nat × Pkt => #[.int .i64 (x.1 : Int), x.2.v]) (KeepC RS) (fun ys => ys = pairs L L.length) (fun pre => ∃ k, k ≤ L.length ∧ pre = pairs L k) L.length w := fun l J Jx W hW _ _ hY h0 => by
  have hBs' := (hW.cell (p := ⟨Bs, 0, none⟩) hb1).trans hBs
  have hc0' := (hW.cell (p := ⟨nb, 0, none⟩) hb2).trans hc0
  rcases Nat.eq_zero_or_pos L.length with h0L | hpos
  · have : L = [] := List.eq_nil_of_length_eq_zero h0L
    subst this
    refine (all1_nil_in Fence.wide n trivial trivial hn rfl l Bs (some ⟨nb, 0, none⟩) (fun W1 _ h2 => ?_) J W hBs' (fun x hx => ?_) h0).mono fun e W' ⟨he, hj⟩ => ⟨he, .inl ⟨_, rfl, hj⟩⟩
    · obtain ⟨A', cap', _, h2⟩ := h2 _ rfl
      exact callsIn_wide.2 (len_cell (k := 0) h2)
    · cases hx
      exact ⟨A, cap, rfl, hc0'⟩
  · obtain ⟨sb, so, hAe, _⟩ := hc.2 0 hpos
    subst hAe
    have hc' : PkS W (some ⟨sb, so, none⟩) L := ⟨hc.1, fun i hi => by
      obtain ⟨b, o, e, hh⟩ := hc.2 i hi
      refine ⟨b, o, e, fun j v hv => ?_⟩
      cases e
      exact (hW.cell (p := ⟨sb, so + i * 3 + j, none⟩) (hb3 ⟨sb, so, none⟩ rfl)).trans (hh j v hv)⟩
    exact all1_in Fence.wide n trivial trivial rfl hn l Bs nb sb so cap L RS hL (fun W1 h1 => callsIn_wide.2 (len_cell h1)) hr1 hr2 (hr3 sb so rfl) J Jx hY W hBs' hc0' hc' h0
end Go.Proofs.Ytleagdnlgjpcgaa
