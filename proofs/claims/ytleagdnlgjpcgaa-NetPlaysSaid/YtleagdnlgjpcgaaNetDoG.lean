/- What happens to a network, and to the model: whatever it is. -/
import Derived.Test.YtleagdnlgjpcgaaNetDoD
import Derived.Test.YtleagdnlgjpcgaaNetDoF
namespace Go.Proofs.Ytleagdnlgjpcgaa
open Go.RowKit Go.Maps
set_option linter.unusedVariables false
set_option linter.unusedSimpArgs false

theorem do_any {w : World} {n nl cl : Nat} {X : Nat → Prop} {s : NetV} {mv : Value} {a b : Int} {AL : Option Addr} {j : Nat} (hB : NetB w n X s) (hM : ModB w X mv s) (hj : Bnd s j) (hj2 : j ≤ 150) {kd nn : Int} {L : List Pkt} (hL : PkS w AL L) (hnl : nl = L.length) (hnc : nl ≤ cl) (hAL : ∀ ad, AL = some ad → 0 < nl → ¬ X ad.block ∧ ad.block < w.heap.size) (hwf : ∀ p ∈ L, p.wf) (ha : (Lit.int .i64 a).wf = true) (hb : (Lit.int .i64 b).wf = true) :
    Calls Try.prog 19 #[.pointer (some ⟨n, 0, none⟩), mv, .agg #[.int .i64 kd, .int .i64 nn, .int .i64 a, .int .i64 b, .slice AL nl cl]] w (DoOk w n X j) := by
  have hin : ∀ m : Int, ¬ (m < 0 ∨ (s.l.length : Int) ≤ m) → ∃ k : Nat, m = (k : Int) ∧ k < s.l.length := fun m h => ⟨m.toNat, by omega, by omega⟩
  have hin2 : ∀ m : Int, ¬ (m < 0 ∨ (s.l.length : Int) < m) → ∃ k : Nat, m = (k : Int) ∧ k ≤ s.l.length := fun m h => ⟨m.toNat, by omega, by omega⟩
  by_cases k1 : kd = 4
  · subst k1
    by_cases ho : nn < 0 ∨ (s.l.length : Int) ≤ nn
    · exact do_take_out hB hM hj hj2 ho
    · obtain ⟨k, rfl, hk⟩ := hin nn ho
      exact do_take_in hB hM hj hj2 hk
  by_cases k2 : kd = 10
  · subst k2
    by_cases ho : nn < 0 ∨ (s.l.length : Int) ≤ nn
    · exact do_peek_out hB hM hj hj2 ho
    · obtain ⟨k, rfl, hk⟩ := hin nn ho
      exact do_peek_in hB hM hj hj2 hk
  by_cases k3 : kd = 5
  · subst k3
    by_cases ho : nn < 0 ∨ (s.l.length : Int) ≤ nn
    · exact do_drop_out hB hM hj hj2 ho
    · obtain ⟨k, rfl, hk⟩ := hin nn ho
      exact do_drop_in hB hM hj hj2 hk
  by_cases k4 : kd = 6
  · subst k4
    by_cases ho : nn < 0 ∨ (s.l.length : Int) ≤ nn
    · exact do_double_out hB hM hj hj2 ho
    · obtain ⟨k, rfl, hk⟩ := hin nn ho
      exact do_double_in hB hM hj hj2 hk
  by_cases k5 : kd = 7
  · subst k5
    by_cases ho : nn < 0 ∨ (s.l.length : Int) < nn
    · exact do_insert_out hB hM hj hj2 ho
    · obtain ⟨k, rfl, hk⟩ := hin2 nn ho
      by_cases hz : s.l.length = 0
      · exact do_insert_zero hB hM hj hj2 hk hz
      · exact do_insert_some hB hM hj hj2 hk hz
  by_cases k6 : kd = 8
  · subst k6
    exact do_cut hB hM hj hj2 ha hb
  by_cases k7 : kd = 9
  · subst k7
    exact do_heal hB hM hj hj2
  exact do_send hB hM hj hj2 hL hnl hnc hAL hwf k1 k2 k3 k4 k5 k6 k7
end Go.Proofs.Ytleagdnlgjpcgaa
