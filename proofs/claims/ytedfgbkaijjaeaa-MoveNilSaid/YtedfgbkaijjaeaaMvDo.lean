/- An operation done. -/
import Derived.Test.YtedfgbkaijjaeaaMvDoF
import Derived.Test.YtedfgbkaijjaeaaMvDoT
namespace Go.Proofs.Ytedfgbkaijjaeaa
open Go.RowKit Go.Maps
set_option linter.unusedVariables false

theorem do_any {w : World} {t u N : Nat} {X : Nat → Prop} {l : List DoV} {s : TkV} (h : TrB w t X l s u) (hI : Inv s N) (hN : N ≤ 900) {e : EnV} (ht : e.op.thing < 18446744073709551616) (hp : e.op.parent < 18446744073709551616) :
    Calls Try.prog 52 #[.pointer (some ⟨t, 0, none⟩), e.val] w fun r W => r = .returned (doD s e).val ∧ TrTo w X t W l (doS s e) u ∧ W.heap[t]? = w.heap[t]? := by
  cases hc : (nextF s.th e.op).2 with
  | false => exact do_false h hI hN ht hp hc
  | true => exact do_true h hI hN ht hp hc
end Go.Proofs.Ytedfgbkaijjaeaa
