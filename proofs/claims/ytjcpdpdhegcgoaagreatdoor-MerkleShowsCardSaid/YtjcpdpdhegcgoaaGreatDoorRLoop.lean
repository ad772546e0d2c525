/- What a reader takes, one text behind the other. -/
import Derived.Test.YtjcpdpdhegcgoaaGreatDoorTxL
import Derived.Test.YtjcpdpdhegcgoaaGreatDoorStampA
import Derived.Test.YtjcpdpdhegcgoaaGreatDoorWireHash
namespace Go.Proofs.YtjcpdpdhegcgoaaGreatDoor
open Go.RowKit
set_option linter.unusedVariables false

theorem calls_worldR {P : Program} {f : FuncId} {args : Array Value} {Q : Ending → World → Prop} {W : World} (F : World → Prop) (h : F W) (k : ∀ W', F W' → Calls P f args W' Q) : Calls P f args W Q := k W h
theorem post_worldR {P : Program} {fn : Func} {Q : Ending → World → Prop} {x : Exit} {a : Act} {W : World} (F : World → Prop) (h : F W) (k : ∀ W', F W' → bodyPost P fn Q x a W') : bodyPost P fn Q x a W := k W h
/-- What a reader takes, one behind the other, as long as it has no error. -/
def rLoop (f : Rd → Rd × ByteArray) : Nat → Rd → Rd × List ByteArray
  | 0, r => (r, [])
  | n + 1, r => if r.err = 0 then ((rLoop f n (f r).1).1, (f r).2 :: (rLoop f n (f r).1).2) else (r, [])
theorem rLoop_err (f : Rd → Rd × ByteArray) (n : Nat) (r : Rd) (h : ¬ r.err = 0) : rLoop f n r = (r, []) := by
  cases n with
  | zero => rfl
  | succ n => unfold rLoop; rw [if_neg h]
theorem rLoop_ok (f : Rd → Rd × ByteArray) (hf : ∀ r, r.ok → (f r).1.ok) : ∀ n r, r.ok → (rLoop f n r).1.ok := by
  intro n
  induction n with
  | zero => intro r h; exact h
  | succ n ih =>
    intro r h
    unfold rLoop
    split
    · exact ih _ (hf r h)
    · exact h
theorem rLoop_length (f : Rd → Rd × ByteArray) : ∀ n r, (rLoop f n r).2.length ≤ n := by
  intro n
  induction n with
  | zero => intro r; exact Nat.le_refl _
  | succ n ih =>
    intro r
    unfold rLoop
    split
    · have := ih (f r).1; simp only [List.length_cons]; omega
    · simp
def rHash (r : Rd) : Rd × ByteArray := rBytes r 32
end Go.Proofs.YtjcpdpdhegcgoaaGreatDoor
