/- Readers: Text of the reference; Bool, End of both programs. -/
import Derived.Test.YtjcpdpdhegcgoaaGreatDoorWireText
namespace Go.Proofs.YtjcpdpdhegcgoaaGreatDoor
open Go.RowKit
set_option linter.unusedVariables false


def rBool (r : Rd) : Rd × Bool :=
  if r.err = 0 then
    if (rBytes r 1).1.err = 0 then
      if ((rBytes r 1).2.toList == [121]) = true then ((rBytes r 1).1, true)
      else if ((rBytes r 1).2.toList == [110]) = true then ((rBytes r 1).1, false)
      else (⟨r.s, r.pos, 6⟩, false)
    else (⟨r.s, r.pos, (rBytes r 1).1.err⟩, false)
  else (r, false)
theorem rBool_ok {r : Rd} (h : r.ok) : (rBool r).1.ok := by
  unfold rBool
  split
  · split
    · split
      · exact rBytes_ok h 1
      · split
        · exact rBytes_ok h 1
        · exact h
    · exact h
  · exact h
theorem rBytes_cases {r : Rd} (h : r.ok) (n : Int) (he : r.err = 0) : (∃ t, rBytes r n = (⟨r.s, r.pos + n, 0⟩, t)) ∨ (∃ e, (e == 0) = false ∧ rBytes r n = (⟨r.s, r.pos, e⟩, .empty)) := by
  unfold rBytes
  rw [if_pos he]
  split
  · right
    exact ⟨1, rfl, rfl⟩
  · split
    · right
      exact ⟨4, rfl, rfl⟩
    · left
      exact ⟨_, rfl⟩
end Go.Proofs.YtjcpdpdhegcgoaaGreatDoor
