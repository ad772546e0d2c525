/- Readers: what each call takes, as a function on (bytes, place, error); the plain readers of both programs: Fail, Err, At, Left, Bytes. -/
import Derived.Test.YtjcpdpdhegcgoaaGreatDoorWireFnv
import Derived.ChangeAlike
namespace Go.Proofs.YtjcpdpdhegcgoaaGreatDoor
open Go.RowKit
set_option linter.unusedVariables false

/-- A reader: its bytes, how many were taken, its error. -/
structure Rd where
  s : ByteArray
  pos : Int
  err : Int
/-- It stands in its bytes. -/
def Rd.ok (r : Rd) : Prop := r.s.size ≤ 9223372036854775807 ∧ 0 ≤ r.pos ∧ r.pos ≤ r.s.size
def OwnR (w : World) (b : Nat) (r : Rd) : Prop := Own w b 91 #[.string r.s, .int .i64 r.pos, .int .i64 r.err]
/-- The reference's reader, a value. -/
abbrev Rd.val (r : Rd) : Value := .agg #[.string r.s, .int .i64 r.pos, .int .i64 r.err]
def Rd.withErr (r : Rd) (e : Int) : Rd := ⟨r.s, r.pos, e⟩
def rBytes (r : Rd) (n : Int) : Rd × ByteArray :=
  if r.err = 0 then
    if n < 0 then (r.withErr 1, .empty)
    else if r.s.size - r.pos < n then (r.withErr 4, .empty)
    else (⟨r.s, r.pos + n, 0⟩, r.s.extract r.pos.toNat (r.pos + n).toNat)
  else (r, .empty)
theorem rBytes_ok {r : Rd} (h : r.ok) (n : Int) : (rBytes r n).1.ok := by
  unfold rBytes
  split
  · split
    · exact h
    · split
      · exact h
      · obtain ⟨h0, h1, h2⟩ := h
        refine ⟨h0, ?_, ?_⟩ <;> simp only <;> omega
  · exact h

theorem newReader_any (s : ByteArray) (w : World) : Calls Tryz.prog 27 #[.string s] w fun e w' => e = .returned (.pointer (some ⟨w.heap.size, 0, none⟩)) ∧ w' = w.alloc (.cells #[.string s, .int .i64 0, .int .i64 0] 91) := by
  go_enter Tryz.func27, Tryz.ntmps27
  go_wp2
  go_ret
  exact ⟨rfl, rfl⟩
theorem OwnR.fresh (s : ByteArray) (w : World) : OwnR (w.alloc (.cells #[.string s, .int .i64 0, .int .i64 0] 91)) w.heap.size ⟨s, 0, 0⟩ := Own.fresh _ _ _

def rFail (r : Rd) (e : Int) : Rd := if r.err = 0 then r.withErr e else r
theorem fail_any {b : Nat} {r : Rd} {w : World} (h : OwnR w b r) (e : Int) :
    Calls Tryz.prog 87 #[.pointer (some ⟨b, 0, none⟩), .int .i64 e] w fun e' w' => e' = .returned (.tuple #[]) ∧ OwnR w' b (rFail r e) ∧ Fr (· = b) w w' := by
  obtain ⟨s, pos, err⟩ := r
  obtain ⟨h0, h1, h2, h3, h4, h5⟩ := Own.three h
  by_cases he : err = 0
  · subst he
    have HP : Hid (rFail ⟨s, pos, 0⟩ e = ⟨s, pos, e⟩) := rfl
    go_enter Tryz.func87, Tryz.ntmps87
    go_wp2
    go_end0
    refine ⟨rfl, ?_, by repeat (first | with_reducible exact Fr.refl _ _ | with_reducible assumption | with_reducible refine Fr.drew ?_ | with_reducible refine Fr.drewN ?_ _ | with_reducible refine Fr.alloc ?_ _ | with_reducible refine Fr.set ?_ (by first | exact fun _ => rfl | (intro hlt; exfalso; simp at hlt; try omega) | (simp; omega)) _ | with_reducible refine Fr.new_ ?_ (by assumption))⟩
    rw [HP.out]
    exact Own.put h rfl
  · have hz : (err == 0) = false := by rw [beq_eq_false_iff_ne]; exact he
    have HP : Hid (rFail ⟨s, pos, err⟩ e = ⟨s, pos, err⟩) := if_neg he
    clear he
    go_enter Tryz.func87, Tryz.ntmps87
    go_wp2
    go_end0
    refine ⟨rfl, ?_, by repeat (first | with_reducible exact Fr.refl _ _ | with_reducible assumption | with_reducible refine Fr.drew ?_ | with_reducible refine Fr.drewN ?_ _ | with_reducible refine Fr.alloc ?_ _ | with_reducible refine Fr.set ?_ (by first | exact fun _ => rfl | (intro hlt; exfalso; simp at hlt; try omega) | (simp; omega)) _ | with_reducible refine Fr.new_ ?_ (by assumption))⟩
    rw [HP.out]
    exact h
theorem err_any {b : Nat} {r : Rd} {w : World} (h : OwnR w b r) : Calls Tryz.prog 32 #[.pointer (some ⟨b, 0, none⟩)] w fun e w' => e = .returned (.int .i64 r.err) ∧ w = w' := by
  obtain ⟨h0, h1, h2, h3, h4, h5⟩ := Own.three h
  go_enter Tryz.func32, Tryz.ntmps32
  go_wp2
  go_ret
  exact ⟨rfl, rfl⟩
theorem at_any {b : Nat} {r : Rd} {w : World} (h : OwnR w b r) : Calls Tryz.prog 33 #[.pointer (some ⟨b, 0, none⟩)] w fun e w' => e = .returned (.int .i64 r.pos) ∧ w = w' := by
  obtain ⟨h0, h1, h2, h3, h4, h5⟩ := Own.three h
  go_enter Tryz.func33, Tryz.ntmps33
  go_wp2
  go_ret
  exact ⟨rfl, rfl⟩
theorem left_any {b : Nat} {r : Rd} {w : World} (h : OwnR w b r) (hr : r.ok) : Calls Tryz.prog 66 #[.pointer (some ⟨b, 0, none⟩)] w fun e w' => e = .returned (.int .i64 (r.s.size - r.pos)) ∧ ∃ n, w' = w.drewN n := by
  obtain ⟨h0, h1, h2, h3, h4, h5⟩ := Own.three h
  obtain ⟨s, pos, err⟩ := r
  obtain ⟨r0, r1, r2⟩ := hr
  simp only at r0 r1 r2
  go_enter Tryz.func66, Tryz.ntmps66
  go_wp2
  go_region
  all_goals
    go_wp2
    go_ret
    exact ⟨rfl, 1, rfl⟩
end Go.Proofs.YtjcpdpdhegcgoaaGreatDoor
