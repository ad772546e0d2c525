/- StampA: several texts as one. -/
import Derived.Test.YtjcpdpdhegcgoaaGreatDoorOpen
import Derived.RegionTactic
import Derived.ChangeAlike
import Derived.Deep.QuietTactic
import Derived.BigQuiet
import Derived.Deep.RegionWith
import Derived.Deep.RegionHeld3
import Derived.Lib.Hide
import Derived.Test.YtjcpdpdhegcgoaaGreatDoorWireB
/- Contracts of package stamp: what New, Check, See, Next, Seen do to a clock's block; what they answer. -/
namespace Go.Proofs.YtjcpdpdhegcgoaaGreatDoor
open Go.RowKit

/-- May a time be? -/
def Good (c n : Int) : Prop := 1 ≤ c ∧ c ≤ 281474976710655 ∧ 0 ≤ n ∧ n < 16
instance (c n : Int) : Decidable (Good c n) := by unfold Good; infer_instance
theorem not_good {c n : Int} (h : ¬ Good c n) : c < 1 ∨ (¬ c < 1 ∧ 281474976710655 < c) ∨ (¬ c < 1 ∧ ¬ 281474976710655 < c ∧ n < 0) ∨ (¬ c < 1 ∧ ¬ 281474976710655 < c ∧ ¬ n < 0 ∧ 16 ≤ n) := by
  unfold Good at h
  omega



end Go.Proofs.YtjcpdpdhegcgoaaGreatDoor

/- Contracts of a clock that is there: See, Next. -/
namespace Go.Proofs.YtjcpdpdhegcgoaaGreatDoor
open Go.RowKit

end Go.Proofs.YtjcpdpdhegcgoaaGreatDoor

/- The clock is awake; which numbers may be those of things. -/
namespace Go.Proofs.YtjcpdpdhegcgoaaGreatDoor
open Go.RowKit


def madeB (n : Int) : Bool := decide (16 ≤ n ∧ n ≤ 4503599627370495)
end Go.Proofs.YtjcpdpdhegcgoaaGreatDoor

/- Contracts of cmp.Compare, cmp.Or and stamp.Compare; of the reference's Before; of Thing. -/
namespace Go.Proofs.YtjcpdpdhegcgoaaGreatDoor
open Go.RowKit

def cmpI (a b : Int) : Int := if a < b then -1 else if b < a then 1 else 0
def orI (a b : Int) : Int := if a = 0 then b else a

def cmpB (a b : Bool) : Bool := a == b

def befB (a b c d : Int) : Bool := decide (a < c ∨ a = c ∧ b < d)
def thingI (c n : Int) : Int := if Good c n then c * 16 + n else 0

def checkI (c n : Int) : Int := if Good c n then 0 else 40
theorem lt_bef (a b c d : Int) : decide (orI (cmpI a c) (cmpI b d) < 0) = befB a b c d := by
  unfold befB
  rw [decide_eq_decide]
  unfold orI cmpI
  split <;> (try split) <;> (try split) <;> (try split) <;> omega
theorem gt_bef (a b c d : Int) : decide (0 < orI (cmpI a c) (cmpI b d)) = befB c d a b := by
  unfold befB
  rw [decide_eq_decide]
  unfold orI cmpI
  split <;> (try split) <;> (try split) <;> (try split) <;> omega
end Go.Proofs.YtjcpdpdhegcgoaaGreatDoor

/- Times in bytes: Take of both programs, Put, Bytes. -/
namespace Go.Proofs.YtjcpdpdhegcgoaaGreatDoor
open Go.RowKit
set_option linter.unusedVariables false

theorem rNumber_bound (r : Rd) (k : Nat) (hr : r.ok) (hk : k ≤ 8) : (rNumber r k).2 < 16 ^ (2 * k) := by
  have hpos : 0 < 16 ^ (2 * k) := Nat.pow_pos (by omega)
  obtain ⟨h0, h1, h2⟩ := hr
  unfold rNumber
  split
  · rw [if_neg (by omega)]
    split
    · exact hpos
    · rename_i hc
      cases hh : numL (r.s.extract r.pos.toNat (r.pos + 2 * k).toNat).data.toList with
      | none => exact hpos
      | some n =>
        have := numL_lt hh
        have hl : (r.s.extract r.pos.toNat (r.pos + 2 * k).toNat).data.toList.length = 2 * k := by
          have : (r.s.extract r.pos.toNat (r.pos + 2 * k).toNat).size = 2 * k := by
            rw [ByteArray.size_extract]
            omega
          exact this
        rw [hl] at this
        exact this
  · exact hpos
/-- What Take takes. -/
def rTake (r : Rd) : Rd × Int × Int :=
  if (rNumber (rNumber r 8).1 1).1.err = 0 then
    if checkI (rNumber r 8).2 (rNumber (rNumber r 8).1 1).2 = 0 then ((rNumber (rNumber r 8).1 1).1, (rNumber r 8).2, (rNumber (rNumber r 8).1 1).2)
    else ((rNumber (rNumber r 8).1 1).1.withErr 40, 0, 0)
  else ((rNumber (rNumber r 8).1 1).1, 0, 0)
theorem take_steps (r : Rd) (hr : r.ok) : ∃ (p1 e1 p2 e2 : Int) (c n : Nat), rNumber r 8 = (⟨r.s, p1, e1⟩, c) ∧ rNumber ⟨r.s, p1, e1⟩ 1 = (⟨r.s, p2, e2⟩, n) ∧ c ≤ 18446744073709551615 ∧ n < 256 ∧ Rd.ok ⟨r.s, p1, e1⟩ ∧ Rd.ok ⟨r.s, p2, e2⟩ ∧
    rTake r = if e2 = 0 then (if checkI c n = 0 then (⟨r.s, p2, e2⟩, (c : Int), (n : Int)) else (⟨r.s, p2, 40⟩, 0, 0)) else (⟨r.s, p2, e2⟩, 0, 0) := by
  have k1 := rNumber_ok hr 8
  have s1 := rNumber_s r 8
  have b1 := rNumber_bound r 8 hr (by omega)
  obtain ⟨⟨⟨t1, p1, e1⟩, c⟩, h1⟩ : ∃ p, rNumber r 8 = p := ⟨_, rfl⟩
  have b1' : (rNumber r 8).2 < 16 ^ (2 * 8) := b1
  rw [h1] at k1 s1 b1'
  simp only at k1 s1 b1'
  subst s1
  have k2 := rNumber_ok k1 1
  have s2 := rNumber_s ⟨r.s, p1, e1⟩ 1
  have b2 := rNumber_bound ⟨r.s, p1, e1⟩ 1 k1 (by omega)
  obtain ⟨⟨⟨t2, p2, e2⟩, n⟩, h2⟩ : ∃ p, rNumber ⟨r.s, p1, e1⟩ 1 = p := ⟨_, rfl⟩
  have b2' : (rNumber ⟨r.s, p1, e1⟩ 1).2 < 16 ^ (2 * 1) := b2
  rw [h2] at k2 s2 b2'
  simp only at k2 s2 b2'
  subst s2
  have e8 : (16 : Nat) ^ (2 * 8) = 18446744073709551616 := by decide
  have e9 : (16 : Nat) ^ (2 * 1) = 256 := by decide
  rw [e8] at b1'
  rw [e9] at b2'
  refine ⟨p1, e1, p2, e2, c, n, h1, h2, by omega, b2', k1, k2, ?_⟩
  unfold rTake
  simp only [h1, h2]
  rfl
theorem rTake_ok {r : Rd} (h : r.ok) : (rTake r).1.ok := by
  obtain ⟨p1, e1, p2, e2, c, n, h1, h2, hc, hn, k1, k2, hT⟩ := take_steps r h
  rw [hT]
  split
  · split <;> exact k2
  · exact k2


theorem wrNumber_fine {w : World} {b : Nat} {v : Value} {l : List UInt8} (hv : Bld 86 b v l w) (n : Nat) (hn : n ≤ 18446744073709551615) (k : Int) (hlen : l.length + 16 ≤ 140737488355328) :
    Calls Tryz.prog 59 #[.pointer (some ⟨b, 0, none⟩), .int .u64 n, .int .i64 k] w fun e w' => e = .returned (.tuple #[]) ∧ BldStep 86 b v (l ++ (numB (clip k) n).data.toList) w w' := by
  have HN := Lib.hid (number_any n hn k)
  have hz := numB_size (clip k) n
  have hc := (clip_cases k).1
  obtain ⟨s, hs⟩ : ∃ s, numB (clip k) n = s := ⟨_, rfl⟩
  rw [hs] at HN hz ⊢
  clear hs
  have HP : Hid (∀ w1, New w w1 → Calls Tryz.prog 83 #[.pointer (some ⟨b, 0, none⟩), .string s] w1 fun e w' => e = .returned (.tuple #[]) ∧ BldStep 86 b v (l ++ s.data.toList) w1 w') := by
    intro w1 hn1
    have HW := Lib.hid (writeString_any btWriter (hv.new_ hn1) s (by omega))
    go_enter Tryz.func83, Tryz.ntmps83
    go_wp2_with fail
    refine HW.out.mono ?_
    rintro e w2 ⟨rfl, h2⟩
    go_wp2
    go_end0
    exact ⟨rfl, h2⟩
  go_enter Tryz.func59, Tryz.ntmps59
  go_wp2_with fail
  refine (HN.out _).mono ?_
  rintro e w1 ⟨rfl, hn1⟩
  go_wp2_with fail
  refine (HP.out _ hn1).mono ?_
  rintro e w2 ⟨rfl, v', h1, h2, h3⟩
  go_wp2
  go_end0
  refine ⟨rfl, v', h1, Fr.trans (hn1.mono fun _ f => f.elim) h2 fun _ _ e => e, ?_⟩
  rcases h3 with h3 | ⟨k2, e, hk2⟩
  · exact .inl h3
  · exact .inr ⟨k2, e, Nat.le_trans hn1.size hk2⟩
end Go.Proofs.YtjcpdpdhegcgoaaGreatDoor
