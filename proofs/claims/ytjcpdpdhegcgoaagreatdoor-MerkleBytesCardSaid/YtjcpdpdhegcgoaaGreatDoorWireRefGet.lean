/- The reference's readers: Number. -/
import Derived.Test.YtjcpdpdhegcgoaaGreatDoorWireGet
namespace Go.Proofs.YtjcpdpdhegcgoaaGreatDoor
open Go.RowKit
set_option linter.unusedVariables false




theorem extract_le16 {s : ByteArray} {pos : Int} (k : Int) (h0 : 0 ≤ k) (h1 : k ≤ 8) (hp : 0 ≤ pos) : (s.extract pos.toNat (pos + 2 * k).toNat).size ≤ 16 := by
  rw [ByteArray.size_extract]
  omega

theorem rNumber_ok {r : Rd} (h : r.ok) (k : Int) : (rNumber r k).1.ok := by
  obtain ⟨h0, h1, h2⟩ := h
  unfold rNumber
  split
  · split
    · exact ⟨h0, h1, h2⟩
    · split
      · exact ⟨h0, h1, h2⟩
      · split
        · refine ⟨h0, ?_, ?_⟩ <;> simp only <;> omega
        · exact ⟨h0, h1, h2⟩
  · exact ⟨h0, h1, h2⟩
theorem hexv_le (c : UInt8) : hexv c ≤ 16 := by
  have := c.toNat_lt
  unfold hexv
  split
  · rename_i h
    have := UInt8.le_iff_toNat_le.mp h.2
    simp at this
    omega
  · split
    · rename_i h
      have := UInt8.le_iff_toNat_le.mp h.2
      simp at this
      omega
    · omega
theorem numL_lt_rev (l : List UInt8) : ∀ n, numL l.reverse = some n → n < 16 ^ l.length := by
  induction l with
  | nil => intro n h; simp [numL] at h; subst h; simp
  | cons c l ih =>
    intro n h
    rw [List.reverse_cons, numL_snoc] at h
    unfold valStep at h
    cases hh : numL l.reverse with
    | none => rw [hh] at h; simp at h
    | some m =>
      rw [hh] at h
      have := ih m hh
      simp only [Option.bind_some] at h
      split at h
      · simp only [Option.some.injEq] at h
        rw [List.length_cons, Nat.pow_succ]
        omega
      · simp at h
theorem numL_lt {l : List UInt8} {n : Nat} (h : numL l = some n) : n < 16 ^ l.length := by
  have := numL_lt_rev l.reverse n (by rw [List.reverse_reverse]; exact h)
  simpa using this
theorem rNumber4 {r : Rd} (h : r.ok) (hz : r.err = 0) : ((rNumber r 4).1 = ⟨r.s, r.pos + 8, 0⟩ ∧ (rNumber r 4).2 < 4294967296) ∨ (∃ e, (e == 0) = false ∧ rNumber r 4 = (⟨r.s, r.pos, e⟩, 0)) := by
  obtain ⟨h0, h1, h2⟩ := h
  unfold rNumber
  rw [if_pos hz, if_neg (by omega)]
  by_cases hc : (r.s.size : Int) - r.pos < 2 * 4
  · right
    rw [if_pos hc]
    exact ⟨4, rfl, rfl⟩
  · rw [if_neg hc]
    cases hh : numL (r.s.extract r.pos.toNat (r.pos + 2 * 4).toNat).data.toList with
    | none => right; exact ⟨6, rfl, rfl⟩
    | some n =>
      left
      refine ⟨rfl, ?_⟩
      have := numL_lt hh
      have hl : (r.s.extract r.pos.toNat (r.pos + 2 * 4).toNat).data.toList.length = 8 := by
        have : (r.s.extract r.pos.toNat (r.pos + 2 * 4).toNat).size = 8 := by
          rw [ByteArray.size_extract]
          omega
        exact this
      rw [hl] at this
      simpa using this
end Go.Proofs.YtjcpdpdhegcgoaaGreatDoor
