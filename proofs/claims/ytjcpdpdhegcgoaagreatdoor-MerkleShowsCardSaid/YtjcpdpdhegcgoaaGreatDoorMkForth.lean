/- A share that may be is read again from its bytes. -/
import Derived.Test.YtjcpdpdhegcgoaaGreatDoorMkPut
namespace Go.Proofs.YtjcpdpdhegcgoaaGreatDoor
open Go.RowKit
set_option linter.unusedVariables false
set_option linter.unusedSimpArgs false

theorem loop_at' : ∀ (l : List ByteArray) (a : ByteArray), (∀ y ∈ l, y.size = 32) → rLoop rHash l.length ⟨a ++ hashsB l, a.size, 0⟩ = (⟨a ++ hashsB l, (a.size + 32 * l.length : Nat), 0⟩, l)
  | [], a, _ => rfl
  | y :: l, a, h => by
    have hy := h y List.mem_cons_self
    have e1 : a ++ hashsB (y :: l) = a ++ y ++ hashsB l := by rw [hashsB_cons, hashB_self hy, ByteArray.append_assoc]
    have e2 := rBytes_at a y (hashsB l) 32 (by rw [hy]; rfl)
    have e3 : (a ++ y).size = a.size + 32 := by rw [ByteArray.size_append, hy]
    have ih := loop_at' l (a ++ y) (fun x hx => h x (List.mem_cons_of_mem _ hx))
    rw [e1]
    show (if (0 : Int) = 0 then ((rLoop rHash l.length (rHash ⟨a ++ y ++ hashsB l, a.size, 0⟩).1).1, (rHash ⟨a ++ y ++ hashsB l, a.size, 0⟩).2 :: (rLoop rHash l.length (rHash ⟨a ++ y ++ hashsB l, a.size, 0⟩).1).2) else _) = _
    rw [if_pos rfl, show rHash ⟨a ++ y ++ hashsB l, a.size, 0⟩ = rBytes ⟨a ++ y ++ hashsB l, a.size, 0⟩ 32 from rfl, e2]
    simp only
    rw [show ((a.size : Int) + (y.size : Int)) = ((a ++ y).size : Int) by rw [ByteArray.size_append]; omega, ih, e3]
    simp only [List.length_cons]
    rw [show a.size + 32 + 32 * l.length = a.size + 32 * (l.length + 1) by omega]
theorem share_forth {x : ShV} (h : ShFit x) : rShare ⟨shareB x, 0, 0⟩ = (⟨shareB x, (shareB x).size, 0⟩, x) := by
  obtain ⟨dig, sz, mn, at_, ch, l⟩ := x
  obtain ⟨h1, h2, h3, h4, h5, h6, h7⟩ := h
  simp only at h1 h2 h3 h4 h5 h6 h7
  obtain ⟨z, rfl⟩ := Int.eq_ofNat_of_zero_le h2.1
  obtain ⟨m, rfl⟩ := Int.eq_ofNat_of_zero_le h3.1
  obtain ⟨i, rfl⟩ := Int.eq_ofNat_of_zero_le h4.1
  obtain ⟨T, hT⟩ : ∃ T, T = shareB ⟨dig, z, m, i, ch, l⟩ := ⟨_, rfl⟩
  have e0 : T = dig ++ numB 4 z ++ numB 4 m ++ numB 4 i ++ numB 4 ch.size ++ ch ++ numB 1 l.length ++ hashsB l := by
    rw [hT]
    unfold shareB textB
    simp only [Int.toNat_natCast]
    rw [hashB_self h1]
    simp only [ByteArray.append_assoc]
  rw [← hT]
  have a1 := rBytes_at .empty dig (numB 4 z ++ numB 4 m ++ numB 4 i ++ numB 4 ch.size ++ ch ++ numB 1 l.length ++ hashsB l) 32 (by rw [h1]; rfl)
  have a2 := rCount_at dig (numB 4 m ++ numB 4 i ++ numB 4 ch.size ++ ch ++ numB 1 l.length ++ hashsB l) z (by omega) 8192
  have a3 := rCount_at (dig ++ numB 4 z) (numB 4 i ++ numB 4 ch.size ++ ch ++ numB 1 l.length ++ hashsB l) m (by omega) 256
  have a4 := rCount_at (dig ++ numB 4 z ++ numB 4 m) (numB 4 ch.size ++ ch ++ numB 1 l.length ++ hashsB l) i (by omega) 256
  have a5 := rText_at (dig ++ numB 4 z ++ numB 4 m ++ numB 4 i) ch (numB 1 l.length ++ hashsB l) (by omega) 512
  have a6 := rNumber_at (dig ++ numB 4 z ++ numB 4 m ++ numB 4 i ++ numB 4 ch.size ++ ch) (hashsB l) 1 l.length (by omega)
  have a7 := loop_at' l (dig ++ numB 4 z ++ numB 4 m ++ numB 4 i ++ numB 4 ch.size ++ ch ++ numB 1 l.length) h7
  rw [if_neg (by omega)] at a2 a3 a4 a5
  rw [bempty_app] at a1
  simp only [← ByteArray.append_assoc] at a1 a2 a3 a4 a5 a6 a7
  rw [← e0] at a1 a2 a3 a4 a5 a6 a7
  simp only [ByteArray.size_append, numB_size, h1] at a1 a2 a3 a4 a5 a6 a7
  have hl : l.length % 16 ^ (2 * 1) = l.length := Nat.mod_eq_of_lt (by simp; omega)
  rw [hl] at a6
  have hz : T.size = 32 + 8 + 8 + 8 + 8 + ch.size + 2 + 32 * l.length := by
    rw [e0]
    simp only [ByteArray.size_append, numB_size, h1, hashsB_size]
  have hr : rShare0 ⟨T, 0, 0⟩ = (⟨T, T.size, 0⟩, ⟨dig, z, m, i, ch, l⟩) := by
    unfold rShare0
    have b1 : rBytes ⟨T, 0, 0⟩ 32 = (⟨T, 32, 0⟩, dig) := a1
    simp only [b1]
    have b2 : rCount ⟨T, 32, 0⟩ 8192 = (⟨T, 40, 0⟩, (z : Int)) := a2
    simp only [b2]
    have b3 : rCount ⟨T, 40, 0⟩ 256 = (⟨T, 48, 0⟩, (m : Int)) := a3
    simp only [b3]
    have b4 : rCount ⟨T, 48, 0⟩ 256 = (⟨T, 56, 0⟩, (i : Int)) := a4
    simp only [b4]
    have b5 : rText ⟨T, 56, 0⟩ 512 = (⟨T, 64 + ch.size, 0⟩, ch) := a5
    simp only [b5]
    have b6 : rNumber ⟨T, 64 + ch.size, 0⟩ 1 = (⟨T, 64 + ch.size + 2, 0⟩, l.length) := by
      rw [show (64 : Int) + (ch.size : Int) = ((32 + 2 * 4 + 2 * 4 + 2 * 4 + 2 * 4 + ch.size : Nat) : Int) by omega]
      rw [show ((1 : Nat) : Int) = 1 from rfl] at a6
      exact a6
    simp only [b6]
    have b7 : rLoop rHash l.length ⟨T, 64 + ch.size + 2, 0⟩ = (⟨T, T.size, 0⟩, l) := by
      rw [show (64 : Int) + (ch.size : Int) + 2 = ((32 + 2 * 4 + 2 * 4 + 2 * 4 + 2 * 4 + ch.size + 2 * 1 : Nat) : Int) by omega, a7]
      simp only [Prod.mk.injEq, and_true]
      congr 1
      omega
    rw [b7]
  unfold rShare
  rw [hr]
  rfl
theorem end_at (T : ByteArray) : (rEnd ⟨T, T.size, 0⟩).err = 0 := by
  unfold rEnd
  rw [if_neg]
  rintro ⟨_, h⟩
  simp only at h
  omega
end Go.Proofs.YtjcpdpdhegcgoaaGreatDoor
