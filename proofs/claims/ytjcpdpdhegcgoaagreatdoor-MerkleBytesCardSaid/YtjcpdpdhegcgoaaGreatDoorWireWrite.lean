/- Writers: what each call puts; Len and All. -/
import Derived.Test.YtjcpdpdhegcgoaaGreatDoorWirePlain
namespace Go.Proofs.YtjcpdpdhegcgoaaGreatDoor
open Go.RowKit
set_option linter.unusedVariables false

/-- A writer that has put the bytes c: its buffer lies beyond B. -/
def WrB (w : World) (B b : Nat) (c : ByteArray) : Prop := B ≤ b ∧ ∃ v, Bld 86 b v c.data.toList w ∧ ∀ k, v.ownBlock = some k → B ≤ k
/-- The same, where it is only read any more. -/
def WrR (w : World) (B b : Nat) (c : ByteArray) : Prop := B ≤ b ∧ ∃ v, BldR 86 b v c.data.toList w ∧ ∀ k, v.ownBlock = some k → B ≤ k
theorem WrB.new_ {w w' : World} {B b : Nat} {c : ByteArray} (h : WrB w B b c) (f : New w w') : WrB w' B b c := by
  obtain ⟨h0, v, hv, hk⟩ := h
  exact ⟨h0, v, hv.new_ f, hk⟩
theorem WrR.new_ {w w' : World} {B b : Nat} {c : ByteArray} (h : WrR w B b c) (f : New w w') : WrR w' B b c := by
  obtain ⟨h0, v, hv, hk⟩ := h
  exact ⟨h0, v, hv.new_ f, hk⟩
theorem WrB.reads {w : World} {B b : Nat} {c : ByteArray} (h : WrB w B b c) : WrR w B b c := by
  obtain ⟨h0, v, hv, hk⟩ := h
  exact ⟨h0, v, hv.reads, hk⟩
theorem Fr.upto {w w1 w2 : World} {B : Nat} (h : New w w1) (k : Fr (B ≤ ·) w1 w2) (hB : w.heap.size ≤ B) : New w w2 := Fr.trans h k fun i hi e => by have : B ≤ i := e; omega

theorem newWriter_any (w : World) : Calls Tryz.prog 25 #[] w fun e w' => e = .returned (.pointer (some ⟨w.heap.size, 0, none⟩)) ∧ WrB w' w.heap.size w.heap.size .empty ∧ New w w' := by
  go_enter Tryz.func25, Tryz.ntmps25
  go_wp2
  go_ret
  exact ⟨rfl, ⟨Nat.le_refl _, _, Bld.fresh 86 w, fun k hk => by cases hk⟩, (Fr.refl _ _).alloc _⟩
theorem put_any {w : World} {B b : Nat} {c : ByteArray} (h : WrB w B b c) (hB : B ≤ w.heap.size) (s : ByteArray) (hlen : c.size + s.size ≤ 140737488355328) :
    Calls Tryz.prog 83 #[.pointer (some ⟨b, 0, none⟩), .string s] w fun e w' => e = .returned (.tuple #[]) ∧ WrB w' B b (c ++ s) ∧ Fr (B ≤ ·) w w' := by
  obtain ⟨h0, v, hv, hk⟩ := h
  have HW := Lib.hid (writeString_any btWriter hv s (by simpa using hlen))
  have hap : (c ++ s).data.toList = c.data.toList ++ s.data.toList := by simp
  have HA := Lib.hid hap
  clear hap hlen
  go_enter Tryz.func83, Tryz.ntmps83
  go_wp2_with fail
  refine HW.out.mono ?_
  rintro e w1 ⟨rfl, v', hv', hf, hown⟩
  go_wp2
  go_end0
  refine ⟨rfl, ⟨h0, v', by rw [HA.out]; exact hv', ?_⟩, hf.mono ?_⟩
  · intro k hk'
    rcases hown with e | ⟨k2, e, hk2⟩
    · exact hk k (e ▸ hk')
    · rw [e] at hk'
      injection hk' with hk'
      omega
  · rintro i (rfl | e)
    · exact h0
    · exact hk i e
theorem wrNumber_any {w : World} {B b : Nat} {c : ByteArray} (h : WrB w B b c) (hB : B ≤ w.heap.size) (n : Nat) (hn : n ≤ 18446744073709551615) (k : Int) (hlen : c.size + 16 ≤ 140737488355328) :
    Calls Tryz.prog 59 #[.pointer (some ⟨b, 0, none⟩), .int .u64 n, .int .i64 k] w fun e w' => e = .returned (.tuple #[]) ∧ WrB w' B b (c ++ numB (clip k) n) ∧ Fr (B ≤ ·) w w' := by
  have HN := Lib.hid (number_any n hn k)
  have hz := numB_size (clip k) n
  have hc := (clip_cases k).1
  go_enter Tryz.func59, Tryz.ntmps59
  go_wp2_with fail
  refine (HN.out _).mono ?_
  rintro e w1 ⟨rfl, hn1⟩
  go_wp2_with fail
  refine (put_any (h.new_ hn1) (by have := hn1.size; omega) (numB (clip k) n) (by omega)).mono ?_
  rintro e w2 ⟨rfl, h2, f2⟩
  go_wp2
  go_end0
  exact ⟨rfl, h2, Fr.trans (hn1.mono fun _ f => f.elim) f2 fun _ _ e => e⟩
theorem wrCount_any {w : World} {B b : Nat} {c : ByteArray} (h : WrB w B b c) (hB : B ≤ w.heap.size) (n : Int) (hn : n ≤ 9223372036854775807) (hlen : c.size + 16 ≤ 140737488355328) :
    Calls Tryz.prog 57 #[.pointer (some ⟨b, 0, none⟩), .int .i64 n] w fun e w' => e = .returned (.tuple #[]) ∧ WrB w' B b (c ++ numB 4 (max n 0).toNat) ∧ Fr (B ≤ ·) w w' := by
  rcases (by omega : n < 0 ∨ 0 ≤ n) with hc | hc
  · have HN := Lib.hid (number_any 0 (by omega) 4)
    have hz := numB_size 4 0
    rw [clip4] at HN
    rw [show (max n 0).toNat = 0 by omega]
    go_enter Tryz.func57, Tryz.ntmps57
    go_wp2_with fail
    refine (HN.out _).mono ?_
    rintro e w1 ⟨rfl, hn1⟩
    go_wp2_with fail
    refine (put_any (h.new_ hn1) (by have := hn1.size; omega) (numB 4 0) (by omega)).mono ?_
    rintro e w2 ⟨rfl, h2, f2⟩
    go_wp2
    go_end0
    exact ⟨rfl, h2, Fr.trans (hn1.mono fun _ f => f.elim) f2 fun _ _ e => e⟩
  · obtain ⟨m, rfl⟩ := Int.eq_ofNat_of_zero_le hc
    have HN := Lib.hid (number_any m (by omega) 4)
    have hz := numB_size 4 m
    rw [clip4] at HN
    rw [show (max (m : Int) 0).toNat = m by omega]
    go_enter Tryz.func57, Tryz.ntmps57
    go_wp2_with fail
    refine (HN.out _).mono ?_
    rintro e w1 ⟨rfl, hn1⟩
    go_wp2_with fail
    refine (put_any (h.new_ hn1) (by have := hn1.size; omega) (numB 4 m) (by omega)).mono ?_
    rintro e w2 ⟨rfl, h2, f2⟩
    go_wp2
    go_end0
    exact ⟨rfl, h2, Fr.trans (hn1.mono fun _ f => f.elim) f2 fun _ _ e => e⟩
def textB (s : ByteArray) : ByteArray := numB 4 s.size ++ s
theorem wrText_any {w : World} {B b : Nat} {c : ByteArray} (h : WrB w B b c) (hB : B ≤ w.heap.size) (s : ByteArray) (hlen : c.size + s.size + 16 ≤ 140737488355328) :
    Calls Tryz.prog 58 #[.pointer (some ⟨b, 0, none⟩), .string s] w fun e w' => e = .returned (.tuple #[]) ∧ WrB w' B b (c ++ textB s) ∧ Fr (B ≤ ·) w w' := by
  have HN := Lib.hid (number_any s.size (by omega) 4)
  have hz := numB_size 4 s.size
  have HT : Hid (textB s = numB 4 s.size ++ s) := rfl
  rw [clip4] at HN
  obtain ⟨nb, hnb⟩ : ∃ nb, numB 4 s.size = nb := ⟨_, rfl⟩
  rw [hnb] at HN hz HT
  clear hnb
  go_enter Tryz.func58, Tryz.ntmps58
  go_wp2_with fail
  refine (HN.out _).mono ?_
  rintro e w1 ⟨rfl, hn1⟩
  go_wp2_with fail
  refine (put_any (h.new_ hn1) (by have := hn1.size; omega) (nb ++ s) (by rw [ByteArray.size_append]; omega)).mono ?_
  rintro e w2 ⟨rfl, h2, f2⟩
  go_wp2
  go_end0
  refine ⟨rfl, ?_, Fr.trans (hn1.mono fun _ f => f.elim) f2 fun _ _ e => e⟩
  rw [HT.out]
  exact h2
def boolB (y : Bool) : ByteArray := if y = true then ⟨#[121]⟩ else ⟨#[110]⟩
theorem wrAll_any {w : World} {B b : Nat} {c : ByteArray} (h : WrR w B b c) :
    Calls Tryz.prog 28 #[.pointer (some ⟨b, 0, none⟩)] w fun e w' => e = .returned (.string c) ∧ WrR w' B b c ∧ Fr (B ≤ ·) w w' := by
  obtain ⟨h0, v, hv, hk⟩ := h
  have HL := Lib.hid (bldString_any btWriter hv)
  have hl : (⟨c.data.toList.toArray⟩ : ByteArray) = c := by cases c; simp
  rw [hl] at HL
  clear hl
  go_enter Tryz.func28, Tryz.ntmps28
  go_wp2_with fail
  refine HL.out.mono ?_
  rintro e w1 ⟨rfl, h1, f1⟩
  go_wp2
  go_ret
  exact ⟨rfl, ⟨h0, v, h1, hk⟩, f1.mono fun i e => hk i e⟩
end Go.Proofs.YtjcpdpdhegcgoaaGreatDoor
