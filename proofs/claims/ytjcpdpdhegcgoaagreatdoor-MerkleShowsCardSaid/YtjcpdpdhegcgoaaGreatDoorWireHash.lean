/- Digests in bytes: Writer.Hash, the reference's Hash and Bool. -/
import Derived.Test.YtjcpdpdhegcgoaaGreatDoorWireB
import Derived.Test.YtjcpdpdhegcgoaaGreatDoorShelfRepeat
import Derived.LoopTactic
namespace Go.Proofs.YtjcpdpdhegcgoaaGreatDoor
open Go.RowKit
set_option linter.unusedVariables false

def zeros (n : Nat) : ByteArray := ⟨(List.replicate n (0 : UInt8)).toArray⟩
theorem zeros_size (n : Nat) : (zeros n).size = n := by
  show (List.replicate n (0 : UInt8)).toArray.size = n
  simp
theorem zeros_list (n : Nat) : (zeros n).data.toList = List.replicate n 0 := by simp [zeros]
/-- A digest's bytes: cut, or filled up with noughts. -/
def hashB (s : ByteArray) : ByteArray := (s ++ zeros 32).extract 0 32
theorem hashB_size (s : ByteArray) : (hashB s).size = 32 := by
  unfold hashB
  rw [ByteArray.size_extract, ByteArray.size_append, zeros_size]
  omega
theorem hashB_of (s : ByteArray) (i : Nat) (h1 : 32 ≤ s.size + i) (h2 : i ≤ 32) : (s ++ zeros i).extract 0 32 = hashB s := by
  unfold hashB
  apply ByteArray.ext
  apply Array.ext'
  have hl : s.data.toList.length = s.size := by simp
  have e : List.replicate 32 (0 : UInt8) = List.replicate i 0 ++ List.replicate (32 - i) 0 := by rw [List.replicate_append_replicate]; congr 1; omega
  have h3 : ∀ a : ByteArray, (a.extract 0 32).data.toList = a.data.toList.take 32 := by intro a; simp
  rw [h3, h3]
  have h4 : ∀ a b : ByteArray, (a ++ b).data.toList = a.data.toList ++ b.data.toList := by intro a b; simp
  rw [h4, h4, zeros_list, zeros_list, e, ← List.append_assoc]
  refine (List.take_append_of_le_length ?_).symm
  rw [List.length_append, List.length_replicate]
  omega
theorem zeros_succ (s : ByteArray) (i : Nat) : s ++ zeros i ++ ⟨#[0]⟩ = s ++ zeros (i + 1) := by
  rw [ByteArray.append_assoc]
  congr 1
  apply ByteArray.ext
  apply Array.ext'
  have h4 : ∀ a b : ByteArray, (a ++ b).data.toList = a.data.toList ++ b.data.toList := by intro a b; simp
  rw [h4, zeros_list, zeros_list, List.replicate_succ']
theorem New.of_below {w w' : World} (h : Below w.heap.size w w') : New w w' := ⟨h.os, h.tape, h.output, h.size, fun i hi _ => h.block i hi⟩
theorem zeros_any (w : World) : Calls Tryz.prog 84 #[.string ⟨#[0]⟩, .int .i64 32] w fun e w' => e = .returned (.string (zeros 32)) ∧ New w w' :=
  (sh_strings_Repeat ⟨#[0]⟩ 32 w (by omega) (by decide)).mono fun e w' ⟨he, hb⟩ => ⟨he, New.of_below hb⟩
theorem wrHash_any {w : World} {B b : Nat} {c : ByteArray} (h : WrB w B b c) (hB : B ≤ w.heap.size) (s : ByteArray) (hs : s.size ≤ 140737488351232) (hlen : c.size + 32 ≤ 140737488355328) :
    Calls Tryz.prog 56 #[.pointer (some ⟨b, 0, none⟩), .string s] w fun e w' => e = .returned (.tuple #[]) ∧ WrB w' B b (c ++ hashB s) ∧ Fr (B ≤ ·) w w' := by
  have hz := zeros_size 32
  have HH : Hid (hashB s = (s ++ zeros 32).extract 0 32) := rfl
  have hh := hashB_size s
  have HZ := Lib.hid zeros_any
  obtain ⟨z, hzz⟩ : ∃ z, zeros 32 = z := ⟨_, rfl⟩
  rw [hzz] at hz HH HZ
  clear hzz
  have hsz : (s ++ z).size = s.size + 32 := by simp [hz]
  go_enter Tryz.func56, Tryz.ntmps56
  go_wp2_with fail
  refine (HZ.out _).mono ?_
  rintro e w1 ⟨rfl, hn1⟩
  go_wp2_with fail
  rw [← HH.out]
  refine (put_any (h.new_ hn1) (by have := hn1.size; omega) (hashB s) (by omega)).mono ?_
  rintro e w2 ⟨rfl, h2, f2⟩
  go_wp2
  go_end0
  exact ⟨rfl, h2, Fr.trans (hn1.mono fun _ f => f.elim) f2 fun _ _ e => e⟩
end Go.Proofs.YtjcpdpdhegcgoaaGreatDoor
