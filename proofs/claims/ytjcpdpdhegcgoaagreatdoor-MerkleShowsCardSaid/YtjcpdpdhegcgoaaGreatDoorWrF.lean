/- Writers once more, with just the blocks that may change (F): what each call puts. -/
import Derived.Test.YtjcpdpdhegcgoaaGreatDoorWireHash
import Derived.Test.YtjcpdpdhegcgoaaGreatDoorStampA
namespace Go.Proofs.YtjcpdpdhegcgoaaGreatDoor
open Go.RowKit
set_option linter.unusedVariables false

/-- A writer that has put the bytes c; of the blocks that are there those of F may change by what it puts. -/
def WrF (w : World) (F : Nat → Prop) (b : Nat) (c : ByteArray) : Prop :=
  (∀ k, w.heap.size ≤ k → F k) ∧ F b ∧ ∃ v, Bld 86 b v c.data.toList w ∧ ∀ k, v.ownBlock = some k → F k
/-- The same, where it is only read any more. -/
def WrG (w : World) (F : Nat → Prop) (b : Nat) (c : ByteArray) : Prop :=
  (∀ k, w.heap.size ≤ k → F k) ∧ F b ∧ ∃ v, BldR 86 b v c.data.toList w ∧ ∀ k, v.ownBlock = some k → F k
theorem WrF.reads {w : World} {F : Nat → Prop} {b : Nat} {c : ByteArray} (h : WrF w F b c) : WrG w F b c := by
  obtain ⟨h0, h1, v, hv, hk⟩ := h
  exact ⟨h0, h1, v, hv.reads, hk⟩
theorem WrF.new_ {w w' : World} {F : Nat → Prop} {b : Nat} {c : ByteArray} (h : WrF w F b c) (f : New w w') : WrF w' F b c := by
  obtain ⟨h0, h1, v, hv, hk⟩ := h
  exact ⟨fun k hk => h0 k (Nat.le_trans f.size hk), h1, v, hv.new_ f, hk⟩
theorem WrG.new_ {w w' : World} {F : Nat → Prop} {b : Nat} {c : ByteArray} (h : WrG w F b c) (f : New w w') : WrG w' F b c := by
  obtain ⟨h0, h1, v, hv, hk⟩ := h
  exact ⟨fun k hk => h0 k (Nat.le_trans f.size hk), h1, v, hv.new_ f, hk⟩
theorem WrF.mono {w : World} {F G : Nat → Prop} {b : Nat} {c : ByteArray} (h : WrF w F b c) (g : ∀ k, F k → G k) : WrF w G b c := by
  obtain ⟨h0, h1, v, hv, hk⟩ := h
  exact ⟨fun k hk => g k (h0 k hk), g b h1, v, hv, fun k e => g k (hk k e)⟩
theorem WrG.mono {w : World} {F G : Nat → Prop} {b : Nat} {c : ByteArray} (h : WrG w F b c) (g : ∀ k, F k → G k) : WrG w G b c := by
  obtain ⟨h0, h1, v, hv, hk⟩ := h
  exact ⟨fun k hk => g k (h0 k hk), g b h1, v, hv, fun k e => g k (hk k e)⟩
theorem WrF.cast {w : World} {F : Nat → Prop} {b : Nat} {c d : ByteArray} (h : WrF w F b c) (e : c = d) : WrF w F b d := e ▸ h
/-- The blocks of F, but not the one of number n. -/
def Ex (F : Nat → Prop) (n k : Nat) : Prop := (F k ∧ k < n) ∨ n < k
theorem Ex.no (F : Nat → Prop) (n : Nat) : ¬ Ex F n n := by rintro (⟨_, h⟩ | h) <;> omega
theorem Ex.up {F : Nat → Prop} {n : Nat} (h : ∀ k, n ≤ k → F k) (k : Nat) (e : Ex F n k) : F k := by
  rcases e with ⟨e, _⟩ | e
  · exact e
  · exact h k (by omega)
theorem Ex.old {F : Nat → Prop} {n k : Nat} (h : ¬ F k) (hk : k < n) : ¬ Ex F n k := by
  rintro (⟨e, _⟩ | e)
  · exact h e
  · omega
/-- A new block is laid beside a writer: it is none of the writer's. -/
theorem WrF.beside {w : World} {F : Nat → Prop} {b : Nat} {c : ByteArray} (h : WrF w F b c) (o : Obj) : WrF (w.alloc o) (Ex F w.heap.size) b c := by
  obtain ⟨h0, h1, v, hv, hk⟩ := h
  have hl := hv.lt
  refine ⟨fun k hk => .inr ?_, .inl ⟨h1, hl.1⟩, v, hv.new_ ((Fr.refl _ _).alloc _), fun k e => .inl ⟨hk k e, hl.2 k e⟩⟩
  simp at hk
  omega
theorem WrG.beside {w : World} {F : Nat → Prop} {b : Nat} {c : ByteArray} (h : WrG w F b c) (o : Obj) (hb : b < w.heap.size) : WrG (w.alloc o) (Ex F w.heap.size) b c := by
  obtain ⟨h0, h1, v, hv, hk⟩ := h
  have hl : ∀ k, v.ownBlock = some k → k < w.heap.size := fun k e => by
    rcases hv.2.1.2 with ⟨e', _⟩ | ⟨g, cap, cur, fz, e', _, hg, _⟩
    · rw [e'] at e; cases e
    · rw [e'] at e; injection e with e; subst e; exact lt_of_block hg
  refine ⟨fun k hk => .inr ?_, .inl ⟨h1, hb⟩, v, hv.new_ ((Fr.refl _ _).alloc _), fun k e => .inl ⟨hk k e, hl k e⟩⟩
  simp at hk
  omega
theorem WrF.lt {w : World} {F : Nat → Prop} {b : Nat} {c : ByteArray} (h : WrF w F b c) : b < w.heap.size := by
  obtain ⟨h0, h1, v, hv, hk⟩ := h
  exact hv.lt.1
theorem newWriterF (w : World) : Calls Tryz.prog 25 #[] w fun e w' => e = .returned (.pointer (some ⟨w.heap.size, 0, none⟩)) ∧ WrF w' (w.heap.size ≤ ·) w.heap.size .empty ∧ New w w' := by
  go_enter Tryz.func25, Tryz.ntmps25
  go_wp2
  go_ret
  exact ⟨rfl, ⟨fun k hk => by simp at hk; omega, Nat.le_refl _, _, Bld.fresh 86 w, fun k hk => by cases hk⟩, (Fr.refl _ _).alloc _⟩
theorem putF {w : World} {F : Nat → Prop} {b : Nat} {c : ByteArray} (h : WrF w F b c) (s : ByteArray) (hlen : c.size + s.size ≤ 140737488355328) :
    Calls Tryz.prog 83 #[.pointer (some ⟨b, 0, none⟩), .string s] w fun e w' => e = .returned (.tuple #[]) ∧ WrF w' F b (c ++ s) ∧ Fr F w w' := by
  obtain ⟨h0, h1, v, hv, hk⟩ := h
  have HW := Lib.hid (writeString_any btWriter hv s (by simpa using hlen))
  have hap : (c ++ s).data.toList = c.data.toList ++ s.data.toList := by simp
  have HA := Lib.hid hap
  have H0 := Lib.hid h0
  have HK := Lib.hid hk
  clear hap hlen h0 hk
  go_enter Tryz.func83, Tryz.ntmps83
  go_wp2_with fail
  refine HW.out.mono ?_
  rintro e w1 ⟨rfl, v', hv', hf, hown⟩
  go_wp2
  go_end0
  refine ⟨rfl, ⟨fun k hk => H0.out k (Nat.le_trans hf.size hk), h1, v', by rw [HA.out]; exact hv', ?_⟩, hf.mono ?_⟩
  · intro k hk'
    rcases hown with e | ⟨k2, e, hk2⟩
    · exact HK.out k (e ▸ hk')
    · rw [e] at hk'
      injection hk' with hk'
      exact H0.out k (by omega)
  · rintro i (rfl | e)
    · exact h1
    · exact HK.out i e
theorem Fr.behind {F : Nat → Prop} {a b c : World} (h : New a b) (k : Fr F b c) : Fr F a c := Fr.trans (h.mono fun _ f => f.elim) k fun _ _ e => e
theorem numberF {w : World} {F : Nat → Prop} {b : Nat} {c : ByteArray} (h : WrF w F b c) (n : Nat) (hn : n ≤ 18446744073709551615) (k : Int) (hlen : c.size + 16 ≤ 140737488355328) :
    Calls Tryz.prog 59 #[.pointer (some ⟨b, 0, none⟩), .int .u64 n, .int .i64 k] w fun e w' => e = .returned (.tuple #[]) ∧ WrF w' F b (c ++ numB (clip k) n) ∧ Fr F w w' := by
  have HN := Lib.hid (number_any n hn k)
  have hz := numB_size (clip k) n
  have hc := (clip_cases k).1
  go_enter Tryz.func59, Tryz.ntmps59
  go_wp2_with fail
  refine (HN.out _).mono ?_
  rintro e w1 ⟨rfl, hn1⟩
  go_wp2_with fail
  refine (putF (h.new_ hn1) (numB (clip k) n) (by omega)).mono ?_
  rintro e w2 ⟨rfl, h2, f2⟩
  go_wp2
  go_end0
  exact ⟨rfl, h2, Fr.behind hn1 f2⟩
theorem numF (m : Nat) (hm : clip m = m) {w : World} {F : Nat → Prop} {b : Nat} {c : ByteArray} (h : WrF w F b c) (n : Nat) (hn : n ≤ 18446744073709551615) (hlen : c.size + 16 ≤ 140737488355328) :
    Calls Tryz.prog 59 #[.pointer (some ⟨b, 0, none⟩), .int .u64 n, .int .i64 m] w fun e w' => e = .returned (.tuple #[]) ∧ WrF w' F b (c ++ numB m n) ∧ Fr F w w' := by
  have := numberF h n hn m hlen
  rw [hm] at this
  exact this
theorem countF {w : World} {F : Nat → Prop} {b : Nat} {c : ByteArray} (h : WrF w F b c) (n : Nat) (hn : n ≤ 9223372036854775807) (hlen : c.size + 16 ≤ 140737488355328) :
    Calls Tryz.prog 57 #[.pointer (some ⟨b, 0, none⟩), .int .i64 n] w fun e w' => e = .returned (.tuple #[]) ∧ WrF w' F b (c ++ numB 4 n) ∧ Fr F w w' := by
  have HN := Lib.hid (number_any n (by omega) 4)
  have hz := numB_size 4 n
  rw [clip4] at HN
  go_enter Tryz.func57, Tryz.ntmps57
  go_wp2_with fail
  refine (HN.out _).mono ?_
  rintro e w1 ⟨rfl, hn1⟩
  go_wp2_with fail
  refine (putF (h.new_ hn1) (numB 4 n) (by omega)).mono ?_
  rintro e w2 ⟨rfl, h2, f2⟩
  go_wp2
  go_end0
  exact ⟨rfl, h2, Fr.behind hn1 f2⟩
theorem textF {w : World} {F : Nat → Prop} {b : Nat} {c : ByteArray} (h : WrF w F b c) (s : ByteArray) (hlen : c.size + s.size + 16 ≤ 140737488355328) :
    Calls Tryz.prog 58 #[.pointer (some ⟨b, 0, none⟩), .string s] w fun e w' => e = .returned (.tuple #[]) ∧ WrF w' F b (c ++ textB s) ∧ Fr F w w' := by
  have HN := Lib.hid (number_any s.size (by omega) 4)
  have hz := numB_size 4 s.size
  have HT : Hid (textB s = numB 4 s.size ++ s) := rfl
  rw [clip4] at HN
  obtain ⟨nb, hnb⟩ : ∃ nb, numB 4 s.size = nb := ⟨_, rfl⟩
  rw [hnb] at HN hz HT
  clear hnb
  go_enter Tryz.func58, Tryz.ntmps58
  go_wp2_with fail
  refine (HN.out _).mono ?_
  rintro e w1 ⟨rfl, hn1⟩
  go_wp2_with fail
  refine (putF (h.new_ hn1) (nb ++ s) (by rw [ByteArray.size_append]; omega)).mono ?_
  rintro e w2 ⟨rfl, h2, f2⟩
  go_wp2
  go_end0
  refine ⟨rfl, ?_, Fr.behind hn1 f2⟩
  rw [HT.out]
  exact h2
theorem hashF {w : World} {F : Nat → Prop} {b : Nat} {c : ByteArray} (h : WrF w F b c) (s : ByteArray) (hs : s.size ≤ 140737488351232) (hlen : c.size + 32 ≤ 140737488355328) :
    Calls Tryz.prog 56 #[.pointer (some ⟨b, 0, none⟩), .string s] w fun e w' => e = .returned (.tuple #[]) ∧ WrF w' F b (c ++ hashB s) ∧ Fr F w w' := by
  have hz := zeros_size 32
  have HH : Hid (hashB s = (s ++ zeros 32).extract 0 32) := rfl
  have hh := hashB_size s
  have HZ := Lib.hid zeros_any
  obtain ⟨z, hzz⟩ : ∃ z, zeros 32 = z := ⟨_, rfl⟩
  rw [hzz] at hz HH HZ
  clear hzz
  have hsz : (s ++ z).size = s.size + 32 := by simp [hz]
  go_enter Tryz.func56, Tryz.ntmps56
  go_wp2_with fail
  refine (HZ.out _).mono ?_
  rintro e w1 ⟨rfl, hn1⟩
  go_wp2_with fail
  rw [← HH.out]
  refine (putF (h.new_ hn1) (hashB s) (by omega)).mono ?_
  rintro e w2 ⟨rfl, h2, f2⟩
  go_wp2
  go_end0
  exact ⟨rfl, h2, Fr.behind hn1 f2⟩
theorem allF {w : World} {F : Nat → Prop} {b : Nat} {c : ByteArray} (h : WrG w F b c) :
    Calls Tryz.prog 28 #[.pointer (some ⟨b, 0, none⟩)] w fun e w' => e = .returned (.string c) ∧ WrG w' F b c ∧ Fr F w w' := by
  obtain ⟨h0, h1, v, hv, hk⟩ := h
  have HL := Lib.hid (bldString_any btWriter hv)
  have hl : (⟨c.data.toList.toArray⟩ : ByteArray) = c := by cases c; simp
  rw [hl] at HL
  have H0 := Lib.hid h0
  have HK := Lib.hid hk
  clear hl h0 hk
  go_enter Tryz.func28, Tryz.ntmps28
  go_wp2_with fail
  refine HL.out.mono ?_
  rintro e w1 ⟨rfl, h2, f2⟩
  go_wp2
  go_ret
  exact ⟨rfl, ⟨fun k hk => H0.out k (Nat.le_trans f2.size hk), h1, v, h2, HK.out⟩, f2.mono fun i e => HK.out i e⟩
end Go.Proofs.YtjcpdpdhegcgoaaGreatDoor
