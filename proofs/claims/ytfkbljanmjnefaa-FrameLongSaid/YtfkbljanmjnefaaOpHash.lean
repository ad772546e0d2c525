/- Operations: Encode, Hash, Decode; awake. -/
import Derived.Test.YtfkbljanmjnefaaOpPut
import Derived.Test.YtfkbljanmjnefaaOpTake
import Derived.Test.YtfkbljanmjnefaaMacKeyed
namespace Go.Proofs.Ytfkbljanmjnefaa
open Go.RowKit
set_option linter.unusedVariables false
set_option linter.unusedSimpArgs false

theorem opEmpty_app (t : ByteArray) : ByteArray.empty ++ t = t := by
  apply ByteArray.ext
  apply Array.ext'
  simp
set_option maxRecDepth 100000 in
set_option maxHeartbeats 2000000 in
theorem encode_yes (k : Int) (c : Nat) (who : Int) (th par : Nat) (nm : ByteArray) (dir : Bool) (dig : ByteArray) (sz : Int) (hb : OpB ⟨k, c, who, th, par, nm, dir, dig, sz⟩) (hs : nm.size ≤ maxLen) (hd : dig.size ≤ maxLen)
    (hz : opCheck ⟨k, c, who, th, par, nm, dir, dig, sz⟩ = 0) (w : World) :
    Calls Try.prog 16 #[(OpV.mk k c who th par nm dir dig sz).val] w fun e w' => e = .returned (.tuple #[.string (opB ⟨k, c, who, th, par, nm, dir, dig, sz⟩), .int .i64 0]) ∧ New w w' := by
  obtain ⟨hg, hk⟩ := opCheck_zero.1 hz
  have hf := hk.fit hg hb
  have HC := Lib.hid (fun ww => opCheck_any k c who th par nm dir dig sz hb.2.1 hb.2.2 hs hd ww)
  rw [hz] at HC
  have HP := Lib.hid (fun ww F b (hh : WrF ww F b .empty) => opPutF hh k c who th par nm dir dig sz hf (by show 0 + 2000 ≤ _; omega))
  rw [opEmpty_app] at HP
  obtain ⟨s, hs'⟩ : ∃ s, opB ⟨k, c, who, th, par, nm, dir, dig, sz⟩ = s := ⟨_, rfl⟩
  rw [hs'] at HP ⊢
  clear hs' hz hf hg hk
  go_enter Try.func16, Try.ntmps16
  go_wp2_with fail
  refine (HC.out _).mono ?_
  rintro e w1 ⟨rfl, g1⟩
  have o1 := (Own.fresh w 39 (OpV.mk k c who th par nm dir dig sz).cells).new_ g1
  have n1 : New w w1 := ((Fr.refl _ _).alloc _).new_ g1
  clear g1
  go_wp2_with fail
  refine (newWriterF w1).mono ?_
  rintro e w2 ⟨rfl, h2, g2⟩
  have o2 := o1.new_ g2
  have l1 := o1.lt
  obtain ⟨c0, c1, c2, c3, c4, c5, c6, c7, c8⟩ := opCells o2
  have hx : w.heap.size ≤ w1.heap.size := n1.size
  have n2 := n1.new_ g2
  go_wp2_with fail
  refine (HP.out _ _ _ h2).mono ?_
  rintro e w3 ⟨rfl, h3, f3⟩
  have n3 : New w w3 := Fr.upto n2 f3 hx
  go_wp2_with fail
  refine (allF h3.reads).mono ?_
  rintro e w4 ⟨rfl, h4, f4⟩
  have n4 : New w w4 := Fr.upto n3 f4 hx
  go_wp2
  go_ret2
  exact ⟨rfl, n4⟩
set_option maxRecDepth 100000 in
set_option maxHeartbeats 2000000 in
theorem encode_no (k : Int) (c : Nat) (who : Int) (th par : Nat) (nm : ByteArray) (dir : Bool) (dig : ByteArray) (sz : Int) (hb : OpB ⟨k, c, who, th, par, nm, dir, dig, sz⟩) (hs : nm.size ≤ maxLen) (hd : dig.size ≤ maxLen)
    (hz : ¬ opCheck ⟨k, c, who, th, par, nm, dir, dig, sz⟩ = 0) (w : World) :
    Calls Try.prog 16 #[(OpV.mk k c who th par nm dir dig sz).val] w fun e w' => e = .returned (.tuple #[.string ⟨#[]⟩, .int .i64 (opCheck ⟨k, c, who, th, par, nm, dir, dig, sz⟩)]) ∧ New w w' := by
  have HC := Lib.hid (fun ww => opCheck_any k c who th par nm dir dig sz hb.2.1 hb.2.2 hs hd ww)
  obtain ⟨v, hv⟩ : ∃ s, opCheck ⟨k, c, who, th, par, nm, dir, dig, sz⟩ = s := ⟨_, rfl⟩
  rw [hv] at HC hz ⊢
  have hvn : (v != 0) = true := by rw [bne_iff_ne]; exact hz
  clear hv hz
  go_enter Try.func16, Try.ntmps16
  go_wp2_with fail
  refine (HC.out _).mono ?_
  rintro e w1 ⟨rfl, g1⟩
  have n1 : New w w1 := ((Fr.refl _ _).alloc _).new_ g1
  go_wp2
  go_ret2
  exact ⟨rfl, n1⟩
/-- The digest of one text for a purpose. -/
def tag1 (p : UInt8) (s : ByteArray) : ByteArray := shaB (partsV p 1 fun _ => s)
theorem sl_one {W : World} {b : Nat} {s : ByteArray} (h : Own W b 9 #[.string s]) : Sl W 1 (some ⟨b, 0, none⟩) 1 fun _ => [.string s] := by
  refine ⟨by simp [maxLen], fun k hk => ⟨b, 0, rfl, fun j u hu => ?_⟩⟩
  have hj : j = 0 := by
    rcases j with _ | j
    · rfl
    · simp at hu
  subst hj
  have hu' : u = .string s := by simpa using hu.symm
  subst hu'
  rw [show 0 + k * 1 + 0 = 0 by omega, h.cell 0]
  rfl
theorem tag1_any {W : World} {b : Nat} (p : UInt8) (s : ByteArray) (hs : s.size ≤ 100000) (h : Own W b 9 #[.string s]) :
    Calls Try.prog 13 #[.int .u8 p.toNat, .slice (some ⟨b, 0, none⟩) 1 1] W fun e w' => e = .returned (.string (tag1 p s)) ∧ New W w' :=
  tagged_any p _ 1 1 (fun _ => s) W (sl_one h) (by omega) (fun _ _ => hs)
set_option maxRecDepth 100000 in
set_option maxHeartbeats 2000000 in
theorem opHash_any (k : Int) (c : Nat) (who : Int) (th par : Nat) (nm : ByteArray) (dir : Bool) (dig : ByteArray) (sz : Int) (hf : OpFit ⟨k, c, who, th, par, nm, dir, dig, sz⟩) (hz : (opB ⟨k, c, who, th, par, nm, dir, dig, sz⟩).size ≤ 100000) (w : World) :
    Calls Try.prog 18 #[(OpV.mk k c who th par nm dir dig sz).val] w fun e w' => e = .returned (.string (tag1 79 (opB ⟨k, c, who, th, par, nm, dir, dig, sz⟩))) ∧ New w w' := by
  have HP := Lib.hid (fun ww F b (hh : WrF ww F b .empty) => opPutF hh k c who th par nm dir dig sz hf (by show 0 + 2000 ≤ _; omega))
  rw [opEmpty_app] at HP
  obtain ⟨s, hs'⟩ : ∃ s, opB ⟨k, c, who, th, par, nm, dir, dig, sz⟩ = s := ⟨_, rfl⟩
  rw [hs'] at HP hz ⊢
  clear hs' hf
  go_enter Try.func18, Try.ntmps18
  go_wp2_with fail
  refine calls_world (fun W => Own W w.heap.size 39 (OpV.mk k c who th par nm dir dig sz).cells ∧ New w W) ⟨Own.fresh _ _ _, (Fr.refl _ _).alloc _⟩ ?_
  rintro w1 ⟨o1, n1⟩
  refine (newWriterF w1).mono ?_
  rintro e w2 ⟨rfl, h2, g2⟩
  have o2 := o1.new_ g2
  obtain ⟨c0, c1, c2, c3, c4, c5, c6, c7, c8⟩ := opCells o2
  have hx : w.heap.size ≤ w1.heap.size := n1.size
  have n2 := n1.new_ g2
  clear n1 g2
  go_wp2_with fail
  refine (HP.out _ _ _ h2).mono ?_
  rintro e w3 ⟨rfl, h3, f3⟩
  have n3 : New w w3 := Fr.upto n2 f3 hx
  go_wp2_with fail
  refine (allF h3.reads).mono ?_
  rintro e w4 ⟨rfl, h4, f4⟩
  have n4 : New w w4 := Fr.upto n3 f4 hx
  go_wp2_with fail
  refine (tag1_any 79 s hz (Own.fresh _ _ _)).mono ?_
  rintro e w5 ⟨rfl, g5⟩
  go_wp2
  go_ret
  exact ⟨rfl, (n4.alloc _).new_ g5⟩
end Go.Proofs.Ytfkbljanmjnefaa
