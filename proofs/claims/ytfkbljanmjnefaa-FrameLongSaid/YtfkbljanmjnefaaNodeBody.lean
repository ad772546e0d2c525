/- Nodes: the bytes that a tag is of; digest; Encode. -/
import Derived.Test.YtfkbljanmjnefaaNodeCheck
namespace Go.Proofs.Ytfkbljanmjnefaa
open Go.RowKit
set_option linter.unusedVariables false
set_option linter.unusedSimpArgs false

/-- The parents' bytes. -/
def parB (V : Nat → ByteArray) : Nat → ByteArray
  | 0 => .empty
  | n + 1 => parB V n ++ hashB (V n)
theorem parB_size (V : Nat → ByteArray) (n : Nat) : (parB V n).size = 32 * n := by
  induction n with
  | zero => rfl
  | succ n ih => unfold parB; rw [ByteArray.size_append, ih, hashB_size]; omega
def bodyB (au : Int) (V : Nat → ByteArray) (n : Nat) (o : OpV) : ByteArray := numB 1 au.toNat ++ numB 1 n ++ parB V n ++ opB o
theorem bodyB_size (au : Int) (V : Nat → ByteArray) (n : Nat) (o : OpV) (h : (opB o).size ≤ 2000) (hn : n ≤ 8) : (bodyB au V n o).size ≤ 3000 := by
  unfold bodyB
  simp only [ByteArray.size_append, numB_size, parB_size]
  omega
set_option maxRecDepth 100000 in
set_option maxHeartbeats 4000000 in
theorem nodeBody_any (au : Int) (A : Option Addr) (n cap : Nat) (k : Int) (c : Nat) (who : Int) (th par : Nat) (nm : ByteArray) (dir : Bool) (dig : ByteArray) (sz : Int) (tg : ByteArray) (V : Nat → ByteArray) (w : World) (hsl : Sl w 1 A n fun i => [.string (V i)]) (hV : ∀ j, j < n → (V j).size ≤ 1000)
    (hau : 0 ≤ au ∧ au < 256) (hn : n ≤ 100) (hf : OpFit ⟨k, c, who, th, par, nm, dir, dig, sz⟩) :
    Calls Try.prog 36 #[.agg (ndC au A n cap k c who th par nm dir dig sz tg)] w fun e w' => e = .returned (.string (bodyB au V n ⟨k, c, who, th, par, nm, dir, dig, sz⟩)) ∧ New w w' := by
  obtain ⟨an, rfl⟩ := Int.eq_ofNat_of_zero_le hau.1
  have hn2 : (n : Int) ≤ 100 := by omega
  have zp := parB_size V
  have hsz : ∀ i, (numB 1 an ++ numB 1 n ++ parB V i).size = 4 + 32 * i := fun i => by simp only [ByteArray.size_append, numB_size, zp]
  have HZ := Lib.hid hsz
  have hs1 : (numB 1 an).size = 2 := by rw [numB_size]
  have hs2 : (numB 1 an ++ numB 1 n).size = 4 := by simp only [ByteArray.size_append, numB_size]
  have HP := Lib.hid (fun ww F b (hh : WrF ww F b (numB 1 an ++ numB 1 n ++ parB V n)) => opPutF hh k c who th par nm dir dig sz hf (by rw [hsz]; omega))
  have HB : Hid (bodyB an V n ⟨k, c, who, th, par, nm, dir, dig, sz⟩ = numB 1 an ++ numB 1 n ++ parB V n ++ opB ⟨k, c, who, th, par, nm, dir, dig, sz⟩) := rfl
  have HS : Hid (∀ i, parB V (i + 1) = parB V i ++ hashB (V i)) := fun _ => rfl
  have H0 : Hid (numB 1 an ++ numB 1 n = numB 1 an ++ numB 1 n ++ parB V 0) := (opApp_empty _).symm
  obtain ⟨P, hP⟩ : ∃ P : Nat → ByteArray, (fun i => numB 1 an ++ numB 1 n ++ parB V i) = P := ⟨_, rfl⟩
  have hPi : ∀ i, numB 1 an ++ numB 1 n ++ parB V i = P i := fun i => congrFun hP i
  have HPS : Hid (∀ i, P (i + 1) = P i ++ hashB (V i)) := fun i => by rw [← hPi (i + 1), ← hPi i, HS.out]; exact ByteArray.append_assoc.symm
  rw [hPi] at HP HB H0
  have HZP : Hid (∀ i, (P i).size = 4 + 32 * i) := fun i => by rw [← hPi]; exact hsz i
  have HH1 := Lib.hid hs1
  have HH2 := Lib.hid hs2
  clear HZ zp hsz hs1 hs2 HS hP hPi
  go_enter Try.func36, Try.ntmps36
  go_wp2_with fail
  refine calls_world (fun W => Own W w.heap.size 41 (ndC an A n cap k c who th par nm dir dig sz tg) ∧ New w W) ⟨Own.fresh _ _ _, (Fr.refl _ _).alloc _⟩ ?_
  rintro w1 ⟨o1, n1⟩
  have l1 := o1.lt
  have hx : w.heap.size ≤ w1.heap.size := n1.size
  refine (newWriterF w1).mono ?_
  rintro e w2 ⟨rfl, h2, g2⟩
  have o2 := o1.new_ g2
  have n2 := n1.new_ g2
  clear o1 n1 g2
  obtain ⟨c0, c1, c2, c3, c4, c5, c6, c7, c8, c9, c10, c11⟩ := ndCells o2
  have HA := Lib.hid (numF 1 (by decide) h2 an (by omega) (by show 0 + 16 ≤ _; omega))
  clear h2
  go_wp2_with fail
  refine HA.out.mono ?_
  rintro e w3 ⟨rfl, h3, f3⟩
  have o3 := o2.fr f3 (by show ¬ (_ ≤ _); omega)
  have n3 : New w w3 := Fr.upto n2 f3 hx
  clear HA o2 n2 f3 c0 c1 c2 c3 c4 c5 c6 c7 c8 c9 c10 c11
  obtain ⟨c0, c1, c2, c3, c4, c5, c6, c7, c8, c9, c10, c11⟩ := ndCells o3
  have HA := Lib.hid (numF 1 (by decide) (h3.cast (opEmpty_app _)) n (by omega) (by rw [HH1.out]; omega))
  clear h3
  go_wp2_with fail
  refine HA.out.mono ?_
  rintro e w4 ⟨rfl, h4, f4⟩
  have o4 := o3.fr f4 (by show ¬ (_ ≤ _); omega)
  have n4 : New w w4 := Fr.upto n3 f4 hx
  clear HA o3 n3 f4 c0 c1 c2 c3 c4 c5 c6 c7 c8 c9 c10 c11
  obtain ⟨c0, c1, c2, c3, c4, c5, c6, c7, c8, c9, c10, c11⟩ := ndCells o4
  have h5 := h4.cast H0.out
  clear h4
  go_wp2_with fail
  go_loopw [21] (fun iv wr => ∃ i : Nat, i ≤ n ∧ iv = .int .i64 i ∧ WrF wr (w1.heap.size ≤ ·) w1.heap.size (P i) ∧ Own wr w.heap.size 41 (ndC an A n cap k c who th par nm dir dig sz tg) ∧ New w wr) (fun iv _ => n - (intOf iv).toNat)
  case atStart => exact ⟨0, by omega, rfl, h5, o4, n4⟩
  case round =>
    clear h5 o4 n4 c0 c1 c2 c3 c4 c5 c6 c7 c8 c9 c10 c11
    obtain ⟨i, hi, rfl, h5, o4, n4⟩ := hrel
    by_cases hlt : i < n
    · have hlt2 : (i : Int) < (n : Int) := by omega
      have hvi := hV i hlt
      obtain ⟨sb, so, hA, hc⟩ := (hsl.new_ n4).2 i hlt
      have hc0 := hc 0 _ rfl
      simp only [Nat.mul_one, Nat.add_zero] at hc0
      have hps := HPS.out i
      obtain ⟨vi, hvv⟩ : ∃ v, V i = v := ⟨_, rfl⟩
      rw [hvv] at hc0 hvi hps
      have HPI := Lib.hid hps
      have HAA := Lib.hid hA
      have HF := Lib.hid (hashF h5 vi (by omega) (by rw [HZP.out]; omega))
      clear hc hvv hps h5
      subst hA
      go_wp2_with fail
      refine HF.out.mono ?_
      rintro e w5 ⟨rfl, h6, f6⟩
      have o6 := o4.fr f6 (by show ¬ (_ ≤ _); omega)
      have n6 : New w w5 := Fr.upto n4 f6 hx
      go_wp2_with fail
      go_roundw
      case rel => exact ⟨i + 1, by omega, by go_num, h6.cast HPI.out.symm, o6, n6⟩
      case measure => simp [intOf]; omega
    · have hlt2 : ¬ (i : Int) < (n : Int) := by omega
      obtain rfl : i = n := by omega
      obtain ⟨c0, c1, c2, c3, c4, c5, c6, c7, c8, c9, c10, c11⟩ := ndCells o4
      go_wp2_with fail
      refine (HP.out _ _ _ h5).mono ?_
      rintro e w5 ⟨rfl, h6, f6⟩
      have n6 : New w w5 := Fr.upto n4 f6 hx
      go_wp2_with fail
      refine (allF h6.reads).mono ?_
      rintro e w6 ⟨rfl, h7, f7⟩
      have n7 : New w w6 := Fr.upto n6 f7 hx
      go_wp2
      go_ret
      exact ⟨ret_str HB.out.symm, n7⟩
end Go.Proofs.Ytfkbljanmjnefaa
