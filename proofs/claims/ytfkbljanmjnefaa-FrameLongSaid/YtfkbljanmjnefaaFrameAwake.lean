/- Frames: heads as bytes; awake. -/
import Derived.Test.YtfkbljanmjnefaaFrameDec
import Derived.Test.YtfkbljanmjnefaaNodeBody
namespace Go.Proofs.Ytfkbljanmjnefaa
open Go.RowKit
set_option linter.unusedVariables false
set_option linter.unusedSimpArgs false

def headsB (V : Nat → ByteArray) (n : Nat) : ByteArray := numB 1 1 ++ numB 4 n ++ parB V n
set_option maxRecDepth 100000 in
set_option maxHeartbeats 4000000 in
theorem frHeads_any (A : Option Addr) (n cap : Nat) (V : Nat → ByteArray) (w : World) (hsl : Sl w 1 A n fun i => [.string (V i)]) (hV : ∀ j, j < n → (V j).size ≤ 1000) (hn : n ≤ 100) :
    Calls Try.prog 29 #[.agg #[.int .i64 1, .slice A n cap, .slice none 0 0, .string ⟨#[]⟩, .int .i64 0, .string ⟨#[]⟩, .int .i64 0, .int .i64 0, .int .i64 0, .string ⟨#[]⟩, .slice none 0 0]] w fun e w' => e = .returned (.string (headsB V n)) ∧ New w w' := by
  have hn2 : (n : Int) ≤ 100 := by omega
  have hsz : ∀ i, (numB 1 1 ++ numB 4 n ++ parB V i).size = 10 + 32 * i := fun i => by simp only [ByteArray.size_append, numB_size, parB_size]
  have hs1 : (numB 1 1).size = 2 := by rw [numB_size]
  have hs2 : (numB 1 1 ++ numB 4 n).size = 10 := by simp only [ByteArray.size_append, numB_size]
  have HB : Hid (headsB V n = numB 1 1 ++ numB 4 n ++ parB V n) := rfl
  have HS : Hid (∀ i, parB V (i + 1) = parB V i ++ hashB (V i)) := fun _ => rfl
  have H0 : Hid (numB 1 1 ++ numB 4 n = numB 1 1 ++ numB 4 n ++ parB V 0) := (opApp_empty _).symm
  obtain ⟨P, hP⟩ : ∃ P : Nat → ByteArray, (fun i => numB 1 1 ++ numB 4 n ++ parB V i) = P := ⟨_, rfl⟩
  have hPi : ∀ i, numB 1 1 ++ numB 4 n ++ parB V i = P i := fun i => congrFun hP i
  have HPS : Hid (∀ i, P (i + 1) = P i ++ hashB (V i)) := fun i => by rw [← hPi (i + 1), ← hPi i, HS.out]; exact ByteArray.append_assoc.symm
  rw [hPi] at HB H0
  have HZP : Hid (∀ i, (P i).size = 10 + 32 * i) := fun i => by rw [← hPi]; exact hsz i
  have HH1 := Lib.hid hs1
  have HH2 := Lib.hid hs2
  clear hsz hs1 hs2 HS hP hPi
  go_enter Try.func29, Try.ntmps29
  go_wp2_with fail
  refine calls_world (fun W => Own W w.heap.size 27 #[.int .i64 1, .slice A n cap, .slice none 0 0, .string ⟨#[]⟩, .int .i64 0, .string ⟨#[]⟩, .int .i64 0, .int .i64 0, .int .i64 0, .string ⟨#[]⟩, .slice none 0 0] ∧ New w W) ⟨Own.fresh _ _ _, (Fr.refl _ _).alloc _⟩ ?_
  rintro w1 ⟨o1, n1⟩
  have l1 := o1.lt
  have hx : w.heap.size ≤ w1.heap.size := n1.size
  refine (newWriterF w1).mono ?_
  rintro e w2 ⟨rfl, h2, g2⟩
  have o2 := o1.new_ g2
  have n2 := n1.new_ g2
  clear o1 n1 g2
  obtain ⟨c0, c1, c2, c3, c4, c5, c6, c7, c8, c9, c10⟩ := cells11 o2
  have HA := Lib.hid (numF 1 (by decide) h2 1 (by omega) (by show 0 + 16 ≤ _; omega))
  clear h2
  go_wp2_with fail
  refine HA.out.mono ?_
  rintro e w3 ⟨rfl, h3, f3⟩
  have o3 := o2.fr f3 (by show ¬ (_ ≤ _); omega)
  have n3 : New w w3 := Fr.upto n2 f3 hx
  clear HA o2 n2 f3 c0 c1 c2 c3 c4 c5 c6 c7 c8 c9 c10
  obtain ⟨c0, c1, c2, c3, c4, c5, c6, c7, c8, c9, c10⟩ := cells11 o3
  have HA := Lib.hid (countF (h3.cast (opEmpty_app _)) n (by omega) (by rw [HH1.out]; omega))
  clear h3
  go_wp2_with fail
  refine HA.out.mono ?_
  rintro e w4 ⟨rfl, h4, f4⟩
  have o4 := o3.fr f4 (by show ¬ (_ ≤ _); omega)
  have n4 : New w w4 := Fr.upto n3 f4 hx
  clear HA o3 n3 f4 c0 c1 c2 c3 c4 c5 c6 c7 c8 c9 c10
  obtain ⟨c0, c1, c2, c3, c4, c5, c6, c7, c8, c9, c10⟩ := cells11 o4
  have h5 := h4.cast H0.out
  clear h4
  go_wp2_with fail
  go_loopw [27] (fun iv wr => ∃ i : Nat, i ≤ n ∧ iv = .int .i64 i ∧ WrF wr (w1.heap.size ≤ ·) w1.heap.size (P i) ∧ New w wr) (fun iv _ => n - (intOf iv).toNat)
  case atStart => exact ⟨0, by omega, rfl, h5, n4⟩
  case round =>
    clear h5 o4 n4 c0 c1 c2 c3 c4 c5 c6 c7 c8 c9 c10
    obtain ⟨i, hi, rfl, h5, n4⟩ := hrel
    by_cases hlt : i < n
    · have hlt2 : (i : Int) < (n : Int) := by omega
      have hvi := hV i hlt
      obtain ⟨sb, so, hA, hc⟩ := (hsl.new_ n4).2 i hlt
      have hc0 := hc 0 _ rfl
      simp only [Nat.mul_one, Nat.add_zero] at hc0
      have hps := HPS.out i
      obtain ⟨vi, hvv⟩ : ∃ v, V i = v := ⟨_, rfl⟩
      rw [hvv] at hc0 hvi hps
      have HPI := Lib.hid hps
      have HAA := Lib.hid hA
      have HF := Lib.hid (hashF h5 vi (by omega) (by rw [HZP.out]; omega))
      clear hc hvv hps h5
      subst hA
      go_wp2_with fail
      refine HF.out.mono ?_
      rintro e w5 ⟨rfl, h6, f6⟩
      have n6 : New w w5 := Fr.upto n4 f6 hx
      go_wp2_with fail
      go_roundw
      case rel => exact ⟨i + 1, by omega, by go_num, h6.cast HPI.out.symm, n6⟩
      case measure => simp [intOf]; omega
    · have hlt2 : ¬ (i : Int) < (n : Int) := by omega
      obtain rfl : i = n := by omega
      go_wp2_with fail
      refine (allF h5.reads).mono ?_
      rintro e w6 ⟨rfl, h7, f7⟩
      have n7 : New w w6 := Fr.upto n4 f7 hx
      go_wp2
      go_ret
      exact ⟨ret_str HB.out.symm, n7⟩
def awH : ByteArray := ⟨#[49, 50, 51, 52, 53, 54, 55, 56, 57, 48, 49, 50, 51, 52, 53, 54, 55, 56, 57, 48, 49, 50, 51, 52, 53, 54, 55, 56, 57, 48, 49, 50]⟩
def awF : ByteArray := headsB (fun _ => awH) 1
theorem awF_err : (rFrame awF).2 = 0 := by decide +kernel
theorem awF_kind : (rFrame awF).1.kind = 1 := by decide +kernel
theorem awF_len : (rFrame awF).1.hashes.length = 1 := by decide +kernel
theorem awF_size : awF.size ≤ 100 := by decide +kernel
set_option maxRecDepth 100000 in
set_option maxHeartbeats 4000000 in
theorem awake19_any (w : World) : Calls Try.prog 8 #[] w fun e w' => e = .returned (.bool true) ∧ New w w' := by
  have HE := Lib.hid (fun ww b (hh : Own ww b 9 #[.string awH]) => frHeads_any (some ⟨b, 0, none⟩) 1 1 (fun _ => awH) ww (sl_one hh) (fun _ _ => by decide) (by omega))
  have HD : Hid (∀ ww, Calls Try.prog 7 #[.string awF] ww fun e w' => ∃ A c A2 c2 A3 c3, e = .returned (.tuple #[.agg (sayC (rFrame awF).1 A c A2 c2 A3 c3), .int .i64 (rFrame awF).2]) ∧ New ww w') := fun ww => frDec_any awF (by have := awF_size; omega) ww
  have h1 := awF_err
  have h2 := awF_kind
  have h3 := awF_len
  rw [show headsB (fun _ => awH) 1 = awF from rfl] at HE
  obtain ⟨p, hp⟩ : ∃ p, rFrame awF = p := ⟨_, rfl⟩
  rw [hp] at HD h1 h2 h3
  obtain ⟨⟨k, hl, nl, fi, at_, sh⟩, e⟩ := p
  obtain ⟨s, hs⟩ : ∃ s, awF = s := ⟨_, rfl⟩
  rw [hs] at HE HD
  simp only at h1 h2 h3
  subst h1 h2
  have h3' : (hl.length : Int) = 1 := by omega
  clear hs hp
  go_enter Try.func8, Try.ntmps8
  go_wp2_with fail
  refine (HE.out _ _ (Own.fresh _ _ _)).mono ?_
  rintro e w1 ⟨rfl, g1⟩
  have n1 : New w w1 := ((Fr.refl _ _).alloc _).new_ g1
  go_wp2_with fail
  refine (HD.out _).mono ?_
  rintro e w2 ⟨A, c, A2, c2, A3, c3, rfl, g2⟩
  have n2 := n1.new_ g2
  go_wp2
  go_ret
  exact ⟨rfl, n2.alloc _⟩
end Go.Proofs.Ytfkbljanmjnefaa
