/- The reference: a file's digest of its root. -/
import Derived.Test.YtjcpdpdhegcgoaaGreatDoorMkRefRoot
import Derived.Test.YtjcpdpdhegcgoaaGreatDoorMkShow
namespace Go.Proofs.YtjcpdpdhegcgoaaGreatDoor
open Go.RowKit
set_option linter.unusedVariables false
set_option linter.unusedSimpArgs false


theorem refnum4 (n : Nat) (hn : n ≤ 1000000) (w : World) : Calls Tryz.prog 37 #[.int .u64 n, .int .i64 4] w fun e w' => e = .returned (.string (numB 4 n)) ∧ New w w' := refNumber_core n (by omega) 4 4 (by omega) (.inr (.inl ⟨by omega, by omega, rfl⟩)) w
set_option maxHeartbeats 2000000 in
theorem ref_named {z n : Nat} {r : ByteArray} (hz : z ≤ 100000) (hn : n ≤ 100000) (hr : r.size ≤ 100000) {w : World} :
    Calls Tryz.prog 45 #[.int .i64 z, .int .i64 n, .string r] w fun e W => e = .returned (.string (fileB z n r)) ∧ New w W := by
  have N1 := refnum4 z (by omega)
  have N2 := refnum4 n (by omega)
  have hz0 : (z : Int) ≤ 100000 := by omega
  have hn0 : (n : Int) ≤ 100000 := by omega
  go_enter Tryz.func45, Tryz.ntmps45
  go_wp2_with fail
  refine (N1 _).mono ?_
  rintro e w1 ⟨rfl, n1⟩
  go_wp2_with fail
  refine (N2 _).mono ?_
  rintro e w2 ⟨rfl, n2⟩
  go_wp2_with fail
  refine (refTagged_any 70 _ 3 3 (fileV z n r) _ (sl_three (Own.fresh _ _ _)) (by omega) (fun j _ => by
    unfold fileV
    split
    · rw [numB_size]; omega
    · split
      · rw [numB_size]; omega
      · exact hr)).mono ?_
  rintro e w3 ⟨rfl, n3⟩
  go_wp2_with fail
  go_ret
  exact ⟨rfl, ((n1.new_ n2).alloc _).new_ n3⟩
set_option maxHeartbeats 2000000 in
theorem ref_file {z : Nat} {A : Option Addr} {n cap : Nat} {l : List ByteArray} {w : World} (hz : z ≤ 100000) (hl : SlT w A n l) (hc : n ≤ cap) (hc2 : cap ≤ maxLen) (hn : n ≤ 100000) (hx : ∀ x ∈ l, x.size ≤ 100000) :
    Calls Tryz.prog 20 #[.int .i64 z, .slice A n cap] w fun e W => e = .returned (.string (fileB z n (rootB l))) ∧ New w W := by
  have hzr := rootB_size l hx
  have R0 := Lib.hid (refRoot_any n A n cap l w (Nat.le_refl _) hl hc hc2 (by omega) hx)
  obtain ⟨r, hr⟩ : ∃ r, r = rootB l := ⟨_, rfl⟩
  rw [← hr] at hzr R0 ⊢
  clear hr
  go_enter Tryz.func20, Tryz.ntmps20
  go_wp2_with fail
  refine R0.out.mono ?_
  rintro e w1 ⟨rfl, n1⟩
  go_wp2_with fail
  refine (ref_named hz hn hzr).mono ?_
  rintro e w2 ⟨rfl, n2⟩
  go_wp2_with fail
  go_ret
  exact ⟨rfl, n1.new_ n2⟩
theorem refdigest_any {s : ByteArray} (hs : s.size ≤ 100000) {w : World} : Calls Tryz.prog 23 #[.string s] w fun e W => e = .returned (.string (digB s)) ∧ New w W := by
  go_enter Tryz.func23, Tryz.ntmps23
  go_wp2_with fail
  refine (refTagged_any 75 _ 1 1 (fun _ => s) _ (sl_one' (Own.fresh w _ _)) (by omega) (fun _ _ => hs)).mono ?_
  rintro e w1 ⟨rfl, n1⟩
  go_wp2_with fail
  go_ret
  exact ⟨rfl, ((Fr.refl _ _).alloc _).new_ n1⟩end Go.Proofs.YtjcpdpdhegcgoaaGreatDoor
