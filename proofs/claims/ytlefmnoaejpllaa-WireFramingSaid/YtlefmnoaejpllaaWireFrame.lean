/- Frames: Frame and Unframe of both programs. -/
import Derived.Test.YtlefmnoaejpllaaWireMosts
namespace Go.Proofs.Ytlefmnoaejpllaa
open Go.RowKit
set_option linter.unusedVariables false

/-- The check of a text with its count. -/
def sumB (s : ByteArray) : Nat := fnvB (numB 4 s.size ++ s)
/-- A frame of a text. -/
def frameB (s : ByteArray) : ByteArray := numB 4 s.size ++ numB 4 (sumB s) ++ s
theorem sumB_lt (s : ByteArray) : sumB s < 4294967296 := fnvB_lt _
theorem number4 (n : Nat) (hn : n ≤ 18446744073709551615) (w : World) : Calls Try.prog 80 #[.int .u64 n, .int .i64 4] w fun e w' => e = .returned (.string (numB 4 n)) ∧ New w w' := by
  have h := number_any n hn 4 w
  rwa [clip4] at h
theorem refNumber4 (n : Nat) (hn : n ≤ 18446744073709551615) (w : World) : Calls Try.prog 63 #[.int .u64 n, .int .i64 4] w fun e w' => e = .returned (.string (numB 4 n)) ∧ New w w' := by
  have h := refNumber_any n hn 4 w
  rwa [clip4] at h
theorem frame_any (s : ByteArray) (hs : s.size ≤ 140737488351232) (w : World) : Calls Try.prog 52 #[.string s] w fun e w' => e = .returned (.string (frameB s)) ∧ New w w' := by
  have hz := numB_size 4 s.size
  have hz2 := numB_size 4 (sumB s)
  have hlt := sumB_lt s
  have HN := Lib.hid (number4 s.size (by omega))
  have HM := Lib.hid (number4 (sumB s) (by omega))
  have HF := Lib.hid (fnv_any (numB 4 s.size ++ s) (by simp [hz]; omega))
  have HS : Hid (frameB s = numB 4 s.size ++ numB 4 (sumB s) ++ s) := rfl
  rw [show fnvB (numB 4 s.size ++ s) = sumB s from rfl] at HF
  obtain ⟨h, hh⟩ : ∃ h, sumB s = h := ⟨_, rfl⟩
  rw [hh] at hz2 hlt HM HF HS
  obtain ⟨nb, hnb⟩ : ∃ nb, numB 4 s.size = nb := ⟨_, rfl⟩
  rw [hnb] at hz HN HF HS
  obtain ⟨mb, hmb⟩ : ∃ mb, numB 4 h = mb := ⟨_, rfl⟩
  rw [hmb] at hz2 HM HS
  clear hnb hh hmb
  go_enter Try.func52, Try.ntmps52
  go_wp2_with fail
  refine (HN.out _).mono ?_
  rintro e w1 ⟨rfl, hn1⟩
  go_wp2_with fail
  refine (HF.out _).mono ?_
  rintro e w2 ⟨rfl, rfl⟩
  go_wp2_with fail
  refine (HM.out _).mono ?_
  rintro e w2 ⟨rfl, hn2⟩
  go_wp2
  go_ret
  exact ⟨ret_str HS.out.symm, hn1.new_ hn2⟩
theorem refFrame_any (s : ByteArray) (hs : s.size ≤ 140737488351232) (w : World) : Calls Try.prog 53 #[.string s] w fun e w' => e = .returned (.string (frameB s)) ∧ New w w' := by
  have hz := numB_size 4 s.size
  have hz2 := numB_size 4 (sumB s)
  have hlt := sumB_lt s
  have HN := Lib.hid (refNumber4 s.size (by omega))
  have HM := Lib.hid (refNumber4 (sumB s) (by omega))
  have HT := Lib.hid (refTextS_any s hs)
  have HF := Lib.hid (refFnv_any (numB 4 s.size ++ s) (by simp [hz]; omega))
  have HS : Hid (frameB s = numB 4 s.size ++ numB 4 (sumB s) ++ s) := rfl
  rw [show fnvB (numB 4 s.size ++ s) = sumB s from rfl] at HF
  obtain ⟨h, hh⟩ : ∃ h, sumB s = h := ⟨_, rfl⟩
  rw [hh] at hz2 hlt HM HF HS
  obtain ⟨nb, hnb⟩ : ∃ nb, numB 4 s.size = nb := ⟨_, rfl⟩
  rw [hnb] at hz HN HF HS HT
  obtain ⟨mb, hmb⟩ : ∃ mb, numB 4 h = mb := ⟨_, rfl⟩
  rw [hmb] at hz2 HM HS
  clear hnb hh hmb
  go_enter Try.func53, Try.ntmps53
  go_wp2_with fail
  refine (HN.out _).mono ?_
  rintro e w1 ⟨rfl, hn1⟩
  go_wp2_with fail
  refine (HT.out _).mono ?_
  rintro e w2 ⟨rfl, hn2⟩
  go_wp2_with fail
  refine (HF.out _).mono ?_
  rintro e w3 ⟨rfl, rfl⟩
  go_wp2_with fail
  refine (HM.out _).mono ?_
  rintro e w3 ⟨rfl, hn3⟩
  go_wp2
  go_ret
  exact ⟨ret_str HS.out.symm, (hn1.new_ hn2).new_ hn3⟩

/-- What Unframe answers. -/
def unfr (s : ByteArray) (at_ : Int) : ByteArray × Int × Int :=
  if at_ < 0 ∨ s.size < at_ then (.empty, 0, 1)
  else
    let z := s.extract at_.toNat s.size
    let c := rCount ⟨z, 0, 0⟩ 2147483647
    let n := rNumber c.1 4
    let b := rBytes n.1 c.2
    if b.1.err = 0 then
      if n.2 = sumB b.2 then (b.2, at_ + b.1.pos, 0) else (.empty, 0, 6)
    else (.empty, 0, b.1.err)
/-- The three steps of it, with what holds of them. -/
theorem unfr_steps (z : ByteArray) (hz : z.size ≤ 140737488351232) : ∃ r1 r2 r3 : Rd, ∃ n : Int, ∃ m : Nat, ∃ t : ByteArray,
    rCount ⟨z, 0, 0⟩ 2147483647 = (r1, n) ∧ rNumber r1 4 = (r2, m) ∧ rBytes r2 n = (r3, t) ∧ r1.ok ∧ r2.ok ∧ r3.ok ∧ r1.s = z ∧ r2.s = z ∧ r3.s = z ∧ 0 ≤ n ∧ n ≤ 4294967295 ∧ t.size ≤ 140737488351232 ∧
    (r3.err = 0 → n = t.size ∧ m < 4294967296) ∧ r3.pos ≤ z.size ∧ 0 ≤ r3.pos := by
  have hrd : Rd.ok ⟨z, 0, 0⟩ := ⟨by simp only; omega, by simp, by simp⟩
  have k1 := rCount_ok hrd 2147483647
  have l1 := rCount_le hrd 2147483647
  have s1 := rCount_s ⟨z, 0, 0⟩ 2147483647
  obtain ⟨⟨r1, n⟩, h1⟩ : ∃ p, rCount ⟨z, 0, 0⟩ 2147483647 = p := ⟨_, rfl⟩
  rw [h1] at k1 l1 s1
  have k2 := rNumber_ok k1 4
  have s2 := rNumber_s r1 4
  obtain ⟨⟨r2, m⟩, h2⟩ : ∃ p, rNumber r1 4 = p := ⟨_, rfl⟩
  have hm : r2.err = 0 → m < 4294967296 := by
    intro e
    by_cases he : r1.err = 0
    · rcases rNumber4 k1 he with ⟨a, b⟩ | ⟨ee, a, b⟩
      · rw [h2] at b; exact b
      · rw [h2] at b
        injection b with b1 b2
        rw [b1] at e
        simp only at e
        rw [e] at a
        simp at a
    · have : rNumber r1 4 = (r1, 0) := if_neg he
      rw [h2] at this
      injection this with a b
      subst b
      omega
  rw [h2] at k2 s2
  have k3 := rBytes_ok k2 n
  have s3 := rBytes_s r2 n
  obtain ⟨⟨r3, t⟩, h3⟩ : ∃ p, rBytes r2 n = p := ⟨_, rfl⟩
  simp only at k1 l1 s1 k2 s2
  have ht : (r3.err = 0 → r2.err = 0 ∧ n = t.size) ∧ t.size ≤ z.size := by
    unfold rBytes at h3
    obtain ⟨a0, a1, a2⟩ := k2
    have hsz : r2.s.size = z.size := by rw [s2, s1]
    split at h3
    · rename_i he
      split at h3
      · injection h3 with b1 b2
        subst b1 b2
        exact ⟨fun e => by simp [Rd.withErr] at e, by simp⟩
      · split at h3
        · injection h3 with b1 b2
          subst b1 b2
          exact ⟨fun e => by simp [Rd.withErr] at e, by simp⟩
        · injection h3 with b1 b2
          subst b1 b2
          refine ⟨fun _ => ⟨he, ?_⟩, ?_⟩
          · rw [ByteArray.size_extract]
            omega
          · rw [ByteArray.size_extract]
            omega
    · rename_i he
      injection h3 with b1 b2
      subst b1 b2
      exact ⟨fun e => absurd e he, by simp⟩
  rw [h3] at k3 s3
  simp only at k3 s3
  refine ⟨r1, r2, r3, n, m, t, h1, h2, h3, k1, k2, k3, s1, by rw [s2, s1], by rw [s3, s2, s1], l1.1, by omega, by omega, fun e => ⟨(ht.1 e).2, hm (ht.1 e).1⟩, ?_, k3.2.1⟩
  have := k3.2.2
  rw [s3, s2, s1] at this
  exact this
end Go.Proofs.Ytlefmnoaejpllaa
