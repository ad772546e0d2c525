/- Frames: digests are taken. -/
import Derived.Test.YtfkbljanmjnefaaTxt
namespace Go.Proofs.Ytfkbljanmjnefaa
open Go.RowKit
set_option linter.unusedVariables false
set_option linter.unusedSimpArgs false

def rHash (r : Rd) : Rd × ByteArray := rBytes r 32
/-- Digests, as many as a count says. -/
def rHashes (r : Rd) : Rd × List ByteArray := rLoop rHash (rCount r 32).2.toNat (rCount r 32).1
def HashesPost (w : World) (b : Nat) (r : Rd) (e : Ending) (w' : World) : Prop :=
  ∃ v, e = .returned v ∧ TxL w' w.heap.size v (rHashes r).2 ∧ OwnR w' b (rHashes r).1 ∧ Fr (· = b) w w'
theorem rCount_bound {r : Rd} (hr : r.ok) (m : Nat) (hm : m < 4294967296) : 0 ≤ (rCount r m).2 ∧ (rCount r m).2 ≤ m := by
  have h := rCount_le hr m
  refine ⟨h.1, ?_⟩
  unfold rCount at h ⊢
  repeat' split
  all_goals first | omega | (simp only at *; omega) | skip
set_option maxRecDepth 100000 in
set_option maxHeartbeats 4000000 in
theorem frHashes_any {b : Nat} {r : Rd} {w : World} (h : OwnR w b r) (hr : r.ok) :
    Calls Try.prog 21 #[.pointer (some ⟨b, 0, none⟩)] w (HashesPost w b r) := by
  have hk := rCount_ok hr 32
  have hb := rCount_bound hr 32 (by omega)
  have HC := Lib.hid (count_any h hr 32 (by omega))
  have hH : rHashes r = rLoop rHash (rCount r 32).2.toNat (rCount r 32).1 := rfl
  obtain ⟨⟨rc, k⟩, hrc⟩ : ∃ p, rCount r 32 = p := ⟨_, rfl⟩
  rw [show ((32 : Nat) : Int) = 32 from rfl] at hb
  rw [hrc] at hk hb HC hH
  obtain ⟨m, rfl⟩ := Int.eq_ofNat_of_zero_le hb.1
  simp only [Int.toNat_natCast] at hH
  have hm32 : m ≤ 32 := by have := hb.2; omega
  have HH := Lib.hid hH
  have hlt := Own.lt h
  clear hrc hb hH
  go_enter Try.func21, Try.ntmps21
  go_wp2_with fail
  refine HC.out.mono ?_
  rintro e w1 ⟨rfl, o1, g1⟩
  go_wp2_with fail
  go_loopw [4, 3] (fun nv ov wr => ∃ (m' : Nat) (rr : Rd) (acc : List ByteArray), nv = .int .i64 m' ∧ TxL wr w.heap.size ov acc ∧ OwnR wr b rr ∧ rr.ok ∧ Fr (· = b) w wr ∧ acc.length + m' ≤ 32 ∧ Hid (rLoop rHash m rc = ((rLoop rHash m' rr).1, acc ++ (rLoop rHash m' rr).2))) (fun nv _ _ => (intOf nv).toNat)
  case atStart => exact ⟨m, rc, [], rfl, TxL.nil _ _, o1, hk, g1, by simpa using hm32, rfl⟩
  case round =>
    clear o1 g1 hk
    obtain ⟨m', rr, acc, rfl, ht, o1, hk, g1, hle, HL⟩ := hrel
    rcases m' with _ | m'
    · go_wp2
      go_ret
      refine ⟨_, rfl, ?_, ?_, g1⟩
      · rw [HH.out, HL.out]; simpa [rLoop] using ht
      · rw [HH.out, HL.out]; exact o1
    · have hpos : (0 : Int) < ((m' + 1 : Nat) : Int) := by omega
      obtain ⟨ef, hef⟩ : ∃ ef, rr.err = ef := ⟨_, rfl⟩
      have hcase : ef = 0 ∨ (ef == 0) = false := by
        by_cases e : ef = 0
        · exact .inl e
        · exact .inr (by simpa using e)
      have EZ := err_any o1
      rw [hef] at EZ
      have HE := Lib.hid hef
      clear hef
      rcases hcase with rfl | he
      · have hstep : rLoop rHash (m' + 1) rr = ((rLoop rHash m' (rHash rr).1).1, (rHash rr).2 :: (rLoop rHash m' (rHash rr).1).2) := if_pos HE.out
        have hk2 := rBytes_ok hk 32
        have HB := Lib.hid (hash_any o1 hk)
        rw [show rHash rr = rBytes rr 32 from rfl] at hstep
        obtain ⟨⟨r2, s⟩, hrs⟩ : ∃ p, rBytes rr 32 = p := ⟨_, rfl⟩
        rw [hrs] at hstep hk2 HB
        have HS := Lib.hid hstep
        clear hrs hstep
        obtain ⟨A, cap, rfl⟩ := ht.form
        go_wp2_with fail
        refine EZ.mono ?_
        rintro e wq ⟨rfl, rfl⟩
        go_wp2_with fail
        refine HB.out.mono ?_
        rintro e w2 ⟨rfl, o2, g2⟩
        have t2 : TxL w2 w.heap.size (.slice A acc.length cap) acc := ht.fr g2 (fun k hk e => by have := (ht.base hk).1; have e : k = b := e; omega)
        have n2 := Fr.trans g1 g2 fun _ _ e => e
        have hs1 := g1.size
        have hs2 := g2.size
        obtain ⟨v', W', hrun, t3, f3, v3⟩ := append_txt (t2.new_ ((Fr.refl _ _).alloc (.cells #[.string s] 9))) (by first | (simp; done) | (simp; omega)) (by omega) (Own.fresh w2 9 #[.string s])
        go_wp2_with (at_builtin; refine wpList_append_run rfl _ _ _ rfl rfl rfl hrun ?_)
        have o3 : OwnR W' b r2 := Own.fr (Own.alloc o2 _) f3 (fun e => by have := (t2.base e).1; omega)
        have n3 : Fr (· = b) w W' := Fr.trans (n2.alloc _) f3 (fun k hk e => by have := (t2.base e).1; omega)
        go_wp2_with fail
        go_roundw
        case rel => exact ⟨m', r2, acc ++ [s], by go_num, t3, o3, hk2, n3, by first | (simp; done) | (simp; omega), by show _ = _; rw [HL.out, HS.out]; simp⟩
        case measure => simp [intOf]
      · have hstep : rLoop rHash (m' + 1) rr = (rr, []) := rLoop_err _ _ _ (by rw [HE.out]; simpa using he)
        have HS := Lib.hid hstep
        clear hstep
        go_wp2_with fail
        refine EZ.mono ?_
        rintro e wq ⟨rfl, rfl⟩
        go_wp2
        go_ret
        refine ⟨_, rfl, ?_, ?_, g1⟩
        · rw [HH.out, HL.out, HS.out]; simp only [List.append_nil]; exact ht
        · rw [HH.out, HL.out, HS.out]; exact o1
end Go.Proofs.Ytfkbljanmjnefaa
