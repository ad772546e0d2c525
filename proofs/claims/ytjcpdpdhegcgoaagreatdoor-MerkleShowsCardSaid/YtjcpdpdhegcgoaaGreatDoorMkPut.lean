/- Shares: Put. -/
import Derived.Test.YtjcpdpdhegcgoaaGreatDoorMkBack
import Derived.Test.YtjcpdpdhegcgoaaGreatDoorShare
import Derived.Test.YtjcpdpdhegcgoaaGreatDoorWrF
import Derived.Test.YtjcpdpdhegcgoaaGreatDoorMkVerify
namespace Go.Proofs.YtjcpdpdhegcgoaaGreatDoor
open Go.RowKit
set_option linter.unusedVariables false
set_option linter.unusedSimpArgs false

/-- The bytes of a share. -/
def shareB (x : ShV) : ByteArray := hashB x.dig ++ numB 4 x.size.toNat ++ numB 4 x.many.toNat ++ numB 4 x.at_.toNat ++ textB x.chunk ++ numB 1 x.path.length ++ hashsB x.path
structure ShFit (x : ShV) : Prop where
  dig : x.dig.size = 32
  size : 0 ≤ x.size ∧ x.size ≤ 8192
  many : 0 ≤ x.many ∧ x.many ≤ 256
  at_ : 0 ≤ x.at_ ∧ x.at_ ≤ 256
  chunk : x.chunk.size ≤ 512
  path : x.path.length ≤ 255
  each : ∀ y ∈ x.path, y.size = 32
theorem share_back {r : Rd} (h : r.ok) (hn : (rShare0 r).1.err = 0) : Back r (rShare0 r).1 (shareB (rShare0 r).2) ∧ ShFit (rShare0 r).2 := by
  have k1 := rBytes_ok h 32
  have k2 := rCount_ok k1 8192
  have k3 := rCount_ok k2 256
  have k4 := rCount_ok k3 256
  have k5 := rText_ok k4 512
  have k6 := rNumber_ok k5 1
  have b7 := loop_back _ _ k6 hn
  have b6 := number_back k5 1 b7.1.e0
  have b5 := text_back k4 512 b6.e0
  have b4 := count_back k3 256 b5.1.e0
  have b3 := count_back k2 256 b4.1.e0
  have b2 := count_back k1 8192 b3.1.e0
  have b1 := bytes_back h 32 b2.1.e0
  have hd : (rBytes r 32).2.size = 32 := by have := b1.2; omega
  have hnb := rNumber_bound (rText (rCount (rCount (rCount (rBytes r 32).1 8192).1 256).1 256).1 512).1 1 k5 (by omega)
  refine ⟨?_, ⟨hd, b2.2, b3.2, b4.2, by have := b5.2; simp only [rShare0]; omega, ?_, b7.2.2⟩⟩
  · unfold shareB
    simp only [rShare0]
    rw [b7.2.1, hashB_self hd]
    exact (((((b1.1.trans b2.1).trans b3.1).trans b4.1).trans b5.1).trans b6).trans b7.1
  · simp only [rShare0]
    rw [b7.2.1]
    have e : (16 : Nat) ^ (2 * 1) = 256 := by decide
    rw [e] at hnb
    exact Nat.le_of_lt_succ hnb
set_option maxRecDepth 100000 in
set_option maxHeartbeats 8000000 in
theorem put_share {w : World} {F : Nat → Prop} {b : Nat} {c : ByteArray} (h : WrF w F b c) (hc : c.size ≤ 1000) (dig ch : ByteArray) (sz mn at_ : Nat) (l : List ByteArray) (A : Option Addr) (n cap : Nat) (hd : dig.size ≤ 100000) (hch : ch.size ≤ 100000) (hsz : sz ≤ 100000) (hmn : mn ≤ 100000) (hat : at_ ≤ 100000)
    (hl : SlT w A n l) (hn : n ≤ 255) (hnc : n ≤ cap) (hx : ∀ x ∈ l, x.size ≤ 100000) (hA : ∀ ad, A = some ad → ¬ F ad.block ∧ ad.block < w.heap.size) :
    Calls Tryz.prog 26 #[.pointer (some ⟨b, 0, none⟩), .agg #[.string dig, .int .i64 sz, .int .i64 mn, .int .i64 at_, .string ch, .slice A n cap]] w fun e w' => e = .returned (.tuple #[]) ∧ WrF w' F b (c ++ hashB dig ++ numB 4 sz ++ numB 4 mn ++ numB 4 at_ ++ textB ch ++ numB 1 n ++ hashsB l) ∧ Fr F w w' := by
  have hF := h.1
  have h0 := h.beside (.cells #[.string dig, .int .i64 sz, .int .i64 mn, .int .i64 at_, .string ch, .slice A n cap] 27)
  have o0 := Own.fresh w 27 #[.string dig, .int .i64 sz, .int .i64 mn, .int .i64 at_, .string ch, .slice A n cap]
  have g0 : Fr (Ex F w.heap.size) w (w.alloc (.cells #[.string dig, .int .i64 sz, .int .i64 mn, .int .i64 at_, .string ch, .slice A n cap] 27)) := (Fr.refl _ _).alloc _
  obtain ⟨⟨x0, x1, x2, x3, x4, x5⟩, -⟩ := own6s o0
  have a1 : (c ++ hashB dig).size = c.size + 32 := by rw [ByteArray.size_append, hashB_size]
  have a2 : (c ++ hashB dig ++ numB 4 sz).size = c.size + 40 := by rw [ByteArray.size_append, a1, numB_size]
  have a3 : (c ++ hashB dig ++ numB 4 sz ++ numB 4 mn).size = c.size + 48 := by rw [ByteArray.size_append, a2, numB_size]
  have a4 : (c ++ hashB dig ++ numB 4 sz ++ numB 4 mn ++ numB 4 at_).size = c.size + 56 := by rw [ByteArray.size_append, a3, numB_size]
  have a5 : (c ++ hashB dig ++ numB 4 sz ++ numB 4 mn ++ numB 4 at_ ++ textB ch).size = c.size + 64 + ch.size := by
    unfold textB
    rw [ByteArray.size_append, a4, ByteArray.size_append, numB_size]
    omega
  have a6 : (c ++ hashB dig ++ numB 4 sz ++ numB 4 mn ++ numB 4 at_ ++ textB ch ++ numB 1 n).size = c.size + 66 + ch.size := by rw [ByteArray.size_append, a5, numB_size]; omega
  have P1 := Lib.hid (fun (W : World) (hh : WrF W (Ex F w.heap.size) b c) => hashF hh dig (by omega) (by omega))
  have P2 := Lib.hid (fun (W : World) (hh : WrF W (Ex F w.heap.size) b (c ++ hashB dig)) => countF hh sz (by omega) (by omega))
  have P3 := Lib.hid (fun (W : World) (hh : WrF W (Ex F w.heap.size) b (c ++ hashB dig ++ numB 4 sz)) => countF hh mn (by omega) (by omega))
  have P4 := Lib.hid (fun (W : World) (hh : WrF W (Ex F w.heap.size) b (c ++ hashB dig ++ numB 4 sz ++ numB 4 mn)) => countF hh at_ (by omega) (by omega))
  have P5 := Lib.hid (fun (W : World) (hh : WrF W (Ex F w.heap.size) b (c ++ hashB dig ++ numB 4 sz ++ numB 4 mn ++ numB 4 at_)) => textF hh ch (by omega))
  have P6 := Lib.hid (fun (W : World) (hh : WrF W (Ex F w.heap.size) b (c ++ hashB dig ++ numB 4 sz ++ numB 4 mn ++ numB 4 at_ ++ textB ch)) => numF 1 (by decide) hh n (by omega) (by omega))
  have hn2 : (n : Int) ≤ 255 := by omega
  obtain ⟨d, hdd⟩ : ∃ d, d = c ++ hashB dig ++ numB 4 sz ++ numB 4 mn ++ numB 4 at_ ++ textB ch ++ numB 1 n := ⟨_, rfl⟩
  rw [← hdd] at P6 a6 ⊢
  have hdz : d.size ≤ 200000 := by omega
  have hExA : ∀ ad, A = some ad → ¬ Ex F w.heap.size ad.block := fun ad e => Ex.old (hA ad e).1 (hA ad e).2
  have HX := Lib.hid (And.intro hx (And.intro hl hExA))
  clear a1 a2 a3 a4 a5 a6 hdd hx hl hExA hA h
  go_enter Tryz.func26, Tryz.ntmps26
  go_wp2_with fail
  refine (P1.out _ h0).mono ?_
  rintro e w1 ⟨rfl, h1, f1⟩
  have o1 := o0.fr f1 (Ex.no _ _)
  have g1 := g0.trans f1 fun _ _ e => e
  clear P1 o0 g0 f1 h0 x0 x1 x2 x3 x4 x5
  obtain ⟨⟨x0, x1, x2, x3, x4, x5⟩, -⟩ := own6s o1
  go_wp2_with fail
  refine (P2.out _ h1).mono ?_
  rintro e w2 ⟨rfl, h2, f2⟩
  have o2 := o1.fr f2 (Ex.no _ _)
  have g2 := g1.trans f2 fun _ _ e => e
  clear P2 o1 g1 f2 h1 x0 x1 x2 x3 x4 x5
  obtain ⟨⟨x0, x1, x2, x3, x4, x5⟩, -⟩ := own6s o2
  go_wp2_with fail
  refine (P3.out _ h2).mono ?_
  rintro e w3 ⟨rfl, h3, f3⟩
  have o3 := o2.fr f3 (Ex.no _ _)
  have g3 := g2.trans f3 fun _ _ e => e
  clear P3 o2 g2 f3 h2 x0 x1 x2 x3 x4 x5
  obtain ⟨⟨x0, x1, x2, x3, x4, x5⟩, -⟩ := own6s o3
  go_wp2_with fail
  refine (P4.out _ h3).mono ?_
  rintro e w4 ⟨rfl, h4, f4⟩
  have o4 := o3.fr f4 (Ex.no _ _)
  have g4 := g3.trans f4 fun _ _ e => e
  clear P4 o3 g3 f4 h3 x0 x1 x2 x3 x4 x5
  obtain ⟨⟨x0, x1, x2, x3, x4, x5⟩, -⟩ := own6s o4
  go_wp2_with fail
  refine (P5.out _ h4).mono ?_
  rintro e w5 ⟨rfl, h5, f5⟩
  have o5 := o4.fr f5 (Ex.no _ _)
  have g5 := g4.trans f5 fun _ _ e => e
  clear P5 o4 g4 f5 h4 x0 x1 x2 x3 x4 x5
  obtain ⟨⟨x0, x1, x2, x3, x4, x5⟩, -⟩ := own6s o5
  go_wp2_with fail
  refine (P6.out _ h5).mono ?_
  rintro e w6 ⟨rfl, h6, f6⟩
  have o6 := o5.fr f6 (Ex.no _ _)
  have g6 := g5.trans f6 fun _ _ e => e
  clear P6 o5 g5 f6 h5 x0 x1 x2 x3 x4 x5
  obtain ⟨⟨x0, x1, x2, x3, x4, x5⟩, -⟩ := own6s o6
  have H6 := Lib.hid (And.intro h6 g6)
  clear h6 g6 o6
  go_wp2_with fail
  clear x0 x1 x2 x3 x4 x5
  go_loopw [35, 5] (fun iv _ wr => ∃ k : Nat, iv = .int .i64 k ∧ k ≤ n ∧ Hid (WrF wr (Ex F w.heap.size) b (d ++ hashsB (l.take k)) ∧ Fr (Ex F w.heap.size) w wr)) (fun iv _ _ => n - (intOf iv).toNat)
  case atStart =>
    refine ⟨0, rfl, Nat.zero_le _, Lib.hid ⟨?_, H6.out.2⟩⟩
    have e : d ++ hashsB (l.take 0) = d := by
      apply ByteArray.ext
      apply Array.ext'
      simp [hashsB]
    rw [e]
    exact H6.out.1
  case round =>
    clear H6
    obtain ⟨k, rfl, hkn, HK⟩ := hrel
    by_cases hlt : k < n
    · have hlt2 : (k : Int) < (n : Int) := by omega
      obtain ⟨hx, hl, hEx⟩ := HX.out
      have hl2 := hl.fr HK.out.2 hEx
      obtain ⟨sb, so, hAe, hcc⟩ := hl2.2.2 k hlt
      have c0 := hcc 0 _ rfl
      simp only [Nat.mul_one, Nat.add_zero] at c0
      have hkl : k < l.length := by rw [← hl.1]; exact hlt
      have hgd : l.getD k .empty = l[k] := by simp [List.getD, hkl]
      rw [hgd] at c0
      have hsk : l[k].size ≤ 100000 := hx _ (List.getElem_mem hkl)
      have htk : l.take (k + 1) = l.take k ++ [l[k]] := by rw [List.take_add_one, List.getElem?_eq_getElem hkl]; rfl
      have hbs : d ++ hashsB (l.take (k + 1)) = d ++ hashsB (l.take k) ++ hashB l[k] := by rw [htk, hashsB_snoc, ByteArray.append_assoc]
      have hzz : (d ++ hashsB (l.take k)).size ≤ 300000 := by
        rw [ByteArray.size_append, hashsB_size, List.length_take]
        omega
      have PH := Lib.hid (hashF HK.out.1 l[k] (by omega) (by omega))
      rw [← hbs] at PH
      obtain ⟨y, hy⟩ : ∃ y, l[k] = y := ⟨_, rfl⟩
      rw [hy] at c0 PH
      have HAe := Lib.hid hAe
      clear hl hl2 hcc hgd hsk htk hbs hzz hy hx hEx hkl
      subst hAe
      go_wp2_with fail
      refine PH.out.mono ?_
      rintro e w7 ⟨rfl, h7, f7⟩
      have H7 := Lib.hid (And.intro h7 (HK.out.2.trans f7 fun _ _ e => e))
      clear h7 f7 c0 PH HK
      go_wp2_with fail
      refine ⟨⟨k + 1, by go_num, by omega, H7⟩, by simp [intOf]; omega⟩
    · obtain rfl : k = n := by omega
      have hlt2 : ¬ (k : Int) < (k : Int) := by omega
      have e : l.take k = l := List.take_of_length_le (by rw [← HX.out.2.1.1]; exact Nat.le_refl _)
      have HE := Lib.hid e
      clear e
      go_wp2_with fail
      go_end0
      refine ⟨rfl, ?_, HK.out.2.mono fun i e => Ex.up hF i e⟩
      have := HK.out.1.mono (G := F) fun i e => Ex.up hF i e
      rw [HE.out] at this
      exact this
end Go.Proofs.YtjcpdpdhegcgoaaGreatDoor
