/- WireNobody: a nil reader and a nil writer: the walk. -/
import Derived.Test.YtlefmnoaejpllaaWireHash
namespace Go.Proofs.Ytlefmnoaejpllaa
open Go.RowKit
set_option linter.unusedVariables false

theorem failN (e : Int) (w : World) : Calls Try.prog 49 #[.pointer none, .int .i64 e] w fun e' w' => e' = .returned (.tuple #[]) ∧ w = w' := by
  go_enter Try.func49, Try.ntmps49
  go_wp2
  go_end0
  exact ⟨rfl, rfl⟩
theorem okN (w : World) : Calls Try.prog 75 #[.pointer none] w fun e w' => e = .returned (.bool false) ∧ w = w' := by
  go_enter Try.func75, Try.ntmps75
  go_wp2
  go_ret
  exact ⟨rfl, rfl⟩
theorem rdNumberN (k : Int) (w : World) : Calls Try.prog 31 #[.pointer none, .int .i64 k] w fun e w' => e = .returned (.int .u64 0) ∧ w = w' := by
  rcases (by omega : k < 0 ∨ (¬ k < 0 ∧ 8 < k) ∨ (¬ k < 0 ∧ ¬ 8 < k)) with h0 | ⟨h0, h1⟩ | ⟨h0, h1⟩
  all_goals
    go_enter Try.func31, Try.ntmps31
    go_wp2_with (first | (go_at_call 75; refine (okN _).mono ?_; rintro e wq ⟨rfl, rfl⟩) | (go_at_call 49; refine (failN _ _).mono ?_; rintro e wq ⟨rfl, rfl⟩))
    go_ret
    exact ⟨rfl, rfl⟩
theorem rdBytesN (k : Int) (w : World) : Calls Try.prog 50 #[.pointer none, .int .i64 k] w fun e w' => e = .returned (.string ⟨#[]⟩) ∧ w = w' := by
  go_enter Try.func50, Try.ntmps50
  go_wp2
  go_ret
  exact ⟨rfl, rfl⟩
theorem rdCountN (k : Int) (w : World) : Calls Try.prog 44 #[.pointer none, .int .i64 k] w fun e w' => e = .returned (.int .i64 0) ∧ w = w' := by
  go_enter Try.func44, Try.ntmps44
  go_wp2
  go_ret
  exact ⟨rfl, rfl⟩
theorem rdTextN (k : Int) (w : World) : Calls Try.prog 40 #[.pointer none, .int .i64 k] w fun e w' => e = .returned (.string ⟨#[]⟩) ∧ w = w' := by
  go_enter Try.func40, Try.ntmps40
  go_wp2
  go_ret
  exact ⟨rfl, rfl⟩
theorem rdHashN (w : World) : Calls Try.prog 47 #[.pointer none] w fun e w' => e = .returned (.string ⟨#[]⟩) ∧ w = w' := by
  go_enter Try.func47, Try.ntmps47
  go_wp2
  go_ret
  exact ⟨rfl, rfl⟩
theorem rdBoolN (w : World) : Calls Try.prog 41 #[.pointer none] w fun e w' => e = .returned (.bool false) ∧ w = w' := by
  go_enter Try.func41, Try.ntmps41
  go_wp2
  go_ret
  exact ⟨rfl, rfl⟩
theorem rdErrN (w : World) : Calls Try.prog 34 #[.pointer none] w fun e w' => e = .returned (.int .i64 1) ∧ w = w' := by
  go_enter Try.func34, Try.ntmps34
  go_wp2
  go_ret
  exact ⟨rfl, rfl⟩
theorem rdEndN (w : World) : Calls Try.prog 42 #[.pointer none] w fun e w' => e = .returned (.int .i64 1) ∧ w = w' := by
  go_enter Try.func42, Try.ntmps42
  go_wp2
  go_ret
  exact ⟨rfl, rfl⟩
theorem rdAtN (w : World) : Calls Try.prog 35 #[.pointer none] w fun e w' => e = .returned (.int .i64 0) ∧ w = w' := by
  go_enter Try.func35, Try.ntmps35
  go_wp2
  go_ret
  exact ⟨rfl, rfl⟩
theorem rdLeftN (w : World) : Calls Try.prog 36 #[.pointer none] w fun e w' => e = .returned (.int .i64 0) ∧ w = w' := by
  go_enter Try.func36, Try.ntmps36
  go_wp2
  go_ret
  exact ⟨rfl, rfl⟩
theorem wrLenN (w : World) : Calls Try.prog 71 #[.pointer none] w fun e w' => e = .returned (.int .i64 0) ∧ w = w' := by
  go_enter Try.func71, Try.ntmps71
  go_wp2
  go_ret
  exact ⟨rfl, rfl⟩
theorem wrAllN (w : World) : Calls Try.prog 60 #[.pointer none] w fun e w' => e = .returned (.string ⟨#[]⟩) ∧ w = w' := by
  go_enter Try.func60, Try.ntmps60
  go_wp2
  go_ret
  exact ⟨rfl, rfl⟩
theorem putN (s : ByteArray) (w : World) : Calls Try.prog 82 #[.pointer none, .string s] w fun e w' => e = .returned (.tuple #[]) ∧ w = w' := by
  go_enter Try.func82, Try.ntmps82
  go_wp2
  go_end0
  exact ⟨rfl, rfl⟩
theorem wrBytesN (s : ByteArray) (w : World) : Calls Try.prog 70 #[.pointer none, .string s] w fun e w' => e = .returned (.tuple #[]) ∧ w = w' := by
  go_enter Try.func70, Try.ntmps70
  go_wp2_with (go_at_call 82; refine (putN _ _).mono ?_; rintro e wq ⟨rfl, rfl⟩)
  go_end0
  exact ⟨rfl, rfl⟩
theorem wrNumberN (n : Nat) (hn : n ≤ 18446744073709551615) (k : Int) (w : World) : Calls Try.prog 62 #[.pointer none, .int .u64 n, .int .i64 k] w fun e w' => e = .returned (.tuple #[]) ∧ New w w' := by
  have HN := Lib.hid (number_any n hn k)
  go_enter Try.func62, Try.ntmps62
  go_wp2_with (first | (go_at_call 82; refine (putN _ _).mono ?_; rintro e wq ⟨rfl, rfl⟩) | (go_at_call 80; refine (HN.out _).mono ?_; rintro e w1 ⟨rfl, hn1⟩))
  go_end0
  exact ⟨rfl, hn1⟩
theorem wrCountN (n : Int) (hn : n ≤ 9223372036854775807) (w : World) : Calls Try.prog 64 #[.pointer none, .int .i64 n] w fun e w' => e = .returned (.tuple #[]) ∧ New w w' := by
  rcases (by omega : n < 0 ∨ 0 ≤ n) with hc | hc
  · have HN := Lib.hid (number_any 0 (by omega) 4)
    rw [clip4] at HN
    have hz : Hid (max n 0 = ((0 : Nat) : Int)) := by show _ = _; omega
    go_enter Try.func64, Try.ntmps64
    go_wp2_with fail
    try rw [hz.out]
    refine (HN.out _).mono ?_
    rintro e w1 ⟨rfl, hn1⟩
    go_wp2_with fail
    refine (putN _ _).mono ?_
    rintro e wq ⟨rfl, rfl⟩
    go_wp2
    go_end0
    exact ⟨rfl, hn1⟩
  · obtain ⟨m, rfl⟩ := Int.eq_ofNat_of_zero_le hc
    have HN := Lib.hid (number_any m (by omega) 4)
    rw [clip4] at HN
    go_enter Try.func64, Try.ntmps64
    go_wp2_with fail
    refine (HN.out _).mono ?_
    rintro e w1 ⟨rfl, hn1⟩
    go_wp2_with fail
    refine (putN _ _).mono ?_
    rintro e wq ⟨rfl, rfl⟩
    go_wp2
    go_end0
    exact ⟨rfl, hn1⟩
theorem wrTextN (s : ByteArray) (hs : s.size ≤ 140737488351232) (w : World) : Calls Try.prog 65 #[.pointer none, .string s] w fun e w' => e = .returned (.tuple #[]) ∧ New w w' := by
  have HN := Lib.hid (number_any s.size (by omega) 4)
  have hz := numB_size 4 s.size
  rw [clip4] at HN
  obtain ⟨nb, hnb⟩ : ∃ nb, numB 4 s.size = nb := ⟨_, rfl⟩
  rw [hnb] at HN hz
  clear hnb
  go_enter Try.func65, Try.ntmps65
  go_wp2_with (first | (go_at_call 82; refine (putN _ _).mono ?_; rintro e wq ⟨rfl, rfl⟩) | (go_at_call 80; refine (HN.out _).mono ?_; rintro e w1 ⟨rfl, hn1⟩))
  go_end0
  exact ⟨rfl, hn1⟩
theorem wrHashN (s : ByteArray) (hs : s.size ≤ 140737488351232) (w : World) : Calls Try.prog 66 #[.pointer none, .string s] w fun e w' => e = .returned (.tuple #[]) ∧ New w w' := by
  have hz := zeros_size 32
  have HZ := Lib.hid zeros_any
  obtain ⟨z, hzz⟩ : ∃ z, zeros 32 = z := ⟨_, rfl⟩
  rw [hzz] at hz HZ
  clear hzz
  have hsz : (s ++ z).size = s.size + 32 := by simp [hz]
  go_enter Try.func66, Try.ntmps66
  go_wp2_with (first | (go_at_call 82; refine (putN _ _).mono ?_; rintro e wq ⟨rfl, rfl⟩) | (go_at_call 84; refine (HZ.out _).mono ?_; rintro e w1 ⟨rfl, hn1⟩))
  go_end0
  exact ⟨rfl, hn1⟩
theorem wrBoolN (w : World) : Calls Try.prog 68 #[.pointer none, .bool true] w fun e w' => e = .returned (.tuple #[]) ∧ w = w' := by
  go_enter Try.func68, Try.ntmps68
  go_wp2_with (go_at_call 82; refine (putN _ _).mono ?_; rintro e wq ⟨rfl, rfl⟩)
  (try simp only [Exit.inBlock, Exit.then]); refine bodyPost_ret (results_none rfl _ _ _) rfl ?_
  exact ⟨rfl, rfl⟩
set_option maxRecDepth 100000 in
set_option maxHeartbeats 2000000 in
theorem wireNobody_walk (n : Int) (hn : (Lit.int .i64 n).wf = true) (s : ByteArray) (hs : s.size ≤ 140737488351232) (w : World) : Calls Try.prog 14 #[.int .i64 n, .string s] w fun e w' => e = .returned (.bool true) ∧ New w w' := by
  have hn2 := wf_i64 hn
  have HC := Lib.hid (wrCountN n hn2.2)
  have HT := Lib.hid (wrTextN s hs)
  have HH := Lib.hid (wrHashN s hs)
  go_enter Try.func14, Try.ntmps14
  go_wp2_with (first
    | (go_at_call 49; refine (failN _ _).mono ?_; rintro e wq ⟨rfl, rfl⟩)
    | (go_at_call 70; refine (wrBytesN _ _).mono ?_; rintro e wq ⟨rfl, rfl⟩)
    | (go_at_call 62; refine (wrNumberN 9 (by omega) n _).mono ?_; rintro e w1 ⟨rfl, hn1⟩)
    | (go_at_call 64; refine (HC.out _).mono ?_; rintro e w2 ⟨rfl, hn2⟩)
    | (go_at_call 65; refine (HT.out _).mono ?_; rintro e w3 ⟨rfl, hn3⟩)
    | (go_at_call 66; refine (HH.out _).mono ?_; rintro e w4 ⟨rfl, hn4⟩)
    | (go_at_call 68; refine (wrBoolN _).mono ?_; rintro e wq ⟨rfl, rfl⟩)
    | (go_at_call 33; refine (awake_any _).mono ?_; rintro e w5 ⟨rfl, hn5⟩)
    | (go_at_call 31; refine (rdNumberN _ _).mono ?_; rintro e wq ⟨rfl, rfl⟩)
    | (go_at_call 50; refine (rdBytesN _ _).mono ?_; rintro e wq ⟨rfl, rfl⟩)
    | (go_at_call 44; refine (rdCountN _ _).mono ?_; rintro e wq ⟨rfl, rfl⟩)
    | (go_at_call 40; refine (rdTextN _ _).mono ?_; rintro e wq ⟨rfl, rfl⟩)
    | (go_at_call 47; refine (rdHashN _).mono ?_; rintro e wq ⟨rfl, rfl⟩)
    | (go_at_call 41; refine (rdBoolN _).mono ?_; rintro e wq ⟨rfl, rfl⟩)
    | (go_at_call 34; refine (rdErrN _).mono ?_; rintro e wq ⟨rfl, rfl⟩)
    | (go_at_call 42; refine (rdEndN _).mono ?_; rintro e wq ⟨rfl, rfl⟩)
    | (go_at_call 35; refine (rdAtN _).mono ?_; rintro e wq ⟨rfl, rfl⟩)
    | (go_at_call 36; refine (rdLeftN _).mono ?_; rintro e wq ⟨rfl, rfl⟩)
    | (go_at_call 71; refine (wrLenN _).mono ?_; rintro e wq ⟨rfl, rfl⟩)
    | (go_at_call 60; refine (wrAllN _).mono ?_; rintro e wq ⟨rfl, rfl⟩))
  go_ret
  exact ⟨rfl, (((hn1.new_ hn2).new_ hn3).new_ hn4).new_ hn5⟩
end Go.Proofs.Ytlefmnoaejpllaa
