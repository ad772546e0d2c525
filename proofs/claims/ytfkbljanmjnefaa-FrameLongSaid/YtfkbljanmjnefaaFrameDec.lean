/- Frames: what bytes say: Decode. -/
import Derived.Test.YtfkbljanmjnefaaFrameW
namespace Go.Proofs.Ytfkbljanmjnefaa
open Go.RowKit
set_option linter.unusedVariables false
set_option linter.unusedSimpArgs false

theorem lay0 {P : Program} {c : Code} {Q : Exit → Act → World → Prop} {a : Act} {W : World} (F : World → Prop) (h : F W) (k : ∀ W', F W' → Code.wp P c Q a W') : Code.wp P c Q a W := k W h
theorem rTexts_rf (r : Rd) : rTexts r = rLoop (fun r => rText r 512) (rCount r 16).2.toNat (rCount r 16).1 := rfl
set_option maxRecDepth 100000 in
set_option maxHeartbeats 8000000 in
theorem frDec_none (s : ByteArray) (hs : s.size ≤ 65536) (w : World) (hk : ¬ (rNumber ⟨s, 0, 0⟩ 1).2 = 1 ∧ ¬ (rNumber ⟨s, 0, 0⟩ 1).2 = 2 ∧ ¬ (rNumber ⟨s, 0, 0⟩ 1).2 = 3 ∧ ¬ (rNumber ⟨s, 0, 0⟩ 1).2 = 4 ∧ ¬ (rNumber ⟨s, 0, 0⟩ 1).2 = 5) :
    Calls Try.prog 7 #[.string s] w (FramePost w (rFrame s)) := by
  have hok : Rd.ok ⟨s, 0, 0⟩ := ⟨by show s.size ≤ _; omega, by show (0 : Int) ≤ 0; omega, by show (0 : Int) ≤ _; omega⟩
  obtain ⟨ra, k, e1⟩ : ∃ a b, rNumber ⟨s, 0, 0⟩ 1 = (a, b) := ⟨_, _, rfl⟩
  have ka : ra.ok := by have := rNumber_ok hok 1; rw [e1] at this; exact this
  have bk : k < 256 := by have := rNumber_bound ⟨s, 0, 0⟩ 1 hok (by omega); rw [show ((1 : Nat) : Int) = 1 from rfl, e1] at this; exact this
  have hk' : ¬ k = 1 ∧ ¬ k = 2 ∧ ¬ k = 3 ∧ ¬ k = 4 ∧ ¬ k = 5 := by rw [e1] at hk; exact hk
  have C1 := Lib.hid (fun ww b (hh : OwnR ww b ⟨s, 0, 0⟩) => rdNumber_any hh hok 1)
  rw [e1] at C1
  have kf : (rFail ra 6).ok := by unfold rFail; split <;> exact ka
  have HF := Lib.hid (fun ww b (hh : OwnR ww b ra) => fail_any hh 6)
  obtain ⟨ef, hef⟩ : ∃ ef, (rEnd (rFail ra 6)).err = ef := ⟨_, rfl⟩
  have hR : rFrame s = if ef = 0 then (⟨k, [], [], .empty, 0, noSh⟩, 0) else (noSay, ef) := by
    unfold rFrame
    rw [if_neg (by omega)]
    simp only [e1]
    rw [if_neg (by omega), if_neg (by omega), if_neg (by omega), if_neg (by omega)]
    unfold finSay
    rw [hef]
    try rfl
  have HR := Lib.hid hR
  have HE := Lib.hid (fun ww b (hh : OwnR ww b (rFail ra 6)) => end_any hh kf)
  rw [hef] at HE
  have hs2 : (s.size : Int) ≤ 65536 := by omega
  have hcase : ef = 0 ∨ (¬ ef = 0 ∧ (ef != 0) = true) := by
    by_cases e : ef = 0
    · exact .inl e
    · exact .inr ⟨e, by rw [bne_iff_ne]; exact e⟩
  clear e1 hR hef hk
  obtain ⟨h1, h2, h3, h4, h5⟩ := hk'
  all_goals
    go_enter Try.func7, Try.ntmps7
    go_wp2_with fail
    refine calls_world (fun W => Own W w.heap.size 27 #[.int .i64 0, .slice none 0 0, .slice none 0 0, .string ⟨#[]⟩, .int .i64 0, .string ⟨#[]⟩, .int .i64 0, .int .i64 0, .int .i64 0, .string ⟨#[]⟩, .slice none 0 0] ∧ New w W) ⟨Own.fresh _ _ _, (Fr.refl _ _).alloc _⟩ ?_
    rintro w1 ⟨z1, n1⟩
    refine (newReader_any s w1).mono ?_
    rintro e w2 ⟨rfl, rfl⟩
    have l1 := z1.lt
    have z2 := z1.alloc (.cells #[.string s, .int .i64 0, .int .i64 0] 86)
    have n2 := n1.alloc (.cells #[.string s, .int .i64 0, .int .i64 0] 86)
    have o2 := OwnR.fresh s w1
    have hx := n1.size
    go_wp2_with fail
    refine calls_world (fun u => Own u w.heap.size 27 #[.int .i64 0, .slice none 0 0, .slice none 0 0, .string ⟨#[]⟩, .int .i64 0, .string ⟨#[]⟩, .int .i64 0, .int .i64 0, .int .i64 0, .string ⟨#[]⟩, .slice none 0 0] ∧ New w u ∧ OwnR u w1.heap.size ⟨s, 0, 0⟩) ⟨z2, n2, o2⟩ ?_
    clear z1 n1 z2 n2 o2
    rintro u ⟨z2, n2, o2⟩
    refine (C1.out _ _ o2).mono ?_
    rintro e w3 ⟨rfl, o3, g3⟩
    have z3 := z2.fr g3 (by show ¬ (_ = _); omega)
    have l3 := Own.lt o3
    have lu := g3.size
    clear z2 o2
    go_wp2_with fail
    refine calls_world (fun W => FrS u W w.heap.size w1.heap.size w3.heap.size #[.int .i64 k, .slice none 0 0, .slice none 0 0, .string ⟨#[]⟩, .int .i64 0, .string ⟨#[]⟩, .int .i64 0, .int .i64 0, .int .i64 0, .string ⟨#[]⟩, .slice none 0 0] ra) ⟨z3.alloc _, Own.fresh _ _ _, Own.alloc o3 _, g3.alloc _, l1, l3, lu⟩ ?_
    clear z3 o3 g3
    rintro W3 s3
    refine (HF.out _ _ s3.2.2.1).mono ?_
    rintro e w4 ⟨rfl, o4, g4⟩
    have sf := s3.call o4 g4
    clear s3 o4 g4
    go_wp2_with fail
    refine (HE.out _ _ sf.2.2.1).mono ?_
    rintro e w5 ⟨rfl, o5, g5⟩
    obtain ⟨z5, q5, o5, f5, _, _, _⟩ := sf.call o5 g5
    have n5 : New w w5 := Fr.trans n2 f5 (fun i hi e => by have e : i = w1.heap.size := e; omega)
    clear o5 f5 g5 sf n2
    obtain ⟨x0, x1, x2, x3, x4, x5, x6, x7, x8, x9, x10⟩ := cells11 z5
    obtain ⟨y0, y1, y2, y3, y4, y5, y6, y7, y8, y9, y10⟩ := free11 z5
    obtain ⟨c0, c1, c2, c3, c4, c5, c6, c7, c8, c9, c10⟩ := cells11 q5
    rcases hcase with rfl | ⟨hne, hnb⟩
    · go_wp2
      refine post_world (fun W' => Own W' w.heap.size 27 #[.int .i64 k, .slice none 0 0, .slice none 0 0, .string ⟨#[]⟩, .int .i64 0, .string ⟨#[]⟩, .int .i64 0, .int .i64 0, .int .i64 0, .string ⟨#[]⟩, .slice none 0 0] ∧ New w W') ⟨z5.put11 _ _ _ _ _ _ _ _ _ _ _, Fr.put11 n5 (fun h => by omega) _ _ _ _ _ _ _ _ _ _ _⟩ ?_
      clear x0 x1 x2 x3 x4 x5 x6 x7 x8 x9 x10 y0 y1 y2 y3 y4 y5 y6 y7 y8 y9 y10 c0 c1 c2 c3 c4 c5 c6 c7 c8 c9 c10 z5 q5 n5
      rintro W' ⟨zf, nf⟩
      obtain ⟨x0, x1, x2, x3, x4, x5, x6, x7, x8, x9, x10⟩ := cells11 zf
      refine bodyPost_ret (v := .tuple #[.agg #[.int .i64 k, .slice none 0 0, .slice none 0 0, .string ⟨#[]⟩, .int .i64 0, .string ⟨#[]⟩, .int .i64 0, .int .i64 0, .int .i64 0, .string ⟨#[]⟩, .slice none 0 0], .int .i64 0]) (by simp [results, Try.results7, go_sem, *]) rfl ⟨none, 0, none, 0, none, 0, ?_, nf⟩
      rw [HR.out, if_pos trivial]
      try rfl
    · go_wp2
      refine post_world (fun W' => Own W' w.heap.size 27 #[.int .i64 0, .slice none 0 0, .slice none 0 0, .string ⟨#[]⟩, .int .i64 0, .string ⟨#[]⟩, .int .i64 0, .int .i64 0, .int .i64 0, .string ⟨#[]⟩, .slice none 0 0] ∧ New w W') ⟨z5.put11 _ _ _ _ _ _ _ _ _ _ _, Fr.put11 n5 (fun h => by omega) _ _ _ _ _ _ _ _ _ _ _⟩ ?_
      clear x0 x1 x2 x3 x4 x5 x6 x7 x8 x9 x10 y0 y1 y2 y3 y4 y5 y6 y7 y8 y9 y10 c0 c1 c2 c3 c4 c5 c6 c7 c8 c9 c10 z5 q5 n5
      rintro W' ⟨zf, nf⟩
      obtain ⟨x0, x1, x2, x3, x4, x5, x6, x7, x8, x9, x10⟩ := cells11 zf
      refine bodyPost_ret (v := .tuple #[.agg #[.int .i64 0, .slice none 0 0, .slice none 0 0, .string ⟨#[]⟩, .int .i64 0, .string ⟨#[]⟩, .int .i64 0, .int .i64 0, .int .i64 0, .string ⟨#[]⟩, .slice none 0 0], .int .i64 ef]) (by simp [results, Try.results7, go_sem, *]) rfl ⟨none, 0, none, 0, none, 0, ?_, nf⟩
      rw [HR.out, if_neg hne]
      rfl
set_option maxRecDepth 100000 in
set_option maxHeartbeats 8000000 in
theorem frDec_one (s : ByteArray) (hs : s.size ≤ 65536) (w : World) (hk : (rNumber ⟨s, 0, 0⟩ 1).2 = 1) :
    Calls Try.prog 7 #[.string s] w (FramePost w (rFrame s)) := by
  have hok : Rd.ok ⟨s, 0, 0⟩ := ⟨by show s.size ≤ _; omega, by show (0 : Int) ≤ 0; omega, by show (0 : Int) ≤ _; omega⟩
  obtain ⟨ra, k, e1⟩ : ∃ a b, rNumber ⟨s, 0, 0⟩ 1 = (a, b) := ⟨_, _, rfl⟩
  have ka : ra.ok := by have := rNumber_ok hok 1; rw [e1] at this; exact this
  have bk : k < 256 := by have := rNumber_bound ⟨s, 0, 0⟩ 1 hok (by omega); rw [show ((1 : Nat) : Int) = 1 from rfl, e1] at this; exact this
  have hk' : k = 1 := by rw [e1] at hk; exact hk
  have C1 := Lib.hid (fun ww b (hh : OwnR ww b ⟨s, 0, 0⟩) => rdNumber_any hh hok 1)
  rw [e1] at C1
  obtain ⟨rb, hl, e2⟩ : ∃ a b, rHashes ra = (a, b) := ⟨_, _, rfl⟩
  have kb : rb.ok := by
    have : (rHashes ra).1.ok := rLoop_ok rHash (fun r h => rBytes_ok h 32) _ _ (rCount_ok ka 32)
    rw [e2] at this; exact this
  have C2 : Hid (∀ ww b, OwnR ww b ra → Calls Try.prog 21 #[.pointer (some ⟨b, 0, none⟩)] ww fun e w' => ∃ v, e = .returned v ∧ TxL w' ww.heap.size v hl ∧ OwnR w' b rb ∧ Fr (· = b) ww w') := fun ww b hh => by
    have := frHashes_any hh ka
    unfold HashesPost at this
    rw [e2] at this
    exact this
  obtain ⟨ef, hef⟩ : ∃ ef, (rEnd rb).err = ef := ⟨_, rfl⟩
  have hR : rFrame s = if ef = 0 then (⟨1, hl, [], .empty, 0, noSh⟩, 0) else (noSay, ef) := by
    unfold rFrame
    rw [if_neg (by omega)]
    simp only [e1, e2]
    rw [if_pos (by omega), hk']; try rfl
    unfold finSay
    rw [hef]
    try rfl
  have HR := Lib.hid hR
  have HE := Lib.hid (fun ww b (hh : OwnR ww b rb) => end_any hh kb)
  rw [hef] at HE
  have hs2 : (s.size : Int) ≤ 65536 := by omega
  have hcase : ef = 0 ∨ (¬ ef = 0 ∧ (ef != 0) = true) := by
    by_cases e : ef = 0
    · exact .inl e
    · exact .inr ⟨e, by rw [bne_iff_ne]; exact e⟩
  clear e1 hR hef hk e2
  subst hk'
  all_goals
    go_enter Try.func7, Try.ntmps7
    go_wp2_with fail
    refine calls_world (fun W => Own W w.heap.size 27 #[.int .i64 0, .slice none 0 0, .slice none 0 0, .string ⟨#[]⟩, .int .i64 0, .string ⟨#[]⟩, .int .i64 0, .int .i64 0, .int .i64 0, .string ⟨#[]⟩, .slice none 0 0] ∧ New w W) ⟨Own.fresh _ _ _, (Fr.refl _ _).alloc _⟩ ?_
    rintro w1 ⟨z1, n1⟩
    refine (newReader_any s w1).mono ?_
    rintro e w2 ⟨rfl, rfl⟩
    have l1 := z1.lt
    have z2 := z1.alloc (.cells #[.string s, .int .i64 0, .int .i64 0] 86)
    have n2 := n1.alloc (.cells #[.string s, .int .i64 0, .int .i64 0] 86)
    have o2 := OwnR.fresh s w1
    have hx := n1.size
    go_wp2_with fail
    refine calls_world (fun u => Own u w.heap.size 27 #[.int .i64 0, .slice none 0 0, .slice none 0 0, .string ⟨#[]⟩, .int .i64 0, .string ⟨#[]⟩, .int .i64 0, .int .i64 0, .int .i64 0, .string ⟨#[]⟩, .slice none 0 0] ∧ New w u ∧ OwnR u w1.heap.size ⟨s, 0, 0⟩) ⟨z2, n2, o2⟩ ?_
    clear z1 n1 z2 n2 o2
    rintro u ⟨z2, n2, o2⟩
    refine (C1.out _ _ o2).mono ?_
    rintro e w3 ⟨rfl, o3, g3⟩
    have z3 := z2.fr g3 (by show ¬ (_ = _); omega)
    have l3 := Own.lt o3
    have lu := g3.size
    clear z2 o2
    go_wp2_with fail
    refine calls_world (fun W => FrS u W w.heap.size w1.heap.size w3.heap.size #[.int .i64 1, .slice none 0 0, .slice none 0 0, .string ⟨#[]⟩, .int .i64 0, .string ⟨#[]⟩, .int .i64 0, .int .i64 0, .int .i64 0, .string ⟨#[]⟩, .slice none 0 0] ra) ⟨z3.alloc _, Own.fresh _ _ _, Own.alloc o3 _, g3.alloc _, l1, l3, lu⟩ ?_
    clear z3 o3 g3
    rintro W3 s3
    refine (C2.out _ _ s3.2.2.1).mono ?_
    rintro e w4 ⟨v, rfl, t4, o4, g4⟩
    have s4 := s3.call o4 g4
    obtain ⟨A, cap, rfl⟩ := t4.form
    clear s3 o4 g4 t4
    obtain ⟨c0, c1, c2, c3, c4, c5, c6, c7, c8, c9, c10⟩ := cells11 s4.2.1
    obtain ⟨y0, y1, y2, y3, y4, y5, y6, y7, y8, y9, y10⟩ := free11 s4.2.1
    go_wp2_with fail
    refine calls_world (fun W => FrS u W w.heap.size w1.heap.size w3.heap.size #[.int .i64 1, .slice A hl.length cap, .slice none 0 0, .string ⟨#[]⟩, .int .i64 0, .string ⟨#[]⟩, .int .i64 0, .int .i64 0, .int .i64 0, .string ⟨#[]⟩, .slice none 0 0] rb) (s4.put rfl) ?_
    clear c0 c1 c2 c3 c4 c5 c6 c7 c8 c9 c10 y0 y1 y2 y3 y4 y5 y6 y7 y8 y9 y10
    rintro W5 sf
    refine (HE.out _ _ sf.2.2.1).mono ?_
    rintro e w5 ⟨rfl, o5, g5⟩
    obtain ⟨z5, q5, o5, f5, _, _, _⟩ := sf.call o5 g5
    have n5 : New w w5 := Fr.trans n2 f5 (fun i hi e => by have e : i = w1.heap.size := e; omega)
    clear o5 f5 g5 sf n2
    obtain ⟨x0, x1, x2, x3, x4, x5, x6, x7, x8, x9, x10⟩ := cells11 z5
    obtain ⟨y0, y1, y2, y3, y4, y5, y6, y7, y8, y9, y10⟩ := free11 z5
    obtain ⟨c0, c1, c2, c3, c4, c5, c6, c7, c8, c9, c10⟩ := cells11 q5
    rcases hcase with rfl | ⟨hne, hnb⟩
    · go_wp2
      refine post_world (fun W' => Own W' w.heap.size 27 #[.int .i64 1, .slice A hl.length cap, .slice none 0 0, .string ⟨#[]⟩, .int .i64 0, .string ⟨#[]⟩, .int .i64 0, .int .i64 0, .int .i64 0, .string ⟨#[]⟩, .slice none 0 0] ∧ New w W') ⟨z5.put11 _ _ _ _ _ _ _ _ _ _ _, Fr.put11 n5 (fun h => by omega) _ _ _ _ _ _ _ _ _ _ _⟩ ?_
      clear x0 x1 x2 x3 x4 x5 x6 x7 x8 x9 x10 y0 y1 y2 y3 y4 y5 y6 y7 y8 y9 y10 c0 c1 c2 c3 c4 c5 c6 c7 c8 c9 c10 z5 q5 n5
      rintro W' ⟨zf, nf⟩
      obtain ⟨x0, x1, x2, x3, x4, x5, x6, x7, x8, x9, x10⟩ := cells11 zf
      refine bodyPost_ret (v := .tuple #[.agg #[.int .i64 1, .slice A hl.length cap, .slice none 0 0, .string ⟨#[]⟩, .int .i64 0, .string ⟨#[]⟩, .int .i64 0, .int .i64 0, .int .i64 0, .string ⟨#[]⟩, .slice none 0 0], .int .i64 0]) (by simp [results, Try.results7, go_sem, *]) rfl ⟨A, cap, none, 0, none, 0, ?_, nf⟩
      rw [HR.out, if_pos trivial]
      try rfl
    · go_wp2
      refine post_world (fun W' => Own W' w.heap.size 27 #[.int .i64 0, .slice none 0 0, .slice none 0 0, .string ⟨#[]⟩, .int .i64 0, .string ⟨#[]⟩, .int .i64 0, .int .i64 0, .int .i64 0, .string ⟨#[]⟩, .slice none 0 0] ∧ New w W') ⟨z5.put11 _ _ _ _ _ _ _ _ _ _ _, Fr.put11 n5 (fun h => by omega) _ _ _ _ _ _ _ _ _ _ _⟩ ?_
      clear x0 x1 x2 x3 x4 x5 x6 x7 x8 x9 x10 y0 y1 y2 y3 y4 y5 y6 y7 y8 y9 y10 c0 c1 c2 c3 c4 c5 c6 c7 c8 c9 c10 z5 q5 n5
      rintro W' ⟨zf, nf⟩
      obtain ⟨x0, x1, x2, x3, x4, x5, x6, x7, x8, x9, x10⟩ := cells11 zf
      refine bodyPost_ret (v := .tuple #[.agg #[.int .i64 0, .slice none 0 0, .slice none 0 0, .string ⟨#[]⟩, .int .i64 0, .string ⟨#[]⟩, .int .i64 0, .int .i64 0, .int .i64 0, .string ⟨#[]⟩, .slice none 0 0], .int .i64 ef]) (by simp [results, Try.results7, go_sem, *]) rfl ⟨none, 0, none, 0, none, 0, ?_, nf⟩
      rw [HR.out, if_neg hne]
      rfl
set_option maxRecDepth 100000 in
set_option maxHeartbeats 8000000 in
theorem frDec_two (s : ByteArray) (hs : s.size ≤ 65536) (w : World) (hk : (rNumber ⟨s, 0, 0⟩ 1).2 = 2) :
    Calls Try.prog 7 #[.string s] w (FramePost w (rFrame s)) := by
  have hok : Rd.ok ⟨s, 0, 0⟩ := ⟨by show s.size ≤ _; omega, by show (0 : Int) ≤ 0; omega, by show (0 : Int) ≤ _; omega⟩
  obtain ⟨ra, k, e1⟩ : ∃ a b, rNumber ⟨s, 0, 0⟩ 1 = (a, b) := ⟨_, _, rfl⟩
  have ka : ra.ok := by have := rNumber_ok hok 1; rw [e1] at this; exact this
  have bk : k < 256 := by have := rNumber_bound ⟨s, 0, 0⟩ 1 hok (by omega); rw [show ((1 : Nat) : Int) = 1 from rfl, e1] at this; exact this
  have hk' : k = 2 := by rw [e1] at hk; exact hk
  have C1 := Lib.hid (fun ww b (hh : OwnR ww b ⟨s, 0, 0⟩) => rdNumber_any hh hok 1)
  rw [e1] at C1
  have hb := rCount_bound ka 16 (by omega)
  have C2 := Lib.hid (fun ww b (hh : OwnR ww b ra) => count_any hh ka 16 (by omega))
  have kc := rCount_ok ka 16
  have hT := rTexts_rf ra
  obtain ⟨⟨rc, k2⟩, e2⟩ : ∃ p, rCount ra 16 = p := ⟨_, rfl⟩
  rw [show ((16 : Nat) : Int) = 16 from rfl] at hb
  rw [e2] at hb C2 kc hT
  obtain ⟨m, rfl⟩ := Int.eq_ofNat_of_zero_le hb.1
  simp only [Int.toNat_natCast] at hT
  have hm16 : m ≤ 16 := by have := hb.2; omega
  obtain ⟨rb, hl, e3⟩ : ∃ a b, rTexts ra = (a, b) := ⟨_, _, rfl⟩
  have kb : rb.ok := by
    have : (rLoop (fun r => rText r 512) m rc).1.ok := rLoop_ok _ (fun r h => rText_ok h 512) _ _ kc
    rw [← hT, e3] at this; exact this
  rw [e3] at hT
  have HTT := Lib.hid hT
  obtain ⟨ef, hef⟩ : ∃ ef, (rEnd rb).err = ef := ⟨_, rfl⟩
  have hR : rFrame s = if ef = 0 then (⟨2, [], hl, .empty, 0, noSh⟩, 0) else (noSay, ef) := by
    unfold rFrame
    rw [if_neg (by omega)]
    simp only [e1, e3]
    rw [if_neg (by omega), if_pos hk']
    unfold finSay
    rw [hef]
    try rfl
  have HR := Lib.hid hR
  have HE := Lib.hid (fun ww b (hh : OwnR ww b rb) => end_any hh kb)
  rw [hef] at HE
  have hs2 : (s.size : Int) ≤ 65536 := by omega
  have hcase : ef = 0 ∨ (¬ ef = 0 ∧ (ef != 0) = true) := by
    by_cases e : ef = 0
    · exact .inl e
    · exact .inr ⟨e, by rw [bne_iff_ne]; exact e⟩
  clear e1 hR hef hk e2 e3 hT hb
  subst hk'
  all_goals
    go_enter Try.func7, Try.ntmps7
    go_wp2_with fail
    refine calls_world (fun W => Own W w.heap.size 27 #[.int .i64 0, .slice none 0 0, .slice none 0 0, .string ⟨#[]⟩, .int .i64 0, .string ⟨#[]⟩, .int .i64 0, .int .i64 0, .int .i64 0, .string ⟨#[]⟩, .slice none 0 0] ∧ New w W) ⟨Own.fresh _ _ _, (Fr.refl _ _).alloc _⟩ ?_
    rintro w1 ⟨z1, n1⟩
    refine (newReader_any s w1).mono ?_
    rintro e w2 ⟨rfl, rfl⟩
    have l1 := z1.lt
    have z2 := z1.alloc (.cells #[.string s, .int .i64 0, .int .i64 0] 86)
    have n2 := n1.alloc (.cells #[.string s, .int .i64 0, .int .i64 0] 86)
    have o2 := OwnR.fresh s w1
    have hx := n1.size
    go_wp2_with fail
    refine calls_world (fun u => Own u w.heap.size 27 #[.int .i64 0, .slice none 0 0, .slice none 0 0, .string ⟨#[]⟩, .int .i64 0, .string ⟨#[]⟩, .int .i64 0, .int .i64 0, .int .i64 0, .string ⟨#[]⟩, .slice none 0 0] ∧ New w u ∧ OwnR u w1.heap.size ⟨s, 0, 0⟩) ⟨z2, n2, o2⟩ ?_
    clear z1 n1 z2 n2 o2
    rintro u ⟨z2, n2, o2⟩
    refine (C1.out _ _ o2).mono ?_
    rintro e w3 ⟨rfl, o3, g3⟩
    have z3 := z2.fr g3 (by show ¬ (_ = _); omega)
    have l3 := Own.lt o3
    have lu := g3.size
    clear z2 o2
    go_wp2_with fail
    refine calls_world (fun W => FrS u W w.heap.size w1.heap.size w3.heap.size #[.int .i64 2, .slice none 0 0, .slice none 0 0, .string ⟨#[]⟩, .int .i64 0, .string ⟨#[]⟩, .int .i64 0, .int .i64 0, .int .i64 0, .string ⟨#[]⟩, .slice none 0 0] ra) ⟨z3.alloc _, Own.fresh _ _ _, Own.alloc o3 _, g3.alloc _, l1, l3, lu⟩ ?_
    clear z3 o3 g3
    rintro W3 s3
    refine (C2.out _ _ s3.2.2.1).mono ?_
    rintro e w4 ⟨rfl, o4, g4⟩
    have s4 := s3.call o4 g4
    clear s3 o4 g4
    go_wp2_with fail
    go_loopw [6] (fun nv wr => ∃ (m' : Nat) (rr : Rd) (acc : List ByteArray) (A : Option Addr) (cap : Nat), nv = .int .i64 m' ∧ FrS u wr w.heap.size w1.heap.size w3.heap.size #[.int .i64 2, .slice none 0 0, .slice A acc.length cap, .string ⟨#[]⟩, .int .i64 0, .string ⟨#[]⟩, .int .i64 0, .int .i64 0, .int .i64 0, .string ⟨#[]⟩, .slice none 0 0] rr ∧ TxL wr (w3.heap.size + 1) (.slice A acc.length cap) acc ∧ rr.ok ∧ acc.length + m' ≤ 16 ∧ Hid (rLoop (fun r => rText r 512) m rc = ((rLoop (fun r => rText r 512) m' rr).1, acc ++ (rLoop (fun r => rText r 512) m' rr).2))) (fun nv _ => (intOf nv).toNat)
    case atStart => exact ⟨m, rc, [], none, 0, rfl, s4, TxL.nil _ _, kc, by simpa using hm16, rfl⟩
    case round =>
      clear s4 kc
      obtain ⟨m', rr, acc, A, cap, rfl, s4, ht, hk, hle, HL⟩ := hrel
      rcases m' with _ | m'
      · have hF : rb = rr ∧ hl = acc := by
          have := HTT.out
          rw [HL.out] at this
          simp only [rLoop, List.append_nil, Prod.mk.injEq] at this
          exact this
        obtain ⟨rfl, rfl⟩ := hF
        clear HL HTT
        go_wp2_with fail
        have sf := s4
        clear s4 ht
        refine (HE.out _ _ sf.2.2.1).mono ?_
        rintro e w5 ⟨rfl, o5, g5⟩
        obtain ⟨z5, q5, o5, f5, _, _, _⟩ := sf.call o5 g5
        have n5 : New w w5 := Fr.trans n2 f5 (fun i hi e => by have e : i = w1.heap.size := e; omega)
        clear o5 f5 g5 sf n2
        obtain ⟨x0, x1, x2, x3, x4, x5, x6, x7, x8, x9, x10⟩ := cells11 z5
        obtain ⟨y0, y1, y2, y3, y4, y5, y6, y7, y8, y9, y10⟩ := free11 z5
        obtain ⟨c0, c1, c2, c3, c4, c5, c6, c7, c8, c9, c10⟩ := cells11 q5
        rcases hcase with rfl | ⟨hne, hnb⟩
        · go_wp2
          refine post_world (fun W' => Own W' w.heap.size 27 #[.int .i64 2, .slice none 0 0, .slice A hl.length cap, .string ⟨#[]⟩, .int .i64 0, .string ⟨#[]⟩, .int .i64 0, .int .i64 0, .int .i64 0, .string ⟨#[]⟩, .slice none 0 0] ∧ New w W') ⟨z5.put11 _ _ _ _ _ _ _ _ _ _ _, Fr.put11 n5 (fun h => by omega) _ _ _ _ _ _ _ _ _ _ _⟩ ?_
          clear x0 x1 x2 x3 x4 x5 x6 x7 x8 x9 x10 y0 y1 y2 y3 y4 y5 y6 y7 y8 y9 y10 c0 c1 c2 c3 c4 c5 c6 c7 c8 c9 c10 z5 q5 n5
          rintro W' ⟨zf, nf⟩
          obtain ⟨x0, x1, x2, x3, x4, x5, x6, x7, x8, x9, x10⟩ := cells11 zf
          refine bodyPost_ret (v := .tuple #[.agg #[.int .i64 2, .slice none 0 0, .slice A hl.length cap, .string ⟨#[]⟩, .int .i64 0, .string ⟨#[]⟩, .int .i64 0, .int .i64 0, .int .i64 0, .string ⟨#[]⟩, .slice none 0 0], .int .i64 0]) (by simp [results, Try.results7, go_sem, *]) rfl ⟨none, 0, A, cap, none, 0, ?_, nf⟩
          rw [HR.out, if_pos trivial]
          try rfl
        · go_wp2
          refine post_world (fun W' => Own W' w.heap.size 27 #[.int .i64 0, .slice none 0 0, .slice none 0 0, .string ⟨#[]⟩, .int .i64 0, .string ⟨#[]⟩, .int .i64 0, .int .i64 0, .int .i64 0, .string ⟨#[]⟩, .slice none 0 0] ∧ New w W') ⟨z5.put11 _ _ _ _ _ _ _ _ _ _ _, Fr.put11 n5 (fun h => by omega) _ _ _ _ _ _ _ _ _ _ _⟩ ?_
          clear x0 x1 x2 x3 x4 x5 x6 x7 x8 x9 x10 y0 y1 y2 y3 y4 y5 y6 y7 y8 y9 y10 c0 c1 c2 c3 c4 c5 c6 c7 c8 c9 c10 z5 q5 n5
          rintro W' ⟨zf, nf⟩
          obtain ⟨x0, x1, x2, x3, x4, x5, x6, x7, x8, x9, x10⟩ := cells11 zf
          refine bodyPost_ret (v := .tuple #[.agg #[.int .i64 0, .slice none 0 0, .slice none 0 0, .string ⟨#[]⟩, .int .i64 0, .string ⟨#[]⟩, .int .i64 0, .int .i64 0, .int .i64 0, .string ⟨#[]⟩, .slice none 0 0], .int .i64 ef]) (by simp [results, Try.results7, go_sem, *]) rfl ⟨none, 0, none, 0, none, 0, ?_, nf⟩
          rw [HR.out, if_neg hne]
          rfl
      · have hpos : (0 : Int) < ((m' + 1 : Nat) : Int) := by omega
        have hcs : rr.err = 0 ∨ (rr.err == 0) = false := by
          by_cases e : rr.err = 0
          · exact .inl e
          · exact .inr (by simpa using e)
        rcases hcs with he | he
        · have hstep : rLoop (fun r => rText r 512) (m' + 1) rr = ((rLoop (fun r => rText r 512) m' (rText rr 512).1).1, (rText rr 512).2 :: (rLoop (fun r => rText r 512) m' (rText rr 512).1).2) := if_pos he
          have hk2 := rText_ok hk 512
          have HB := Lib.hid (fun ww (hh : OwnR ww w1.heap.size rr) => text_any hh hk 512 (by omega))
          obtain ⟨⟨r2', x⟩, hrs⟩ : ∃ p, rText rr 512 = p := ⟨_, rfl⟩
          rw [hrs] at hstep hk2 HB
          have HS := Lib.hid hstep
          clear hrs hstep
          have EZ := err_any s4.2.2.1
          rw [he] at EZ
          clear he
          go_wp2_with fail
          refine EZ.mono ?_
          rintro e wq ⟨rfl, rfl⟩
          have c2 : wr.cell? ⟨w3.heap.size, 2, none⟩ = some (.slice A acc.length cap) := s4.2.1.cell 2
          have l7 := s4.2.1.lt
          go_wp2_with fail
          go_region_law (first
            | (refine step_append_run rfl (.tmp 42) (.tmp 45) _ rfl rfl rfl hrun ?_)
            | (go_simp; go_at_call 24; refine (HB.out _ (Own.drew s4.2.2.1)).mono ?_; rintro e w2 ⟨rfl, o2, g2⟩; obtain ⟨A', cap', W', hrun, l2, d5, k5, k6, s9, t9⟩ := s4.step (i := 2) ht rfl o2 g2 (by omega) x))
          all_goals go_wp2_with fail
          all_goals go_roundw
          all_goals first
            | exact ⟨m', r2', acc ++ [x], A', cap', by go_num, by rw [List.length_append]; exact s9, by rw [List.length_append]; exact t9, hk2, by simp; omega, by show _ = _; rw [HL.out, HS.out]; simp⟩
            | (simp [intOf]; done)
            | (simp [intOf]; omega)
        · have hF : rb = rr ∧ hl = acc := by
            have := HTT.out
            rw [HL.out, rLoop_err _ _ _ (by simpa using he)] at this
            simp only [List.append_nil, Prod.mk.injEq] at this
            exact this
          obtain ⟨rfl, rfl⟩ := hF
          clear HL HTT
          have EZ := err_any s4.2.2.1
          go_wp2_with fail
          refine EZ.mono ?_
          rintro e wq ⟨rfl, rfl⟩
          go_wp2_with fail
          have sf := s4
          clear s4 ht
          refine (HE.out _ _ sf.2.2.1).mono ?_
          rintro e w5 ⟨rfl, o5, g5⟩
          obtain ⟨z5, q5, o5, f5, _, _, _⟩ := sf.call o5 g5
          have n5 : New w w5 := Fr.trans n2 f5 (fun i hi e => by have e : i = w1.heap.size := e; omega)
          clear o5 f5 g5 sf n2
          obtain ⟨x0, x1, x2, x3, x4, x5, x6, x7, x8, x9, x10⟩ := cells11 z5
          obtain ⟨y0, y1, y2, y3, y4, y5, y6, y7, y8, y9, y10⟩ := free11 z5
          obtain ⟨c0, c1, c2, c3, c4, c5, c6, c7, c8, c9, c10⟩ := cells11 q5
          rcases hcase with rfl | ⟨hne, hnb⟩
          · go_wp2
            refine post_world (fun W' => Own W' w.heap.size 27 #[.int .i64 2, .slice none 0 0, .slice A hl.length cap, .string ⟨#[]⟩, .int .i64 0, .string ⟨#[]⟩, .int .i64 0, .int .i64 0, .int .i64 0, .string ⟨#[]⟩, .slice none 0 0] ∧ New w W') ⟨z5.put11 _ _ _ _ _ _ _ _ _ _ _, Fr.put11 n5 (fun h => by omega) _ _ _ _ _ _ _ _ _ _ _⟩ ?_
            clear x0 x1 x2 x3 x4 x5 x6 x7 x8 x9 x10 y0 y1 y2 y3 y4 y5 y6 y7 y8 y9 y10 c0 c1 c2 c3 c4 c5 c6 c7 c8 c9 c10 z5 q5 n5
            rintro W' ⟨zf, nf⟩
            obtain ⟨x0, x1, x2, x3, x4, x5, x6, x7, x8, x9, x10⟩ := cells11 zf
            refine bodyPost_ret (v := .tuple #[.agg #[.int .i64 2, .slice none 0 0, .slice A hl.length cap, .string ⟨#[]⟩, .int .i64 0, .string ⟨#[]⟩, .int .i64 0, .int .i64 0, .int .i64 0, .string ⟨#[]⟩, .slice none 0 0], .int .i64 0]) (by simp [results, Try.results7, go_sem, *]) rfl ⟨none, 0, A, cap, none, 0, ?_, nf⟩
            rw [HR.out, if_pos trivial]
            try rfl
          · go_wp2
            refine post_world (fun W' => Own W' w.heap.size 27 #[.int .i64 0, .slice none 0 0, .slice none 0 0, .string ⟨#[]⟩, .int .i64 0, .string ⟨#[]⟩, .int .i64 0, .int .i64 0, .int .i64 0, .string ⟨#[]⟩, .slice none 0 0] ∧ New w W') ⟨z5.put11 _ _ _ _ _ _ _ _ _ _ _, Fr.put11 n5 (fun h => by omega) _ _ _ _ _ _ _ _ _ _ _⟩ ?_
            clear x0 x1 x2 x3 x4 x5 x6 x7 x8 x9 x10 y0 y1 y2 y3 y4 y5 y6 y7 y8 y9 y10 c0 c1 c2 c3 c4 c5 c6 c7 c8 c9 c10 z5 q5 n5
            rintro W' ⟨zf, nf⟩
            obtain ⟨x0, x1, x2, x3, x4, x5, x6, x7, x8, x9, x10⟩ := cells11 zf
            refine bodyPost_ret (v := .tuple #[.agg #[.int .i64 0, .slice none 0 0, .slice none 0 0, .string ⟨#[]⟩, .int .i64 0, .string ⟨#[]⟩, .int .i64 0, .int .i64 0, .int .i64 0, .string ⟨#[]⟩, .slice none 0 0], .int .i64 ef]) (by simp [results, Try.results7, go_sem, *]) rfl ⟨none, 0, none, 0, none, 0, ?_, nf⟩
            rw [HR.out, if_neg hne]
            rfl
set_option maxRecDepth 100000 in
set_option maxHeartbeats 8000000 in
theorem frDec_three (s : ByteArray) (hs : s.size ≤ 65536) (w : World) (hk : (rNumber ⟨s, 0, 0⟩ 1).2 = 3) :
    Calls Try.prog 7 #[.string s] w (FramePost w (rFrame s)) := by
  have hok : Rd.ok ⟨s, 0, 0⟩ := ⟨by show s.size ≤ _; omega, by show (0 : Int) ≤ 0; omega, by show (0 : Int) ≤ _; omega⟩
  obtain ⟨ra, k, e1⟩ : ∃ a b, rNumber ⟨s, 0, 0⟩ 1 = (a, b) := ⟨_, _, rfl⟩
  have ka : ra.ok := by have := rNumber_ok hok 1; rw [e1] at this; exact this
  have bk : k < 256 := by have := rNumber_bound ⟨s, 0, 0⟩ 1 hok (by omega); rw [show ((1 : Nat) : Int) = 1 from rfl, e1] at this; exact this
  have hk' : k = 3 := by rw [e1] at hk; exact hk
  have C1 := Lib.hid (fun ww b (hh : OwnR ww b ⟨s, 0, 0⟩) => rdNumber_any hh hok 1)
  rw [e1] at C1
  obtain ⟨rb, hl, e2⟩ : ∃ a b, rHashes ra = (a, b) := ⟨_, _, rfl⟩
  have kb : rb.ok := by
    have : (rHashes ra).1.ok := rLoop_ok rHash (fun r h => rBytes_ok h 32) _ _ (rCount_ok ka 32)
    rw [e2] at this; exact this
  have C2 : Hid (∀ ww b, OwnR ww b ra → Calls Try.prog 21 #[.pointer (some ⟨b, 0, none⟩)] ww fun e w' => ∃ v, e = .returned v ∧ TxL w' ww.heap.size v hl ∧ OwnR w' b rb ∧ Fr (· = b) ww w') := fun ww b hh => by
    have := frHashes_any hh ka
    unfold HashesPost at this
    rw [e2] at this
    exact this
  obtain ⟨ef, hef⟩ : ∃ ef, (rEnd rb).err = ef := ⟨_, rfl⟩
  have hR : rFrame s = if ef = 0 then (⟨3, hl, [], .empty, 0, noSh⟩, 0) else (noSay, ef) := by
    unfold rFrame
    rw [if_neg (by omega)]
    simp only [e1, e2]
    rw [if_pos (by omega), hk']; try rfl
    unfold finSay
    rw [hef]
    try rfl
  have HR := Lib.hid hR
  have HE := Lib.hid (fun ww b (hh : OwnR ww b rb) => end_any hh kb)
  rw [hef] at HE
  have hs2 : (s.size : Int) ≤ 65536 := by omega
  have hcase : ef = 0 ∨ (¬ ef = 0 ∧ (ef != 0) = true) := by
    by_cases e : ef = 0
    · exact .inl e
    · exact .inr ⟨e, by rw [bne_iff_ne]; exact e⟩
  clear e1 hR hef hk e2
  subst hk'
  all_goals
    go_enter Try.func7, Try.ntmps7
    go_wp2_with fail
    refine calls_world (fun W => Own W w.heap.size 27 #[.int .i64 0, .slice none 0 0, .slice none 0 0, .string ⟨#[]⟩, .int .i64 0, .string ⟨#[]⟩, .int .i64 0, .int .i64 0, .int .i64 0, .string ⟨#[]⟩, .slice none 0 0] ∧ New w W) ⟨Own.fresh _ _ _, (Fr.refl _ _).alloc _⟩ ?_
    rintro w1 ⟨z1, n1⟩
    refine (newReader_any s w1).mono ?_
    rintro e w2 ⟨rfl, rfl⟩
    have l1 := z1.lt
    have z2 := z1.alloc (.cells #[.string s, .int .i64 0, .int .i64 0] 86)
    have n2 := n1.alloc (.cells #[.string s, .int .i64 0, .int .i64 0] 86)
    have o2 := OwnR.fresh s w1
    have hx := n1.size
    go_wp2_with fail
    refine calls_world (fun u => Own u w.heap.size 27 #[.int .i64 0, .slice none 0 0, .slice none 0 0, .string ⟨#[]⟩, .int .i64 0, .string ⟨#[]⟩, .int .i64 0, .int .i64 0, .int .i64 0, .string ⟨#[]⟩, .slice none 0 0] ∧ New w u ∧ OwnR u w1.heap.size ⟨s, 0, 0⟩) ⟨z2, n2, o2⟩ ?_
    clear z1 n1 z2 n2 o2
    rintro u ⟨z2, n2, o2⟩
    refine (C1.out _ _ o2).mono ?_
    rintro e w3 ⟨rfl, o3, g3⟩
    have z3 := z2.fr g3 (by show ¬ (_ = _); omega)
    have l3 := Own.lt o3
    have lu := g3.size
    clear z2 o2
    go_wp2_with fail
    refine calls_world (fun W => FrS u W w.heap.size w1.heap.size w3.heap.size #[.int .i64 3, .slice none 0 0, .slice none 0 0, .string ⟨#[]⟩, .int .i64 0, .string ⟨#[]⟩, .int .i64 0, .int .i64 0, .int .i64 0, .string ⟨#[]⟩, .slice none 0 0] ra) ⟨z3.alloc _, Own.fresh _ _ _, Own.alloc o3 _, g3.alloc _, l1, l3, lu⟩ ?_
    clear z3 o3 g3
    rintro W3 s3
    refine (C2.out _ _ s3.2.2.1).mono ?_
    rintro e w4 ⟨v, rfl, t4, o4, g4⟩
    have s4 := s3.call o4 g4
    obtain ⟨A, cap, rfl⟩ := t4.form
    clear s3 o4 g4 t4
    obtain ⟨c0, c1, c2, c3, c4, c5, c6, c7, c8, c9, c10⟩ := cells11 s4.2.1
    obtain ⟨y0, y1, y2, y3, y4, y5, y6, y7, y8, y9, y10⟩ := free11 s4.2.1
    go_wp2_with fail
    refine calls_world (fun W => FrS u W w.heap.size w1.heap.size w3.heap.size #[.int .i64 3, .slice A hl.length cap, .slice none 0 0, .string ⟨#[]⟩, .int .i64 0, .string ⟨#[]⟩, .int .i64 0, .int .i64 0, .int .i64 0, .string ⟨#[]⟩, .slice none 0 0] rb) (s4.put rfl) ?_
    clear c0 c1 c2 c3 c4 c5 c6 c7 c8 c9 c10 y0 y1 y2 y3 y4 y5 y6 y7 y8 y9 y10
    rintro W5 sf
    refine (HE.out _ _ sf.2.2.1).mono ?_
    rintro e w5 ⟨rfl, o5, g5⟩
    obtain ⟨z5, q5, o5, f5, _, _, _⟩ := sf.call o5 g5
    have n5 : New w w5 := Fr.trans n2 f5 (fun i hi e => by have e : i = w1.heap.size := e; omega)
    clear o5 f5 g5 sf n2
    obtain ⟨x0, x1, x2, x3, x4, x5, x6, x7, x8, x9, x10⟩ := cells11 z5
    obtain ⟨y0, y1, y2, y3, y4, y5, y6, y7, y8, y9, y10⟩ := free11 z5
    obtain ⟨c0, c1, c2, c3, c4, c5, c6, c7, c8, c9, c10⟩ := cells11 q5
    rcases hcase with rfl | ⟨hne, hnb⟩
    · go_wp2
      refine post_world (fun W' => Own W' w.heap.size 27 #[.int .i64 3, .slice A hl.length cap, .slice none 0 0, .string ⟨#[]⟩, .int .i64 0, .string ⟨#[]⟩, .int .i64 0, .int .i64 0, .int .i64 0, .string ⟨#[]⟩, .slice none 0 0] ∧ New w W') ⟨z5.put11 _ _ _ _ _ _ _ _ _ _ _, Fr.put11 n5 (fun h => by omega) _ _ _ _ _ _ _ _ _ _ _⟩ ?_
      clear x0 x1 x2 x3 x4 x5 x6 x7 x8 x9 x10 y0 y1 y2 y3 y4 y5 y6 y7 y8 y9 y10 c0 c1 c2 c3 c4 c5 c6 c7 c8 c9 c10 z5 q5 n5
      rintro W' ⟨zf, nf⟩
      obtain ⟨x0, x1, x2, x3, x4, x5, x6, x7, x8, x9, x10⟩ := cells11 zf
      refine bodyPost_ret (v := .tuple #[.agg #[.int .i64 3, .slice A hl.length cap, .slice none 0 0, .string ⟨#[]⟩, .int .i64 0, .string ⟨#[]⟩, .int .i64 0, .int .i64 0, .int .i64 0, .string ⟨#[]⟩, .slice none 0 0], .int .i64 0]) (by simp [results, Try.results7, go_sem, *]) rfl ⟨A, cap, none, 0, none, 0, ?_, nf⟩
      rw [HR.out, if_pos trivial]
      try rfl
    · go_wp2
      refine post_world (fun W' => Own W' w.heap.size 27 #[.int .i64 0, .slice none 0 0, .slice none 0 0, .string ⟨#[]⟩, .int .i64 0, .string ⟨#[]⟩, .int .i64 0, .int .i64 0, .int .i64 0, .string ⟨#[]⟩, .slice none 0 0] ∧ New w W') ⟨z5.put11 _ _ _ _ _ _ _ _ _ _ _, Fr.put11 n5 (fun h => by omega) _ _ _ _ _ _ _ _ _ _ _⟩ ?_
      clear x0 x1 x2 x3 x4 x5 x6 x7 x8 x9 x10 y0 y1 y2 y3 y4 y5 y6 y7 y8 y9 y10 c0 c1 c2 c3 c4 c5 c6 c7 c8 c9 c10 z5 q5 n5
      rintro W' ⟨zf, nf⟩
      obtain ⟨x0, x1, x2, x3, x4, x5, x6, x7, x8, x9, x10⟩ := cells11 zf
      refine bodyPost_ret (v := .tuple #[.agg #[.int .i64 0, .slice none 0 0, .slice none 0 0, .string ⟨#[]⟩, .int .i64 0, .string ⟨#[]⟩, .int .i64 0, .int .i64 0, .int .i64 0, .string ⟨#[]⟩, .slice none 0 0], .int .i64 ef]) (by simp [results, Try.results7, go_sem, *]) rfl ⟨none, 0, none, 0, none, 0, ?_, nf⟩
      rw [HR.out, if_neg hne]
      rfl
set_option maxRecDepth 100000 in
set_option maxHeartbeats 8000000 in
theorem frDec_four (s : ByteArray) (hs : s.size ≤ 65536) (w : World) (hk : (rNumber ⟨s, 0, 0⟩ 1).2 = 4) :
    Calls Try.prog 7 #[.string s] w (FramePost w (rFrame s)) := by
  have hok : Rd.ok ⟨s, 0, 0⟩ := ⟨by show s.size ≤ _; omega, by show (0 : Int) ≤ 0; omega, by show (0 : Int) ≤ _; omega⟩
  obtain ⟨ra, k, e1⟩ : ∃ a b, rNumber ⟨s, 0, 0⟩ 1 = (a, b) := ⟨_, _, rfl⟩
  have ka : ra.ok := by have := rNumber_ok hok 1; rw [e1] at this; exact this
  have bk : k < 256 := by have := rNumber_bound ⟨s, 0, 0⟩ 1 hok (by omega); rw [show ((1 : Nat) : Int) = 1 from rfl, e1] at this; exact this
  have hk' : k = 4 := by rw [e1] at hk; exact hk
  have C1 := Lib.hid (fun ww b (hh : OwnR ww b ⟨s, 0, 0⟩) => rdNumber_any hh hok 1)
  rw [e1] at C1
  obtain ⟨rb, fi, e2⟩ : ∃ a b, rBytes ra 32 = (a, b) := ⟨_, _, rfl⟩
  have kb : rb.ok := by have := rBytes_ok ka 32; rw [e2] at this; exact this
  obtain ⟨rc, at_, e3⟩ : ∃ a b, rCount rb 65536 = (a, b) := ⟨_, _, rfl⟩
  have kc : rc.ok := by have := rCount_ok kb 65536; rw [e3] at this; exact this
  have C2 := Lib.hid (fun ww b (hh : OwnR ww b ra) => hash_any hh ka)
  rw [e2] at C2
  have C3 := Lib.hid (fun ww b (hh : OwnR ww b rb) => count_any hh kb 65536 (by omega))
  rw [e3] at C3
  obtain ⟨ef, hef⟩ : ∃ ef, (rEnd rc).err = ef := ⟨_, rfl⟩
  have hR : rFrame s = if ef = 0 then (⟨4, [], [], fi, at_, noSh⟩, 0) else (noSay, ef) := by
    unfold rFrame
    rw [if_neg (by omega)]
    simp only [e1, e2, e3]
    rw [if_neg (by omega), if_neg (by omega), if_pos hk']
    unfold finSay
    rw [hef]
    try rfl
  have HR := Lib.hid hR
  have HE := Lib.hid (fun ww b (hh : OwnR ww b rc) => end_any hh kc)
  rw [hef] at HE
  have hs2 : (s.size : Int) ≤ 65536 := by omega
  have hcase : ef = 0 ∨ (¬ ef = 0 ∧ (ef != 0) = true) := by
    by_cases e : ef = 0
    · exact .inl e
    · exact .inr ⟨e, by rw [bne_iff_ne]; exact e⟩
  clear e1 hR hef hk e2 e3
  subst hk'
  all_goals
    go_enter Try.func7, Try.ntmps7
    go_wp2_with fail
    refine calls_world (fun W => Own W w.heap.size 27 #[.int .i64 0, .slice none 0 0, .slice none 0 0, .string ⟨#[]⟩, .int .i64 0, .string ⟨#[]⟩, .int .i64 0, .int .i64 0, .int .i64 0, .string ⟨#[]⟩, .slice none 0 0] ∧ New w W) ⟨Own.fresh _ _ _, (Fr.refl _ _).alloc _⟩ ?_
    rintro w1 ⟨z1, n1⟩
    refine (newReader_any s w1).mono ?_
    rintro e w2 ⟨rfl, rfl⟩
    have l1 := z1.lt
    have z2 := z1.alloc (.cells #[.string s, .int .i64 0, .int .i64 0] 86)
    have n2 := n1.alloc (.cells #[.string s, .int .i64 0, .int .i64 0] 86)
    have o2 := OwnR.fresh s w1
    have hx := n1.size
    go_wp2_with fail
    refine calls_world (fun u => Own u w.heap.size 27 #[.int .i64 0, .slice none 0 0, .slice none 0 0, .string ⟨#[]⟩, .int .i64 0, .string ⟨#[]⟩, .int .i64 0, .int .i64 0, .int .i64 0, .string ⟨#[]⟩, .slice none 0 0] ∧ New w u ∧ OwnR u w1.heap.size ⟨s, 0, 0⟩) ⟨z2, n2, o2⟩ ?_
    clear z1 n1 z2 n2 o2
    rintro u ⟨z2, n2, o2⟩
    refine (C1.out _ _ o2).mono ?_
    rintro e w3 ⟨rfl, o3, g3⟩
    have z3 := z2.fr g3 (by show ¬ (_ = _); omega)
    have l3 := Own.lt o3
    have lu := g3.size
    clear z2 o2
    go_wp2_with fail
    refine calls_world (fun W => FrS u W w.heap.size w1.heap.size w3.heap.size #[.int .i64 4, .slice none 0 0, .slice none 0 0, .string ⟨#[]⟩, .int .i64 0, .string ⟨#[]⟩, .int .i64 0, .int .i64 0, .int .i64 0, .string ⟨#[]⟩, .slice none 0 0] ra) ⟨z3.alloc _, Own.fresh _ _ _, Own.alloc o3 _, g3.alloc _, l1, l3, lu⟩ ?_
    clear z3 o3 g3
    rintro W3 s3
    refine (C2.out _ _ s3.2.2.1).mono ?_
    rintro e w4 ⟨rfl, o4, g4⟩
    have s4 := s3.call o4 g4
    clear s3 o4 g4
    go_wp2_with fail
    refine (C3.out _ _ s4.2.2.1).mono ?_
    rintro e w4' ⟨rfl, o4, g4⟩
    have s5 := s4.call o4 g4
    clear s4 o4 g4
    obtain ⟨c0, c1, c2, c3, c4, c5, c6, c7, c8, c9, c10⟩ := cells11 s5.2.1
    obtain ⟨y0, y1, y2, y3, y4, y5, y6, y7, y8, y9, y10⟩ := free11 s5.2.1
    go_wp2_with fail
    refine calls_world (fun W => FrS u W w.heap.size w1.heap.size w3.heap.size #[.int .i64 4, .slice none 0 0, .slice none 0 0, .string fi, .int .i64 at_, .string ⟨#[]⟩, .int .i64 0, .int .i64 0, .int .i64 0, .string ⟨#[]⟩, .slice none 0 0] rc) ((s5.put rfl).put rfl) ?_
    clear c0 c1 c2 c3 c4 c5 c6 c7 c8 c9 c10 y0 y1 y2 y3 y4 y5 y6 y7 y8 y9 y10
    rintro W5 sf
    refine (HE.out _ _ sf.2.2.1).mono ?_
    rintro e w5 ⟨rfl, o5, g5⟩
    obtain ⟨z5, q5, o5, f5, _, _, _⟩ := sf.call o5 g5
    have n5 : New w w5 := Fr.trans n2 f5 (fun i hi e => by have e : i = w1.heap.size := e; omega)
    clear o5 f5 g5 sf n2
    obtain ⟨x0, x1, x2, x3, x4, x5, x6, x7, x8, x9, x10⟩ := cells11 z5
    obtain ⟨y0, y1, y2, y3, y4, y5, y6, y7, y8, y9, y10⟩ := free11 z5
    obtain ⟨c0, c1, c2, c3, c4, c5, c6, c7, c8, c9, c10⟩ := cells11 q5
    rcases hcase with rfl | ⟨hne, hnb⟩
    · go_wp2
      refine post_world (fun W' => Own W' w.heap.size 27 #[.int .i64 4, .slice none 0 0, .slice none 0 0, .string fi, .int .i64 at_, .string ⟨#[]⟩, .int .i64 0, .int .i64 0, .int .i64 0, .string ⟨#[]⟩, .slice none 0 0] ∧ New w W') ⟨z5.put11 _ _ _ _ _ _ _ _ _ _ _, Fr.put11 n5 (fun h => by omega) _ _ _ _ _ _ _ _ _ _ _⟩ ?_
      clear x0 x1 x2 x3 x4 x5 x6 x7 x8 x9 x10 y0 y1 y2 y3 y4 y5 y6 y7 y8 y9 y10 c0 c1 c2 c3 c4 c5 c6 c7 c8 c9 c10 z5 q5 n5
      rintro W' ⟨zf, nf⟩
      obtain ⟨x0, x1, x2, x3, x4, x5, x6, x7, x8, x9, x10⟩ := cells11 zf
      refine bodyPost_ret (v := .tuple #[.agg #[.int .i64 4, .slice none 0 0, .slice none 0 0, .string fi, .int .i64 at_, .string ⟨#[]⟩, .int .i64 0, .int .i64 0, .int .i64 0, .string ⟨#[]⟩, .slice none 0 0], .int .i64 0]) (by simp [results, Try.results7, go_sem, *]) rfl ⟨none, 0, none, 0, none, 0, ?_, nf⟩
      rw [HR.out, if_pos trivial]
      try rfl
    · go_wp2
      refine post_world (fun W' => Own W' w.heap.size 27 #[.int .i64 0, .slice none 0 0, .slice none 0 0, .string ⟨#[]⟩, .int .i64 0, .string ⟨#[]⟩, .int .i64 0, .int .i64 0, .int .i64 0, .string ⟨#[]⟩, .slice none 0 0] ∧ New w W') ⟨z5.put11 _ _ _ _ _ _ _ _ _ _ _, Fr.put11 n5 (fun h => by omega) _ _ _ _ _ _ _ _ _ _ _⟩ ?_
      clear x0 x1 x2 x3 x4 x5 x6 x7 x8 x9 x10 y0 y1 y2 y3 y4 y5 y6 y7 y8 y9 y10 c0 c1 c2 c3 c4 c5 c6 c7 c8 c9 c10 z5 q5 n5
      rintro W' ⟨zf, nf⟩
      obtain ⟨x0, x1, x2, x3, x4, x5, x6, x7, x8, x9, x10⟩ := cells11 zf
      refine bodyPost_ret (v := .tuple #[.agg #[.int .i64 0, .slice none 0 0, .slice none 0 0, .string ⟨#[]⟩, .int .i64 0, .string ⟨#[]⟩, .int .i64 0, .int .i64 0, .int .i64 0, .string ⟨#[]⟩, .slice none 0 0], .int .i64 ef]) (by simp [results, Try.results7, go_sem, *]) rfl ⟨none, 0, none, 0, none, 0, ?_, nf⟩
      rw [HR.out, if_neg hne]
      rfl
set_option maxRecDepth 100000 in
set_option maxHeartbeats 8000000 in
theorem frDec_five (s : ByteArray) (hs : s.size ≤ 65536) (w : World) (hk : (rNumber ⟨s, 0, 0⟩ 1).2 = 5) :
    Calls Try.prog 7 #[.string s] w (FramePost w (rFrame s)) := by
  have hok : Rd.ok ⟨s, 0, 0⟩ := ⟨by show s.size ≤ _; omega, by show (0 : Int) ≤ 0; omega, by show (0 : Int) ≤ _; omega⟩
  obtain ⟨ra, k, e1⟩ : ∃ a b, rNumber ⟨s, 0, 0⟩ 1 = (a, b) := ⟨_, _, rfl⟩
  have ka : ra.ok := by have := rNumber_ok hok 1; rw [e1] at this; exact this
  have bk : k < 256 := by have := rNumber_bound ⟨s, 0, 0⟩ 1 hok (by omega); rw [show ((1 : Nat) : Int) = 1 from rfl, e1] at this; exact this
  have hk' : k = 5 := by rw [e1] at hk; exact hk
  have C1 := Lib.hid (fun ww b (hh : OwnR ww b ⟨s, 0, 0⟩) => rdNumber_any hh hok 1)
  rw [e1] at C1
  obtain ⟨rb, sx, e2⟩ : ∃ a b, rShare ra = (a, b) := ⟨_, _, rfl⟩
  have kb : rb.ok := by have := rShare_ok ka; rw [e2] at this; exact this
  have C2 : Hid (∀ ww b, OwnR ww b ra → Calls Try.prog 26 #[.pointer (some ⟨b, 0, none⟩)] ww fun e w' => ∃ v, e = .returned (.agg (shC sx v)) ∧ TxL w' ww.heap.size v sx.path ∧ OwnR w' b rb ∧ Fr (· = b) ww w') := fun ww b hh => by
    have := share_any hh ka
    unfold SharePost at this
    rw [e2] at this
    exact this
  obtain ⟨ef, hef⟩ : ∃ ef, (rEnd rb).err = ef := ⟨_, rfl⟩
  have hR : rFrame s = if ef = 0 then (⟨5, [], [], .empty, 0, sx⟩, 0) else (noSay, ef) := by
    unfold rFrame
    rw [if_neg (by omega)]
    simp only [e1, e2]
    rw [if_neg (by omega), if_neg (by omega), if_neg (by omega), if_pos hk']
    unfold finSay
    rw [hef]
    try rfl
  have HR := Lib.hid hR
  have HE := Lib.hid (fun ww b (hh : OwnR ww b rb) => end_any hh kb)
  rw [hef] at HE
  have hs2 : (s.size : Int) ≤ 65536 := by omega
  have hcase : ef = 0 ∨ (¬ ef = 0 ∧ (ef != 0) = true) := by
    by_cases e : ef = 0
    · exact .inl e
    · exact .inr ⟨e, by rw [bne_iff_ne]; exact e⟩
  clear e1 hR hef hk e2
  subst hk'
  all_goals
    go_enter Try.func7, Try.ntmps7
    go_wp2_with fail
    refine calls_world (fun W => Own W w.heap.size 27 #[.int .i64 0, .slice none 0 0, .slice none 0 0, .string ⟨#[]⟩, .int .i64 0, .string ⟨#[]⟩, .int .i64 0, .int .i64 0, .int .i64 0, .string ⟨#[]⟩, .slice none 0 0] ∧ New w W) ⟨Own.fresh _ _ _, (Fr.refl _ _).alloc _⟩ ?_
    rintro w1 ⟨z1, n1⟩
    refine (newReader_any s w1).mono ?_
    rintro e w2 ⟨rfl, rfl⟩
    have l1 := z1.lt
    have z2 := z1.alloc (.cells #[.string s, .int .i64 0, .int .i64 0] 86)
    have n2 := n1.alloc (.cells #[.string s, .int .i64 0, .int .i64 0] 86)
    have o2 := OwnR.fresh s w1
    have hx := n1.size
    go_wp2_with fail
    refine calls_world (fun u => Own u w.heap.size 27 #[.int .i64 0, .slice none 0 0, .slice none 0 0, .string ⟨#[]⟩, .int .i64 0, .string ⟨#[]⟩, .int .i64 0, .int .i64 0, .int .i64 0, .string ⟨#[]⟩, .slice none 0 0] ∧ New w u ∧ OwnR u w1.heap.size ⟨s, 0, 0⟩) ⟨z2, n2, o2⟩ ?_
    clear z1 n1 z2 n2 o2
    rintro u ⟨z2, n2, o2⟩
    refine (C1.out _ _ o2).mono ?_
    rintro e w3 ⟨rfl, o3, g3⟩
    have z3 := z2.fr g3 (by show ¬ (_ = _); omega)
    have l3 := Own.lt o3
    have lu := g3.size
    clear z2 o2
    go_wp2_with fail
    refine calls_world (fun W => FrS u W w.heap.size w1.heap.size w3.heap.size #[.int .i64 5, .slice none 0 0, .slice none 0 0, .string ⟨#[]⟩, .int .i64 0, .string ⟨#[]⟩, .int .i64 0, .int .i64 0, .int .i64 0, .string ⟨#[]⟩, .slice none 0 0] ra) ⟨z3.alloc _, Own.fresh _ _ _, Own.alloc o3 _, g3.alloc _, l1, l3, lu⟩ ?_
    clear z3 o3 g3
    rintro W3 s3
    refine (C2.out _ _ s3.2.2.1).mono ?_
    rintro e w4 ⟨v, rfl, t4, o4, g4⟩
    have s4 := s3.call o4 g4
    obtain ⟨A, cap, rfl⟩ := t4.form
    clear s3 o4 g4 t4
    obtain ⟨c0, c1, c2, c3, c4, c5, c6, c7, c8, c9, c10⟩ := cells11 s4.2.1
    obtain ⟨y0, y1, y2, y3, y4, y5, y6, y7, y8, y9, y10⟩ := free11 s4.2.1
    go_wp2_with fail
    refine calls_world (fun W => FrS u W w.heap.size w1.heap.size w3.heap.size #[.int .i64 5, .slice none 0 0, .slice none 0 0, .string ⟨#[]⟩, .int .i64 0, .string sx.dig, .int .i64 sx.size, .int .i64 sx.many, .int .i64 sx.at_, .string sx.chunk, .slice A sx.path.length cap] rb) ((((((s4.put rfl).put rfl).put rfl).put rfl).put rfl).put rfl) ?_
    clear c0 c1 c2 c3 c4 c5 c6 c7 c8 c9 c10 y0 y1 y2 y3 y4 y5 y6 y7 y8 y9 y10
    rintro W5 sf
    refine (HE.out _ _ sf.2.2.1).mono ?_
    rintro e w5 ⟨rfl, o5, g5⟩
    obtain ⟨z5, q5, o5, f5, _, _, _⟩ := sf.call o5 g5
    have n5 : New w w5 := Fr.trans n2 f5 (fun i hi e => by have e : i = w1.heap.size := e; omega)
    clear o5 f5 g5 sf n2
    obtain ⟨x0, x1, x2, x3, x4, x5, x6, x7, x8, x9, x10⟩ := cells11 z5
    obtain ⟨y0, y1, y2, y3, y4, y5, y6, y7, y8, y9, y10⟩ := free11 z5
    obtain ⟨c0, c1, c2, c3, c4, c5, c6, c7, c8, c9, c10⟩ := cells11 q5
    rcases hcase with rfl | ⟨hne, hnb⟩
    · go_wp2
      refine post_world (fun W' => Own W' w.heap.size 27 #[.int .i64 5, .slice none 0 0, .slice none 0 0, .string ⟨#[]⟩, .int .i64 0, .string sx.dig, .int .i64 sx.size, .int .i64 sx.many, .int .i64 sx.at_, .string sx.chunk, .slice A sx.path.length cap] ∧ New w W') ⟨z5.put11 _ _ _ _ _ _ _ _ _ _ _, Fr.put11 n5 (fun h => by omega) _ _ _ _ _ _ _ _ _ _ _⟩ ?_
      clear x0 x1 x2 x3 x4 x5 x6 x7 x8 x9 x10 y0 y1 y2 y3 y4 y5 y6 y7 y8 y9 y10 c0 c1 c2 c3 c4 c5 c6 c7 c8 c9 c10 z5 q5 n5
      rintro W' ⟨zf, nf⟩
      obtain ⟨x0, x1, x2, x3, x4, x5, x6, x7, x8, x9, x10⟩ := cells11 zf
      refine bodyPost_ret (v := .tuple #[.agg #[.int .i64 5, .slice none 0 0, .slice none 0 0, .string ⟨#[]⟩, .int .i64 0, .string sx.dig, .int .i64 sx.size, .int .i64 sx.many, .int .i64 sx.at_, .string sx.chunk, .slice A sx.path.length cap], .int .i64 0]) (by simp [results, Try.results7, go_sem, *]) rfl ⟨none, 0, none, 0, A, cap, ?_, nf⟩
      rw [HR.out, if_pos trivial]
      try rfl
    · go_wp2
      refine post_world (fun W' => Own W' w.heap.size 27 #[.int .i64 0, .slice none 0 0, .slice none 0 0, .string ⟨#[]⟩, .int .i64 0, .string ⟨#[]⟩, .int .i64 0, .int .i64 0, .int .i64 0, .string ⟨#[]⟩, .slice none 0 0] ∧ New w W') ⟨z5.put11 _ _ _ _ _ _ _ _ _ _ _, Fr.put11 n5 (fun h => by omega) _ _ _ _ _ _ _ _ _ _ _⟩ ?_
      clear x0 x1 x2 x3 x4 x5 x6 x7 x8 x9 x10 y0 y1 y2 y3 y4 y5 y6 y7 y8 y9 y10 c0 c1 c2 c3 c4 c5 c6 c7 c8 c9 c10 z5 q5 n5
      rintro W' ⟨zf, nf⟩
      obtain ⟨x0, x1, x2, x3, x4, x5, x6, x7, x8, x9, x10⟩ := cells11 zf
      refine bodyPost_ret (v := .tuple #[.agg #[.int .i64 0, .slice none 0 0, .slice none 0 0, .string ⟨#[]⟩, .int .i64 0, .string ⟨#[]⟩, .int .i64 0, .int .i64 0, .int .i64 0, .string ⟨#[]⟩, .slice none 0 0], .int .i64 ef]) (by simp [results, Try.results7, go_sem, *]) rfl ⟨none, 0, none, 0, none, 0, ?_, nf⟩
      rw [HR.out, if_neg hne]
      rfl
set_option maxRecDepth 100000 in
set_option maxHeartbeats 4000000 in
theorem frDec_long (s : ByteArray) (hs : s.size ≤ 9223372036854775807) (hl : 65536 < s.size) (w : World) : Calls Try.prog 7 #[.string s] w (FramePost w (rFrame s)) := by
  have hR : rFrame s = (noSay, 3) := if_pos hl
  have HR := Lib.hid hR
  have hl2 : (65536 : Int) < (s.size : Int) := by omega
  clear hR
  go_enter Try.func7, Try.ntmps7
  go_wp2
  refine bodyPost_ret (v := .tuple #[.agg #[.int .i64 0, .slice none 0 0, .slice none 0 0, .string ⟨#[]⟩, .int .i64 0, .string ⟨#[]⟩, .int .i64 0, .int .i64 0, .int .i64 0, .string ⟨#[]⟩, .slice none 0 0], .int .i64 3]) (by simp [results, Try.results7, go_sem, *]) rfl ⟨none, 0, none, 0, none, 0, ?_, ?_⟩
  · rw [HR.out]; rfl
  · repeat (first | with_reducible exact Fr.refl _ _ | with_reducible assumption | with_reducible refine Fr.drew ?_ | with_reducible refine Fr.drewN ?_ _ | with_reducible refine Fr.alloc ?_ _ | with_reducible refine Fr.set ?_ (by first | exact fun _ => rfl | (intro hlt; exfalso; simp at hlt; try omega) | (simp; omega)) _ | with_reducible refine Fr.new_ ?_ (by with_reducible assumption) | (with_reducible refine Fr.trans ?_ (by with_reducible assumption) (fun i hi e => by (first | omega | (simp at e; omega)))))
/-- What Decode does. -/
theorem frDec_any (s : ByteArray) (hs : s.size ≤ 9223372036854775807) (w : World) : Calls Try.prog 7 #[.string s] w (FramePost w (rFrame s)) := by
  by_cases hl : 65536 < s.size
  · exact frDec_long s hs hl w
  · by_cases h1 : (rNumber ⟨s, 0, 0⟩ 1).2 = 1
    · exact frDec_one s (by omega) w h1
    · by_cases h2 : (rNumber ⟨s, 0, 0⟩ 1).2 = 2
      · exact frDec_two s (by omega) w h2
      · by_cases h3 : (rNumber ⟨s, 0, 0⟩ 1).2 = 3
        · exact frDec_three s (by omega) w h3
        · by_cases h4 : (rNumber ⟨s, 0, 0⟩ 1).2 = 4
          · exact frDec_four s (by omega) w h4
          · by_cases h5 : (rNumber ⟨s, 0, 0⟩ 1).2 = 5
            · exact frDec_five s (by omega) w h5
            · exact frDec_none s (by omega) w ⟨h1, h2, h3, h4, h5⟩
end Go.Proofs.Ytfkbljanmjnefaa
