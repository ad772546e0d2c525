/- Operations: Decode; awake. -/
import Derived.Test.YtfkbljanmjnefaaOpHash
namespace Go.Proofs.Ytfkbljanmjnefaa
open Go.RowKit
set_option linter.unusedVariables false
set_option linter.unusedSimpArgs false

theorem finOp_ok {r : Rd} {o : OpV} (h : r.ok) : (finOp r o).1.ok := by
  unfold finOp
  split
  · split <;> exact h
  · exact h
theorem rOp_ok {r : Rd} (h : r.ok) : (rOp r).1.ok := by
  unfold rOp
  simp only []
  have h3 := rNumber_ok (rTake_ok (rNumber_ok h 1)) 8
  split
  · exact finOp_ok (rText_ok (rNumber_ok (rBool_ok h3) 8) 32)
  · split
    · exact finOp_ok (rText_ok (rNumber_ok h3 8) 32)
    · split
      · exact finOp_ok (rCount_ok (rBytes_ok h3 32) 8192)
      · exact finOp_ok h3
/-- The operation of bytes, or the error. -/
def rDec (s : ByteArray) : OpV × Int :=
  if (rEnd (rOp ⟨s, 0, 0⟩).1).err = 0 then ((rOp ⟨s, 0, 0⟩).2, 0) else (noOp, (rEnd (rOp ⟨s, 0, 0⟩).1).err)
set_option maxRecDepth 100000 in
set_option maxHeartbeats 4000000 in
theorem opDecode_any (s : ByteArray) (hs : s.size ≤ maxLen) (w : World) :
    Calls Try.prog 46 #[.string s] w fun e w' => e = .returned (.tuple #[(rDec s).1.val, .int .i64 (rDec s).2]) ∧ New w w' := by
  have hok : Rd.ok ⟨s, 0, 0⟩ := ⟨by unfold maxLen at hs; exact hs, by show (0 : Int) ≤ 0; omega, by show (0 : Int) ≤ _; omega⟩
  have hok2 := rOp_ok hok
  have hd : rDec s = if (rEnd (rOp ⟨s, 0, 0⟩).1).err = 0 then ((rOp ⟨s, 0, 0⟩).2, 0) else (noOp, (rEnd (rOp ⟨s, 0, 0⟩).1).err) := rfl
  have HT := Lib.hid (fun ww b (hh : OwnR ww b ⟨s, 0, 0⟩) => opTake_any hh hok)
  obtain ⟨⟨r1, k, c, who, th, par, nm, dir, dig, sz⟩, hr⟩ : ∃ p, rOp ⟨s, 0, 0⟩ = p := ⟨_, rfl⟩
  rw [hr] at HT hok2 hd
  have HE := Lib.hid (fun ww b (hh : OwnR ww b r1) => end_any hh hok2)
  obtain ⟨ef, hef⟩ : ∃ ef, (rEnd r1).err = ef := ⟨_, rfl⟩
  rw [hef] at HE
  simp only at hd
  rw [hef] at hd
  obtain ⟨d, hdd⟩ : ∃ d, rDec s = d := ⟨_, rfl⟩
  rw [hdd] at hd ⊢
  have HD := Lib.hid hd
  clear hr hef hd hdd hok hok2
  have hcase : ef = 0 ∨ (¬ ef = 0 ∧ (ef != 0) = true) := by
    by_cases e : ef = 0
    · exact .inl e
    · exact .inr ⟨e, by rw [bne_iff_ne]; exact e⟩
  rcases hcase with rfl | ⟨hne, hnb⟩
  · go_enter Try.func46, Try.ntmps46
    go_wp2_with fail
    refine calls_world (fun W => Own W w.heap.size 39 #[.int .i64 0, .int .u64 0, .int .i64 0, .int .u64 0, .int .u64 0, .string ⟨#[]⟩, .bool false, .string ⟨#[]⟩, .int .i64 0] ∧ New w W) ⟨Own.fresh _ _ _, (Fr.refl _ _).alloc _⟩ ?_
    rintro w1 ⟨z1, n1⟩
    refine (newReader_any s w1).mono ?_
    rintro e w2 ⟨rfl, rfl⟩
    have l1 := z1.lt
    have z2 := z1.alloc (.cells #[.string s, .int .i64 0, .int .i64 0] 86)
    have n2 := n1.alloc (.cells #[.string s, .int .i64 0, .int .i64 0] 86)
    have o2 := OwnR.fresh s w1
    have hx := n1.size
    go_wp2_with fail
    refine (HT.out _ _ o2).mono ?_
    rintro e w3 ⟨rfl, o3, g3⟩
    have z3 := z2.fr g3 (by show ¬ (_ = _); omega)
    have n3 : New w w3 := Fr.trans n2 g3 (fun i hi e => by have e : i = w1.heap.size := e; omega)
    clear z2 n2 o2 g3 z1 n1
    go_wp2_with fail
    refine calls_world (fun W => Own W w.heap.size 39 #[.int .i64 0, .int .u64 0, .int .i64 0, .int .u64 0, .int .u64 0, .string ⟨#[]⟩, .bool false, .string ⟨#[]⟩, .int .i64 0] ∧ Own W w3.heap.size 39 (OpV.mk k c who th par nm dir dig sz).cells ∧ OwnR W w1.heap.size r1 ∧ New w W) ⟨z3.alloc _, Own.fresh _ _ _, Own.alloc o3 _, n3.alloc _⟩ ?_
    have l3 := Own.lt o3
    clear z3 n3 o3
    rintro w4 ⟨z4, q4, o4, n4⟩
    refine (HE.out _ _ o4).mono ?_
    rintro e w5 ⟨rfl, o5, g5⟩
    have z5 := z4.fr g5 (by show ¬ (_ = _); omega)
    have q5 := q4.fr g5 (by show ¬ (_ = _); omega)
    have n5 : New w w5 := Fr.trans n4 g5 (fun i hi e => by have e : i = w1.heap.size := e; omega)
    clear z4 q4 n4 o4 g5
    obtain ⟨d0, d1, d2, d3, d4, d5, d6, d7, d8⟩ := opCells q5
    obtain ⟨x0, x1, x2, x3, x4, x5, x6, x7, x8⟩ := opCells (k := 0) (c := 0) (who := 0) (th := 0) (par := 0) (nm := ⟨#[]⟩) (dir := false) (dig := ⟨#[]⟩) (sz := 0) z5
    obtain ⟨y0, y1, y2, y3, y4, y5, y6, y7, y8⟩ := opFree z5
    go_wp2
    refine post_world (fun W' => Own W' w.heap.size 39 (OpV.mk k c who th par nm dir dig sz).cells ∧ New w W') ⟨z5.put9 _ _ _ _ _ _ _ _ _, Fr.put9 n5 (fun h => by omega) _ _ _ _ _ _ _ _ _⟩ ?_
    clear x0 x1 x2 x3 x4 x5 x6 x7 x8 y0 y1 y2 y3 y4 y5 y6 y7 y8 z5 q5 o5 n5 d0 d1 d2 d3 d4 d5 d6 d7 d8
    rintro W' ⟨zf, nf⟩
    obtain ⟨x0, x1, x2, x3, x4, x5, x6, x7, x8⟩ := opCells zf
    refine bodyPost_ret (v := .tuple #[(OpV.mk k c who th par nm dir dig sz).val, .int .i64 0]) (by simp [results, Try.results46, go_sem, *]) rfl ⟨?_, nf⟩
    rw [HD.out, if_pos trivial]
  · go_enter Try.func46, Try.ntmps46
    go_wp2_with fail
    refine calls_world (fun W => Own W w.heap.size 39 #[.int .i64 0, .int .u64 0, .int .i64 0, .int .u64 0, .int .u64 0, .string ⟨#[]⟩, .bool false, .string ⟨#[]⟩, .int .i64 0] ∧ New w W) ⟨Own.fresh _ _ _, (Fr.refl _ _).alloc _⟩ ?_
    rintro w1 ⟨z1, n1⟩
    refine (newReader_any s w1).mono ?_
    rintro e w2 ⟨rfl, rfl⟩
    have l1 := z1.lt
    have z2 := z1.alloc (.cells #[.string s, .int .i64 0, .int .i64 0] 86)
    have n2 := n1.alloc (.cells #[.string s, .int .i64 0, .int .i64 0] 86)
    have o2 := OwnR.fresh s w1
    have hx := n1.size
    go_wp2_with fail
    refine (HT.out _ _ o2).mono ?_
    rintro e w3 ⟨rfl, o3, g3⟩
    have z3 := z2.fr g3 (by show ¬ (_ = _); omega)
    have n3 : New w w3 := Fr.trans n2 g3 (fun i hi e => by have e : i = w1.heap.size := e; omega)
    clear z2 n2 o2 g3 z1 n1
    go_wp2_with fail
    refine calls_world (fun W => Own W w.heap.size 39 #[.int .i64 0, .int .u64 0, .int .i64 0, .int .u64 0, .int .u64 0, .string ⟨#[]⟩, .bool false, .string ⟨#[]⟩, .int .i64 0] ∧ OwnR W w1.heap.size r1 ∧ New w W) ⟨z3.alloc _, Own.alloc o3 _, n3.alloc _⟩ ?_
    have l3 := Own.lt o3
    clear z3 n3 o3
    rintro w4 ⟨z4, o4, n4⟩
    refine (HE.out _ _ o4).mono ?_
    rintro e w5 ⟨rfl, o5, g5⟩
    have z5 := z4.fr g5 (by show ¬ (_ = _); omega)
    have n5 : New w w5 := Fr.trans n4 g5 (fun i hi e => by have e : i = w1.heap.size := e; omega)
    clear z4 n4 o4 g5
    obtain ⟨x0, x1, x2, x3, x4, x5, x6, x7, x8⟩ := opCells (k := 0) (c := 0) (who := 0) (th := 0) (par := 0) (nm := ⟨#[]⟩) (dir := false) (dig := ⟨#[]⟩) (sz := 0) z5
    obtain ⟨y0, y1, y2, y3, y4, y5, y6, y7, y8⟩ := opFree z5
    go_wp2
    refine post_world (fun W' => Own W' w.heap.size 39 #[.int .i64 0, .int .u64 0, .int .i64 0, .int .u64 0, .int .u64 0, .string ⟨#[]⟩, .bool false, .string ⟨#[]⟩, .int .i64 0] ∧ New w W') ⟨z5.put9 _ _ _ _ _ _ _ _ _, Fr.put9 n5 (fun h => by omega) _ _ _ _ _ _ _ _ _⟩ ?_
    clear x0 x1 x2 x3 x4 x5 x6 x7 x8 y0 y1 y2 y3 y4 y5 y6 y7 y8 z5 o5 n5
    rintro W' ⟨zf, nf⟩
    obtain ⟨x0, x1, x2, x3, x4, x5, x6, x7, x8⟩ := opCells (k := 0) (c := 0) (who := 0) (th := 0) (par := 0) (nm := ⟨#[]⟩) (dir := false) (dig := ⟨#[]⟩) (sz := 0) zf
    refine bodyPost_ret (v := .tuple #[.agg #[.int .i64 0, .int .u64 0, .int .i64 0, .int .u64 0, .int .u64 0, .string ⟨#[]⟩, .bool false, .string ⟨#[]⟩, .int .i64 0], .int .i64 ef]) (by simp [results, Try.results46, go_sem, *]) rfl ⟨?_, nf⟩
    rw [HD.out, if_neg hne]
    rfl
def awOp : OpV := ⟨1, 3, 2, 50, 0, ⟨#[97]⟩, false, ⟨#[]⟩, 0⟩
theorem awOp_check : opCheck awOp = 0 := by decide +kernel
theorem awOp_dec1 : (rDec (opB awOp)).2 = 0 := by decide +kernel
theorem awOp_dec2 : (rDec (opB awOp)).1.thing = 50 := by decide +kernel
theorem awOp_dec3 : (rDec (opB awOp)).1.name = ⟨#[97]⟩ := by decide +kernel
set_option maxRecDepth 100000 in
set_option maxHeartbeats 2000000 in
theorem awake05_any (w : World) : Calls Try.prog 17 #[] w fun e w' => e = .returned (.bool true) ∧ New w w' := by
  have HE := Lib.hid (fun ww => encode_yes 1 3 2 50 0 ⟨#[97]⟩ false ⟨#[]⟩ 0 (by unfold OpB; decide) (by decide) (by decide) awOp_check ww)
  have HD := Lib.hid (fun ww => opDecode_any (opB awOp) (by decide +kernel) ww)
  have h1 := awOp_dec1
  have h2 := awOp_dec2
  have h3 := awOp_dec3
  rw [show opB ⟨1, 3, 2, 50, 0, ⟨#[97]⟩, false, ⟨#[]⟩, 0⟩ = opB awOp from rfl] at HE
  obtain ⟨d, hd⟩ : ∃ d, rDec (opB awOp) = d := ⟨_, rfl⟩
  rw [hd] at HD h1 h2 h3
  obtain ⟨⟨k, c, who, th, par, nm, dir, dig, sz⟩, e⟩ := d
  simp only at h1 h2 h3
  subst h1 h2 h3
  obtain ⟨s, hs⟩ : ∃ s, opB awOp = s := ⟨_, rfl⟩
  rw [hs] at HD HE
  clear hs hd
  go_enter Try.func17, Try.ntmps17
  go_wp2_with fail
  refine (HE.out _).mono ?_
  rintro e w1 ⟨rfl, g1⟩
  go_wp2_with fail
  refine (HD.out _).mono ?_
  rintro e w2 ⟨rfl, g2⟩
  go_wp2
  go_ret
  exact ⟨rfl, (g1.new_ g2).alloc _⟩
end Go.Proofs.Ytfkbljanmjnefaa
