/- Times in bytes: the reference's Bytes and Take. -/
import Derived.Test.YtlefmnoaejpllaaStampTake
namespace Go.Proofs.Ytlefmnoaejpllaa
open Go.RowKit
set_option linter.unusedVariables false

set_option maxRecDepth 100000 in
set_option maxHeartbeats 4000000 in
theorem refBytes04_any (k n : Nat) (hk : k ≤ 18446744073709551615) (hn : n < 256) (w : World) : Calls Try.prog 61 #[.agg #[.int .u64 k, .int .i64 n]] w fun e w' => e = .returned (.string (numB 8 k ++ numB 1 n)) ∧ New w w' := by
  have hz := numB_size 8 k
  have hz1 := numB_size 1 n
  have hc8 : clip 8 = 8 := by decide
  have hc1 : clip 1 = 1 := by decide
  have HN := fun W => Lib.hid (fun x => Calls.nw_of (w := W) (x := x) (refNumber_any k hk 8 (nw W x)))
  have HM := fun W => Lib.hid (fun x => Calls.nw_of (w := W) (x := x) (refNumber_any n (by omega) 1 (nw W x)))
  rw [hc8] at HN
  rw [hc1] at HM
  obtain ⟨nb, hnb⟩ : ∃ nb, numB 8 k = nb := ⟨_, rfl⟩
  obtain ⟨mb, hmb⟩ : ∃ mb, numB 1 n = mb := ⟨_, rfl⟩
  rw [hnb] at hz HN ⊢
  rw [hmb] at hz1 HM ⊢
  have HN' := HN (w.alloc (.cells #[.int .u64 k, .int .i64 n] 35))
  have HM' := HM (w.alloc (.cells #[.int .u64 k, .int .i64 n] 35))
  obtain ⟨f0, f1⟩ := (Own.fresh w 35 #[.int .u64 k, .int .i64 n]).nw2
  clear hnb hmb hc8 hc1 HN HM
  go_enter Try.func61, Try.ntmps61
  go_wp2_with fail
  refine wp_region_new_lit (by kernel_rfl) (by kernel_rfl) ?_; (repeat (any_goals (first | go_big_quiet_step ((go_at_call 63; first | with_reducible exact HN'.out _ | with_reducible exact HM'.out _)) | quiet_step ((go_at_call 63; first | with_reducible exact HN'.out _ | with_reducible exact HM'.out _)) | (refine wpQuiet_step (fun K hK => ?_); go_simp; split <;> (refine hK _ ?_; clear hK K))))); all_goals (refine wpQuiet_nil ?_; intro _ hw'; obtain ⟨xq, hw''⟩ := hw'; subst hw''; have hnq := nw_new _ xq)
  go_wp2
  go_ret
  exact ⟨rfl, ((Fr.refl _ _).alloc _).new_ hnq⟩


/-- The four boxes of Take. -/
def RT (w W : World) (s : ByteArray) (p e c n : Int) : Prop :=
  Own W w.heap.size 52 #[.string s, .int .i64 p, .int .i64 e] ∧ Own W (w.heap.size + 1) 52 #[.string ⟨#[]⟩, .int .i64 0, .int .i64 0] ∧ Own W (w.heap.size + 1 + 1) 35 #[.int .u64 0, .int .i64 0] ∧ Own W (w.heap.size + 1 + 1 + 1) 35 #[.int .u64 c, .int .i64 n] ∧ New w W

set_option maxRecDepth 100000 in
set_option maxHeartbeats 1000000 in
theorem refTake_c1 (s : ByteArray) (pos err p1 e1 p2 e2 : Int) (c n : Nat) (hn : n < 256) (hc : c ≤ 18446744073709551615) (w : World)
    (HN : Hid (∀ ww, Calls Try.prog 32 #[.agg #[.string s, .int .i64 pos, .int .i64 err], .int .i64 8] ww fun e w' => e = .returned (.tuple #[.agg #[.string s, .int .i64 p1, .int .i64 e1], .int .u64 c]) ∧ New ww w'))
    (HM : Hid (∀ ww, Calls Try.prog 32 #[.agg #[.string s, .int .i64 p1, .int .i64 e1], .int .i64 1] ww fun e w' => e = .returned (.tuple #[.agg #[.string s, .int .i64 p2, .int .i64 e2], .int .u64 n]) ∧ New ww w')) (h0 : e2 = 0) (he : checkI c n = 0) :
    Calls Try.prog 57 #[.agg #[.string s, .int .i64 pos, .int .i64 err]] w fun e w' => e = .returned (.tuple #[.agg #[.string s, .int .i64 p2, .int .i64 0], .agg #[.int .u64 c, .int .i64 n]]) ∧ New w w' := by
  have HK := Lib.hid (fun ww => refCheck_any c n (by omega) ww)
  rw [he] at HK
  clear he
  subst h0
  go_enter Try.func57, Try.ntmps57
  go_wp2_with fail
  refine (HN.out _).mono ?_
  rintro e w1 ⟨rfl, g1⟩
  have hF : RT w w1 s pos err 0 0 := ⟨by repeat (first | with_reducible assumption | with_reducible exact Own.fresh _ _ _ | (with_reducible apply Own.new'; simp; done) | with_reducible apply Own.drew | with_reducible apply Own.drewN | with_reducible apply Own.alloc | with_reducible apply Own.put | ((with_reducible apply Own.off); (focus (first | (simp; done) | (simp; omega) | omega))) | (with_reducible refine Own.new_ ?_ (by with_reducible assumption)) | rfl | (refine Own.fr ?_ (by with_reducible assumption) (by show ¬ (_ = _); omega))), by repeat (first | with_reducible assumption | with_reducible exact Own.fresh _ _ _ | (with_reducible apply Own.new'; simp; done) | with_reducible apply Own.drew | with_reducible apply Own.drewN | with_reducible apply Own.alloc | with_reducible apply Own.put | ((with_reducible apply Own.off); (focus (first | (simp; done) | (simp; omega) | omega))) | (with_reducible refine Own.new_ ?_ (by with_reducible assumption)) | rfl | (refine Own.fr ?_ (by with_reducible assumption) (by show ¬ (_ = _); omega))), by repeat (first | with_reducible assumption | with_reducible exact Own.fresh _ _ _ | (with_reducible apply Own.new'; simp; done) | with_reducible apply Own.drew | with_reducible apply Own.drewN | with_reducible apply Own.alloc | with_reducible apply Own.put | ((with_reducible apply Own.off); (focus (first | (simp; done) | (simp; omega) | omega))) | (with_reducible refine Own.new_ ?_ (by with_reducible assumption)) | rfl | (refine Own.fr ?_ (by with_reducible assumption) (by show ¬ (_ = _); omega))), by repeat (first | with_reducible assumption | with_reducible exact Own.fresh _ _ _ | (with_reducible apply Own.new'; simp; done) | with_reducible apply Own.drew | with_reducible apply Own.drewN | with_reducible apply Own.alloc | with_reducible apply Own.put | ((with_reducible apply Own.off); (focus (first | (simp; done) | (simp; omega) | omega))) | (with_reducible refine Own.new_ ?_ (by with_reducible assumption)) | rfl | (refine Own.fr ?_ (by with_reducible assumption) (by show ¬ (_ = _); omega))), by repeat (first | with_reducible exact Fr.refl _ _ | with_reducible assumption | with_reducible refine Fr.drew ?_ | with_reducible refine Fr.drewN ?_ _ | with_reducible refine Fr.alloc ?_ _ | with_reducible refine Fr.set ?_ (by first | exact fun _ => rfl | (intro hlt; exfalso; simp at hlt; try omega) | (simp; omega)) _ | with_reducible refine Fr.new_ ?_ (by with_reducible assumption) | (with_reducible refine Fr.trans ?_ (by with_reducible assumption) (fun i hi e => by (first | omega | (simp at e; omega)))))⟩
  clear g1
  obtain ⟨xa, xb, xc, xd, xn⟩ := hF
  obtain ⟨x0, x1, x2, x3, x4, x5⟩ := xa.three
  obtain ⟨x6, x7, x8, x9, x10, x11⟩ := xb.three
  obtain ⟨x12, x13, x14, x15⟩ := xc.two
  obtain ⟨x16, x17, x18, x19⟩ := xd.two
  have xlt := xd.lt
  go_wp2_with fail
  refine (HM.out _).mono ?_
  rintro e w2 ⟨rfl, g2⟩
  clear x0 x1 x2 x3 x4 x5 x6 x7 x8 x9 x10 x11 x12 x13 x14 x15 x16 x17 x18 x19
  have hF : RT w w2 s p1 e1 0 0 := ⟨by repeat (first | with_reducible assumption | with_reducible exact Own.fresh _ _ _ | (with_reducible apply Own.new'; simp; done) | with_reducible apply Own.drew | with_reducible apply Own.drewN | with_reducible apply Own.alloc | with_reducible apply Own.put | ((with_reducible apply Own.off); (focus (first | (simp; done) | (simp; omega) | omega))) | (with_reducible refine Own.new_ ?_ (by with_reducible assumption)) | rfl | (refine Own.fr ?_ (by with_reducible assumption) (by show ¬ (_ = _); omega))), by repeat (first | with_reducible assumption | with_reducible exact Own.fresh _ _ _ | (with_reducible apply Own.new'; simp; done) | with_reducible apply Own.drew | with_reducible apply Own.drewN | with_reducible apply Own.alloc | with_reducible apply Own.put | ((with_reducible apply Own.off); (focus (first | (simp; done) | (simp; omega) | omega))) | (with_reducible refine Own.new_ ?_ (by with_reducible assumption)) | rfl | (refine Own.fr ?_ (by with_reducible assumption) (by show ¬ (_ = _); omega))), by repeat (first | with_reducible assumption | with_reducible exact Own.fresh _ _ _ | (with_reducible apply Own.new'; simp; done) | with_reducible apply Own.drew | with_reducible apply Own.drewN | with_reducible apply Own.alloc | with_reducible apply Own.put | ((with_reducible apply Own.off); (focus (first | (simp; done) | (simp; omega) | omega))) | (with_reducible refine Own.new_ ?_ (by with_reducible assumption)) | rfl | (refine Own.fr ?_ (by with_reducible assumption) (by show ¬ (_ = _); omega))), by repeat (first | with_reducible assumption | with_reducible exact Own.fresh _ _ _ | (with_reducible apply Own.new'; simp; done) | with_reducible apply Own.drew | with_reducible apply Own.drewN | with_reducible apply Own.alloc | with_reducible apply Own.put | ((with_reducible apply Own.off); (focus (first | (simp; done) | (simp; omega) | omega))) | (with_reducible refine Own.new_ ?_ (by with_reducible assumption)) | rfl | (refine Own.fr ?_ (by with_reducible assumption) (by show ¬ (_ = _); omega))), by repeat (first | with_reducible exact Fr.refl _ _ | with_reducible assumption | with_reducible refine Fr.drew ?_ | with_reducible refine Fr.drewN ?_ _ | with_reducible refine Fr.alloc ?_ _ | with_reducible refine Fr.set ?_ (by first | exact fun _ => rfl | (intro hlt; exfalso; simp at hlt; try omega) | (simp; omega)) _ | with_reducible refine Fr.new_ ?_ (by with_reducible assumption) | (with_reducible refine Fr.trans ?_ (by with_reducible assumption) (fun i hi e => by (first | omega | (simp at e; omega)))))⟩
  clear xa xb xc xd xn
  clear g2 xlt
  obtain ⟨xa, xb, xc, xd, xn⟩ := hF
  obtain ⟨x0, x1, x2, x3, x4, x5⟩ := xa.three
  obtain ⟨x6, x7, x8, x9, x10, x11⟩ := xb.three
  obtain ⟨x12, x13, x14, x15⟩ := xc.two
  obtain ⟨x16, x17, x18, x19⟩ := xd.two
  have xlt := xd.lt
  go_wp2_with fail
  refine (HK.out _).mono ?_
  rintro e w3 ⟨rfl, g3⟩
  clear x0 x1 x2 x3 x4 x5 x6 x7 x8 x9 x10 x11 x12 x13 x14 x15 x16 x17 x18 x19
  have hF : RT w w3 s p2 0 c n := ⟨by repeat (first | with_reducible assumption | with_reducible exact Own.fresh _ _ _ | (with_reducible apply Own.new'; simp; done) | with_reducible apply Own.drew | with_reducible apply Own.drewN | with_reducible apply Own.alloc | with_reducible apply Own.put | ((with_reducible apply Own.off); (focus (first | (simp; done) | (simp; omega) | omega))) | (with_reducible refine Own.new_ ?_ (by with_reducible assumption)) | rfl | (refine Own.fr ?_ (by with_reducible assumption) (by show ¬ (_ = _); omega))), by repeat (first | with_reducible assumption | with_reducible exact Own.fresh _ _ _ | (with_reducible apply Own.new'; simp; done) | with_reducible apply Own.drew | with_reducible apply Own.drewN | with_reducible apply Own.alloc | with_reducible apply Own.put | ((with_reducible apply Own.off); (focus (first | (simp; done) | (simp; omega) | omega))) | (with_reducible refine Own.new_ ?_ (by with_reducible assumption)) | rfl | (refine Own.fr ?_ (by with_reducible assumption) (by show ¬ (_ = _); omega))), by repeat (first | with_reducible assumption | with_reducible exact Own.fresh _ _ _ | (with_reducible apply Own.new'; simp; done) | with_reducible apply Own.drew | with_reducible apply Own.drewN | with_reducible apply Own.alloc | with_reducible apply Own.put | ((with_reducible apply Own.off); (focus (first | (simp; done) | (simp; omega) | omega))) | (with_reducible refine Own.new_ ?_ (by with_reducible assumption)) | rfl | (refine Own.fr ?_ (by with_reducible assumption) (by show ¬ (_ = _); omega))), by repeat (first | with_reducible assumption | with_reducible exact Own.fresh _ _ _ | (with_reducible apply Own.new'; simp; done) | with_reducible apply Own.drew | with_reducible apply Own.drewN | with_reducible apply Own.alloc | with_reducible apply Own.put | ((with_reducible apply Own.off); (focus (first | (simp; done) | (simp; omega) | omega))) | (with_reducible refine Own.new_ ?_ (by with_reducible assumption)) | rfl | (refine Own.fr ?_ (by with_reducible assumption) (by show ¬ (_ = _); omega))), by repeat (first | with_reducible exact Fr.refl _ _ | with_reducible assumption | with_reducible refine Fr.drew ?_ | with_reducible refine Fr.drewN ?_ _ | with_reducible refine Fr.alloc ?_ _ | with_reducible refine Fr.set ?_ (by first | exact fun _ => rfl | (intro hlt; exfalso; simp at hlt; try omega) | (simp; omega)) _ | with_reducible refine Fr.new_ ?_ (by with_reducible assumption) | (with_reducible refine Fr.trans ?_ (by with_reducible assumption) (fun i hi e => by (first | omega | (simp at e; omega)))))⟩
  clear xa xb xc xd xn
  clear g3 xlt
  obtain ⟨xa, xb, xc, xd, xn⟩ := hF
  obtain ⟨x0, x1, x2, x3, x4, x5⟩ := xa.three
  obtain ⟨x6, x7, x8, x9, x10, x11⟩ := xb.three
  obtain ⟨x12, x13, x14, x15⟩ := xc.two
  obtain ⟨x16, x17, x18, x19⟩ := xd.two
  have xlt := xd.lt
  go_wp2_with fail
  go_region
  all_goals go_wp2
  all_goals refine bodyPost_ret (v := .tuple #[.agg #[.string s, .int .i64 p2, .int .i64 0], .agg #[.int .u64 c, .int .i64 n]]) (by simp [results, Try.results57, go_sem, *]) rfl ⟨rfl, ?_⟩
  all_goals (repeat (first | with_reducible exact Fr.refl _ _ | with_reducible assumption | with_reducible refine Fr.drew ?_ | with_reducible refine Fr.drewN ?_ _ | with_reducible refine Fr.alloc ?_ _ | with_reducible refine Fr.set ?_ (by first | exact fun _ => rfl | (intro hlt; exfalso; simp at hlt; try omega) | (simp; omega)) _ | with_reducible refine Fr.new_ ?_ (by with_reducible assumption) | (with_reducible refine Fr.trans ?_ (by with_reducible assumption) (fun i hi e => by (first | omega | (simp at e; omega))))))

set_option maxRecDepth 100000 in
set_option maxHeartbeats 1000000 in
theorem refTake_c2 (s : ByteArray) (pos err p1 e1 p2 e2 : Int) (c n : Nat) (hn : n < 256) (hc : c ≤ 18446744073709551615) (w : World)
    (HN : Hid (∀ ww, Calls Try.prog 32 #[.agg #[.string s, .int .i64 pos, .int .i64 err], .int .i64 8] ww fun e w' => e = .returned (.tuple #[.agg #[.string s, .int .i64 p1, .int .i64 e1], .int .u64 c]) ∧ New ww w'))
    (HM : Hid (∀ ww, Calls Try.prog 32 #[.agg #[.string s, .int .i64 p1, .int .i64 e1], .int .i64 1] ww fun e w' => e = .returned (.tuple #[.agg #[.string s, .int .i64 p2, .int .i64 e2], .int .u64 n]) ∧ New ww w')) (h0 : e2 = 0) (he : checkI c n = 40) :
    Calls Try.prog 57 #[.agg #[.string s, .int .i64 pos, .int .i64 err]] w fun e w' => e = .returned (.tuple #[.agg #[.string s, .int .i64 p2, .int .i64 40], .agg #[.int .u64 0, .int .i64 0]]) ∧ New w w' := by
  have HK := Lib.hid (fun ww => refCheck_any c n (by omega) ww)
  rw [he] at HK
  clear he
  subst h0
  go_enter Try.func57, Try.ntmps57
  go_wp2_with fail
  refine (HN.out _).mono ?_
  rintro e w1 ⟨rfl, g1⟩
  have hF : RT w w1 s pos err 0 0 := ⟨by repeat (first | with_reducible assumption | with_reducible exact Own.fresh _ _ _ | (with_reducible apply Own.new'; simp; done) | with_reducible apply Own.drew | with_reducible apply Own.drewN | with_reducible apply Own.alloc | with_reducible apply Own.put | ((with_reducible apply Own.off); (focus (first | (simp; done) | (simp; omega) | omega))) | (with_reducible refine Own.new_ ?_ (by with_reducible assumption)) | rfl | (refine Own.fr ?_ (by with_reducible assumption) (by show ¬ (_ = _); omega))), by repeat (first | with_reducible assumption | with_reducible exact Own.fresh _ _ _ | (with_reducible apply Own.new'; simp; done) | with_reducible apply Own.drew | with_reducible apply Own.drewN | with_reducible apply Own.alloc | with_reducible apply Own.put | ((with_reducible apply Own.off); (focus (first | (simp; done) | (simp; omega) | omega))) | (with_reducible refine Own.new_ ?_ (by with_reducible assumption)) | rfl | (refine Own.fr ?_ (by with_reducible assumption) (by show ¬ (_ = _); omega))), by repeat (first | with_reducible assumption | with_reducible exact Own.fresh _ _ _ | (with_reducible apply Own.new'; simp; done) | with_reducible apply Own.drew | with_reducible apply Own.drewN | with_reducible apply Own.alloc | with_reducible apply Own.put | ((with_reducible apply Own.off); (focus (first | (simp; done) | (simp; omega) | omega))) | (with_reducible refine Own.new_ ?_ (by with_reducible assumption)) | rfl | (refine Own.fr ?_ (by with_reducible assumption) (by show ¬ (_ = _); omega))), by repeat (first | with_reducible assumption | with_reducible exact Own.fresh _ _ _ | (with_reducible apply Own.new'; simp; done) | with_reducible apply Own.drew | with_reducible apply Own.drewN | with_reducible apply Own.alloc | with_reducible apply Own.put | ((with_reducible apply Own.off); (focus (first | (simp; done) | (simp; omega) | omega))) | (with_reducible refine Own.new_ ?_ (by with_reducible assumption)) | rfl | (refine Own.fr ?_ (by with_reducible assumption) (by show ¬ (_ = _); omega))), by repeat (first | with_reducible exact Fr.refl _ _ | with_reducible assumption | with_reducible refine Fr.drew ?_ | with_reducible refine Fr.drewN ?_ _ | with_reducible refine Fr.alloc ?_ _ | with_reducible refine Fr.set ?_ (by first | exact fun _ => rfl | (intro hlt; exfalso; simp at hlt; try omega) | (simp; omega)) _ | with_reducible refine Fr.new_ ?_ (by with_reducible assumption) | (with_reducible refine Fr.trans ?_ (by with_reducible assumption) (fun i hi e => by (first | omega | (simp at e; omega)))))⟩
  clear g1
  obtain ⟨xa, xb, xc, xd, xn⟩ := hF
  obtain ⟨x0, x1, x2, x3, x4, x5⟩ := xa.three
  obtain ⟨x6, x7, x8, x9, x10, x11⟩ := xb.three
  obtain ⟨x12, x13, x14, x15⟩ := xc.two
  obtain ⟨x16, x17, x18, x19⟩ := xd.two
  have xlt := xd.lt
  go_wp2_with fail
  refine (HM.out _).mono ?_
  rintro e w2 ⟨rfl, g2⟩
  clear x0 x1 x2 x3 x4 x5 x6 x7 x8 x9 x10 x11 x12 x13 x14 x15 x16 x17 x18 x19
  have hF : RT w w2 s p1 e1 0 0 := ⟨by repeat (first | with_reducible assumption | with_reducible exact Own.fresh _ _ _ | (with_reducible apply Own.new'; simp; done) | with_reducible apply Own.drew | with_reducible apply Own.drewN | with_reducible apply Own.alloc | with_reducible apply Own.put | ((with_reducible apply Own.off); (focus (first | (simp; done) | (simp; omega) | omega))) | (with_reducible refine Own.new_ ?_ (by with_reducible assumption)) | rfl | (refine Own.fr ?_ (by with_reducible assumption) (by show ¬ (_ = _); omega))), by repeat (first | with_reducible assumption | with_reducible exact Own.fresh _ _ _ | (with_reducible apply Own.new'; simp; done) | with_reducible apply Own.drew | with_reducible apply Own.drewN | with_reducible apply Own.alloc | with_reducible apply Own.put | ((with_reducible apply Own.off); (focus (first | (simp; done) | (simp; omega) | omega))) | (with_reducible refine Own.new_ ?_ (by with_reducible assumption)) | rfl | (refine Own.fr ?_ (by with_reducible assumption) (by show ¬ (_ = _); omega))), by repeat (first | with_reducible assumption | with_reducible exact Own.fresh _ _ _ | (with_reducible apply Own.new'; simp; done) | with_reducible apply Own.drew | with_reducible apply Own.drewN | with_reducible apply Own.alloc | with_reducible apply Own.put | ((with_reducible apply Own.off); (focus (first | (simp; done) | (simp; omega) | omega))) | (with_reducible refine Own.new_ ?_ (by with_reducible assumption)) | rfl | (refine Own.fr ?_ (by with_reducible assumption) (by show ¬ (_ = _); omega))), by repeat (first | with_reducible assumption | with_reducible exact Own.fresh _ _ _ | (with_reducible apply Own.new'; simp; done) | with_reducible apply Own.drew | with_reducible apply Own.drewN | with_reducible apply Own.alloc | with_reducible apply Own.put | ((with_reducible apply Own.off); (focus (first | (simp; done) | (simp; omega) | omega))) | (with_reducible refine Own.new_ ?_ (by with_reducible assumption)) | rfl | (refine Own.fr ?_ (by with_reducible assumption) (by show ¬ (_ = _); omega))), by repeat (first | with_reducible exact Fr.refl _ _ | with_reducible assumption | with_reducible refine Fr.drew ?_ | with_reducible refine Fr.drewN ?_ _ | with_reducible refine Fr.alloc ?_ _ | with_reducible refine Fr.set ?_ (by first | exact fun _ => rfl | (intro hlt; exfalso; simp at hlt; try omega) | (simp; omega)) _ | with_reducible refine Fr.new_ ?_ (by with_reducible assumption) | (with_reducible refine Fr.trans ?_ (by with_reducible assumption) (fun i hi e => by (first | omega | (simp at e; omega)))))⟩
  clear xa xb xc xd xn
  clear g2 xlt
  obtain ⟨xa, xb, xc, xd, xn⟩ := hF
  obtain ⟨x0, x1, x2, x3, x4, x5⟩ := xa.three
  obtain ⟨x6, x7, x8, x9, x10, x11⟩ := xb.three
  obtain ⟨x12, x13, x14, x15⟩ := xc.two
  obtain ⟨x16, x17, x18, x19⟩ := xd.two
  have xlt := xd.lt
  go_wp2_with fail
  refine (HK.out _).mono ?_
  rintro e w3 ⟨rfl, g3⟩
  clear x0 x1 x2 x3 x4 x5 x6 x7 x8 x9 x10 x11 x12 x13 x14 x15 x16 x17 x18 x19
  have hF : RT w w3 s p2 0 c n := ⟨by repeat (first | with_reducible assumption | with_reducible exact Own.fresh _ _ _ | (with_reducible apply Own.new'; simp; done) | with_reducible apply Own.drew | with_reducible apply Own.drewN | with_reducible apply Own.alloc | with_reducible apply Own.put | ((with_reducible apply Own.off); (focus (first | (simp; done) | (simp; omega) | omega))) | (with_reducible refine Own.new_ ?_ (by with_reducible assumption)) | rfl | (refine Own.fr ?_ (by with_reducible assumption) (by show ¬ (_ = _); omega))), by repeat (first | with_reducible assumption | with_reducible exact Own.fresh _ _ _ | (with_reducible apply Own.new'; simp; done) | with_reducible apply Own.drew | with_reducible apply Own.drewN | with_reducible apply Own.alloc | with_reducible apply Own.put | ((with_reducible apply Own.off); (focus (first | (simp; done) | (simp; omega) | omega))) | (with_reducible refine Own.new_ ?_ (by with_reducible assumption)) | rfl | (refine Own.fr ?_ (by with_reducible assumption) (by show ¬ (_ = _); omega))), by repeat (first | with_reducible assumption | with_reducible exact Own.fresh _ _ _ | (with_reducible apply Own.new'; simp; done) | with_reducible apply Own.drew | with_reducible apply Own.drewN | with_reducible apply Own.alloc | with_reducible apply Own.put | ((with_reducible apply Own.off); (focus (first | (simp; done) | (simp; omega) | omega))) | (with_reducible refine Own.new_ ?_ (by with_reducible assumption)) | rfl | (refine Own.fr ?_ (by with_reducible assumption) (by show ¬ (_ = _); omega))), by repeat (first | with_reducible assumption | with_reducible exact Own.fresh _ _ _ | (with_reducible apply Own.new'; simp; done) | with_reducible apply Own.drew | with_reducible apply Own.drewN | with_reducible apply Own.alloc | with_reducible apply Own.put | ((with_reducible apply Own.off); (focus (first | (simp; done) | (simp; omega) | omega))) | (with_reducible refine Own.new_ ?_ (by with_reducible assumption)) | rfl | (refine Own.fr ?_ (by with_reducible assumption) (by show ¬ (_ = _); omega))), by repeat (first | with_reducible exact Fr.refl _ _ | with_reducible assumption | with_reducible refine Fr.drew ?_ | with_reducible refine Fr.drewN ?_ _ | with_reducible refine Fr.alloc ?_ _ | with_reducible refine Fr.set ?_ (by first | exact fun _ => rfl | (intro hlt; exfalso; simp at hlt; try omega) | (simp; omega)) _ | with_reducible refine Fr.new_ ?_ (by with_reducible assumption) | (with_reducible refine Fr.trans ?_ (by with_reducible assumption) (fun i hi e => by (first | omega | (simp at e; omega)))))⟩
  clear xa xb xc xd xn
  clear g3 xlt
  obtain ⟨xa, xb, xc, xd, xn⟩ := hF
  obtain ⟨x0, x1, x2, x3, x4, x5⟩ := xa.three
  obtain ⟨x6, x7, x8, x9, x10, x11⟩ := xb.three
  obtain ⟨x12, x13, x14, x15⟩ := xc.two
  obtain ⟨x16, x17, x18, x19⟩ := xd.two
  have xlt := xd.lt
  go_wp2_with fail
  all_goals refine bodyPost_ret (v := .tuple #[.agg #[.string s, .int .i64 p2, .int .i64 40], .agg #[.int .u64 0, .int .i64 0]]) (by simp [results, Try.results57, go_sem, *]) rfl ⟨rfl, ?_⟩
  all_goals (repeat (first | with_reducible exact Fr.refl _ _ | with_reducible assumption | with_reducible refine Fr.drew ?_ | with_reducible refine Fr.drewN ?_ _ | with_reducible refine Fr.alloc ?_ _ | with_reducible refine Fr.set ?_ (by first | exact fun _ => rfl | (intro hlt; exfalso; simp at hlt; try omega) | (simp; omega)) _ | with_reducible refine Fr.new_ ?_ (by with_reducible assumption) | (with_reducible refine Fr.trans ?_ (by with_reducible assumption) (fun i hi e => by (first | omega | (simp at e; omega))))))

set_option maxRecDepth 100000 in
set_option maxHeartbeats 1000000 in
theorem refTake_c3 (s : ByteArray) (pos err p1 e1 p2 e2 : Int) (c n : Nat) (hn : n < 256) (hc : c ≤ 18446744073709551615) (w : World)
    (HN : Hid (∀ ww, Calls Try.prog 32 #[.agg #[.string s, .int .i64 pos, .int .i64 err], .int .i64 8] ww fun e w' => e = .returned (.tuple #[.agg #[.string s, .int .i64 p1, .int .i64 e1], .int .u64 c]) ∧ New ww w'))
    (HM : Hid (∀ ww, Calls Try.prog 32 #[.agg #[.string s, .int .i64 p1, .int .i64 e1], .int .i64 1] ww fun e w' => e = .returned (.tuple #[.agg #[.string s, .int .i64 p2, .int .i64 e2], .int .u64 n]) ∧ New ww w')) (he : (e2 == 0) = false) :
    Calls Try.prog 57 #[.agg #[.string s, .int .i64 pos, .int .i64 err]] w fun e w' => e = .returned (.tuple #[.agg #[.string s, .int .i64 p2, .int .i64 e2], .agg #[.int .u64 0, .int .i64 0]]) ∧ New w w' := by
  have e' : (e2 != 0) = true := by rw [bne, he]; rfl
  go_enter Try.func57, Try.ntmps57
  go_wp2_with fail
  refine (HN.out _).mono ?_
  rintro e w1 ⟨rfl, g1⟩
  have hF : RT w w1 s pos err 0 0 := ⟨by repeat (first | with_reducible assumption | with_reducible exact Own.fresh _ _ _ | (with_reducible apply Own.new'; simp; done) | with_reducible apply Own.drew | with_reducible apply Own.drewN | with_reducible apply Own.alloc | with_reducible apply Own.put | ((with_reducible apply Own.off); (focus (first | (simp; done) | (simp; omega) | omega))) | (with_reducible refine Own.new_ ?_ (by with_reducible assumption)) | rfl | (refine Own.fr ?_ (by with_reducible assumption) (by show ¬ (_ = _); omega))), by repeat (first | with_reducible assumption | with_reducible exact Own.fresh _ _ _ | (with_reducible apply Own.new'; simp; done) | with_reducible apply Own.drew | with_reducible apply Own.drewN | with_reducible apply Own.alloc | with_reducible apply Own.put | ((with_reducible apply Own.off); (focus (first | (simp; done) | (simp; omega) | omega))) | (with_reducible refine Own.new_ ?_ (by with_reducible assumption)) | rfl | (refine Own.fr ?_ (by with_reducible assumption) (by show ¬ (_ = _); omega))), by repeat (first | with_reducible assumption | with_reducible exact Own.fresh _ _ _ | (with_reducible apply Own.new'; simp; done) | with_reducible apply Own.drew | with_reducible apply Own.drewN | with_reducible apply Own.alloc | with_reducible apply Own.put | ((with_reducible apply Own.off); (focus (first | (simp; done) | (simp; omega) | omega))) | (with_reducible refine Own.new_ ?_ (by with_reducible assumption)) | rfl | (refine Own.fr ?_ (by with_reducible assumption) (by show ¬ (_ = _); omega))), by repeat (first | with_reducible assumption | with_reducible exact Own.fresh _ _ _ | (with_reducible apply Own.new'; simp; done) | with_reducible apply Own.drew | with_reducible apply Own.drewN | with_reducible apply Own.alloc | with_reducible apply Own.put | ((with_reducible apply Own.off); (focus (first | (simp; done) | (simp; omega) | omega))) | (with_reducible refine Own.new_ ?_ (by with_reducible assumption)) | rfl | (refine Own.fr ?_ (by with_reducible assumption) (by show ¬ (_ = _); omega))), by repeat (first | with_reducible exact Fr.refl _ _ | with_reducible assumption | with_reducible refine Fr.drew ?_ | with_reducible refine Fr.drewN ?_ _ | with_reducible refine Fr.alloc ?_ _ | with_reducible refine Fr.set ?_ (by first | exact fun _ => rfl | (intro hlt; exfalso; simp at hlt; try omega) | (simp; omega)) _ | with_reducible refine Fr.new_ ?_ (by with_reducible assumption) | (with_reducible refine Fr.trans ?_ (by with_reducible assumption) (fun i hi e => by (first | omega | (simp at e; omega)))))⟩
  clear g1
  obtain ⟨xa, xb, xc, xd, xn⟩ := hF
  obtain ⟨x0, x1, x2, x3, x4, x5⟩ := xa.three
  obtain ⟨x6, x7, x8, x9, x10, x11⟩ := xb.three
  obtain ⟨x12, x13, x14, x15⟩ := xc.two
  obtain ⟨x16, x17, x18, x19⟩ := xd.two
  have xlt := xd.lt
  go_wp2_with fail
  refine (HM.out _).mono ?_
  rintro e w2 ⟨rfl, g2⟩
  clear x0 x1 x2 x3 x4 x5 x6 x7 x8 x9 x10 x11 x12 x13 x14 x15 x16 x17 x18 x19
  have hF : RT w w2 s p1 e1 0 0 := ⟨by repeat (first | with_reducible assumption | with_reducible exact Own.fresh _ _ _ | (with_reducible apply Own.new'; simp; done) | with_reducible apply Own.drew | with_reducible apply Own.drewN | with_reducible apply Own.alloc | with_reducible apply Own.put | ((with_reducible apply Own.off); (focus (first | (simp; done) | (simp; omega) | omega))) | (with_reducible refine Own.new_ ?_ (by with_reducible assumption)) | rfl | (refine Own.fr ?_ (by with_reducible assumption) (by show ¬ (_ = _); omega))), by repeat (first | with_reducible assumption | with_reducible exact Own.fresh _ _ _ | (with_reducible apply Own.new'; simp; done) | with_reducible apply Own.drew | with_reducible apply Own.drewN | with_reducible apply Own.alloc | with_reducible apply Own.put | ((with_reducible apply Own.off); (focus (first | (simp; done) | (simp; omega) | omega))) | (with_reducible refine Own.new_ ?_ (by with_reducible assumption)) | rfl | (refine Own.fr ?_ (by with_reducible assumption) (by show ¬ (_ = _); omega))), by repeat (first | with_reducible assumption | with_reducible exact Own.fresh _ _ _ | (with_reducible apply Own.new'; simp; done) | with_reducible apply Own.drew | with_reducible apply Own.drewN | with_reducible apply Own.alloc | with_reducible apply Own.put | ((with_reducible apply Own.off); (focus (first | (simp; done) | (simp; omega) | omega))) | (with_reducible refine Own.new_ ?_ (by with_reducible assumption)) | rfl | (refine Own.fr ?_ (by with_reducible assumption) (by show ¬ (_ = _); omega))), by repeat (first | with_reducible assumption | with_reducible exact Own.fresh _ _ _ | (with_reducible apply Own.new'; simp; done) | with_reducible apply Own.drew | with_reducible apply Own.drewN | with_reducible apply Own.alloc | with_reducible apply Own.put | ((with_reducible apply Own.off); (focus (first | (simp; done) | (simp; omega) | omega))) | (with_reducible refine Own.new_ ?_ (by with_reducible assumption)) | rfl | (refine Own.fr ?_ (by with_reducible assumption) (by show ¬ (_ = _); omega))), by repeat (first | with_reducible exact Fr.refl _ _ | with_reducible assumption | with_reducible refine Fr.drew ?_ | with_reducible refine Fr.drewN ?_ _ | with_reducible refine Fr.alloc ?_ _ | with_reducible refine Fr.set ?_ (by first | exact fun _ => rfl | (intro hlt; exfalso; simp at hlt; try omega) | (simp; omega)) _ | with_reducible refine Fr.new_ ?_ (by with_reducible assumption) | (with_reducible refine Fr.trans ?_ (by with_reducible assumption) (fun i hi e => by (first | omega | (simp at e; omega)))))⟩
  clear xa xb xc xd xn
  clear g2 xlt
  obtain ⟨xa, xb, xc, xd, xn⟩ := hF
  obtain ⟨x0, x1, x2, x3, x4, x5⟩ := xa.three
  obtain ⟨x6, x7, x8, x9, x10, x11⟩ := xb.three
  obtain ⟨x12, x13, x14, x15⟩ := xc.two
  obtain ⟨x16, x17, x18, x19⟩ := xd.two
  have xlt := xd.lt
  go_wp2
  all_goals refine bodyPost_ret (v := .tuple #[.agg #[.string s, .int .i64 p2, .int .i64 e2], .agg #[.int .u64 0, .int .i64 0]]) (by simp [results, Try.results57, go_sem, *]) rfl ⟨rfl, ?_⟩
  all_goals (repeat (first | with_reducible exact Fr.refl _ _ | with_reducible assumption | with_reducible refine Fr.drew ?_ | with_reducible refine Fr.drewN ?_ _ | with_reducible refine Fr.alloc ?_ _ | with_reducible refine Fr.set ?_ (by first | exact fun _ => rfl | (intro hlt; exfalso; simp at hlt; try omega) | (simp; omega)) _ | with_reducible refine Fr.new_ ?_ (by with_reducible assumption) | (with_reducible refine Fr.trans ?_ (by with_reducible assumption) (fun i hi e => by (first | omega | (simp at e; omega))))))

theorem refTake_any (r : Rd) (hr : r.ok) (w : World) :
    Calls Try.prog 57 #[r.val] w fun e w' => e = .returned (.tuple #[(rTake r).1.val, .agg #[.int .u64 (rTake r).2.1, .int .i64 (rTake r).2.2]]) ∧ New w w' := by
  obtain ⟨p1, e1, p2, e2, c, n, h1, h2, hc, hn, k1, k2, hT⟩ := take_steps r hr
  have HN := Lib.hid (fun ww => refRdNumber_any r hr 8 ww)
  have HM := Lib.hid (fun ww => refRdNumber_any ⟨r.s, p1, e1⟩ k1 1 ww)
  rw [h1] at HN
  rw [h2] at HM
  obtain ⟨s, pos, err⟩ := r
  simp only [Rd.val] at HN HM
  simp only at hT
  rw [hT]
  by_cases e : e2 = 0
  · rw [if_pos e]
    by_cases k : checkI c n = 0
    · rw [if_pos k]
      have := refTake_c1 s pos err p1 e1 p2 e2 c n hn hc w HN HM e k
      subst e
      exact this
    · rw [if_neg k]
      exact refTake_c2 s pos err p1 e1 p2 e2 c n hn hc w HN HM e (by unfold checkI at k ⊢; split at k <;> simp_all)
  · rw [if_neg e]
    exact refTake_c3 s pos err p1 e1 p2 e2 c n hn hc w HN HM (by rw [beq_eq_false_iff_ne]; exact e)
end Go.Proofs.Ytlefmnoaejpllaa
