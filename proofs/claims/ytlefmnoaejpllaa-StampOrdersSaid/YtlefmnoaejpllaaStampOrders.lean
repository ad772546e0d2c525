/- The walk of the law StampOrders: times are ordered by their counts, then by who it was. -/
import Derived.Test.YtlefmnoaejpllaaStampF
namespace Go.Proofs.Ytlefmnoaejpllaa
open Go.RowKit

theorem thing_zero {c n : Int} (h : ¬ Good c n) : (thingI c n == 0) = true := by rw [beq_iff_eq]; exact if_neg h
theorem thing_some {c n : Int} (h : Good c n) : (thingI c n == 0) = false := by
  rw [beq_eq_false_iff_ne]
  rw [show thingI c n = c * 16 + n from if_pos h]
  unfold Good at h
  omega
theorem thing_ne {a b c d : Int} (h : Good a b) (g : Good c d) (k : ¬ (a = c ∧ b = d)) : (thingI a b == thingI c d) = false := by
  rw [beq_eq_false_iff_ne]
  rw [show thingI a b = a * 16 + b from if_pos h, show thingI c d = c * 16 + d from if_pos g]
  unfold Good at h g
  omega
theorem thing_made {c n : Int} (h : Good c n) : madeB (thingI c n) = true := by
  rw [show thingI c n = c * 16 + n from if_pos h]
  unfold madeB Good at *
  rw [decide_eq_true_eq]
  omega
theorem thing_bound {c n : Int} : 0 ≤ thingI c n ∧ thingI c n ≤ 18446744073709551615 := by
  unfold thingI
  split
  · rename_i h; unfold Good at h; omega
  · omega
theorem stampOrders_walk (x : EStamp) {wa : World} (ha : x.facts wa) (y : EStamp) {wb : World} (hb : y.facts wb) (w : World) :
    Calls Try.prog 6 #[.agg x.cells.toArray, .agg y.cells.toArray] w fun e w' => e = .returned (.bool true) ∧ New w w' := by
  obtain ⟨a, b⟩ := x
  obtain ⟨c, d⟩ := y
  obtain ⟨a0, a1⟩ := bounds_u64 ha.1
  obtain ⟨c0, c1⟩ := bounds_u64 hb.1
  clear ha hb
  have e1 := lt_bef a b c d
  have e2 := gt_bef a b c d
  have e3 := lt_bef c d a b
  have g : ¬ Good a b ∨ (Good a b ∧ ¬ Good c d) ∨ (Good a b ∧ Good c d ∧ a = c ∧ b = d) ∨ (Good a b ∧ Good c d ∧ ¬ (a = c ∧ b = d)) := by
    by_cases h1 : Good a b
    · by_cases h2 : Good c d
      · by_cases h3 : a = c ∧ b = d
        · exact .inr (.inr (.inl ⟨h1, h2, h3⟩))
        · exact .inr (.inr (.inr ⟨h1, h2, h3⟩))
      · exact .inr (.inl ⟨h1, h2⟩)
    · exact .inl h1
  show Calls Try.prog 6 #[.agg #[.int .u64 a, .int .i64 b], .agg #[.int .u64 c, .int .i64 d]] w _
  go_enter Try.func6, Try.ntmps6
  go_wp2_with fail
  refine (compare_any a b c d _).mono ?_
  rintro e w1 ⟨rfl, hn1⟩
  have oA := ((Own.fresh w 33 #[.int .u64 a, .int .i64 b]).alloc (.cells #[.int .u64 c, .int .i64 d] 33)).new_ hn1
  have oB := (Own.new' (t := 33) (cs := #[.int .u64 c, .int .i64 d]) (w := w.alloc (.cells #[.int .u64 a, .int .i64 b] 33)) rfl).new_ hn1
  rw [show (w.alloc (.cells #[.int .u64 a, .int .i64 b] 33)).heap.size = w.heap.size + 1 by simp] at oB
  obtain ⟨k0, k1, k2, k3⟩ := oA.two
  obtain ⟨l0, l1, l2, l3⟩ := oB.two
  obtain ⟨q0, q1⟩ := oA.nw2
  obtain ⟨r0, r1⟩ := oB.nw2
  go_wp2_with fail
  refine wp_region_new_lit (by kernel_rfl) (by kernel_rfl) ?_; (repeat (any_goals (first | go_big_quiet_step ((first | (go_at_call 21; exact Calls.nw_of (ref_any _ _ _)) | (go_at_call 26; exact Calls.nw_of (before_any _ _ _ _ _)))) | quiet_step ((first | (go_at_call 21; exact Calls.nw_of (ref_any _ _ _)) | (go_at_call 26; exact Calls.nw_of (before_any _ _ _ _ _)))) | (refine wpQuiet_step (fun K hK => ?_); go_simp; split <;> (refine hK _ ?_; clear hK K))))); all_goals (refine wpQuiet_nil ?_; intro _ hw'; obtain ⟨xq, hw''⟩ := hw'; subst hw''; have hnq := nw_new _ xq)
  clear k0 k1 k2 k3 l0 l1 l2 l3
  clear q0 q1 r0 r1
  have oA := oA.new_ hnq
  have oB := oB.new_ hnq
  obtain ⟨k0, k1, k2, k3⟩ := oA.two
  obtain ⟨l0, l1, l2, l3⟩ := oB.two
  go_wp2_with fail
  refine (awake04 _).mono ?_
  rintro e w2 ⟨rfl, hn2⟩
  clear k0 k1 k2 k3 l0 l1 l2 l3
  have oA := oA.new_ hn2
  have oB := oB.new_ hn2
  obtain ⟨k0, k1, k2, k3⟩ := oA.two
  obtain ⟨l0, l1, l2, l3⟩ := oB.two
  go_wp2_with fail
  refine (compare_any c d a b _).mono ?_
  rintro e w3 ⟨rfl, hn3⟩
  clear k0 k1 k2 k3 l0 l1 l2 l3
  have oA := oA.new_ hn3
  have oB := oB.new_ hn3
  obtain ⟨k0, k1, k2, k3⟩ := oA.two
  obtain ⟨l0, l1, l2, l3⟩ := oB.two
  obtain ⟨q0, q1⟩ := oA.nw2
  obtain ⟨r0, r1⟩ := oB.nw2
  go_wp2_with fail
  refine wp_region_new_lit (by kernel_rfl) (by kernel_rfl) ?_; (repeat (any_goals (first | go_big_quiet_step ((go_at_call 27; exact Calls.nw_of (thing_any _ _ _))) | quiet_step ((go_at_call 27; exact Calls.nw_of (thing_any _ _ _))) | (refine wpQuiet_step (fun K hK => ?_); go_simp; split <;> (refine hK _ ?_; clear hK K))))); all_goals (refine wpQuiet_nil ?_; intro _ hw'; obtain ⟨xq, hw''⟩ := hw'; subst hw''; have hnq := nw_new _ xq)
  clear k0 k1 k2 k3 l0 l1 l2 l3
  clear q0 q1 r0 r1
  have oA := oA.new_ hnq
  have oB := oB.new_ hnq
  obtain ⟨k0, k1, k2, k3⟩ := oA.two
  obtain ⟨l0, l1, l2, l3⟩ := oB.two
  obtain ⟨q0, q1⟩ := oA.nw2
  obtain ⟨r0, r1⟩ := oB.nw2
  go_wp2_with fail
  refine wp_region_new_lit (by kernel_rfl) (by kernel_rfl) ?_; (repeat (any_goals (first | go_big_quiet_step ((first | (go_at_call 21; exact Calls.nw_of (ref_any _ _ _)) | (go_at_call 28; exact Calls.nw_of (refThing_any _ _ (by assumption) _)) | (go_at_call 25; exact Calls.nw_of (check_any _ _ _)) | (go_at_call 20; exact Calls.nw_of (refCheck_any _ _ (by assumption) _)))) | quiet_step ((first | (go_at_call 21; exact Calls.nw_of (ref_any _ _ _)) | (go_at_call 28; exact Calls.nw_of (refThing_any _ _ (by assumption) _)) | (go_at_call 25; exact Calls.nw_of (check_any _ _ _)) | (go_at_call 20; exact Calls.nw_of (refCheck_any _ _ (by assumption) _)))) | (refine wpQuiet_step (fun K hK => ?_); go_simp; split <;> (refine hK _ ?_; clear hK K))))); all_goals (refine wpQuiet_nil ?_; intro _ hw'; obtain ⟨xq, hw''⟩ := hw'; subst hw''; have hnq := nw_new _ xq)
  clear k0 k1 k2 k3 l0 l1 l2 l3
  clear q0 q1 r0 r1
  have oA := oA.new_ hnq
  have oB := oB.new_ hnq
  obtain ⟨k0, k1, k2, k3⟩ := oA.two
  obtain ⟨l0, l1, l2, l3⟩ := oB.two
  rcases g with g | ⟨g, h⟩ | ⟨g, h, rfl, rfl⟩ | ⟨g, h, k⟩
  · have z := thing_zero g
    go_wp2
    go_ret
    exact ⟨rfl, by repeat (first | with_reducible exact Fr.refl _ _ | with_reducible assumption | with_reducible refine Fr.drew ?_ | with_reducible refine Fr.drewN ?_ _ | with_reducible refine Fr.alloc ?_ _ | with_reducible refine Fr.set ?_ (by first | exact fun _ => rfl | (intro hlt; exfalso; simp at hlt; try omega) | (simp; omega)) _ | with_reducible refine Fr.new_ ?_ (by assumption))⟩
  · have z := thing_some g
    have y := thing_zero h
    go_wp2
    go_ret
    exact ⟨rfl, by repeat (first | with_reducible exact Fr.refl _ _ | with_reducible assumption | with_reducible refine Fr.drew ?_ | with_reducible refine Fr.drewN ?_ _ | with_reducible refine Fr.alloc ?_ _ | with_reducible refine Fr.set ?_ (by first | exact fun _ => rfl | (intro hlt; exfalso; simp at hlt; try omega) | (simp; omega)) _ | with_reducible refine Fr.new_ ?_ (by assumption))⟩
  · have z := thing_some g
    have y := thing_made g
    obtain ⟨b0, b1⟩ := @thing_bound a b
    go_wp2_with (go_at_call 16; refine (made_any _ b0 b1 _).mono ?_; rintro e w2 ⟨rfl, rfl⟩)
    go_ret
    exact ⟨rfl, by repeat (first | with_reducible exact Fr.refl _ _ | with_reducible assumption | with_reducible refine Fr.drew ?_ | with_reducible refine Fr.drewN ?_ _ | with_reducible refine Fr.alloc ?_ _ | with_reducible refine Fr.set ?_ (by first | exact fun _ => rfl | (intro hlt; exfalso; simp at hlt; try omega) | (simp; omega)) _ | with_reducible refine Fr.new_ ?_ (by assumption))⟩
  · have z := thing_some g
    have z2 := thing_some h
    have y := thing_made g
    have x := thing_ne g h k
    obtain ⟨b0, b1⟩ := @thing_bound a b
    by_cases u : a = c
    · subst u
      have u : (b == d) = false := by rw [beq_eq_false_iff_ne]; exact fun e => k ⟨rfl, e⟩
      clear k
      go_wp2_with (go_at_call 16; refine (made_any _ b0 b1 _).mono ?_; rintro e w2 ⟨rfl, rfl⟩)
      go_ret
      exact ⟨rfl, by repeat (first | with_reducible exact Fr.refl _ _ | with_reducible assumption | with_reducible refine Fr.drew ?_ | with_reducible refine Fr.drewN ?_ _ | with_reducible refine Fr.alloc ?_ _ | with_reducible refine Fr.set ?_ (by first | exact fun _ => rfl | (intro hlt; exfalso; simp at hlt; try omega) | (simp; omega)) _ | with_reducible refine Fr.new_ ?_ (by assumption))⟩
    · have u : (a == c) = false := by rw [beq_eq_false_iff_ne]; exact u
      clear k
      go_wp2_with (go_at_call 16; refine (made_any _ b0 b1 _).mono ?_; rintro e w2 ⟨rfl, rfl⟩)
      go_ret
      exact ⟨rfl, by repeat (first | with_reducible exact Fr.refl _ _ | with_reducible assumption | with_reducible refine Fr.drew ?_ | with_reducible refine Fr.drewN ?_ _ | with_reducible refine Fr.alloc ?_ _ | with_reducible refine Fr.set ?_ (by first | exact fun _ => rfl | (intro hlt; exfalso; simp at hlt; try omega) | (simp; omega)) _ | with_reducible refine Fr.new_ ?_ (by assumption))⟩
end Go.Proofs.Ytlefmnoaejpllaa
