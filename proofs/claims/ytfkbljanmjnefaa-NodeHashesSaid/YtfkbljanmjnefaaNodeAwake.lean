/- A node is signed and checked: awake of the law. -/
import Derived.Test.YtfkbljanmjnefaaNodeGood
import Derived.Deep.RegionWith
namespace Go.Proofs.Ytfkbljanmjnefaa
open Go.RowKit
set_option linter.unusedVariables false
set_option linter.unusedSimpArgs false

abbrev set12 (w : World) (b : Nat) (v0 v1 v2 v3 v4 v5 v6 v7 v8 v9 v10 v11 : Value) : World :=
  (((((((((((w.setCell ⟨b, 0, none⟩ v0).setCell ⟨b, 1, none⟩ v1).setCell ⟨b, 2, none⟩ v2).setCell ⟨b, 3, none⟩ v3).setCell ⟨b, 4, none⟩ v4).setCell ⟨b, 5, none⟩ v5).setCell ⟨b, 6, none⟩ v6).setCell ⟨b, 7, none⟩ v7).setCell ⟨b, 8, none⟩ v8).setCell ⟨b, 9, none⟩ v9).setCell ⟨b, 10, none⟩ v10).setCell ⟨b, 11, none⟩ v11
theorem Own.put12 {w : World} {b : Nat} {t : TypeId} {u0 u1 u2 u3 u4 u5 u6 u7 u8 u9 u10 u11 : Value} (h : Own w b t #[u0, u1, u2, u3, u4, u5, u6, u7, u8, u9, u10, u11]) (v0 v1 v2 v3 v4 v5 v6 v7 v8 v9 v10 v11 : Value) :
    Own (set12 w b v0 v1 v2 v3 v4 v5 v6 v7 v8 v9 v10 v11) b t #[v0, v1, v2, v3, v4, v5, v6, v7, v8, v9, v10, v11] := by
  have a0 := h.put (i := 0) (u := v0) (cs' := #[v0, u1, u2, u3, u4, u5, u6, u7, u8, u9, u10, u11]) rfl
  have a1 := a0.put (i := 1) (u := v1) (cs' := #[v0, v1, u2, u3, u4, u5, u6, u7, u8, u9, u10, u11]) rfl
  have a2 := a1.put (i := 2) (u := v2) (cs' := #[v0, v1, v2, u3, u4, u5, u6, u7, u8, u9, u10, u11]) rfl
  have a3 := a2.put (i := 3) (u := v3) (cs' := #[v0, v1, v2, v3, u4, u5, u6, u7, u8, u9, u10, u11]) rfl
  have a4 := a3.put (i := 4) (u := v4) (cs' := #[v0, v1, v2, v3, v4, u5, u6, u7, u8, u9, u10, u11]) rfl
  have a5 := a4.put (i := 5) (u := v5) (cs' := #[v0, v1, v2, v3, v4, v5, u6, u7, u8, u9, u10, u11]) rfl
  have a6 := a5.put (i := 6) (u := v6) (cs' := #[v0, v1, v2, v3, v4, v5, v6, u7, u8, u9, u10, u11]) rfl
  have a7 := a6.put (i := 7) (u := v7) (cs' := #[v0, v1, v2, v3, v4, v5, v6, v7, u8, u9, u10, u11]) rfl
  have a8 := a7.put (i := 8) (u := v8) (cs' := #[v0, v1, v2, v3, v4, v5, v6, v7, v8, u9, u10, u11]) rfl
  have a9 := a8.put (i := 9) (u := v9) (cs' := #[v0, v1, v2, v3, v4, v5, v6, v7, v8, v9, u10, u11]) rfl
  have a10 := a9.put (i := 10) (u := v10) (cs' := #[v0, v1, v2, v3, v4, v5, v6, v7, v8, v9, v10, u11]) rfl
  have a11 := a10.put (i := 11) (u := v11) (cs' := #[v0, v1, v2, v3, v4, v5, v6, v7, v8, v9, v10, v11]) rfl
  exact a11
theorem Fr.put12 {F : Nat → Prop} {a w : World} {b : Nat} (h : Fr F a w) (hb : b < a.heap.size → F b) (v0 v1 v2 v3 v4 v5 v6 v7 v8 v9 v10 v11 : Value) : Fr F a (set12 w b v0 v1 v2 v3 v4 v5 v6 v7 v8 v9 v10 v11) :=
  (((((((((((h.set (p := ⟨b, 0, none⟩) hb v0).set (p := ⟨b, 1, none⟩) hb v1).set (p := ⟨b, 2, none⟩) hb v2).set (p := ⟨b, 3, none⟩) hb v3).set (p := ⟨b, 4, none⟩) hb v4).set (p := ⟨b, 5, none⟩) hb v5).set (p := ⟨b, 6, none⟩) hb v6).set (p := ⟨b, 7, none⟩) hb v7).set (p := ⟨b, 8, none⟩) hb v8).set (p := ⟨b, 9, none⟩) hb v9).set (p := ⟨b, 10, none⟩) hb v10).set (p := ⟨b, 11, none⟩) hb v11
theorem ndFree {w : World} {b : Nat} {t : TypeId} {cs : Array Value} (h : Own w b t cs) : w.frozen? ⟨b, 0, none⟩ = false ∧ w.frozen? ⟨b, 1, none⟩ = false ∧ w.frozen? ⟨b, 2, none⟩ = false ∧ w.frozen? ⟨b, 3, none⟩ = false ∧ w.frozen? ⟨b, 4, none⟩ = false ∧ w.frozen? ⟨b, 5, none⟩ = false ∧ w.frozen? ⟨b, 6, none⟩ = false ∧ w.frozen? ⟨b, 7, none⟩ = false ∧ w.frozen? ⟨b, 8, none⟩ = false ∧ w.frozen? ⟨b, 9, none⟩ = false ∧ w.frozen? ⟨b, 10, none⟩ = false ∧ w.frozen? ⟨b, 11, none⟩ = false :=
  ⟨h.free 0, h.free 1, h.free 2, h.free 3, h.free 4, h.free 5, h.free 6, h.free 7, h.free 8, h.free 9, h.free 10, h.free 11⟩
def awO (th : Nat) : OpV := ⟨3, 1, 1, th, 0, ⟨#[]⟩, false, ⟨#[]⟩, 0⟩
def noV : Nat → ByteArray := fun _ => .empty
theorem awO_check : opCheck (awO 20) = 0 ∧ opCheck (awO 21) = 0 := by decide +kernel
theorem awO_node (th : Nat) (h : opCheck (awO th) = 0) (tg : ByteArray) (ht : tg.size = 32) : nodeCheck 1 noV 0 (awO th) tg = 0 :=
  nodeCheck_zero.2 ⟨fun i hi => absurd hi (Nat.not_lt_zero i), by omega, ht, h, rfl⟩
theorem awO_B (th : Nat) (h : th ≤ 100) : OpB (awO th) := ⟨by show 1 ≤ _; omega, by show th ≤ _; omega, by show 0 ≤ _; omega⟩
/-- The tag that is given. -/
def awTag (s : ByteArray) (th : Nat) : ByteArray := macB (ringKey s 1) (nodeHash 1 noV 0 (awO th))
set_option maxRecDepth 100000 in
set_option maxHeartbeats 4000000 in
theorem sign_aw {w : World} {rb rb2 m : Nat} {s : ByteArray} (hR : RingO w rb rb2 s m) (hm : 1 < m) :
    Calls Try.prog 33 #[.pointer (some ⟨rb, 0, none⟩), .agg #[.int .i64 1, .slice none 0 0, .int .i64 3, .int .u64 1, .int .i64 1, .int .u64 20, .int .u64 0, .string ⟨#[]⟩, .bool false, .string ⟨#[]⟩, .int .i64 0, .string ⟨#[]⟩]] w fun e w' => e = .returned (.tuple #[.agg #[.int .i64 1, .slice none 0 0, .int .i64 3, .int .u64 1, .int .i64 1, .int .u64 20, .int .u64 0, .string ⟨#[]⟩, .bool false, .string ⟨#[]⟩, .int .i64 0, .string (awTag s 20)], .int .i64 0]) ∧ New w w' := by
  have hk := awO_check.1
  have hb := awO_B 20 (by omega)
  obtain ⟨o1, o2⟩ := opCheck_zero.1 hk
  have HH := Lib.hid (fun ww => nodeHash_any 1 none 0 0 3 1 1 20 0 ⟨#[]⟩ false ⟨#[]⟩ 0 ⟨#[]⟩ noV ww (Sl.none_ _ _ _) (fun j hj => by omega) (by omega) (by omega) (o2.fit o1 hb) (by have := opB_size _ o2; exact Nat.le_trans this (by omega)))
  have hz : (awTag s 20).size = 32 := macB_size _ _
  have HT : Hid (∀ ww, New w ww → Calls Try.prog 63 #[.pointer (some ⟨rb, 0, none⟩), .int .i64 1, .string (nodeHash 1 noV 0 (awO 20))] ww fun e w' => e = .returned (.tuple #[.string (awTag s 20), .int .i64 0]) ∧ New ww w') :=
    fun ww g => tag_is (hR.new_ g) 1 (nodeHash 1 noV 0 (awO 20)) (by have : (nodeHash 1 noV 0 (awO 20)).size = 32 := tag1_size _ _; omega) hm
  rw [show nodeHash 1 noV 0 ⟨3, 1, 1, 20, 0, ⟨#[]⟩, false, ⟨#[]⟩, 0⟩ = nodeHash 1 noV 0 (awO 20) from rfl] at HH
  obtain ⟨h, hh⟩ : ∃ h, nodeHash 1 noV 0 (awO 20) = h := ⟨_, rfl⟩
  rw [hh] at HH HT
  have hc := awO_node 20 hk (awTag s 20) hz
  obtain ⟨tg, htg⟩ : ∃ t, awTag s 20 = t := ⟨_, rfl⟩
  rw [htg] at HT hz hc ⊢
  have CK := Lib.hid (fun ww => nodeCheck_any 1 none 0 0 3 1 1 20 0 ⟨#[]⟩ false ⟨#[]⟩ 0 tg noV ww (Sl.none_ _ _ _) (fun j hj => by omega) hb (by decide) (by decide) (by unfold maxLen; omega))
  rw [show nodeCheck 1 noV 0 ⟨3, 1, 1, 20, 0, ⟨#[]⟩, false, ⟨#[]⟩, 0⟩ tg = 0 from hc] at CK
  clear htg hc hh hk hb o1 o2 hR hz
  go_enter Try.func33, Try.ntmps33
  go_wp2_with fail
  refine (cloneNil_any _).mono ?_
  rintro e wq ⟨rfl, rfl⟩
  go_wp2_with fail
  refine wp_world (fun W => Own W w.heap.size 41 #[.int .i64 1, .slice none 0 0, .int .i64 3, .int .u64 1, .int .i64 1, .int .u64 20, .int .u64 0, .string ⟨#[]⟩, .bool false, .string ⟨#[]⟩, .int .i64 0, .string ⟨#[]⟩] ∧ Own W (w.heap.size + 1) 41 #[.int .i64 0, .slice none 0 0, .int .i64 0, .int .u64 0, .int .i64 0, .int .u64 0, .int .u64 0, .string ⟨#[]⟩, .bool false, .string ⟨#[]⟩, .int .i64 0, .string ⟨#[]⟩] ∧ New w W) ⟨(Own.fresh w _ _).alloc _, Own.new' (by simp), by repeat (first | with_reducible exact Fr.refl _ _ | with_reducible assumption | with_reducible refine Fr.drew ?_ | with_reducible refine Fr.drewN ?_ _ | with_reducible refine Fr.alloc ?_ _ | with_reducible refine Fr.set ?_ (by first | exact fun _ => rfl | (intro hlt; exfalso; simp at hlt; try omega) | (simp; omega)) _ | with_reducible refine Fr.new_ ?_ (by with_reducible assumption) | (with_reducible refine Fr.trans ?_ (by with_reducible assumption) (fun i hi e => by (first | omega | (simp at e; omega)))))⟩ ?_
  rintro w1 ⟨o1, z1, n1⟩
  have N0 : ∀ x, (nw w1 x).cell? ⟨w.heap.size, 0, none⟩ = some (.int .i64 1) := o1.nw 0
  have N1 : ∀ x, (nw w1 x).cell? ⟨w.heap.size, 1, none⟩ = some (.slice none 0 0) := o1.nw 1
  have N2 : ∀ x, (nw w1 x).cell? ⟨w.heap.size, 2, none⟩ = some (.int .i64 3) := o1.nw 2
  have N3 : ∀ x, (nw w1 x).cell? ⟨w.heap.size, 3, none⟩ = some (.int .u64 1) := o1.nw 3
  have N4 : ∀ x, (nw w1 x).cell? ⟨w.heap.size, 4, none⟩ = some (.int .i64 1) := o1.nw 4
  have N5 : ∀ x, (nw w1 x).cell? ⟨w.heap.size, 5, none⟩ = some (.int .u64 20) := o1.nw 5
  have N6 : ∀ x, (nw w1 x).cell? ⟨w.heap.size, 6, none⟩ = some (.int .u64 0) := o1.nw 6
  have N7 : ∀ x, (nw w1 x).cell? ⟨w.heap.size, 7, none⟩ = some (.string ⟨#[]⟩) := o1.nw 7
  have N8 : ∀ x, (nw w1 x).cell? ⟨w.heap.size, 8, none⟩ = some (.bool false) := o1.nw 8
  have N9 : ∀ x, (nw w1 x).cell? ⟨w.heap.size, 9, none⟩ = some (.string ⟨#[]⟩) := o1.nw 9
  have N10 : ∀ x, (nw w1 x).cell? ⟨w.heap.size, 10, none⟩ = some (.int .i64 0) := o1.nw 10
  have N11 : ∀ x, (nw w1 x).cell? ⟨w.heap.size, 11, none⟩ = some (.string ⟨#[]⟩) := o1.nw 11
  have B1 : ∀ x : Nx w1, Calls Try.prog 14 #[.agg #[.int .i64 1, .slice none 0 0, .int .i64 3, .int .u64 1, .int .i64 1, .int .u64 20, .int .u64 0, .string ⟨#[]⟩, .bool false, .string ⟨#[]⟩, .int .i64 0, .string ⟨#[]⟩]] (nw w1 x) _ := fun (x : Nx w1) => Calls.nw_of (HH.out (nw w1 x))
  have B2 := fun (x : Nx w1) => Calls.nw_of (HT.out (nw w1 x) (n1.new_ (nw_new w1 x)))
  refine wp_region_new_lit (by kernel_rfl) (by kernel_rfl) ?_; (repeat (any_goals (first | go_big_quiet_step ((first | (go_at_call 14; with_reducible exact B1 _) | (go_at_call 63; with_reducible exact B2 _))) | quiet_step ((first | (go_at_call 14; with_reducible exact B1 _) | (go_at_call 63; with_reducible exact B2 _))) | (refine wpQuiet_step (fun K hK => ?_); go_simp; split <;> (refine hK _ ?_; clear hK K))))); all_goals (refine wpQuiet_nil ?_; intro _ hw'; obtain ⟨xq, hw''⟩ := hw'; subst hw''; have hnq := nw_new _ xq)
  all_goals
    have o2 := o1.new_ hnq
    have z2 := z1.new_ hnq
    have n2 := n1.new_ hnq
    obtain ⟨w2, hw2⟩ : ∃ w2, nw w1 xq = w2 := ⟨_, rfl⟩
    rw [hw2] at o2 z2 n2 ⊢
    clear hw2 hnq o1 z1 n1 B1 B2 N0 N1 N2 N3 N4 N5 N6 N7 N8 N9 N10 N11
    have f11 := o2.free 11
    obtain ⟨c0, c1, c2, c3, c4, c5, c6, c7, c8, c9, c10, c11⟩ := ndCells (k := 3) (c := 1) (who := 1) (th := 20) (par := 0) (au := 1) (tg := ⟨#[]⟩) o2
    go_wp2_with fail
    refine calls_world (fun W => Own W w.heap.size 41 #[.int .i64 1, .slice none 0 0, .int .i64 3, .int .u64 1, .int .i64 1, .int .u64 20, .int .u64 0, .string ⟨#[]⟩, .bool false, .string ⟨#[]⟩, .int .i64 0, .string tg] ∧ Own W (w.heap.size + 1) 41 #[.int .i64 0, .slice none 0 0, .int .i64 0, .int .u64 0, .int .i64 0, .int .u64 0, .int .u64 0, .string ⟨#[]⟩, .bool false, .string ⟨#[]⟩, .int .i64 0, .string ⟨#[]⟩] ∧ New w W) ⟨o2.put (i := 11) (u := .string tg) rfl, z2.off (by simp), n2.set (fun h => by simp at h) _⟩ ?_
    clear o2 z2 n2 f11 c0 c1 c2 c3 c4 c5 c6 c7 c8 c9 c10 c11
    rintro w3 ⟨o3, z3, n3⟩
    refine (CK.out _).mono ?_
    rintro e w4 ⟨rfl, g4⟩
    have o4 := o3.new_ g4
    have z4 := z3.new_ g4
    have n4 := n3.new_ g4
    clear o3 z3 n3 g4
    obtain ⟨c0, c1, c2, c3, c4, c5, c6, c7, c8, c9, c10, c11⟩ := ndCells (k := 3) (c := 1) (who := 1) (th := 20) (par := 0) o4
    obtain ⟨x0, x1, x2, x3, x4, x5, x6, x7, x8, x9, x10, x11⟩ := ndCells (au := 0) (A := none) (n := 0) (cap := 0) (k := 0) (c := 0) (who := 0) (th := 0) (par := 0) (nm := ⟨#[]⟩) (dir := false) (dig := ⟨#[]⟩) (sz := 0) (tg := ⟨#[]⟩) z4
    obtain ⟨y0, y1, y2, y3, y4, y5, y6, y7, y8, y9, y10, y11⟩ := ndFree z4
    go_wp2
    refine post_world (fun W' => Own W' (w.heap.size + 1) 41 #[.int .i64 1, .slice none 0 0, .int .i64 3, .int .u64 1, .int .i64 1, .int .u64 20, .int .u64 0, .string ⟨#[]⟩, .bool false, .string ⟨#[]⟩, .int .i64 0, .string tg] ∧ New w W') ⟨z4.put12 _ _ _ _ _ _ _ _ _ _ _ _, Fr.put12 n4 (fun h => by omega) _ _ _ _ _ _ _ _ _ _ _ _⟩ ?_
    clear c0 c1 c2 c3 c4 c5 c6 c7 c8 c9 c10 c11 x0 x1 x2 x3 x4 x5 x6 x7 x8 x9 x10 x11 y0 y1 y2 y3 y4 y5 y6 y7 y8 y9 y10 y11 o4 z4 n4
    rintro W' ⟨zf, nf⟩
    obtain ⟨x0, x1, x2, x3, x4, x5, x6, x7, x8, x9, x10, x11⟩ := ndCells (k := 3) (c := 1) (who := 1) (th := 20) (par := 0) zf
    refine bodyPost_ret (v := .tuple #[.agg #[.int .i64 1, .slice none 0 0, .int .i64 3, .int .u64 1, .int .i64 1, .int .u64 20, .int .u64 0, .string ⟨#[]⟩, .bool false, .string ⟨#[]⟩, .int .i64 0, .string tg], .int .i64 0]) (by simp [results, Try.results33, go_sem, *]) rfl ⟨rfl, nf⟩
theorem ring_any (s : ByteArray) (hs : s.size ≤ 100000) (n : Nat) (hn : n ≤ 16) (w : World) :
    Calls Try.prog 34 #[.string s, .int .i64 n] w fun e w' => e = .returned (.pointer (some ⟨w.heap.size + 1, 0, none⟩)) ∧ RingO w' (w.heap.size + 1) w.heap.size s n ∧ New w w' := by
  have HR := Lib.hid (newRing_any s hs n hn w)
  go_enter Try.func34, Try.ntmps34
  go_wp2_with fail
  refine HR.out.mono ?_
  rintro e w1 ⟨rfl, o1, o2, g1⟩
  go_wp2
  go_ret
  exact ⟨rfl, ⟨o1, o2⟩, g1⟩
def sB : ByteArray := ⟨#[115]⟩
theorem aw_unlike : (awTag sB 20).data.toList ≠ (awTag sB 21).data.toList := by decide +kernel
theorem aw_good : goodB sB 3 1 noV 0 (awO 20) (awTag sB 20) = true := by
  unfold goodB
  rw [if_pos ⟨awO_node 20 awO_check.1 _ (macB_size _ _), by omega⟩]
  exact decide_eq_true rfl
theorem aw_bad : goodB sB 3 1 noV 0 (awO 21) (awTag sB 20) = false := by
  unfold goodB
  rw [if_pos ⟨awO_node 21 awO_check.2 _ (macB_size _ _), by omega⟩]
  exact decide_eq_false fun e => aw_unlike (by
    have : awTag sB 20 = awTag sB 21 := e
    rw [this])
set_option maxRecDepth 100000 in
set_option maxHeartbeats 4000000 in
theorem awake11_any (w : World) : Calls Try.prog 11 #[] w fun e w' => e = .returned (.bool true) ∧ New w w' := by
  have hz : (awTag sB 20).size = 32 := macB_size _ _
  have HR := Lib.hid (fun w => ring_any sB (by decide) 3 (by omega) w)
  have HS := Lib.hid (fun ww b b2 (hh : RingO ww b b2 sB 3) => sign_aw hh (by omega))
  have HG : Hid (∀ ww b b2, RingO ww b b2 sB 3 → Calls Try.prog 35 #[.pointer (some ⟨b, 0, none⟩), .agg #[.int .i64 1, .slice none 0 0, .int .i64 3, .int .u64 1, .int .i64 1, .int .u64 20, .int .u64 0, .string ⟨#[]⟩, .bool false, .string ⟨#[]⟩, .int .i64 0, .string (awTag sB 20)]] ww fun e w' => e = .returned (.bool true) ∧ New ww w') := fun ww b b2 hh => by
    have := nodeGood_any hh 1 none 0 0 3 1 1 20 0 ⟨#[]⟩ false ⟨#[]⟩ 0 (awTag sB 20) noV (Sl.none_ _ _ _) (fun j hj => by omega) (awO_B 20 (by omega)) (by decide) (by decide) (by unfold maxLen; omega)
    rw [show goodB sB 3 1 noV 0 ⟨3, 1, 1, 20, 0, ⟨#[]⟩, false, ⟨#[]⟩, 0⟩ (awTag sB 20) = true from aw_good] at this
    exact this
  have HG2 : Hid (∀ ww b b2, RingO ww b b2 sB 3 → Calls Try.prog 35 #[.pointer (some ⟨b, 0, none⟩), .agg #[.int .i64 1, .slice none 0 0, .int .i64 3, .int .u64 1, .int .i64 1, .int .u64 21, .int .u64 0, .string ⟨#[]⟩, .bool false, .string ⟨#[]⟩, .int .i64 0, .string (awTag sB 20)]] ww fun e w' => e = .returned (.bool false) ∧ New ww w') := fun ww b b2 hh => by
    have := nodeGood_any hh 1 none 0 0 3 1 1 21 0 ⟨#[]⟩ false ⟨#[]⟩ 0 (awTag sB 20) noV (Sl.none_ _ _ _) (fun j hj => by omega) (awO_B 21 (by omega)) (by decide) (by decide) (by unfold maxLen; omega)
    rw [show goodB sB 3 1 noV 0 ⟨3, 1, 1, 21, 0, ⟨#[]⟩, false, ⟨#[]⟩, 0⟩ (awTag sB 20) = false from aw_bad] at this
    exact this
  obtain ⟨tg, htg⟩ : ∃ t, awTag sB 20 = t := ⟨_, rfl⟩
  rw [htg] at HS HG HG2
  clear htg hz
  go_enter Try.func11, Try.ntmps11
  go_wp2_with fail
  refine (HR.out _).mono ?_
  rintro e w1 ⟨rfl, R1, n1⟩
  go_wp2_with fail
  refine (HS.out _ _ _ R1).mono ?_
  rintro e w2 ⟨rfl, g2⟩
  have n2 := n1.new_ g2
  have hlt2 : w.heap.size ≤ w2.heap.size := n2.size
  clear R1 n1 g2
  go_wp2_with fail
  refine wp_world (fun W => Own W w2.heap.size 41 #[.int .i64 1, .slice none 0 0, .int .i64 3, .int .u64 1, .int .i64 1, .int .u64 20, .int .u64 0, .string ⟨#[]⟩, .bool false, .string ⟨#[]⟩, .int .i64 0, .string tg] ∧ New w W) ⟨Own.fresh _ _ _, n2.alloc _⟩ ?_
  clear n2
  rintro w3 ⟨o3, n3⟩
  obtain ⟨c0, c1, c2, c3, c4, c5, c6, c7, c8, c9, c10, c11⟩ := ndCells (k := 3) (c := 1) (who := 1) (th := 20) (par := 0) (au := 1) o3
  go_region_with (first
    | (go_at_call 34; refine (HR.out _).mono ?_; rintro e v1 ⟨rfl, R1, g1⟩; have p1 := (Own.drew o3).new_ g1; have m1 := (Fr.drew n3).new_ g1; obtain ⟨x0, x1, x2, x3, x4, x5, x6, x7, x8, x9, x10, x11⟩ := ndCells (k := 3) (c := 1) (who := 1) (th := 20) (par := 0) (au := 1) p1)
    | (go_at_call 35; refine (HG.out _ _ _ R1).mono ?_; rintro e v2 ⟨rfl, g2⟩; have p2 := p1.new_ g2; have m2 := m1.new_ g2))
  all_goals
    obtain ⟨d0, d1, d2, d3, d4, d5, d6, d7, d8, d9, d10, d11⟩ := ndCells (k := 3) (c := 1) (who := 1) (th := 20) (par := 0) (au := 1) p2
    have f5 := p2.free 5
    go_wp2_with fail
    refine wp_world (fun W => Own W w2.heap.size 41 #[.int .i64 1, .slice none 0 0, .int .i64 3, .int .u64 1, .int .i64 1, .int .u64 21, .int .u64 0, .string ⟨#[]⟩, .bool false, .string ⟨#[]⟩, .int .i64 0, .string tg] ∧ New w W) ⟨p2.put (i := 5) (u := .int .u64 21) rfl, m2.set (fun h => by have hh : w2.heap.size < w.heap.size := h; omega) _⟩ ?_
    clear d0 d1 d2 d3 d4 d5 d6 d7 d8 d9 d10 d11 f5 p1 p2 m1 m2 c0 c1 c2 c3 c4 c5 c6 c7 c8 c9 c10 c11 x0 x1 x2 x3 x4 x5 x6 x7 x8 x9 x10 x11
    rintro w5 ⟨o5, n5⟩
    obtain ⟨c0, c1, c2, c3, c4, c5, c6, c7, c8, c9, c10, c11⟩ := ndCells (k := 3) (c := 1) (who := 1) (th := 21) (par := 0) (au := 1) o5
    go_region_with (first
      | (go_at_call 34; refine (HR.out _).mono ?_; rintro e v5 ⟨rfl, R5, g5⟩; have p5 := (Own.drew o5).new_ g5; have m5 := (Fr.drew n5).new_ g5; obtain ⟨x0, x1, x2, x3, x4, x5, x6, x7, x8, x9, x10, x11⟩ := ndCells (k := 3) (c := 1) (who := 1) (th := 21) (par := 0) (au := 1) p5)
      | (go_at_call 35; refine (HG2.out _ _ _ R5).mono ?_; rintro e v6 ⟨rfl, g6⟩; have m6 := m5.new_ g6))
    all_goals go_wp2
    all_goals go_ret
    all_goals exact ⟨rfl, m6⟩
end Go.Proofs.Ytfkbljanmjnefaa
