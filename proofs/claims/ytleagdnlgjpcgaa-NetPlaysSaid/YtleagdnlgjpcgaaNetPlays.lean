/- Packets are under way, come, are lost, doubled, put in, and wait for ways that are cut. -/
import Derived.Test.YtleagdnlgjpcgaaNetSame
namespace Go.Proofs.Ytleagdnlgjpcgaa
open Go.RowKit Go.Maps
set_option linter.unusedVariables false
set_option linter.unusedSimpArgs false

theorem pks_of {w : World} {A : Option Addr} {n : Nat} {V : Nat → EPacket} (h : Sl w 3 A n (fun i => ESl26.cell (V i))) : PkS w A ((List.range n).map fun j => (⟨(V j).from_, (V j).to, (V j).s⟩ : Pkt)) := by
  refine ⟨by simpa using h.1, fun i hi => ?_⟩
  have hi' : i < n := by simpa using hi
  obtain ⟨b, o, e, hc⟩ := h.2 i hi'
  refine ⟨b, o, e, fun j v hv => hc j v ?_⟩
  simp only [List.getElem?_map, List.getElem?_range hi', Option.map_some] at hv
  exact hv
set_option maxRecDepth 100000 in
set_option maxHeartbeats 8000000 in
theorem netPlays_core {w : World} {l : ESl EAct} (hl : ESl47.facts w l) : Calls Try.prog 5 #[.slice l.adr l.len l.cap] w fun e W => e = .returned (.bool true) ∧ New w W := by
  obtain ⟨hsl, hlc, hcm, hle⟩ := hl
  obtain ⟨A, len, cap, V⟩ := l
  simp only at hsl hlc hcm hle ⊢
  have hmx : len ≤ maxLen := by omega
  go_enter Try.func5, Try.ntmps5
  go_wp2_with fail
  refine awake_any.mono ?_
  rintro e W1 ⟨rfl, hN1⟩
  go_wp2_with fail
  refine new_any.mono ?_
  rintro e W2 ⟨n, X, rfl, h, hN2, hX⟩
  have hb := (Own.fresh W2 43 zMod)
  obtain ⟨⟨m0, m1, m2, m3, m4⟩, f0, f1, f2, f3, f4⟩ := own5 hb
  clear hb
  go_wp2_with fail
  clear m0 m1 m2 m3 m4 f0 f1 f2 f3 f4
  have hs1 := hN1.size
  have hs2 := hN2.size
  have hM0 : ModB (W2.alloc (.cells zMod 43)) X (.agg zMod) ⟨[], [], [], 0, 0⟩ := ⟨_, _, _, [], rfl, SlP.nil _ _, SlP.nil _ _, SlC.nil _ _, rfl, fun p => by simp⟩
  refine wp_world (fun W => NetB W n X ⟨[], [], [], 0, 0⟩ ∧ ModB W X (.agg zMod) ⟨[], [], [], 0, 0⟩ ∧ Own W W2.heap.size 43 zMod ∧ New w W) ⟨h.new_ ((Fr.refl _ _).alloc _), hM0, Own.fresh _ _ _, (hN1.new_ hN2).alloc _⟩ ?_
  have hX0 : ∀ k, X k → w.heap.size ≤ k ∧ k ≠ W2.heap.size := fun k hk => ⟨Nat.le_trans hs1 (hX k hk), fun e => by have := h.lt hk; omega⟩
  have hbM : w.heap.size ≤ W2.heap.size := by omega
  clear h hN1 hN2 hX hM0 hs1 hs2 W1
  generalize W2.heap.size = bM at hX0 hbM ⊢
  rintro W3 ⟨h, hM, bm, hN⟩
  have HI := Lib.hid (And.intro h (And.intro hM (And.intro bm (And.intro hN hX0))))
  have HS := Lib.hid (And.intro hsl hle)
  clear h hM bm hN hX0 hsl hle W2
  go_loopw [5, 6, 7] (fun iv xv yv wr => ∃ (i : Nat) (X' : Nat → Prop) (s : NetV) (cs : Array Value), iv = .int .i64 i ∧ i ≤ len ∧ i ≤ 150 ∧
      Hid (NetB wr n X' s ∧ ModB wr X' (.agg cs) s ∧ Own wr bM 43 cs ∧ New w wr ∧ (∀ k, X' k → w.heap.size ≤ k ∧ k ≠ bM) ∧ Bnd s i))
    (fun iv _ _ _ => len - (intOf iv).toNat)
  case atStart =>
    obtain ⟨h, hM, bm, hN, hX0⟩ := HI.out
    exact ⟨0, X, _, _, rfl, Nat.zero_le _, by omega, Lib.hid ⟨h, hM, bm, hN, hX0, ⟨by simp, by simp, by simp, by simp⟩⟩⟩
  case round =>
    obtain ⟨i, X', s, cs, rfl, hil, hi150, HR⟩ := hrel
    clear HI
    by_cases hlt : i < len ∧ i < 150
    · obtain ⟨hlt1, hlt4⟩ := hlt
      have hlt1' : (i : Int) < (len : Int) := by omega
      have hlt4' : (i : Int) < 150 := by omega
      obtain ⟨B1, k1, d1, B2, k2, d2, B3, k3, d3, hcs, rfl, rfl⟩ := HR.out.2.1.form
      injection hcs with hcs
      subst hcs
      obtain ⟨sb, so, hAe, -⟩ := HS.out.1.2 i hlt1
      have HAe := Lib.hid hAe
      subst hAe
      go_wp2_with fail
      obtain ⟨hB, hM, bm, hN, hX0, hbd⟩ := HR.out
      obtain ⟨hsl, hle⟩ := HS.out
      have hNs := hN.size
      have hlk : ∀ k, X' k → k < wr.heap.size := fun k hk => hB.lt hk
      have hbl := bm.lt
      have hbX : ¬ X' bM := fun hx => (hX0 _ hx).2 rfl
      have hsb : sb < w.heap.size := by
        obtain ⟨b, o, e, hc⟩ := hsl.2 i hlt1
        cases e
        exact World.block_lt_of_cell? w _ (hc 0 _ rfl)
      have hsX : ¬ X' sb := fun hx => by have := (hX0 _ hx).1; omega
      obtain ⟨⟨kd, nn, aa, bb, ⟨LA, ll, lcp, LV⟩⟩, hVi⟩ : ∃ y, y = V i := ⟨_, rfl⟩
      have hfa := hle i hlt1
      rw [← hVi] at hfa
      obtain ⟨-, -, wa, wb, hfs, hfc, hfm, hfw⟩ := hfa
      simp only at wa wb hfs hfc hfm hfw
      obtain ⟨Lp, hLp⟩ : ∃ Lp : List Pkt, Lp = (List.range ll).map fun j => (⟨(LV j).from_, (LV j).to, (LV j).s⟩ : Pkt) := ⟨_, rfl⟩
      have hpk : PkS w LA Lp := hLp ▸ pks_of hfs
      have hLl : ll = Lp.length := by rw [hLp]; simp
      have hLw : ∀ p ∈ Lp, p.wf := fun p hp => by
        rw [hLp] at hp
        obtain ⟨j, hj, rfl⟩ := List.mem_map.1 hp
        exact hfw j (List.mem_range.1 hj)
      have hLA : ∀ ad, LA = some ad → 0 < ll → ¬ X' ad.block ∧ ad.block < w.heap.size := fun ad e hz => by
        obtain ⟨b, o, e2, hc⟩ := hfs.2 0 hz
        rw [e2] at e
        cases e
        have h1 : b < w.heap.size := World.block_lt_of_cell? w _ (hc 0 _ rfl)
        exact ⟨fun hx => by have := (hX0 _ hx).1; have h2 : b < w.heap.size := h1; exact absurd this (by show ¬ w.heap.size ≤ b; omega), h1⟩
      have hact : ∀ w', Fr X' wr w' → w'.cell? ⟨sb, so + i * 5, none⟩ = some (.int .i64 kd) ∧ w'.cell? ⟨sb, so + i * 5 + 1, none⟩ = some (.int .i64 nn) ∧ w'.cell? ⟨sb, so + i * 5 + 2, none⟩ = some (.int .i64 aa) ∧ w'.cell? ⟨sb, so + i * 5 + 3, none⟩ = some (.int .i64 bb) ∧ w'.cell? ⟨sb, so + i * 5 + 4, none⟩ = some (.slice LA ll lcp) := fun w' f => by
        obtain ⟨b, o, e, hc⟩ := ((hsl.new_ hN).fr f (fun a e hx => by cases e; exact hsX hx)).2 i hlt1
        cases e
        simp only [← hVi] at hc
        exact ⟨hc 0 _ rfl, hc 1 _ rfl, hc 2 _ rfl, hc 3 _ rfl, hc 4 _ rfl⟩
      have hmc := fun w' (f : Fr X' wr w') => (own5 (bm.fr f hbX)).1
      have hS0 : Fr X' wr wr.drew := (Fr.refl _ _).drew
      clear hVi hLp hfs hfm hfw
      subst hLl
      refine wp_region_heldD (fun W' => Fr X' wr W') (by kernel_rfl) ?_
      refine wpAnyH_take (i := 0) (v := .pointer (some ⟨n, 0, none⟩)) rfl (by kernel_rfl) (by kernel_rfl) (by kernel_rfl) (fun _ _ _ h => h) (.inl ⟨rfl, fun w' hS => ?t0⟩) hS0 ?_
      case t0 =>
        go_simp
      refine wpAnyH_take (i := 1) (v := .agg #[.slice B1 s.l.length d1, .slice B2 s.w.length d2, .slice B3 k3 d3, .int .i64 s.sent, .int .i64 s.lost]) rfl (by kernel_rfl) (by kernel_rfl) (by kernel_rfl) (fun _ _ _ h => h) (.inl ⟨rfl, fun w' hS => ?t1⟩) hS0 ?_
      case t1 =>
        obtain ⟨m0, m1, m2, m3, m4⟩ := hmc w' hS
        go_simp
      refine wpAnyH_take (i := 2) (v := .slice (some ⟨sb, so, none⟩) len cap) rfl (by kernel_rfl) (by kernel_rfl) (by kernel_rfl) (fun _ _ _ h => h) (.inl ⟨rfl, fun w' hS => ?t2⟩) hS0 ?_
      case t2 =>
        go_simp
      refine wpAnyH_take (i := 3) (v := .int .i64 (i : Nat)) rfl (by kernel_rfl) (by kernel_rfl) (by kernel_rfl) (fun _ _ _ h => h) (.inl ⟨rfl, fun w' hS => ?t3⟩) hS0 ?_
      case t3 =>
        go_simp
      refine wpAnyH_take (i := 4) (v := .pointer (some ⟨sb, so + i * 5, none⟩)) rfl (by kernel_rfl) (by kernel_rfl) (by kernel_rfl) (fun _ _ _ h => h) (.inl ⟨rfl, fun w' hS => ?t4⟩) hS0 ?_
      case t4 =>
        go_simp
      refine wpAnyH_take (i := 5) (v := .agg #[.int .i64 kd, .int .i64 nn, .int .i64 aa, .int .i64 bb, .slice LA Lp.length lcp]) rfl (by kernel_rfl) (by kernel_rfl) (by kernel_rfl) (fun _ _ _ h => h) (.inl ⟨rfl, fun w' hS => ?t5⟩) hS0 ?_
      case t5 =>
        obtain ⟨m0, m1, m2, m3, m4⟩ := hact w' hS
        go_simp
      simp only [Act.put, List.setIfInBounds_toArray, List.set_cons_zero, List.set_cons_succ]
      refine wpAnyH_all (rs := [6, 10]) (by kernel_rfl) (by simp) (fun j' hj' => ?_)
      rw [List.mem_cons, List.mem_singleton] at hj'
      rcases hj' with rfl | rfl
      · have hW : New wr wr.drew := (Fr.refl _ _).drew
        refine wpOp_step rfl (fun K hK => ?_)
        go_simp
        refine (do_any (hB.new_ hW) (hM.new_ hW) hbd hi150 ((hpk.new_ hN).new_ hW) rfl hfc (fun ad e hz => ⟨(hLA ad e hz).1, Nat.lt_of_lt_of_le (hLA ad e hz).2 (Nat.le_trans hNs hW.size)⟩) hLw wa wb).mono ?_
        rintro e W4 ⟨mv', s', X2, rfl, hB4, hM4, f4, hX4, hbd4⟩
        have hf4 : Fr X' wr W4 := hS0.trans f4 fun _ _ h => h
        have hX5 : ∀ k, X2 k → X' k ∨ wr.heap.size ≤ k := fun k hk => hX4 k hk
        obtain ⟨F1, q1, z1, F2, q2, z2, F3, q3, z3, hcs4, rfl, rfl⟩ := hM4.form
        subst hcs4
        refine hK _ _ ⟨hf4, ?_⟩
        clear hK K
        refine wpAnyH_take (i := 7) (v := .tuple #[.agg #[.slice F1 s'.l.length z1, .slice F2 s'.w.length z2, .slice F3 q3 z3, .int .i64 s'.sent, .int .i64 s'.lost], .bool true]) rfl (by kernel_rfl) (by kernel_rfl) (by kernel_rfl) (fun _ _ _ h => h) (.inl ⟨rfl, fun w' hS => ?t7⟩) hf4 ?_
        case t7 =>
          go_simp
        refine wpAnyH_take (i := 8) (v := .agg #[.slice F1 s'.l.length z1, .slice F2 s'.w.length z2, .slice F3 q3 z3, .int .i64 s'.sent, .int .i64 s'.lost]) rfl (by kernel_rfl) (by kernel_rfl) (by kernel_rfl) (fun _ _ _ h => h) (.inl ⟨rfl, fun w' hS => ?t8⟩) hf4 ?_
        case t8 =>
          go_simp
        refine wpAnyH_take (i := 9) (v := .bool true) rfl (by kernel_rfl) (by kernel_rfl) (by kernel_rfl) (fun _ _ _ h => h) (.inl ⟨rfl, fun w' hS => ?t9⟩) hf4 ?_
        case t9 =>
          go_simp
        refine wpAnyH_all (rs := [10]) (by kernel_rfl) (by simp) (fun j' hj' => ?_)
        rw [List.mem_singleton] at hj'
        subst hj'
        refine wpOp_step rfl (fun K hK => ?_)
        go_simp
        refine hK _ _ ⟨hf4.alloc _, ?_⟩
        clear hK K
        have hf5 : Fr X' wr (W4.alloc (.cells zMod 43)) := hf4.alloc _
        have g5 : New W4 (W4.alloc (.cells zMod 43)) := (Fr.refl _ _).alloc _
        have b6 := Own.fresh W4 43 zMod
        have hB5 := hB4.new_ g5
        have hM5 := hM4.new_ g5
        have hX6 : ∀ k, X2 k → k ≠ W4.heap.size := fun k hk e => by have := hB4.lt hk; omega
        have hW4s := hf4.size
        obtain ⟨b9, hb9⟩ : ∃ b9, b9 = W4.heap.size := ⟨_, rfl⟩
        rw [← hb9] at b6 hX6
        have h9 : wr.heap.size ≤ b9 := by omega
        obtain ⟨W5, hW5⟩ : ∃ W5, W5 = W4.alloc (.cells zMod 43) := ⟨_, rfl⟩
        rw [← hW5] at hf5 b6 hB5 hM5
        try simp only [Act.put, List.setIfInBounds_toArray, List.set_cons_zero, List.set_cons_succ]
        rw [← hb9, show W4.alloc (.cells #[.slice none 0 0, .slice none 0 0, .slice none 0 0, .int .i64 0, .int .i64 0] 43) = W5 from hW5.symm]
        clear hW5 hb9 g5 hB4 hM4 f4 hX4 hW4s hW
        refine wpAnyH_all (rs := [11]) (by kernel_rfl) (by simp) (fun j' hj' => ?_)
        rw [List.mem_singleton] at hj'
        subst hj'
        refine wpOp_step rfl (fun K hK => ?_)
        obtain ⟨⟨r0, r1, r2, r3, r4⟩, y0, y1, y2, y3, y4⟩ := own5 b6
        obtain ⟨br3, g2⟩ := b6.put5 (.slice F1 s'.l.length z1) (.slice F2 s'.w.length z2) (.slice F3 q3 z3) (.int .i64 s'.sent) (.int .i64 s'.lost)
        have hf6 := hf5.trans g2 fun k hk e => by omega
        have hbm6 := ((bm.fr hf5 hbX).fr g2 (by omega))
        have hB6 := hB5.fr g2 hX6
        have hM6 := hM5.box b6 g2
        have HS2 := Lib.hid hf6
        have HBR := Lib.hid (And.intro br3 (And.intro hbm6 (And.intro hB6 hM6)))
        clear br3 g2 hf6 hbm6 hB6 hM6
        go_simp
        refine hK _ _ ⟨HS2.out, ?_⟩
        clear hK K
        refine wpAnyH_take (i := 12) (v := .bool true) rfl (by kernel_rfl) (by kernel_rfl) (by kernel_rfl) (fun _ _ _ h => h) (.inl ⟨rfl, fun w' hS => ?t12⟩) HS2.out ?_
        case t12 =>
          go_simp
        refine wpAnyH_done (by kernel_rfl) ?_ _
        clear r0 r1 r2 r3 r4 y0 y1 y2 y3 y4
        have hf6 := HS2.out
        obtain ⟨br3, hbm6, hB6, hM6⟩ := HBR.out
        generalize hW6 : World.setCell _ _ _ = W6 at br3 hbm6 hB6 hM6 hf6 ⊢
        clear hW6 HBR HS2
        have hXn : ∀ k, X2 k → w.heap.size ≤ k ∧ k ≠ bM := fun k hk => by
          rcases hX5 k hk with h | h
          · exact hX0 k h
          · exact ⟨by omega, by omega⟩
        have hN6 : New w W6 := hN.trans hf6 fun k hk hx => by have := (hX0 _ hx).1; omega
        obtain ⟨⟨r0, r1, r2, r3, r4⟩, y0, y1, y2, y3, y4⟩ := own5 br3
        obtain ⟨⟨s0, s1, s2, s3, s4⟩, u0, u1, u2, u3, u4⟩ := own5 hbm6
        obtain ⟨bm7, g7⟩ := hbm6.put5 (.slice F1 s'.l.length z1) (.slice F2 s'.w.length z2) (.slice F3 q3 z3) (.int .i64 s'.sent) (.int .i64 s'.lost)
        have hB7 := hB6.fr g7 (fun k hk e => (hXn k hk).2 e)
        have hM7 := hM6.box hbm6 g7
        have hN7 := hN6.trans g7 fun k hk e => by omega
        have HBR := Lib.hid (And.intro bm7 (And.intro hB7 (And.intro hM7 (And.intro hN7 (And.intro hXn hbd4)))))
        clear br3 hbm6 hB6 hM6 hf6 hXn hN6 bm7 g7 hB7 hM7 hN7 hbd4 hB hM bm hN hX0 hbd hsl hle hact hmc hf5 hX5 hX6 b6 hB5 hM5 hpk hLw hLA hlk
        go_wp2_with fail
        obtain ⟨bm7, hB7, hM7, hN7, hXn, hbd4⟩ := HBR.out
        clear HBR r0 r1 r2 r3 r4 y0 y1 y2 y3 y4 s0 s1 s2 s3 s4 u0 u1 u2 u3 u4
        generalize hW7 : World.setCell _ _ _ = W7 at bm7 hB7 hM7 hN7 ⊢
        clear hW7
        have hbd5 := hbd4
        obtain ⟨q1, q2, q3', q4⟩ := hbd4
        refine (same_any hB7 hM7 (by omega) (by omega) (by omega) (by omega)).mono ?_
        rintro e W8 ⟨rfl, g8⟩
        have HR8 := Lib.hid (And.intro (hB7.new_ g8) (And.intro (hM7.new_ g8) (And.intro (bm7.new_ g8) (And.intro (hN7.new_ g8) (And.intro hXn hbd5)))))
        clear bm7 hB7 hM7 hN7 hXn q1 q2 q3' q4 hbd5 g8
        go_wp2_with fail
        refine ⟨⟨i + 1, X2, s', _, by simp, by omega, by omega, Lib.hid ⟨HR8.out.1, HR8.out.2.1, HR8.out.2.2.1, HR8.out.2.2.2.1, HR8.out.2.2.2.2.1, HR8.out.2.2.2.2.2⟩⟩, ?_⟩
        have e1 : (intOf (Value.int IntKind.i64 ((i : Int) + 1))).toNat = i + 1 := by
          show ((i : Int) + 1).toNat = i + 1
          omega
        have e2 : (intOf (Value.int IntKind.i64 (i : Int))).toNat = i := by
          show (i : Int).toNat = i
          omega
        rw [e1, e2]
        omega
      · refine wpOp_step rfl (fun K hK => ?_)
        go_simp
        have hW : New wr (wr.drew.alloc (.cells zMod 43)) := ((Fr.refl _ _).drew).alloc _
        have hfW : Fr X' wr (wr.drew.alloc (.cells zMod 43)) := ((Fr.refl _ _).drew).alloc _
        have b5 : Own (wr.drew.alloc (.cells zMod 43)) wr.heap.size 43 zMod := Own.fresh wr.drew _ _
        refine hK _ _ ⟨hfW, ?_⟩
        clear hK K
        have hWs : (wr.drew.alloc (.cells zMod 43)).heap.size = wr.heap.size + 1 := by simp
        obtain ⟨b9, hb9⟩ : ∃ b9, b9 = wr.heap.size := ⟨_, rfl⟩
        rw [← hb9] at b5 hWs
        have h9 : wr.heap.size ≤ b9 := Nat.le_of_eq hb9.symm
        obtain ⟨W0, hW0⟩ : ∃ W0, W0 = wr.drew.alloc (.cells zMod 43) := ⟨_, rfl⟩
        rw [← hW0] at hW hfW b5 hWs
        try simp only [Act.put, List.setIfInBounds_toArray, List.set_cons_zero, List.set_cons_succ]
        rw [← hb9, show (wr.alloc (.cells #[.slice none 0 0, .slice none 0 0, .slice none 0 0, .int .i64 0, .int .i64 0] 43)).drew = W0 from hW0.symm]
        clear hW0 hb9
        refine wpAnyH_all (rs := [6]) (by kernel_rfl) (by simp) (fun j' hj' => ?_)
        rw [List.mem_singleton] at hj'
        subst hj'
        refine wpOp_step rfl (fun K hK => ?_)
        go_simp
        refine (do_any (hB.new_ hW) (hM.new_ hW) hbd hi150 ((hpk.new_ hN).new_ hW) rfl hfc (fun ad e hz => ⟨(hLA ad e hz).1, Nat.lt_of_lt_of_le (hLA ad e hz).2 (Nat.le_trans hNs hW.size)⟩) hLw wa wb).mono ?_
        rintro e W5 ⟨mv', s', X2, rfl, hB5, hM5, f4, hX4, hbd4⟩
        have hf5 : Fr X' wr W5 := hfW.trans f4 fun _ _ h => h
        have hX5 : ∀ k, X2 k → X' k ∨ wr.heap.size ≤ k := fun k hk => by
          rcases hX4 k hk with h | h
          · exact .inl h
          · exact .inr (by omega)
        have hX6 : ∀ k, X2 k → k ≠ b9 := fun k hk e => by
          rcases hX4 k hk with h | h
          · have := hlk k h; omega
          · omega
        have b6 := b5.fr f4 (fun hx => by have := hlk _ hx; omega)
        obtain ⟨F1, q1, z1, F2, q2, z2, F3, q3, z3, hcs4, rfl, rfl⟩ := hM5.form
        subst hcs4
        refine hK _ _ ⟨hf5, ?_⟩
        clear hK K
        refine wpAnyH_take (i := 7) (v := .tuple #[.agg #[.slice F1 s'.l.length z1, .slice F2 s'.w.length z2, .slice F3 q3 z3, .int .i64 s'.sent, .int .i64 s'.lost], .bool true]) rfl (by kernel_rfl) (by kernel_rfl) (by kernel_rfl) (fun _ _ _ h => h) (.inl ⟨rfl, fun w' hS => ?t7⟩) hf5 ?_
        case t7 =>
          go_simp
        refine wpAnyH_take (i := 8) (v := .agg #[.slice F1 s'.l.length z1, .slice F2 s'.w.length z2, .slice F3 q3 z3, .int .i64 s'.sent, .int .i64 s'.lost]) rfl (by kernel_rfl) (by kernel_rfl) (by kernel_rfl) (fun _ _ _ h => h) (.inl ⟨rfl, fun w' hS => ?t8⟩) hf5 ?_
        case t8 =>
          go_simp
        refine wpAnyH_take (i := 9) (v := .bool true) rfl (by kernel_rfl) (by kernel_rfl) (by kernel_rfl) (fun _ _ _ h => h) (.inl ⟨rfl, fun w' hS => ?t9⟩) hf5 ?_
        case t9 =>
          go_simp
        try simp only [Act.put, List.setIfInBounds_toArray, List.set_cons_zero, List.set_cons_succ]
        clear f4 hX4 b5 hWs hfW hW
        refine wpAnyH_all (rs := [11]) (by kernel_rfl) (by simp) (fun j' hj' => ?_)
        rw [List.mem_singleton] at hj'
        subst hj'
        refine wpOp_step rfl (fun K hK => ?_)
        obtain ⟨⟨r0, r1, r2, r3, r4⟩, y0, y1, y2, y3, y4⟩ := own5 b6
        obtain ⟨br3, g2⟩ := b6.put5 (.slice F1 s'.l.length z1) (.slice F2 s'.w.length z2) (.slice F3 q3 z3) (.int .i64 s'.sent) (.int .i64 s'.lost)
        have hf6 := hf5.trans g2 fun k hk e => by omega
        have hbm6 := ((bm.fr hf5 hbX).fr g2 (by omega))
        have hB6 := hB5.fr g2 hX6
        have hM6 := hM5.box b6 g2
        have HS2 := Lib.hid hf6
        have HBR := Lib.hid (And.intro br3 (And.intro hbm6 (And.intro hB6 hM6)))
        clear br3 g2 hf6 hbm6 hB6 hM6
        go_simp
        refine hK _ _ ⟨HS2.out, ?_⟩
        clear hK K
        refine wpAnyH_take (i := 12) (v := .bool true) rfl (by kernel_rfl) (by kernel_rfl) (by kernel_rfl) (fun _ _ _ h => h) (.inl ⟨rfl, fun w' hS => ?t12⟩) HS2.out ?_
        case t12 =>
          go_simp
        refine wpAnyH_done (by kernel_rfl) ?_ _
        clear r0 r1 r2 r3 r4 y0 y1 y2 y3 y4
        have hf6 := HS2.out
        obtain ⟨br3, hbm6, hB6, hM6⟩ := HBR.out
        generalize hW6 : World.setCell _ _ _ = W6 at br3 hbm6 hB6 hM6 hf6 ⊢
        clear hW6 HBR HS2
        have hXn : ∀ k, X2 k → w.heap.size ≤ k ∧ k ≠ bM := fun k hk => by
          rcases hX5 k hk with h | h
          · exact hX0 k h
          · exact ⟨by omega, by omega⟩
        have hN6 : New w W6 := hN.trans hf6 fun k hk hx => by have := (hX0 _ hx).1; omega
        obtain ⟨⟨r0, r1, r2, r3, r4⟩, y0, y1, y2, y3, y4⟩ := own5 br3
        obtain ⟨⟨s0, s1, s2, s3, s4⟩, u0, u1, u2, u3, u4⟩ := own5 hbm6
        obtain ⟨bm7, g7⟩ := hbm6.put5 (.slice F1 s'.l.length z1) (.slice F2 s'.w.length z2) (.slice F3 q3 z3) (.int .i64 s'.sent) (.int .i64 s'.lost)
        have hB7 := hB6.fr g7 (fun k hk e => (hXn k hk).2 e)
        have hM7 := hM6.box hbm6 g7
        have hN7 := hN6.trans g7 fun k hk e => by omega
        have HBR := Lib.hid (And.intro bm7 (And.intro hB7 (And.intro hM7 (And.intro hN7 (And.intro hXn hbd4)))))
        clear br3 hbm6 hB6 hM6 hf6 hXn hN6 bm7 g7 hB7 hM7 hN7 hbd4 hB hM bm hN hX0 hbd hsl hle hact hmc hf5 hX5 hX6 b6 hB5 hM5 hpk hLw hLA hlk
        go_wp2_with fail
        obtain ⟨bm7, hB7, hM7, hN7, hXn, hbd4⟩ := HBR.out
        clear HBR r0 r1 r2 r3 r4 y0 y1 y2 y3 y4 s0 s1 s2 s3 s4 u0 u1 u2 u3 u4
        generalize hW7 : World.setCell _ _ _ = W7 at bm7 hB7 hM7 hN7 ⊢
        clear hW7
        have hbd5 := hbd4
        obtain ⟨q1, q2, q3', q4⟩ := hbd4
        refine (same_any hB7 hM7 (by omega) (by omega) (by omega) (by omega)).mono ?_
        rintro e W8 ⟨rfl, g8⟩
        have HR8 := Lib.hid (And.intro (hB7.new_ g8) (And.intro (hM7.new_ g8) (And.intro (bm7.new_ g8) (And.intro (hN7.new_ g8) (And.intro hXn hbd5)))))
        clear bm7 hB7 hM7 hN7 hXn q1 q2 q3' q4 hbd5 g8
        go_wp2_with fail
        refine ⟨⟨i + 1, X2, s', _, by simp, by omega, by omega, Lib.hid ⟨HR8.out.1, HR8.out.2.1, HR8.out.2.2.1, HR8.out.2.2.2.1, HR8.out.2.2.2.2.1, HR8.out.2.2.2.2.2⟩⟩, ?_⟩
        have e1 : (intOf (Value.int IntKind.i64 ((i : Int) + 1))).toNat = i + 1 := by
          show ((i : Int) + 1).toNat = i + 1
          omega
        have e2 : (intOf (Value.int IntKind.i64 (i : Int))).toNat = i := by
          show (i : Int).toNat = i
          omega
        rw [e1, e2]
        omega
    · obtain ⟨hB, hM, bm, hN, hX0, hbd⟩ := HR.out
      have HN := Lib.hid hN
      have hge : ¬ ((i : Int) < (len : Int) ∧ (i : Int) < 150) := by omega
      clear hB hM bm hN hX0 hbd HR
      rcases Nat.lt_or_ge i len with h1 | h1
      · have h1' : (i : Int) < (len : Int) := by omega
        have h2' : ¬ (i : Int) < 150 := by omega
        clear hge hlt
        go_wp2_with fail
        refine awake_any.mono ?_
        rintro e W9 ⟨rfl, g9⟩
        have HN9 := Lib.hid (HN.out.new_ g9)
        clear g9
        go_wp2_with fail
        go_ret
        exact ⟨rfl, HN9.out⟩
      · have h1' : ¬ (i : Int) < (len : Int) := by omega
        clear hge hlt
        go_wp2_with fail
        refine awake_any.mono ?_
        rintro e W9 ⟨rfl, g9⟩
        have HN9 := Lib.hid (HN.out.new_ g9)
        clear g9
        go_wp2_with fail
        go_ret
        exact ⟨rfl, HN9.out⟩
theorem netPlays_walk {w : World} (l : ESl EAct) (hl : ESl47.facts w l) : Calls Try.prog 5 #[.slice l.adr l.len l.cap] w fun e W => e = .returned (.bool true) ∧ New w W := netPlays_core hl
end Go.Proofs.Ytleagdnlgjpcgaa
