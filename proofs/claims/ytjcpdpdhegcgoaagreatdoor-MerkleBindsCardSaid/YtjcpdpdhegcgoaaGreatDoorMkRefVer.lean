/- The reference's answer whether a share shows its chunk. -/
import Derived.Test.YtjcpdpdhegcgoaaGreatDoorMkClimb
import Derived.Test.YtjcpdpdhegcgoaaGreatDoorMkNamed
namespace Go.Proofs.YtjcpdpdhegcgoaaGreatDoor
open Go.RowKit
set_option linter.unusedVariables false
set_option linter.unusedSimpArgs false

/-- One operation that may come up comes up; its slot is told. -/
theorem wpAnyH_takeD {P : Program} {md : Region.Mode} {ops : Array Oper} {Q : Exit → Act → World → Prop} {S : World → Prop} {i : Nat} {oi : Oper} {d : Option Tmp} {v : Value} {fuel : Nat} {listed : Array Bool} {a : Act} {w : World} (hi : ops[i]? = some oi) (hd : oi.dst = d)
    (hs : Region.noSelect ops = true) (hf : Region.free md ops listed i = true) (hr : (Region.ready md ops listed).contains i = true)
    (hQ : ∀ c a w, Q (.panic c) (a.put oi.dst v) w → Q (.panic c) a w) (hy : YieldsIf P ops S oi v a) (hS : S w)
    (h : wpAnyH P md ops Q S fuel (listed.setIfInBounds i true) (a.put d v) w) : wpAnyH P md ops Q S (fuel + 1) listed a w := by
  subst hd
  exact wpAnyH_take hi hs hf hr hQ hy hS h

/-- Whether a share shows its chunk: its number. -/
def verB (D : ByteArray) (z n i : Int) (c : ByteArray) (p : List ByteArray) : Int :=
  if n < 1 ∨ 256 < n ∨ i < 0 ∨ n ≤ i ∨ z < n ∨ 512 * n < z ∨ 8192 < z ∨ c.size = 0 ∨ 512 < c.size then 1
  else match upB (digB c) i.toNat n.toNat p with
    | some u => if D = fileB z.toNat n.toNat u then 0 else 90
    | none => 90
theorem verB_long {D : ByteArray} {z n i : Int} {c : ByteArray} {p : List ByteArray} (hp : 9 ≤ p.length) (hg : ¬ (n < 1 ∨ 256 < n ∨ i < 0 ∨ n ≤ i ∨ z < n ∨ 512 * n < z ∨ 8192 < z ∨ c.size = 0 ∨ 512 < c.size)) : verB D z n i c p = 90 := by
  unfold verB
  rw [if_neg hg]
  cases hu : upB (digB c) i.toNat n.toNat p with
  | none => rfl
  | some u =>
    have := upB_short 8 (digB c) i.toNat n.toNat p u (by omega) (by omega) hu
    omega
theorem verB_cut (D : ByteArray) (z n i : Int) (c : ByteArray) (p : List ByteArray) (k : Nat) (hk : 9 ≤ k) : verB D z n i c (p.take k) = verB D z n i c p := by
  rcases Nat.lt_or_ge k p.length with h | h
  · by_cases hg : n < 1 ∨ 256 < n ∨ i < 0 ∨ n ≤ i ∨ z < n ∨ 512 * n < z ∨ 8192 < z ∨ c.size = 0 ∨ 512 < c.size
    · unfold verB
      rw [if_pos hg, if_pos hg]
    · rw [verB_long (by simp only [List.length_take]; omega) hg, verB_long (by omega) hg]
  · rw [List.take_of_length_le h]
set_option maxRecDepth 100000 in
set_option maxHeartbeats 16000000 in
theorem refup_any : ∀ (m : Nat) (h : ByteArray) (i n : Nat) (P : Option Addr) (q cap : Nat) (p : List ByteArray) (w : World), n ≤ m → 1 ≤ n → n ≤ 1000 → i ≤ 1000 → h.size = 32 → SlT w P q p → q ≤ cap → cap ≤ maxLen →
    Calls Tryz.prog 44 #[.string h, .int .i64 i, .int .i64 n, .slice P q cap] w fun e W => ∃ r ok, e = .returned (.tuple #[.string r, .bool ok]) ∧ r.size ≤ 32 ∧ upB h i n p = (if ok = true then some r else none) ∧ New w W := by
  intro m
  induction m with
  | zero => intro h i n P q cap p w hm h1; omega
  | succ m ih =>
    intro h i n P q cap p w hm h1 hn hi hz hl hc hc2
    have hql := hl.1
    have hmx : cap ≤ 9223372036854775807 := hc2
    have hqm : (q : Int) ≤ 9223372036854775807 := by omega
    by_cases hn1 : n = 1
    · subst hn1
      have HZ := Lib.hid hz
      have HU := Lib.hid (upB_one h i p)
      have HQ := Lib.hid hql
      clear hql hz
      by_cases hq0 : q = 0
      · subst hq0
        go_enter Tryz.func44, Tryz.ntmps44
        go_wp2_with fail
        go_ret2
        refine ⟨h, true, rfl, by have := HZ.out; omega, ?_, Fr.refl _ _⟩
        rw [HU.out, if_pos (by have := HQ.out; omega)]
        rfl
      · have hq0' : ¬ (q : Int) = 0 := by omega
        go_enter Tryz.func44, Tryz.ntmps44
        go_wp2_with fail
        go_ret2
        refine ⟨h, _, rfl, by have := HZ.out; omega, ?_, Fr.refl _ _⟩
        have hqb : ((q : Int) == 0) = false := by rw [beq_eq_false_iff_ne]; exact hq0'
        rw [HU.out, if_neg (by have := HQ.out; omega), hqb]
        rfl
    have hn2 : ¬ (n : Int) = 1 := by omega
    have hu := upB_step h i n p (by omega)
    by_cases hq0 : q = 0
    · subst hq0
      rw [if_pos hql.symm] at hu
      have HU := Lib.hid hu
      clear hql hu
      go_enter Tryz.func44, Tryz.ntmps44
      go_wp2_with fail
      go_ret2
      exact ⟨.empty, false, rfl, by decide, HU.out, Fr.refl _ _⟩
    have hqz : ¬ (q : Int) = 0 := by omega
    obtain ⟨b, o, hA, hc0⟩ := hl.2.2 (q - 1) (by omega)
    subst hA
    have c0 := hc0 0 _ rfl
    simp only [Nat.mul_one, Nat.add_zero] at c0
    obtain ⟨x, hx⟩ : ∃ x, x = p.getD (q - 1) .empty := ⟨_, rfl⟩
    rw [← hx] at c0
    rw [if_neg (by omega), ← hql, ← hx] at hu
    obtain ⟨q', hq'⟩ : ∃ q', q' = q - 1 := ⟨q - 1, rfl⟩
    rw [← hq'] at c0 hu
    have hqi : (q : Int) - 1 = (q' : Int) := by omega
    have hqq : (q' : Int) < (q : Int) := by omega
    have hqc : (q' : Int) ≤ (cap : Int) := by omega
    clear hx hc0
    by_cases hx32 : x.size = 32
    case neg =>
      have hx32' : ¬ (x.size : Int) = 32 := by omega
      have hx32b : ((x.size : Int) != 32) = true := bne_iff_ne.2 hx32'
      rw [if_neg hx32] at hu
      have HU := Lib.hid hu
      clear hu hq' hql hqz hx32
      have hqz : ¬ (q : Int) = 0 := by omega
      go_enter Tryz.func44, Tryz.ntmps44
      go_wp2_with fail
      go_ret2
      exact ⟨.empty, false, rfl, by decide, HU.out, Fr.refl _ _⟩
    rw [if_pos hx32] at hu
    have hx32' : (x.size : Int) = 32 := by omega
    have hs := splitN_lt (n := n) (by omega)
    have S1 := Lib.hid fun (w : World) => refcut_any n (by omega) w
    obtain ⟨k, hk⟩ : ∃ k, k = splitN n := ⟨_, rfl⟩
    rw [← hk] at S1 hs hu
    have hn3 : (n : Int) ≤ 1000 := by omega
    have hi3 : (i : Int) ≤ 1000 := by omega
    have hkn : (k : Int) < (n : Int) := by omega
    have hT : SlT w (some ⟨b, o, none⟩) q' (p.take q') := hl.take (by omega)
    have HT := Lib.hid hT
    have HK := Lib.hid hs
    have HX := Lib.hid hx32
    clear hk hql hl hq' hx32 hT hq0
    by_cases hik : i < k
    · have hik' : (i : Int) < (k : Int) := by omega
      rw [if_pos hik] at hu
      have HU := Lib.hid hu
      have IH := Lib.hid fun (w' : World) (f : New w w') => ih h i k (some ⟨b, o, none⟩) q' cap (p.take q') w' (by omega) (by omega) (by omega) (by omega) hz (HT.out.new_ f) (by omega) hc2
      clear ih hu hik hz
      go_enter Tryz.func44, Tryz.ntmps44
      go_wp2_with fail
      refine (S1.out _).mono ?_
      rintro e w1 ⟨rfl, rfl⟩
      go_wp2_with fail
      refine (IH.out _ (Fr.refl _ _)).mono ?_
      rintro e w2 ⟨r, ok, rfl, hr, hup, n2⟩
      have H2 := Lib.hid (And.intro hr (And.intro hup n2))
      clear hr hup n2 c0
      go_wp2_with fail
      refine (refTagged_any 74 _ 2 2 (fun i => if i = 0 then r else x) _ (sl_two' (Own.fresh _ _ _)) (by omega) (fun j _ => by split; (focus (have := H2.out.1; omega)); (have := HX.out; omega))).mono ?_
      rintro e w4 ⟨rfl, n4⟩
      have N4 := Lib.hid ((H2.out.2.2.alloc _).new_ n4)
      clear n4
      go_wp2_with fail
      go_ret2
      refine ⟨_, ok, rfl, Nat.le_of_eq (shaB_size _), ?_, N4.out⟩
      rw [HU.out, H2.out.2.1]
      cases ok <;> rfl
    · have hik' : ¬ (i : Int) < (k : Int) := by omega
      rw [if_neg hik] at hu
      obtain ⟨j, hj⟩ : ∃ j, j = i - k := ⟨_, rfl⟩
      obtain ⟨n', hn'⟩ : ∃ n', n' = n - k := ⟨_, rfl⟩
      rw [← hj, ← hn'] at hu
      have hji : (i : Int) - (k : Int) = (j : Int) := by omega
      have hni : (n : Int) - (k : Int) = (n' : Int) := by omega
      have HU := Lib.hid hu
      have IH := Lib.hid fun (w' : World) (f : New w w') => ih h j n' (some ⟨b, o, none⟩) q' cap (p.take q') w' (by omega) (by omega) (by omega) (by omega) hz (HT.out.new_ f) (by omega) hc2
      clear ih hu hik hj hn' hz
      go_enter Tryz.func44, Tryz.ntmps44
      go_wp2_with fail
      refine (S1.out _).mono ?_
      rintro e w1 ⟨rfl, rfl⟩
      go_wp2_with fail
      refine (IH.out _ (Fr.refl _ _)).mono ?_
      rintro e w2 ⟨r, ok, rfl, hr, hup, n2⟩
      have H2 := Lib.hid (And.intro hr (And.intro hup n2))
      clear hr hup n2 c0
      go_wp2_with fail
      refine (refTagged_any 74 _ 2 2 (fun i => if i = 0 then x else r) _ (sl_two' (Own.fresh _ _ _)) (by omega) (fun j _ => by split; (focus (have := HX.out; omega)); (have := H2.out.1; omega))).mono ?_
      rintro e w4 ⟨rfl, n4⟩
      have N4 := Lib.hid ((H2.out.2.2.alloc _).new_ n4)
      clear n4
      go_wp2_with fail
      go_ret2
      refine ⟨_, ok, rfl, Nat.le_of_eq (shaB_size _), ?_, N4.out⟩
      rw [HU.out, H2.out.2.1]
      cases ok <;> rfl
set_option maxRecDepth 100000 in
set_option maxHeartbeats 2000000 in
theorem refverify_any {D c : ByteArray} {z n i : Int} {P : Option Addr} {q cap : Nat} {p : List ByteArray} {w : World} (hl : SlT w P q p) (hqc : q ≤ cap) (hcm : cap ≤ maxLen) (hq : q ≤ 21) (hcs : c.size ≤ maxLen) (hz : (Lit.int .i64 z).wf = true) (hn : (Lit.int .i64 n).wf = true) (hi : (Lit.int .i64 i).wf = true) :
    Calls Tryz.prog 13 #[.agg #[.string D, .int .i64 z, .int .i64 n, .int .i64 i, .string c, .slice P q cap]] w fun e W => e = .returned (.int .i64 (verB D z n i c p)) ∧ New w W := by
  by_cases g0 : n < 1
  · have hb : verB D z n i c p = 1 := by unfold verB; rw [if_pos (.inl g0)]
    have HB := Lib.hid hb
    clear hb
    go_enter Tryz.func13, Tryz.ntmps13
    go_wp2_with fail
    go_ret
    exact ⟨by rw [HB.out]; rfl, (Fr.refl _ _).alloc _⟩
  by_cases g1 : 256 < n
  · have hb : verB D z n i c p = 1 := by unfold verB; rw [if_pos (.inr (.inl g1))]
    have HB := Lib.hid hb
    clear hb
    go_enter Tryz.func13, Tryz.ntmps13
    go_wp2_with fail
    go_ret
    exact ⟨by rw [HB.out]; rfl, (Fr.refl _ _).alloc _⟩
  by_cases g2 : i < 0
  · have hb : verB D z n i c p = 1 := by unfold verB; rw [if_pos (.inr (.inr (.inl g2)))]
    have HB := Lib.hid hb
    clear hb
    go_enter Tryz.func13, Tryz.ntmps13
    go_wp2_with fail
    go_ret
    exact ⟨by rw [HB.out]; rfl, (Fr.refl _ _).alloc _⟩
  by_cases g3 : n ≤ i
  · have hb : verB D z n i c p = 1 := by unfold verB; rw [if_pos (.inr (.inr (.inr (.inl g3))))]
    have HB := Lib.hid hb
    clear hb
    go_enter Tryz.func13, Tryz.ntmps13
    go_wp2_with fail
    go_ret
    exact ⟨by rw [HB.out]; rfl, (Fr.refl _ _).alloc _⟩
  by_cases g4 : z < n
  · have hb : verB D z n i c p = 1 := by unfold verB; rw [if_pos (.inr (.inr (.inr (.inr (.inl g4)))))]
    have HB := Lib.hid hb
    clear hb
    go_enter Tryz.func13, Tryz.ntmps13
    go_wp2_with fail
    go_ret
    exact ⟨by rw [HB.out]; rfl, (Fr.refl _ _).alloc _⟩
  by_cases g5 : 512 * n < z
  · have hb : verB D z n i c p = 1 := by unfold verB; rw [if_pos (.inr (.inr (.inr (.inr (.inr (.inl g5))))))]
    have e5 : n * 512 < z := by omega
    have HB := Lib.hid hb
    clear hb
    go_enter Tryz.func13, Tryz.ntmps13
    go_wp2_with fail
    go_ret
    exact ⟨by rw [HB.out]; rfl, (Fr.refl _ _).alloc _⟩
  have e5 : ¬ n * 512 < z := by omega
  by_cases g6 : 8192 < z
  · have hb : verB D z n i c p = 1 := by unfold verB; rw [if_pos (.inr (.inr (.inr (.inr (.inr (.inr (.inl g6)))))))]
    have HB := Lib.hid hb
    clear hb
    go_enter Tryz.func13, Tryz.ntmps13
    go_wp2_with fail
    go_ret
    exact ⟨by rw [HB.out]; rfl, (Fr.refl _ _).alloc _⟩
  by_cases g7 : c.size = 0
  · have hb : verB D z n i c p = 1 := by unfold verB; rw [if_pos (.inr (.inr (.inr (.inr (.inr (.inr (.inr (.inl g7))))))))]
    have e7 : (c.size : Int) < 1 := by omega
    have f7 : c.toList = [] := by rw [txt_none g7]; exact txt_nil
    have HB := Lib.hid hb
    clear hb
    go_enter Tryz.func13, Tryz.ntmps13
    go_wp2_with fail
    go_ret
    exact ⟨by rw [HB.out]; rfl, (Fr.refl _ _).alloc _⟩
  have e7 : ¬ (c.size : Int) < 1 := by omega
  have k7 : c.toList.isEmpty = false := by rw [txt_empty]; exact decide_eq_false g7
  have f7 : ¬ c.toList = [] := fun e => g7 (by rw [txt_inj (e.trans txt_nil.symm)]; rfl)
  by_cases g8 : 512 < c.size
  · have hb : verB D z n i c p = 1 := by unfold verB; rw [if_pos (.inr (.inr (.inr (.inr (.inr (.inr (.inr (.inr (g8)))))))))]
    have e8 : (512 : Int) < (c.size : Int) := by omega
    have HB := Lib.hid hb
    clear hb
    go_enter Tryz.func13, Tryz.ntmps13
    go_wp2_with fail
    go_ret
    exact ⟨by rw [HB.out]; rfl, (Fr.refl _ _).alloc _⟩
  have e8 : ¬ (512 : Int) < (c.size : Int) := by omega
  have hg : ¬ (n < 1 ∨ 256 < n ∨ i < 0 ∨ n ≤ i ∨ z < n ∨ 512 * n < z ∨ 8192 < z ∨ c.size = 0 ∨ 512 < c.size) := by omega
  obtain ⟨n', rfl⟩ := Int.eq_ofNat_of_zero_le (show 0 ≤ n by omega)
  obtain ⟨i', rfl⟩ := Int.eq_ofNat_of_zero_le (show 0 ≤ i by omega)
  obtain ⟨z', rfl⟩ := Int.eq_ofNat_of_zero_le (show 0 ≤ z by omega)
  by_cases h20 : 20 < q
  · have hb := verB_long (D := D) (z := (z' : Int)) (n := (n' : Int)) (i := (i' : Int)) (c := c) (p := p) (by have := hl.1; omega) hg
    have HB := Lib.hid hb
    have h20' : (20 : Int) < (q : Int) := by omega
    clear hb hg h20
    go_enter Tryz.func13, Tryz.ntmps13
    go_wp2_with fail
    go_ret
    exact ⟨by rw [HB.out]; rfl, (Fr.refl _ _).alloc _⟩
  have h20' : ¬ (20 : Int) < (q : Int) := by omega
  have UP := Lib.hid fun (w : World) (f : SlT w P q p) => refup_any n' (digB c) i' n' P q cap p w (Nat.le_refl _) (by omega) (by omega) (by omega) (digB_size c) f hqc hcm
  have MD := Lib.hid fun (w : World) => refdigest_any (s := c) (by omega) (w := w)
  have hvb : verB D z' n' i' c p = match upB (digB c) i' n' p with | some u => if D = fileB z' n' u then 0 else 90 | none => 90 := by
    unfold verB
    rw [if_neg hg]
    rfl
  obtain ⟨dg, hdg⟩ : ∃ dg, dg = digB c := ⟨_, rfl⟩
  rw [← hdg] at UP MD hvb
  have HV := Lib.hid hvb
  have HZ := Lib.hid (show z' ≤ 100000 ∧ n' ≤ 100000 by omega)
  have HL := Lib.hid hl
  clear hvb hdg hg hl h20
  have ho := Own.fresh w 34 #[.string D, .int .i64 z', .int .i64 n', .int .i64 i', .string c, .slice P q cap]
  have hN : New w (w.alloc (.cells #[.string D, .int .i64 z', .int .i64 n', .int .i64 i', .string c, .slice P q cap] 34)) := (Fr.refl _ _).alloc _
  go_enter Tryz.func13, Tryz.ntmps13
  go_wp2_with fail
  obtain ⟨W, hW⟩ : ∃ W, W = w.alloc (.cells #[.string D, .int .i64 z', .int .i64 n', .int .i64 i', .string c, .slice P q cap] 34) := ⟨_, rfl⟩
  rw [← hW] at ho hN ⊢
  obtain ⟨bx, hbx⟩ : ∃ bx, bx = w.heap.size := ⟨_, rfl⟩
  rw [← hbx] at ho ⊢
  clear hW hbx
  have hS0 : New W W.drew := (Fr.refl _ _).drew
  refine wp_region_heldE (fun W' => New W W') (by kernel_rfl) ?_
  refine wpAnyH_takeD (i := 0) (d := some 61) (v := .pointer (some ⟨bx, 4, none⟩)) rfl rfl (by kernel_rfl) (by kernel_rfl) (by kernel_rfl) (fun _ _ _ h => h) (.inl ⟨by kernel_rfl, fun w' hS => ?t0⟩) hS0 ?_
  case t0 =>
    go_simp
  refine wpAnyH_takeD (i := 1) (d := some 62) (v := .string c) rfl rfl (by kernel_rfl) (by kernel_rfl) (by kernel_rfl) (fun _ _ _ h => h) (.inl ⟨by kernel_rfl, fun w' hS => ?t1⟩) hS0 ?_
  case t1 =>
    obtain ⟨⟨x0, x1, x2, x3, x4, x5⟩, -⟩ := own6s (ho.new_ hS)
    go_simp
  refine wpAnyH_takeD (i := 3) (d := some 64) (v := .pointer (some ⟨bx, 3, none⟩)) rfl rfl (by kernel_rfl) (by kernel_rfl) (by kernel_rfl) (fun _ _ _ h => h) (.inl ⟨by kernel_rfl, fun w' hS => ?t3⟩) hS0 ?_
  case t3 =>
    go_simp
  refine wpAnyH_takeD (i := 4) (d := some 65) (v := .int .i64 i') rfl rfl (by kernel_rfl) (by kernel_rfl) (by kernel_rfl) (fun _ _ _ h => h) (.inl ⟨by kernel_rfl, fun w' hS => ?t4⟩) hS0 ?_
  case t4 =>
    obtain ⟨⟨x0, x1, x2, x3, x4, x5⟩, -⟩ := own6s (ho.new_ hS)
    go_simp
  refine wpAnyH_takeD (i := 5) (d := some 66) (v := .pointer (some ⟨bx, 2, none⟩)) rfl rfl (by kernel_rfl) (by kernel_rfl) (by kernel_rfl) (fun _ _ _ h => h) (.inl ⟨by kernel_rfl, fun w' hS => ?t5⟩) hS0 ?_
  case t5 =>
    go_simp
  refine wpAnyH_takeD (i := 6) (d := some 67) (v := .int .i64 n') rfl rfl (by kernel_rfl) (by kernel_rfl) (by kernel_rfl) (fun _ _ _ h => h) (.inl ⟨by kernel_rfl, fun w' hS => ?t6⟩) hS0 ?_
  case t6 =>
    obtain ⟨⟨x0, x1, x2, x3, x4, x5⟩, -⟩ := own6s (ho.new_ hS)
    go_simp
  refine wpAnyH_takeD (i := 7) (d := some 68) (v := .pointer (some ⟨bx, 5, none⟩)) rfl rfl (by kernel_rfl) (by kernel_rfl) (by kernel_rfl) (fun _ _ _ h => h) (.inl ⟨by kernel_rfl, fun w' hS => ?t7⟩) hS0 ?_
  case t7 =>
    go_simp
  refine wpAnyH_takeD (i := 8) (d := some 69) (v := .slice P q cap) rfl rfl (by kernel_rfl) (by kernel_rfl) (by kernel_rfl) (fun _ _ _ h => h) (.inl ⟨by kernel_rfl, fun w' hS => ?t8⟩) hS0 ?_
  case t8 =>
    obtain ⟨⟨x0, x1, x2, x3, x4, x5⟩, -⟩ := own6s (ho.new_ hS)
    go_simp
  try simp only [Act.put, List.setIfInBounds_toArray, List.set_cons_zero, List.set_cons_succ]
  refine wpAnyH_all (rs := [2]) (by kernel_rfl) (by simp) (fun j hj => ?_)
  rw [List.mem_singleton] at hj
  subst hj
  refine wpOp_step rfl (fun K hK => ?_)
  go_simp
  refine (MD.out _).mono ?_
  rintro e W2 ⟨rfl, n2⟩
  have hS2 := hS0.new_ n2
  clear n2 hS0
  refine hK _ _ ⟨hS2, ?_⟩
  clear hK K
  try simp only [List.getElem_toArray, List.getElem_cons_succ, List.getElem_cons_zero]
  try simp only [Act.put, List.setIfInBounds_toArray, List.set_cons_zero, List.set_cons_succ]
  refine wpAnyH_all (rs := [9]) (by kernel_rfl) (by simp) (fun j hj => ?_)
  rw [List.mem_singleton] at hj
  subst hj
  refine wpOp_step rfl (fun K hK => ?_)
  go_simp
  refine (UP.out _ ((HL.out.new_ hN).new_ hS2)).mono ?_
  rintro e W3 ⟨r, ok, rfl, hr, hup, n3⟩
  have hS3 := hS2.new_ n3
  clear n3 hS2
  refine hK _ _ ⟨hS3, ?_⟩
  clear hK K
  try simp only [List.getElem_toArray, List.getElem_cons_succ, List.getElem_cons_zero]
  refine wpAnyH_takeD (i := 10) (d := some 60) (v := .tuple #[.string r, .bool ok]) rfl rfl (by kernel_rfl) (by kernel_rfl) (by kernel_rfl) (fun _ _ _ h => h) (.inl ⟨by kernel_rfl, fun w' hS => ?t10⟩) hS3 ?_
  case t10 =>
    go_simp
  refine wpAnyH_takeD (i := 11) (d := some 71) (v := .string r) rfl rfl (by kernel_rfl) (by kernel_rfl) (by kernel_rfl) (fun _ _ _ h => h) (.inl ⟨by kernel_rfl, fun w' hS => ?t11⟩) hS3 ?_
  case t11 =>
    go_simp
  refine wpAnyH_takeD (i := 12) (d := some 72) (v := .bool ok) rfl rfl (by kernel_rfl) (by kernel_rfl) (by kernel_rfl) (fun _ _ _ h => h) (.inl ⟨by kernel_rfl, fun w' hS => ?t12⟩) hS3 ?_
  case t12 =>
    go_simp
  refine wpAnyH_takeD (i := 13) (d := some 3) (v := .string r) rfl rfl (by kernel_rfl) (by kernel_rfl) (by kernel_rfl) (fun _ _ _ h => h) (.inl ⟨by kernel_rfl, fun w' hS => ?t13⟩) hS3 ?_
  case t13 =>
    go_simp
  refine wpAnyH_takeD (i := 14) (d := some 4) (v := .bool ok) rfl rfl (by kernel_rfl) (by kernel_rfl) (by kernel_rfl) (fun _ _ _ h => h) (.inl ⟨by kernel_rfl, fun w' hS => ?t14⟩) hS3 ?_
  case t14 =>
    go_simp
  refine wpAnyH_done (by kernel_rfl) ?_ _
  try simp only [Act.put, List.setIfInBounds_toArray, List.set_cons_zero, List.set_cons_succ]
  have HR := Lib.hid (And.intro hr hup)
  have HU := Lib.hid (hN.new_ hS3)
  have o3 := ho.new_ hS3
  obtain ⟨⟨x0, x1, x2, x3, x4, x5⟩, -⟩ := own6s o3
  clear hr hup hS3 ho hN
  go_wp2_with fail
  clear x0 x1 x2 x3 x4 x5
  have hT0 : New W3 W3.drew := (Fr.refl _ _).drew
  refine wp_region_heldE (fun W' => New W3 W') (by kernel_rfl) ?_
  cases ok with
  | false =>
    refine wpAnyH_takeD (i := 0) (d := some 73) (v := .bool false) rfl rfl (by kernel_rfl) (by kernel_rfl) (by kernel_rfl) (fun _ _ _ h => h) (.inl ⟨by kernel_rfl, fun w' hS => ?t0⟩) hT0 ?_
    case t0 =>
      go_simp
    refine wpAnyH_takeD (i := 1) (d := some 74) (v := .bool true) rfl rfl (by kernel_rfl) (by kernel_rfl) (by kernel_rfl) (fun _ _ _ h => h) (.inl ⟨by kernel_rfl, fun w' hS => ?t1⟩) hT0 ?_
    case t1 =>
      go_simp
    refine wpAnyH_takeD (i := 2) (d := some 75) (v := .bool true) rfl rfl (by kernel_rfl) (by kernel_rfl) (by kernel_rfl) (fun _ _ _ h => h) (.inl ⟨by kernel_rfl, fun w' hS => ?t2⟩) hT0 ?_
    case t2 =>
      go_simp
    refine wpAnyH_takeD (i := 3) (d := some 76) (v := undef) rfl rfl (by kernel_rfl) (by kernel_rfl) (by kernel_rfl) (fun _ _ _ h => h) (.inr ⟨by kernel_rfl, rfl⟩) hT0 ?_
    refine wpAnyH_takeD (i := 4) (d := some 77) (v := undef) rfl rfl (by kernel_rfl) (by kernel_rfl) (by kernel_rfl) (fun _ _ _ h => h) (.inr ⟨by kernel_rfl, rfl⟩) hT0 ?_
    refine wpAnyH_takeD (i := 5) (d := some 78) (v := undef) rfl rfl (by kernel_rfl) (by kernel_rfl) (by kernel_rfl) (fun _ _ _ h => h) (.inr ⟨by kernel_rfl, rfl⟩) hT0 ?_
    refine wpAnyH_takeD (i := 6) (d := some 79) (v := undef) rfl rfl (by kernel_rfl) (by kernel_rfl) (by kernel_rfl) (fun _ _ _ h => h) (.inr ⟨by kernel_rfl, rfl⟩) hT0 ?_
    refine wpAnyH_takeD (i := 7) (d := some 80) (v := undef) rfl rfl (by kernel_rfl) (by kernel_rfl) (by kernel_rfl) (fun _ _ _ h => h) (.inr ⟨by kernel_rfl, rfl⟩) hT0 ?_
    refine wpAnyH_takeD (i := 8) (d := some 81) (v := undef) rfl rfl (by kernel_rfl) (by kernel_rfl) (by kernel_rfl) (fun _ _ _ h => h) (.inr ⟨by kernel_rfl, rfl⟩) hT0 ?_
    refine wpAnyH_takeD (i := 9) (d := some 82) (v := undef) rfl rfl (by kernel_rfl) (by kernel_rfl) (by kernel_rfl) (fun _ _ _ h => h) (.inr ⟨by kernel_rfl, rfl⟩) hT0 ?_
    refine wpAnyH_takeD (i := 10) (d := some 83) (v := undef) rfl rfl (by kernel_rfl) (by kernel_rfl) (by kernel_rfl) (fun _ _ _ h => h) (.inr ⟨by kernel_rfl, rfl⟩) hT0 ?_
    refine wpAnyH_takeD (i := 11) (d := some 84) (v := undef) rfl rfl (by kernel_rfl) (by kernel_rfl) (by kernel_rfl) (fun _ _ _ h => h) (.inr ⟨by kernel_rfl, rfl⟩) hT0 ?_
    refine wpAnyH_takeD (i := 12) (d := some 85) (v := .bool true) rfl rfl (by kernel_rfl) (by kernel_rfl) (by kernel_rfl) (fun _ _ _ h => h) (.inl ⟨by kernel_rfl, fun w' hS => ?t12⟩) hT0 ?_
    case t12 =>
      go_simp
    refine wpAnyH_done (by kernel_rfl) ?_ _
    try simp only [Act.put, List.setIfInBounds_toArray, List.set_cons_zero, List.set_cons_succ]
    have NT := Lib.hid (HU.out.new_ hT0)
    clear hT0
    go_wp2_with fail
    go_ret
    refine ⟨?_, NT.out⟩
    rw [HV.out, HR.out.2]
    rfl
  | true =>
    refine wpAnyH_takeD (i := 0) (d := some 73) (v := .bool true) rfl rfl (by kernel_rfl) (by kernel_rfl) (by kernel_rfl) (fun _ _ _ h => h) (.inl ⟨by kernel_rfl, fun w' hS => ?t0⟩) hT0 ?_
    case t0 =>
      go_simp
    refine wpAnyH_takeD (i := 1) (d := some 74) (v := .bool false) rfl rfl (by kernel_rfl) (by kernel_rfl) (by kernel_rfl) (fun _ _ _ h => h) (.inl ⟨by kernel_rfl, fun w' hS => ?t1⟩) hT0 ?_
    case t1 =>
      go_simp
    refine wpAnyH_takeD (i := 2) (d := some 75) (v := .bool false) rfl rfl (by kernel_rfl) (by kernel_rfl) (by kernel_rfl) (fun _ _ _ h => h) (.inl ⟨by kernel_rfl, fun w' hS => ?t2⟩) hT0 ?_
    case t2 =>
      go_simp
    refine wpAnyH_takeD (i := 3) (d := some 76) (v := .pointer (some ⟨bx, 1, none⟩)) rfl rfl (by kernel_rfl) (by kernel_rfl) (by kernel_rfl) (fun _ _ _ h => h) (.inl ⟨by kernel_rfl, fun w' hS => ?t3⟩) hT0 ?_
    case t3 =>
      go_simp
    refine wpAnyH_takeD (i := 4) (d := some 77) (v := .int .i64 z') rfl rfl (by kernel_rfl) (by kernel_rfl) (by kernel_rfl) (fun _ _ _ h => h) (.inl ⟨by kernel_rfl, fun w' hS => ?t4⟩) hT0 ?_
    case t4 =>
      obtain ⟨⟨x0, x1, x2, x3, x4, x5⟩, -⟩ := own6s (o3.new_ hS)
      go_simp
    refine wpAnyH_takeD (i := 5) (d := some 78) (v := .pointer (some ⟨bx, 2, none⟩)) rfl rfl (by kernel_rfl) (by kernel_rfl) (by kernel_rfl) (fun _ _ _ h => h) (.inl ⟨by kernel_rfl, fun w' hS => ?t5⟩) hT0 ?_
    case t5 =>
      go_simp
    refine wpAnyH_takeD (i := 6) (d := some 79) (v := .int .i64 n') rfl rfl (by kernel_rfl) (by kernel_rfl) (by kernel_rfl) (fun _ _ _ h => h) (.inl ⟨by kernel_rfl, fun w' hS => ?t6⟩) hT0 ?_
    case t6 =>
      obtain ⟨⟨x0, x1, x2, x3, x4, x5⟩, -⟩ := own6s (o3.new_ hS)
      go_simp
    refine wpAnyH_takeD (i := 7) (d := some 80) (v := .string r) rfl rfl (by kernel_rfl) (by kernel_rfl) (by kernel_rfl) (fun _ _ _ h => h) (.inl ⟨by kernel_rfl, fun w' hS => ?t7⟩) hT0 ?_
    case t7 =>
      go_simp
    refine wpAnyH_takeD (i := 9) (d := some 82) (v := .pointer (some ⟨bx, 0, none⟩)) rfl rfl (by kernel_rfl) (by kernel_rfl) (by kernel_rfl) (fun _ _ _ h => h) (.inl ⟨by kernel_rfl, fun w' hS => ?t9⟩) hT0 ?_
    case t9 =>
      go_simp
    refine wpAnyH_takeD (i := 10) (d := some 83) (v := .string D) rfl rfl (by kernel_rfl) (by kernel_rfl) (by kernel_rfl) (fun _ _ _ h => h) (.inl ⟨by kernel_rfl, fun w' hS => ?t10⟩) hT0 ?_
    case t10 =>
      obtain ⟨⟨x0, x1, x2, x3, x4, x5⟩, -⟩ := own6s (o3.new_ hS)
      go_simp
    try simp only [Act.put, List.setIfInBounds_toArray, List.set_cons_zero, List.set_cons_succ]
    refine wpAnyH_all (rs := [8]) (by kernel_rfl) (by simp) (fun j hj => ?_)
    rw [List.mem_singleton] at hj
    subst hj
    refine wpOp_step rfl (fun K hK => ?_)
    go_simp
    refine (ref_named (r := r) HZ.out.1 HZ.out.2 (by have := HR.out.1; omega)).mono ?_
    rintro e W4 ⟨rfl, n4⟩
    have hT4 := hT0.new_ n4
    clear n4 hT0
    refine hK _ _ ⟨hT4, ?_⟩
    clear hK K
    try simp only [List.getElem_toArray, List.getElem_cons_succ, List.getElem_cons_zero]
    try simp only [Act.put, List.setIfInBounds_toArray, List.set_cons_zero, List.set_cons_succ]
    obtain ⟨V, hV⟩ : ∃ V, V = fileB z' n' r := ⟨_, rfl⟩
    rw [← hV]
    have HW := Lib.hid hV
    clear hV
    by_cases hD : D = V
    · subst hD
      refine wpAnyH_takeD (i := 11) (d := some 84) (v := .bool false) rfl rfl (by kernel_rfl) (by kernel_rfl) (by kernel_rfl) (fun _ _ _ h => h) (.inl ⟨by kernel_rfl, fun w' hS => ?t11⟩) hT4 ?_
      case t11 =>
        go_simp
      refine wpAnyH_takeD (i := 12) (d := some 85) (v := .bool false) rfl rfl (by kernel_rfl) (by kernel_rfl) (by kernel_rfl) (fun _ _ _ h => h) (.inl ⟨by kernel_rfl, fun w' hS => ?t12⟩) hT4 ?_
      case t12 =>
        go_simp
      refine wpAnyH_done (by kernel_rfl) ?_ _
      try simp only [Act.put, List.setIfInBounds_toArray, List.set_cons_zero, List.set_cons_succ]
      have NT := Lib.hid (HU.out.new_ hT4)
      clear hT4
      go_wp2_with fail
      go_ret
      refine ⟨?_, NT.out⟩
      rw [HV.out, HR.out.2]
      simp only [if_true]
      rw [if_pos HW.out]
      rfl
    · have hD2 : ¬ V.toList = D.toList := fun e => hD (txt_inj e).symm
      refine wpAnyH_takeD (i := 11) (d := some 84) (v := .bool true) rfl rfl (by kernel_rfl) (by kernel_rfl) (by kernel_rfl) (fun _ _ _ h => h) (.inl ⟨by kernel_rfl, fun w' hS => ?t11⟩) hT4 ?_
      case t11 =>
        go_simp
      refine wpAnyH_takeD (i := 12) (d := some 85) (v := .bool true) rfl rfl (by kernel_rfl) (by kernel_rfl) (by kernel_rfl) (fun _ _ _ h => h) (.inl ⟨by kernel_rfl, fun w' hS => ?t12⟩) hT4 ?_
      case t12 =>
        go_simp
      refine wpAnyH_done (by kernel_rfl) ?_ _
      try simp only [Act.put, List.setIfInBounds_toArray, List.set_cons_zero, List.set_cons_succ]
      have NT := Lib.hid (HU.out.new_ hT4)
      clear hT4
      go_wp2_with fail
      go_ret
      refine ⟨?_, NT.out⟩
      rw [HV.out, HR.out.2]
      simp only [if_true]
      rw [if_neg (fun e => hD (e.trans HW.out.symm))]
      rfl
end Go.Proofs.YtjcpdpdhegcgoaaGreatDoor
