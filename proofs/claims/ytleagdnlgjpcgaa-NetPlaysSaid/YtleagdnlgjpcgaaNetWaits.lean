/- While two do not hear one another nothing between them is under way. -/
import Derived.Test.YtleagdnlgjpcgaaNetPart
namespace Go.Proofs.Ytleagdnlgjpcgaa
open Go.RowKit Go.Maps
set_option linter.unusedVariables false
set_option linter.unusedSimpArgs false

def pkW (S : Nat → ByteArray) (i : Nat) : Pkt := ⟨(i : Int) % 2, 1 - (i : Int) % 2, S i⟩
def packW (S : Nat → ByteArray) (i : Nat) : List Pkt := (List.range i).map (pkW S)
theorem packW_length (S : Nat → ByteArray) (i : Nat) : (packW S i).length = i := by simp [packW]
theorem packW_succ (S : Nat → ByteArray) (i : Nat) : packW S (i + 1) = packW S i ++ [pkW S i] := by simp [packW, List.range_succ]
theorem packW_get (S : Nat → ByteArray) {i j : Nat} (h : j < i) : (packW S i)[j]? = some (pkW S j) := by simp [packW, h]
theorem pkW_on (S : Nat → ByteArray) (i : Nat) : onWay 0 1 (pkW S i) = true := by
  unfold onWay
  rw [decide_eq_true_eq]
  simp only [pkW]
  omega
theorem pkW_way (S : Nat → ByteArray) (i : Nat) : (pkW S i).w = (0, 1) := by
  unfold Pkt.w pkW
  have h1 : min ((i : Int) % 2) (1 - (i : Int) % 2) = 0 := by omega
  have h2 : max ((i : Int) % 2) (1 - (i : Int) % 2) = 1 := by omega
  simp only [h1, h2]
/-- The network behind i sends, the way cut ahead of number at. -/
def waitV (S : Nat → ByteArray) (at_ : Int) (i : Nat) : NetV := if 0 ≤ at_ ∧ at_ < (i : Int) then ⟨[], packW S i, [(0, 1)], i, 0⟩ else ⟨packW S i, [], [], i, 0⟩
def cutV (S : Nat → ByteArray) (i : Nat) : NetV := ⟨[], packW S i, [(0, 1)], i, 0⟩
theorem waitV_cut (S : Nat → ByteArray) (i : Nat) : (waitV S (i : Int) i).part 0 1 = cutV S i := by
  have h : ∀ p ∈ packW S i, onWay 0 1 p = true := fun p hp => by
    obtain ⟨j, _, rfl⟩ := List.mem_map.1 hp
    exact pkW_on S j
  unfold waitV
  rw [if_neg (by omega)]
  unfold NetV.part cutV
  have e1 : List.filter (fun p => !onWay 0 1 p) (packW S i) = [] := by
    rw [List.filter_eq_nil_iff]
    intro p hp
    simp [h p hp]
  have e2 : List.filter (onWay 0 1) (packW S i) = packW S i := List.filter_eq_self.2 h
  simp only [e1, e2]
  rfl
theorem cutV_one (S : Nat → ByteArray) (i : Nat) : (cutV S i).one (pkW S i) = waitV S (i : Int) (i + 1) := by
  unfold waitV
  rw [if_pos (by omega)]
  unfold NetV.one
  rw [if_pos (by rw [pkW_way]; simp [cutV]), packW_succ]
  rfl
theorem waitV_one (S : Nat → ByteArray) (at_ : Int) (i : Nat) (hi : i < 4096) (h : at_ ≠ (i : Int)) : (waitV S at_ i).one (pkW S i) = waitV S at_ (i + 1) := by
  by_cases h1 : 0 ≤ at_ ∧ at_ < (i : Int)
  · unfold waitV
    rw [if_pos h1, if_pos (by omega)]
    unfold NetV.one
    rw [if_pos (by rw [pkW_way]; simp), packW_succ]
  · unfold waitV
    rw [if_neg h1, if_neg (by omega)]
    unfold NetV.one
    rw [if_neg (by simp), packW_succ]
    unfold NetV.push
    rw [if_pos (by simp only [packW_length]; omega)]
theorem pushes_all (s : NetV) : ∀ (l : List Pkt), s.l.length + l.length ≤ 4096 → s.pushes l = { s with l := s.l ++ l }
  | [], h => by simp [NetV.pushes]
  | p :: l, h => by
    simp only [List.length_cons] at h
    have e : s.push p = { s with l := s.l ++ [p] } := if_pos (by omega)
    unfold NetV.pushes
    rw [e]
    have := pushes_all { s with l := s.l ++ [p] } l (by simp only [List.length_append, List.length_cons, List.length_nil]; omega)
    rw [this]
    simp
theorem waitV_heal (S : Nat → ByteArray) (at_ : Int) (i : Nat) (hi : i ≤ 4096) : (waitV S at_ i).heal = ⟨packW S i, [], [], i, 0⟩ := by
  unfold waitV NetV.heal
  split
  · rw [pushes_all _ _ (by simp only [List.length_nil, packW_length]; omega)]
    simp
  · rfl
theorem waitV_le (S : Nat → ByteArray) (at_ : Int) (i : Nat) : (waitV S at_ i).l.length ≤ i ∧ (waitV S at_ i).w.length ≤ i ∧ (waitV S at_ i).sent = i ∧ (waitV S at_ i).lost = 0 := by
  unfold waitV
  split <;> simp [packW_length]
theorem pkW_wf (S : Nat → ByteArray) (i : Nat) (h : (S i).size ≤ maxLen) : (pkW S i).wf := by
  refine ⟨?_, ?_, h⟩
  · show (Lit.int .i64 ((i : Int) % 2)).wf = true
    have : (i : Int) % 2 = 0 ∨ (i : Int) % 2 = 1 := by omega
    rcases this with e | e <;> rw [e] <;> decide
  · show (Lit.int .i64 (1 - (i : Int) % 2)).wf = true
    have : (i : Int) % 2 = 0 ∨ (i : Int) % 2 = 1 := by omega
    rcases this with e | e <;> rw [e] <;> decide
theorem and1_fin : ∀ i : Fin 41, bits .and .i64 (i.val : Int) 1 = (i.val : Int) % 2 := by decide +kernel
theorem and1 (i : Nat) (h : i ≤ 40) : bits .and .i64 (i : Int) 1 = (i : Int) % 2 := and1_fin ⟨i, by omega⟩
set_option maxRecDepth 100000 in
set_option maxHeartbeats 8000000 in
theorem netWaits_core {w : World} {l : ESl EPacket} (hl : ESl26.facts w l) {at_ : Int} (hat : (Lit.int .i64 at_).wf = true) : Calls Try.prog 3 #[.slice l.adr l.len l.cap, .int .i64 at_] w fun e W => e = .returned (.bool true) ∧ New w W := by
  obtain ⟨S, hS⟩ : ∃ S : Nat → ByteArray, S = fun i => (l.at_ i).s := ⟨_, rfl⟩
  obtain ⟨hsl, hlc, hcm, hle⟩ := hl
  obtain ⟨A, len, cap, V⟩ := l
  simp only at hsl hlc hcm hle hS ⊢
  have hmx : len ≤ maxLen := by omega
  go_enter Try.func3, Try.ntmps3
  go_wp2_with fail
  refine new_any.mono ?_
  rintro e W2 ⟨n, X, rfl, h, hN2, hX⟩
  go_wp2_with fail
  have hN2s := hN2.size
  have h0 : NetB (W2.alloc (.cells #[] 26)) n X (waitV S at_ 0) := by
    have e : waitV S at_ 0 = ⟨[], [], [], 0, 0⟩ := by
      unfold waitV
      rw [if_neg (by omega)]
      rfl
    rw [e]
    exact h.new_ ((Fr.refl _ _).alloc _)
  have hp0 : PkL (W2.alloc (.cells #[] 26)) (.slice (some ⟨W2.heap.size, 0, none⟩) 0 0) (packW S 0) :=
    ⟨rfl, .inr ⟨W2.heap.size, 0, #[], rfl, Nat.zero_le _, Own.fresh _ _ _, Nat.le_refl _, Nat.zero_le _, rfl, rfl⟩⟩
  have hX0 : ∀ k, X k → w.heap.size ≤ k ∧ k < W2.heap.size := fun k hk => ⟨hX k hk, h.lt hk⟩
  have hN0 : New w (W2.alloc (.cells #[] 26)) := hN2.alloc _
  have H0 := Lib.hid (And.intro h0 (And.intro hp0 (And.intro hX0 (And.intro hN0 (And.intro hsl hle)))))
  clear h h0 hp0 hX0 hN0 hN2 hX hsl hle
  generalize hW3 : W2.alloc (.cells #[] 26) = W3 at H0 ⊢
  go_loopw [6, 7, 8] (fun kv sv iv wr => ∃ (i : Nat) (X' : Nat → Prop) (A' : Option Addr) (cap' : Nat), kv = .int .i64 i ∧ sv = .slice A' i cap' ∧ iv = .int .i64 i ∧ i ≤ len ∧ i ≤ 40 ∧
      Hid (NetB wr n X' (waitV S at_ i) ∧ PkL wr (.slice A' i cap') (packW S i) ∧ (∀ k, X' k → w.heap.size ≤ k) ∧ (∀ k, (Value.slice A' i cap').ownBlock = some k → ¬ X' k ∧ w.heap.size ≤ k) ∧ New w wr))
    (fun _ _ iv _ => len - (intOf iv).toNat)
  case atStart =>
    obtain ⟨h0, hp0, hX0, hN0, -⟩ := H0.out
    exact ⟨0, X, _, 0, rfl, rfl, rfl, Nat.zero_le _, by omega, Lib.hid ⟨h0, hp0, fun k hk => (hX0 k hk).1, fun k hk => by
      injection hk with hk
      have hk' : W2.heap.size = k := hk
      subst hk'
      exact ⟨fun hx => Nat.lt_irrefl _ (hX0 _ hx).2, hN2s⟩, hN0⟩⟩
  case round =>
    obtain ⟨i, X', A', cap', rfl, rfl, rfl, hil, hi40, HR⟩ := hrel
    by_cases hlt : i < len ∧ i < 40
    · obtain ⟨hlt1, hlt4⟩ := hlt
      have hlt1' : (i : Int) < (len : Int) := by omega
      have hlt4' : (i : Int) < 40 := by omega
      have hsl := H0.out.2.2.2.2.1
      obtain ⟨sb, so, hAe, hc⟩ := (hsl.new_ HR.out.2.2.2.2).2 i hlt1
      have a2 := hc 2 _ rfl
      have HAe := Lib.hid hAe
      clear hsl hc
      subst hAe
      have hsz : (S i).size ≤ maxLen := by rw [hS]; exact (H0.out.2.2.2.2.2 i hlt1).2.2
      have HSi : (V i).s = S i := by rw [hS]
      simp only [HSi] at a2
      have hb1 := and1 i hi40
      have hb2 : wrap64 (1 - (i : Int) % 2) = 1 - (i : Int) % 2 := by
        unfold wrap64
        omega
      have hm0 : 0 ≤ (i : Int) % 2 ∧ (i : Int) % 2 ≤ 1 := by omega
      have hXr : ∀ k, X' k → k < wr.heap.size := fun k hk => HR.out.1.lt hk
      have hXl' := HR.out.2.2.1
      have hrow' := HR.out.2.2.2.1
      have hrl : ∀ k, (Value.slice A' i cap').ownBlock = some k → k < wr.heap.size := fun k hk => HR.out.2.1.lt hk
      have hNw := HR.out.2.2.2.2
      have hNws := hNw.size
      by_cases hai : at_ = (i : Int)
      · subst hai
        go_wp2_with fail
        refine calls_world (fun W => W.heap.size = wr.heap.size + 1 ∧ NetB W n X' (waitV S (i : Int) i) ∧ PkL W (.slice A' i cap') (packW S i) ∧ New wr W ∧ Own W wr.heap.size 26 #[.int .i64 (pkW S i).f, .int .i64 (pkW S i).t, .string (pkW S i).s]) ⟨by simp, HR.out.1.new_ ((Fr.refl _ _).alloc _), HR.out.2.1.fr ((Fr.refl _ _).alloc _) (G := fun _ => False) (fun _ _ g => g), (Fr.refl _ _).alloc _, Own.fresh _ _ _⟩ ?_
        rintro W4 ⟨hs4, h, hp, hN, hq⟩
        refine (cut_any (a := 0) (b := 1) (by decide) (by decide) h (by have := waitV_le S (i : Int) i; omega) (by have := waitV_le S (i : Int) i; omega)).mono ?_
        rintro e W5 ⟨rfl, XU, h5, f5, hX5⟩
        rw [waitV_cut] at h5
        have hs5 := f5.size
        replace hp := hp.fr f5 fun k hk => (hrow' k hk).1
        replace hq := hq.fr f5 fun hx => Nat.lt_irrefl _ (hXr _ hx)
        have hXl : ∀ k, XU k → w.heap.size ≤ k := fun k hk => by
          rcases hX5 k hk with e | e
          · exact hXl' k e
          · omega
        have hrow : ∀ k, (Value.slice A' i cap').ownBlock = some k → ¬ XU k ∧ w.heap.size ≤ k := fun k hk => ⟨fun hx => by
          rcases hX5 k hx with e | e
          · exact (hrow' k hk).1 e
          · have := hrl k hk; omega, (hrow' k hk).2⟩
        have hqX : ¬ XU wr.heap.size := fun hx => by
          rcases hX5 _ hx with e | e
          · exact Nat.lt_irrefl _ (hXr _ e)
          · omega
        replace hN : New w W5 := (hNw.trans (hN.mono fun _ g => g.elim) fun _ _ g => g).trans f5 fun k hk hx => by have := hXl' k hx; omega
        have hrowW : ∀ k, (Value.slice A' i cap').ownBlock = some k → k < W5.heap.size := fun k hk => by have := hrl k hk; omega
        obtain ⟨U, hUe⟩ : ∃ U, U = cutV S i := ⟨_, rfl⟩
        have hU : U.one (pkW S i) = waitV S (i : Int) (i + 1) := by rw [hUe, cutV_one]
        obtain ⟨u1, u2, u3, u4⟩ : U.l.length ≤ 40 ∧ U.w.length ≤ 40 ∧ U.sent = i ∧ U.lost = 0 := by
          rw [hUe]
          exact ⟨by simp [cutV], by simp only [cutV, packW_length]; omega, rfl, rfl⟩
        rw [← hUe] at h5
        have h := h5
        clear hUe f5 hX5 h5 HR
        obtain ⟨⟨q0, q1, q2⟩, -⟩ := own3c hq
        simp only [pkW] at q0 q1 q2
        go_wp2_with fail
        clear q0 q1 q2
        refine calls_world (fun W' => NetB W' n XU U ∧ PkL W' (.slice A' i cap') (packW S i) ∧ Own W' wr.heap.size 26 #[.int .i64 (pkW S i).f, .int .i64 (pkW S i).t, .string (pkW S i).s] ∧ PkS W' (some ⟨W5.heap.size, 0, none⟩) [pkW S i] ∧ W5.heap.size < W'.heap.size ∧ New w W')
          ⟨h.new_ ((Fr.refl _ _).alloc _), hp.fr ((Fr.refl _ _).alloc _) (G := fun _ => False) (fun _ _ g => g), hq.alloc _, pks_one (show Own _ W5.heap.size 26 #[.int .i64 (pkW S i).f, .int .i64 (pkW S i).t, .string (pkW S i).s] from Own.fresh _ _ _), by simp, hN.alloc _⟩ ?_
        have hXW : ∀ k, XU k → k < W5.heap.size := fun k hk => h.lt hk
        clear h hp hq hN
        rintro W6 ⟨h, hp, hq, hs, hlt6, hN⟩
        refine (send_any (l := [pkW S i]) (cap := 1) h hs (fun a e => by cases e; exact ⟨fun hx => Nat.lt_irrefl _ (hXW _ hx), hlt6⟩) (by omega) (by simp; omega) (by simp; omega) (by simp; omega) (fun q hq => by simp at hq; subst hq; exact pkW_wf S i hsz)).mono ?_
        rintro e W7 ⟨rfl, X7, h7, f7, hX7⟩
        rw [show (U.send [pkW S i]).1 = waitV S (i : Int) (i + 1) from hU] at h7
        obtain ⟨c7, hc7⟩ : ∃ c, (U.send [pkW S i]).2 = c := ⟨_, rfl⟩
        rw [hc7]
        clear hc7
        replace hp := hp.fr f7 fun k hk => (hrow k hk).1
        replace hq := hq.fr f7 hqX
        have hN7 : New w W7 := hN.trans f7 fun k hk hx => by have := hXl k hx; omega
        have hXl7 : ∀ k, X7 k → w.heap.size ≤ k := fun k hk => by
          rcases hX7 k hk with e | e
          · exact hXl k e
          · have := hN.size; omega
        have hrow7 : ∀ k, (Value.slice A' i cap').ownBlock = some k → ¬ X7 k ∧ w.heap.size ≤ k := fun k hk => ⟨fun hx => by
          rcases hX7 k hx with e | e
          · exact (hrow k hk).1 e
          · have := hrowW k hk; omega, (hrow k hk).2⟩
        clear h hs hN f7
        obtain ⟨v8, W8, hr, p8, g8, o8⟩ := append_pk (W := W7.alloc (.cells #[.int .i64 (pkW S i).f, .int .i64 (pkW S i).t, .string (pkW S i).s] 26)) (blk := W7.heap.size) (v := .slice A' i cap') (l := packW S i) (p := pkW S i) (hp.fr ((Fr.refl _ _).alloc _) (G := fun _ => False) (fun _ _ g => g)) (by rw [packW_length]; omega) (Own.new' (by simp))
        have g8' : Fr (fun k => (Value.slice A' i cap').ownBlock = some k) W7 W8 := ((Fr.refl _ _).alloc _).trans g8 fun _ _ h => h
        have h8 : NetB W8 n X7 (waitV S (i : Int) (i + 1)) := h7.fr g8' fun k hk e => (hrow7 k e).1 hk
        have hN8 : New w W8 := hN7.trans g8' fun k hk e => by have := (hrow7 k e).2; omega
        have hX7lt : ∀ k, X7 k → k < W7.heap.size := fun k hk => h7.lt hk
        have hN7s := hN7.size
        rw [← packW_succ] at p8
        obtain ⟨A8, cap8, hv8⟩ := p8.form
        rw [packW_length] at hv8
        subst hv8
        obtain ⟨⟨q0, q1, q2⟩, -⟩ := own3c hq
        have HD := Lib.hid (And.intro h8 (And.intro hN8 (And.intro p8 (And.intro o8 (And.intro hX7lt (And.intro hXl7 hrow7))))))
        clear h8 hN8 p8 o8 hX7lt hXl7 hrow7 h7 hN7 g8 g8' hp hq
        simp only [pkW] at hr q0 q1 q2
        go_wp2_with (at_builtin; refine wpList_append_run rfl (.tmp 45) (.tmp 47) 22 rfl rfl rfl hr ?_)
        refine (len_any HD.out.1).mono ?_
        rintro e w' ⟨rfl, rfl⟩
        rw [show (waitV S (i : Int) (i + 1)).l.length = 0 by unfold waitV; rw [if_pos (by omega)]; rfl]
        go_wp2_with fail
        obtain ⟨h8, hN8, p8, o8, hX7lt, hXl7, hrow7⟩ := HD.out
        refine ⟨⟨i + 1, X7, A8, cap8, by simp, rfl, by simp, by omega, by omega, Lib.hid ⟨h8, p8, hXl7, fun k hk => ?_, hN8⟩⟩, by simp [intOf]; omega⟩
        rcases o8 with e | ⟨k', e, hk'⟩
        · exact hrow7 k (e ▸ hk)
        · rw [hk] at e
          cases e
          have h1 : W7.heap.size ≤ k := by simp at hk'; omega
          exact ⟨fun hx => by have := hX7lt k hx; omega, by omega⟩
      · rcases Int.lt_or_le at_ 0 with hneg | hnn
        · have hB1 : at_ < 0 := hneg

          obtain ⟨W5, hW5⟩ : ∃ W5, W5 = wr.alloc (.cells #[.int .i64 ((i : Int) % 2), .int .i64 (1 - (i : Int) % 2), .string (S i)] 26) := ⟨_, rfl⟩
          have hs5 : W5.heap.size = wr.heap.size + 1 := by rw [hW5]; simp
          have h : NetB W5 n X' (waitV S at_ i) := hW5 ▸ HR.out.1.new_ ((Fr.refl _ _).alloc _)
          have hp : PkL W5 (.slice A' i cap') (packW S i) := hW5 ▸ HR.out.2.1.fr ((Fr.refl _ _).alloc _) (G := fun _ => False) (fun _ _ g => g)
          have hq : Own W5 wr.heap.size 26 #[.int .i64 (pkW S i).f, .int .i64 (pkW S i).t, .string (pkW S i).s] := hW5 ▸ Own.fresh _ _ _
          have hN : New w W5 := hW5 ▸ HR.out.2.2.2.2.alloc _
          have hXl := hXl'
          have hrow := hrow'
          obtain ⟨XU, hXU⟩ : ∃ XU, XU = X' := ⟨_, rfl⟩
          rw [← hXU] at h hXl hrow
          have hqX : ¬ XU wr.heap.size := fun hx => Nat.lt_irrefl _ (hXr _ (hXU ▸ hx))
          have hrowW : ∀ k, (Value.slice A' i cap').ownBlock = some k → k < W5.heap.size := fun k hk => by have := hrl k hk; omega
          obtain ⟨U, hUe⟩ : ∃ U, U = waitV S at_ i := ⟨_, rfl⟩
          have hU : U.one (pkW S i) = waitV S at_ (i + 1) := by rw [hUe, waitV_one S at_ i (by omega) hai]
          obtain ⟨u1, u2, u3, u4⟩ : U.l.length ≤ 40 ∧ U.w.length ≤ 40 ∧ U.sent = i ∧ U.lost = 0 := by
            have := waitV_le S at_ i
            rw [hUe]
            exact ⟨by omega, by omega, this.2.2⟩
          rw [← hUe] at h
          clear hUe HR hXU
          go_wp2_with fail
          rw [← hW5, ← hs5]
          clear hW5
          refine calls_world (fun W' => NetB W' n XU U ∧ PkL W' (.slice A' i cap') (packW S i) ∧ Own W' wr.heap.size 26 #[.int .i64 (pkW S i).f, .int .i64 (pkW S i).t, .string (pkW S i).s] ∧ PkS W' (some ⟨W5.heap.size, 0, none⟩) [pkW S i] ∧ W5.heap.size < W'.heap.size ∧ New w W')
            ⟨h.new_ ((Fr.refl _ _).alloc _), hp.fr ((Fr.refl _ _).alloc _) (G := fun _ => False) (fun _ _ g => g), hq.alloc _, pks_one (show Own _ W5.heap.size 26 #[.int .i64 (pkW S i).f, .int .i64 (pkW S i).t, .string (pkW S i).s] from Own.fresh _ _ _), by simp, hN.alloc _⟩ ?_
          have hXW : ∀ k, XU k → k < W5.heap.size := fun k hk => h.lt hk
          clear h hp hq hN
          rintro W6 ⟨h, hp, hq, hs, hlt6, hN⟩
          refine (send_any (l := [pkW S i]) (cap := 1) h hs (fun a e => by cases e; exact ⟨fun hx => Nat.lt_irrefl _ (hXW _ hx), hlt6⟩) (by omega) (by simp; omega) (by simp; omega) (by simp; omega) (fun q hq => by simp at hq; subst hq; exact pkW_wf S i hsz)).mono ?_
          rintro e W7 ⟨rfl, X7, h7, f7, hX7⟩
          rw [show (U.send [pkW S i]).1 = waitV S at_ (i + 1) from hU] at h7
          obtain ⟨c7, hc7⟩ : ∃ c, (U.send [pkW S i]).2 = c := ⟨_, rfl⟩
          rw [hc7]
          clear hc7
          replace hp := hp.fr f7 fun k hk => (hrow k hk).1
          replace hq := hq.fr f7 hqX
          have hN7 : New w W7 := hN.trans f7 fun k hk hx => by have := hXl k hx; omega
          have hXl7 : ∀ k, X7 k → w.heap.size ≤ k := fun k hk => by
            rcases hX7 k hk with e | e
            · exact hXl k e
            · have := hN.size; omega
          have hrow7 : ∀ k, (Value.slice A' i cap').ownBlock = some k → ¬ X7 k ∧ w.heap.size ≤ k := fun k hk => ⟨fun hx => by
            rcases hX7 k hx with e | e
            · exact (hrow k hk).1 e
            · have := hrowW k hk; omega, (hrow k hk).2⟩
          clear h hs hN f7
          obtain ⟨v8, W8, hr, p8, g8, o8⟩ := append_pk (W := W7.alloc (.cells #[.int .i64 (pkW S i).f, .int .i64 (pkW S i).t, .string (pkW S i).s] 26)) (blk := W7.heap.size) (v := .slice A' i cap') (l := packW S i) (p := pkW S i) (hp.fr ((Fr.refl _ _).alloc _) (G := fun _ => False) (fun _ _ g => g)) (by rw [packW_length]; omega) (Own.new' (by simp))
          have g8' : Fr (fun k => (Value.slice A' i cap').ownBlock = some k) W7 W8 := ((Fr.refl _ _).alloc _).trans g8 fun _ _ h => h
          have h8 : NetB W8 n X7 (waitV S at_ (i + 1)) := h7.fr g8' fun k hk e => (hrow7 k e).1 hk
          have hN8 : New w W8 := hN7.trans g8' fun k hk e => by have := (hrow7 k e).2; omega
          have hX7lt : ∀ k, X7 k → k < W7.heap.size := fun k hk => h7.lt hk
          have hN7s := hN7.size
          rw [← packW_succ] at p8
          obtain ⟨A8, cap8, hv8⟩ := p8.form
          rw [packW_length] at hv8
          subst hv8
          obtain ⟨⟨q0, q1, q2⟩, -⟩ := own3c hq
          have HD := Lib.hid (And.intro h8 (And.intro hN8 (And.intro p8 (And.intro o8 (And.intro hX7lt (And.intro hXl7 hrow7))))))
          clear h8 hN8 p8 o8 hX7lt hXl7 hrow7 h7 hN7 g8 g8' hp hq
          simp only [pkW] at hr q0 q1 q2
          go_wp2_with (at_builtin; refine wpList_append_run rfl (.tmp 45) (.tmp 47) 22 rfl rfl rfl hr ?_)
          obtain ⟨h8, hN8, p8, o8, hX7lt, hXl7, hrow7⟩ := HD.out
          refine ⟨⟨i + 1, X7, A8, cap8, by simp, rfl, by simp, by omega, by omega, Lib.hid ⟨h8, p8, hXl7, fun k hk => ?_, hN8⟩⟩, by simp [intOf]; omega⟩
          rcases o8 with e | ⟨k', e, hk'⟩
          · exact hrow7 k (e ▸ hk)
          · rw [hk] at e
            cases e
            have h1 : W7.heap.size ≤ k := by simp at hk'; omega
            exact ⟨fun hx => by have := hX7lt k hx; omega, by omega⟩
        · rcases Int.lt_or_le at_ (i : Int) with hB2 | hge
          · have hB3 : 0 ≤ at_ := hnn
            have hB4 : at_ ≤ (i : Int) := by omega

            obtain ⟨W5, hW5⟩ : ∃ W5, W5 = wr.alloc (.cells #[.int .i64 ((i : Int) % 2), .int .i64 (1 - (i : Int) % 2), .string (S i)] 26) := ⟨_, rfl⟩
            have hs5 : W5.heap.size = wr.heap.size + 1 := by rw [hW5]; simp
            have h : NetB W5 n X' (waitV S at_ i) := hW5 ▸ HR.out.1.new_ ((Fr.refl _ _).alloc _)
            have hp : PkL W5 (.slice A' i cap') (packW S i) := hW5 ▸ HR.out.2.1.fr ((Fr.refl _ _).alloc _) (G := fun _ => False) (fun _ _ g => g)
            have hq : Own W5 wr.heap.size 26 #[.int .i64 (pkW S i).f, .int .i64 (pkW S i).t, .string (pkW S i).s] := hW5 ▸ Own.fresh _ _ _
            have hN : New w W5 := hW5 ▸ HR.out.2.2.2.2.alloc _
            have hXl := hXl'
            have hrow := hrow'
            obtain ⟨XU, hXU⟩ : ∃ XU, XU = X' := ⟨_, rfl⟩
            rw [← hXU] at h hXl hrow
            have hqX : ¬ XU wr.heap.size := fun hx => Nat.lt_irrefl _ (hXr _ (hXU ▸ hx))
            have hrowW : ∀ k, (Value.slice A' i cap').ownBlock = some k → k < W5.heap.size := fun k hk => by have := hrl k hk; omega
            obtain ⟨U, hUe⟩ : ∃ U, U = waitV S at_ i := ⟨_, rfl⟩
            have hU : U.one (pkW S i) = waitV S at_ (i + 1) := by rw [hUe, waitV_one S at_ i (by omega) hai]
            obtain ⟨u1, u2, u3, u4⟩ : U.l.length ≤ 40 ∧ U.w.length ≤ 40 ∧ U.sent = i ∧ U.lost = 0 := by
              have := waitV_le S at_ i
              rw [hUe]
              exact ⟨by omega, by omega, this.2.2⟩
            rw [← hUe] at h
            clear hUe HR hXU
            go_wp2_with fail
            rw [← hW5, ← hs5]
            clear hW5
            refine calls_world (fun W' => NetB W' n XU U ∧ PkL W' (.slice A' i cap') (packW S i) ∧ Own W' wr.heap.size 26 #[.int .i64 (pkW S i).f, .int .i64 (pkW S i).t, .string (pkW S i).s] ∧ PkS W' (some ⟨W5.heap.size, 0, none⟩) [pkW S i] ∧ W5.heap.size < W'.heap.size ∧ New w W')
              ⟨h.new_ ((Fr.refl _ _).alloc _), hp.fr ((Fr.refl _ _).alloc _) (G := fun _ => False) (fun _ _ g => g), hq.alloc _, pks_one (show Own _ W5.heap.size 26 #[.int .i64 (pkW S i).f, .int .i64 (pkW S i).t, .string (pkW S i).s] from Own.fresh _ _ _), by simp, hN.alloc _⟩ ?_
            have hXW : ∀ k, XU k → k < W5.heap.size := fun k hk => h.lt hk
            clear h hp hq hN
            rintro W6 ⟨h, hp, hq, hs, hlt6, hN⟩
            refine (send_any (l := [pkW S i]) (cap := 1) h hs (fun a e => by cases e; exact ⟨fun hx => Nat.lt_irrefl _ (hXW _ hx), hlt6⟩) (by omega) (by simp; omega) (by simp; omega) (by simp; omega) (fun q hq => by simp at hq; subst hq; exact pkW_wf S i hsz)).mono ?_
            rintro e W7 ⟨rfl, X7, h7, f7, hX7⟩
            rw [show (U.send [pkW S i]).1 = waitV S at_ (i + 1) from hU] at h7
            obtain ⟨c7, hc7⟩ : ∃ c, (U.send [pkW S i]).2 = c := ⟨_, rfl⟩
            rw [hc7]
            clear hc7
            replace hp := hp.fr f7 fun k hk => (hrow k hk).1
            replace hq := hq.fr f7 hqX
            have hN7 : New w W7 := hN.trans f7 fun k hk hx => by have := hXl k hx; omega
            have hXl7 : ∀ k, X7 k → w.heap.size ≤ k := fun k hk => by
              rcases hX7 k hk with e | e
              · exact hXl k e
              · have := hN.size; omega
            have hrow7 : ∀ k, (Value.slice A' i cap').ownBlock = some k → ¬ X7 k ∧ w.heap.size ≤ k := fun k hk => ⟨fun hx => by
              rcases hX7 k hx with e | e
              · exact (hrow k hk).1 e
              · have := hrowW k hk; omega, (hrow k hk).2⟩
            clear h hs hN f7
            obtain ⟨v8, W8, hr, p8, g8, o8⟩ := append_pk (W := W7.alloc (.cells #[.int .i64 (pkW S i).f, .int .i64 (pkW S i).t, .string (pkW S i).s] 26)) (blk := W7.heap.size) (v := .slice A' i cap') (l := packW S i) (p := pkW S i) (hp.fr ((Fr.refl _ _).alloc _) (G := fun _ => False) (fun _ _ g => g)) (by rw [packW_length]; omega) (Own.new' (by simp))
            have g8' : Fr (fun k => (Value.slice A' i cap').ownBlock = some k) W7 W8 := ((Fr.refl _ _).alloc _).trans g8 fun _ _ h => h
            have h8 : NetB W8 n X7 (waitV S at_ (i + 1)) := h7.fr g8' fun k hk e => (hrow7 k e).1 hk
            have hN8 : New w W8 := hN7.trans g8' fun k hk e => by have := (hrow7 k e).2; omega
            have hX7lt : ∀ k, X7 k → k < W7.heap.size := fun k hk => h7.lt hk
            have hN7s := hN7.size
            rw [← packW_succ] at p8
            obtain ⟨A8, cap8, hv8⟩ := p8.form
            rw [packW_length] at hv8
            subst hv8
            obtain ⟨⟨q0, q1, q2⟩, -⟩ := own3c hq
            have HD := Lib.hid (And.intro h8 (And.intro hN8 (And.intro p8 (And.intro o8 (And.intro hX7lt (And.intro hXl7 hrow7))))))
            clear h8 hN8 p8 o8 hX7lt hXl7 hrow7 h7 hN7 g8 g8' hp hq
            simp only [pkW] at hr q0 q1 q2
            go_wp2_with (at_builtin; refine wpList_append_run rfl (.tmp 45) (.tmp 47) 22 rfl rfl rfl hr ?_)
            refine (len_any HD.out.1).mono ?_
            rintro e w' ⟨rfl, rfl⟩
            rw [show (waitV S at_ (i + 1)).l.length = 0 by unfold waitV; rw [if_pos (by omega)]; rfl]
            go_wp2_with fail
            obtain ⟨h8, hN8, p8, o8, hX7lt, hXl7, hrow7⟩ := HD.out
            refine ⟨⟨i + 1, X7, A8, cap8, by simp, rfl, by simp, by omega, by omega, Lib.hid ⟨h8, p8, hXl7, fun k hk => ?_, hN8⟩⟩, by simp [intOf]; omega⟩
            rcases o8 with e | ⟨k', e, hk'⟩
            · exact hrow7 k (e ▸ hk)
            · rw [hk] at e
              cases e
              have h1 : W7.heap.size ≤ k := by simp at hk'; omega
              exact ⟨fun hx => by have := hX7lt k hx; omega, by omega⟩
          · have hB5 : (i : Int) < at_ := by omega
            have hB3 : 0 ≤ at_ := hnn

            obtain ⟨W5, hW5⟩ : ∃ W5, W5 = wr.alloc (.cells #[.int .i64 ((i : Int) % 2), .int .i64 (1 - (i : Int) % 2), .string (S i)] 26) := ⟨_, rfl⟩
            have hs5 : W5.heap.size = wr.heap.size + 1 := by rw [hW5]; simp
            have h : NetB W5 n X' (waitV S at_ i) := hW5 ▸ HR.out.1.new_ ((Fr.refl _ _).alloc _)
            have hp : PkL W5 (.slice A' i cap') (packW S i) := hW5 ▸ HR.out.2.1.fr ((Fr.refl _ _).alloc _) (G := fun _ => False) (fun _ _ g => g)
            have hq : Own W5 wr.heap.size 26 #[.int .i64 (pkW S i).f, .int .i64 (pkW S i).t, .string (pkW S i).s] := hW5 ▸ Own.fresh _ _ _
            have hN : New w W5 := hW5 ▸ HR.out.2.2.2.2.alloc _
            have hXl := hXl'
            have hrow := hrow'
            obtain ⟨XU, hXU⟩ : ∃ XU, XU = X' := ⟨_, rfl⟩
            rw [← hXU] at h hXl hrow
            have hqX : ¬ XU wr.heap.size := fun hx => Nat.lt_irrefl _ (hXr _ (hXU ▸ hx))
            have hrowW : ∀ k, (Value.slice A' i cap').ownBlock = some k → k < W5.heap.size := fun k hk => by have := hrl k hk; omega
            obtain ⟨U, hUe⟩ : ∃ U, U = waitV S at_ i := ⟨_, rfl⟩
            have hU : U.one (pkW S i) = waitV S at_ (i + 1) := by rw [hUe, waitV_one S at_ i (by omega) hai]
            obtain ⟨u1, u2, u3, u4⟩ : U.l.length ≤ 40 ∧ U.w.length ≤ 40 ∧ U.sent = i ∧ U.lost = 0 := by
              have := waitV_le S at_ i
              rw [hUe]
              exact ⟨by omega, by omega, this.2.2⟩
            rw [← hUe] at h
            clear hUe HR hXU
            go_wp2_with fail
            rw [← hW5, ← hs5]
            clear hW5
            refine calls_world (fun W' => NetB W' n XU U ∧ PkL W' (.slice A' i cap') (packW S i) ∧ Own W' wr.heap.size 26 #[.int .i64 (pkW S i).f, .int .i64 (pkW S i).t, .string (pkW S i).s] ∧ PkS W' (some ⟨W5.heap.size, 0, none⟩) [pkW S i] ∧ W5.heap.size < W'.heap.size ∧ New w W')
              ⟨h.new_ ((Fr.refl _ _).alloc _), hp.fr ((Fr.refl _ _).alloc _) (G := fun _ => False) (fun _ _ g => g), hq.alloc _, pks_one (show Own _ W5.heap.size 26 #[.int .i64 (pkW S i).f, .int .i64 (pkW S i).t, .string (pkW S i).s] from Own.fresh _ _ _), by simp, hN.alloc _⟩ ?_
            have hXW : ∀ k, XU k → k < W5.heap.size := fun k hk => h.lt hk
            clear h hp hq hN
            rintro W6 ⟨h, hp, hq, hs, hlt6, hN⟩
            refine (send_any (l := [pkW S i]) (cap := 1) h hs (fun a e => by cases e; exact ⟨fun hx => Nat.lt_irrefl _ (hXW _ hx), hlt6⟩) (by omega) (by simp; omega) (by simp; omega) (by simp; omega) (fun q hq => by simp at hq; subst hq; exact pkW_wf S i hsz)).mono ?_
            rintro e W7 ⟨rfl, X7, h7, f7, hX7⟩
            rw [show (U.send [pkW S i]).1 = waitV S at_ (i + 1) from hU] at h7
            obtain ⟨c7, hc7⟩ : ∃ c, (U.send [pkW S i]).2 = c := ⟨_, rfl⟩
            rw [hc7]
            clear hc7
            replace hp := hp.fr f7 fun k hk => (hrow k hk).1
            replace hq := hq.fr f7 hqX
            have hN7 : New w W7 := hN.trans f7 fun k hk hx => by have := hXl k hx; omega
            have hXl7 : ∀ k, X7 k → w.heap.size ≤ k := fun k hk => by
              rcases hX7 k hk with e | e
              · exact hXl k e
              · have := hN.size; omega
            have hrow7 : ∀ k, (Value.slice A' i cap').ownBlock = some k → ¬ X7 k ∧ w.heap.size ≤ k := fun k hk => ⟨fun hx => by
              rcases hX7 k hx with e | e
              · exact (hrow k hk).1 e
              · have := hrowW k hk; omega, (hrow k hk).2⟩
            clear h hs hN f7
            obtain ⟨v8, W8, hr, p8, g8, o8⟩ := append_pk (W := W7.alloc (.cells #[.int .i64 (pkW S i).f, .int .i64 (pkW S i).t, .string (pkW S i).s] 26)) (blk := W7.heap.size) (v := .slice A' i cap') (l := packW S i) (p := pkW S i) (hp.fr ((Fr.refl _ _).alloc _) (G := fun _ => False) (fun _ _ g => g)) (by rw [packW_length]; omega) (Own.new' (by simp))
            have g8' : Fr (fun k => (Value.slice A' i cap').ownBlock = some k) W7 W8 := ((Fr.refl _ _).alloc _).trans g8 fun _ _ h => h
            have h8 : NetB W8 n X7 (waitV S at_ (i + 1)) := h7.fr g8' fun k hk e => (hrow7 k e).1 hk
            have hN8 : New w W8 := hN7.trans g8' fun k hk e => by have := (hrow7 k e).2; omega
            have hX7lt : ∀ k, X7 k → k < W7.heap.size := fun k hk => h7.lt hk
            have hN7s := hN7.size
            rw [← packW_succ] at p8
            obtain ⟨A8, cap8, hv8⟩ := p8.form
            rw [packW_length] at hv8
            subst hv8
            obtain ⟨⟨q0, q1, q2⟩, -⟩ := own3c hq
            have HD := Lib.hid (And.intro h8 (And.intro hN8 (And.intro p8 (And.intro o8 (And.intro hX7lt (And.intro hXl7 hrow7))))))
            clear h8 hN8 p8 o8 hX7lt hXl7 hrow7 h7 hN7 g8 g8' hp hq
            simp only [pkW] at hr q0 q1 q2
            go_wp2_with (at_builtin; refine wpList_append_run rfl (.tmp 45) (.tmp 47) 22 rfl rfl rfl hr ?_)
            obtain ⟨h8, hN8, p8, o8, hX7lt, hXl7, hrow7⟩ := HD.out
            refine ⟨⟨i + 1, X7, A8, cap8, by simp, rfl, by simp, by omega, by omega, Lib.hid ⟨h8, p8, hXl7, fun k hk => ?_, hN8⟩⟩, by simp [intOf]; omega⟩
            rcases o8 with e | ⟨k', e, hk'⟩
            · exact hrow7 k (e ▸ hk)
            · rw [hk] at e
              cases e
              have h1 : W7.heap.size ≤ k := by simp at hk'; omega
              exact ⟨fun hx => by have := hX7lt k hx; omega, by omega⟩
    · obtain ⟨h, hp, hXl, hrow, hN⟩ := HR.out
      clear HR H0 hS
      have hex : (len : Int) ≤ (i : Int) ∨ ((i : Int) < (len : Int) ∧ (40 : Int) ≤ (i : Int)) := by omega
      have hi40' : i ≤ 40 := hi40
      have hpw : ∀ k, (Value.slice A' i cap').ownBlock = some k → k < wr.heap.size := fun k hk => hp.lt hk
      rcases hex with hex | ⟨hex1, hex2⟩
      all_goals (
        go_wp2_with fail
        refine (heal_any h (by have := waitV_le S at_ i; omega) (by have := waitV_le S at_ i; omega) (by have := waitV_le S at_ i; omega)).mono ?_
        rintro e W4 ⟨rfl, X4, h4, f4, hX4⟩
        rw [waitV_heal S at_ i (by omega)] at h4
        replace hp := hp.fr f4 fun k hk => (hrow k hk).1
        have hpl : ∀ k, (Value.slice A' i cap').ownBlock = some k → ¬ X4 k ∧ w.heap.size ≤ k := fun k hk => ⟨fun hx => by
          rcases hX4 k hx with e | e
          · exact (hrow k hk).1 e
          · have := hpw k hk; omega, (hrow k hk).2⟩
        have hX4l : ∀ k, X4 k → w.heap.size ≤ k := fun k hk => by
          rcases hX4 k hk with e | e
          · exact hXl k e
          · have := hN.size; omega
        have hN4 : New w W4 := hN.trans f4 fun k hk hx => by have := hXl k hx; omega
        clear h hX4 f4 hN hrow hXl
        go_wp2_with fail
        refine awake_any.mono ?_
        rintro e W5 ⟨rfl, g⟩
        replace h4 := h4.new_ g
        replace hp := hp.fr g fun _ _ h => h
        replace hN4 := hN4.new_ g
        clear g
        go_wp2_with fail
        refine (len_any h4).mono ?_
        rintro e w' ⟨rfl, rfl⟩
        rw [show (⟨packW S i, [], [], i, 0⟩ : NetV).l.length = i from packW_length S i]
        go_wp2_with fail
        refine (waits_any h4).mono ?_
        rintro e w' ⟨rfl, rfl⟩
        rw [show (⟨packW S i, [], [], i, 0⟩ : NetV).w.length = 0 from rfl]
        go_wp2_with fail
        go_loopw [10] (fun jv wj => ∃ j : Nat, jv = .int .i64 j ∧ j ≤ i ∧ Hid (NetB wj n X4 ⟨(packW S i).drop j, [], [], i, 0⟩ ∧ PkL wj (.slice A' i cap') (packW S i) ∧ New w wj)) (fun jv _ => i - (intOf jv).toNat)
        case atStart => exact ⟨0, rfl, Nat.zero_le _, Lib.hid ⟨h4, hp, hN4⟩⟩
        case round =>
          clear h4 hp hN4
          obtain ⟨j, rfl, hji, HJ⟩ := hrel
          by_cases hjl : j < i
          · have hjl' : (j : Int) < (i : Int) := by omega
            go_wp2_with fail
            refine (take_in (i := 0) (p := pkW S j) HJ.out.1 (by rw [List.getElem?_drop]; exact packW_get S hjl) (by simp [packW_length]; omega)).mono ?_
            rintro e W6 ⟨rfl, h6, f6⟩
            rw [show List.take 0 (List.drop j (packW S i)) ++ List.drop (0 + 1) (List.drop j (packW S i)) = List.drop (j + 1) (packW S i) by simp] at h6
            have hp6 := HJ.out.2.1.fr f6 fun k hk => (hpl k hk).1
            have hN6 : New w W6 := HJ.out.2.2.trans f6 fun k hk hx => by have := hX4l k hx; omega
            clear f6 HJ
            go_wp2_with fail
            refine wp_world (fun W => Own W W6.heap.size 26 #[.int .i64 (pkW S j).f, .int .i64 (pkW S j).t, .string (pkW S j).s] ∧ NetB W n X4 ⟨(packW S i).drop (j + 1), [], [], i, 0⟩ ∧ PkL W (.slice A' i cap') (packW S i) ∧ New w W) ⟨Own.fresh _ _ _, h6.new_ ((Fr.refl _ _).alloc _), hp6.fr ((Fr.refl _ _).alloc _) (G := fun _ => False) (fun _ _ g => g), hN6.alloc _⟩ ?_
            clear h6 hp6 hN6
            rintro W7 ⟨hb, h7, hp7, hN7⟩
            obtain ⟨sb, so, hAe, hc⟩ := hp7.cells.2 j (by rw [packW_length]; exact hjl)
            simp only [packW_get S hjl] at hc
            have a0 := hc 0 _ rfl
            have a1 := hc 1 _ rfl
            have a2 := hc 2 _ rfl
            simp only [Nat.add_zero] at a0
            obtain ⟨⟨b0, b1, b2⟩, -⟩ := own3c hb
            have HK := Lib.hid (And.intro h7 (And.intro hp7 hN7))
            have HAe := Lib.hid hAe
            clear h7 hp7 hN7 hc hb
            subst hAe
            go_quiet (fail)
            clear a0 a1 a2 b0 b1 b2
            go_wp2_with fail
            refine ⟨⟨j + 1, by simp, by omega, Lib.hid ⟨HK.out.1.new_ ((Fr.refl _ _).drewN nq), HK.out.2.1.fr ((Fr.refl _ _).drewN nq) (G := fun _ => False) (fun _ _ g => g), HK.out.2.2.new_ ((Fr.refl _ _).drewN nq)⟩⟩, by simp [intOf]; omega⟩
          · obtain rfl : j = i := by omega
            obtain ⟨h7, hp7, hN7⟩ := HJ.out
            clear h7 hp7 HJ
            go_wp2_with fail
            go_ret
            exact ⟨rfl, hN7⟩)
theorem netWaits_walk {w : World} (l : ESl EPacket) (hl : ESl26.facts w l) (a : Int) (ha : (Lit.int .i64 a).wf = true) :
    Calls Try.prog 3 #[.slice l.adr l.len l.cap, .int .i64 a] w fun e W => e = .returned (.bool true) ∧ New w W := netWaits_core hl ha
end Go.Proofs.Ytleagdnlgjpcgaa
