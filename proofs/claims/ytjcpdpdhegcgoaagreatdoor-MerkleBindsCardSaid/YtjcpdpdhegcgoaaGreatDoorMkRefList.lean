/- The reference's chunks and their digests. -/
import Derived.Test.YtjcpdpdhegcgoaaGreatDoorMkRefCut
import Derived.Test.YtjcpdpdhegcgoaaGreatDoorMkShow
import Derived.Test.YtjcpdpdhegcgoaaGreatDoorMkNamed
namespace Go.Proofs.YtjcpdpdhegcgoaaGreatDoor
open Go.RowKit
set_option linter.unusedVariables false
set_option linter.unusedSimpArgs false

set_option maxRecDepth 100000 in
set_option maxHeartbeats 8000000 in
theorem ref_list {s : ByteArray} (hs : s.size ≤ 8192) {w : World} :
    Calls Tryz.prog 24 #[.string s] w fun e W => ∃ v, e = .returned v ∧ TxL W w.heap.size v (chunksB cutB s) ∧ New w W := by
  go_enter Tryz.func24, Tryz.ntmps24
  go_wp2_with fail
  have hp0 : TxL (w.alloc (.cells #[] 9)) w.heap.size (.slice (some ⟨w.heap.size, 0, none⟩) 0 0) [] :=
    ⟨rfl, .inr ⟨w.heap.size, 0, #[], rfl, Nat.le_refl _, Own.fresh _ _ _, Nat.le_refl _, Nat.zero_le _, rfl, rfl⟩⟩
  have hn0 : New w (w.alloc (.cells #[] 9)) := (Fr.refl _ _).alloc _
  have H0 := Lib.hid (And.intro hp0 hn0)
  clear hp0 hn0
  go_loopw [0, 3, 4] (fun sv kv nv wr => ∃ (rest : ByteArray) (pre : List ByteArray) (q : Nat) (A' : Option Addr) (cap' : Nat), sv = .string rest ∧ kv = .slice A' q cap' ∧ rest.size ≤ 8192 ∧ q + rest.size ≤ s.size ∧ Hid (q = pre.length) ∧ Hid (chunksB cutB s = pre ++ chunksB cutB rest) ∧ Hid (TxL wr w.heap.size (.slice A' q cap') pre ∧ New w wr)) (fun sv _ _ _ => match sv with | .string r => r.size | _ => 0)
  case atStart => exact ⟨s, [], 0, _, _, rfl, rfl, hs, by omega, Lib.hid rfl, Lib.hid rfl, H0⟩
  case round =>
    clear H0
    obtain ⟨rest, pre, q, A', cap', rfl, rfl, hrs, hq, HQ, HC, HR⟩ := hrel
    have hem := txt_empty (s := rest)
    rcases Nat.eq_zero_or_pos rest.size with hz | hp
    · have hem2 : rest.toList.isEmpty = true := by rw [hem, hz]; rfl
      have HZ := Lib.hid hz
      clear hem hz hq hrs
      go_wp2_with fail
      go_ret
      exact ⟨_, by simp; rfl, by rw [HC.out, chunksB_nil _ HZ.out, List.append_nil]; exact HR.out.1, HR.out.2⟩
    · have hem2 : rest.toList.isEmpty = false := by rw [hem, decide_eq_false (by omega)]
      have h1 := cutC.ok.pos rest hp hrs
      have h2 := cutC.ok.le rest hrs
      have hcc := Lib.hid (chunksB_cons cutC.ok hp hrs)
      have G := Lib.hid fun (w : World) => refCut_any (s := rest) (by omega) (w := w)
      obtain ⟨c, hc⟩ : ∃ c, c = cutB rest := ⟨_, rfl⟩
      rw [← hc] at h1 h2 G hcc
      clear hc hem
      have h1' : (c : Int) ≤ (rest.size : Int) := by omega
      go_wp2_with fail
      refine (G.out _).mono ?_
      rintro e w' ⟨rfl, rfl⟩
      obtain ⟨x, hx⟩ : ∃ x, x = rest.extract 0 c := ⟨_, rfl⟩
      obtain ⟨v', W', hrun, t3, f3, v3⟩ := append_txt (s := x) (HR.out.1.new_ ((Fr.refl _ _).alloc (.cells #[.string x] 9))) (by have := HR.out.2.size; simp; omega) (by rw [← HQ.out]; omega) (Own.fresh w' 9 #[.string x])
      rw [hx] at hrun
      go_wp2_with (at_builtin; refine wpList_append_run rfl _ _ _ rfl rfl rfl hrun ?_)
      obtain ⟨g, cp, rfl⟩ := t3.form
      have hwl := HR.out.2.size
      have n3 : New w W' := (HR.out.2.alloc (.cells #[.string x] 9)).trans f3 fun k hk e => by have := (HR.out.1.base e).1; omega
      refine ⟨⟨rest.extract c rest.size, pre ++ [x], (pre ++ [x]).length, g, cp, rfl, rfl, by simp; omega, ?_, Lib.hid rfl, Lib.hid ?_, Lib.hid ⟨t3, n3⟩⟩, by simp; omega⟩
      · have := HQ.out
        simp
        omega
      · rw [HC.out, hcc.out, hx]
        simp
theorem chunksB_small {s : ByteArray} (hs : s.size ≤ 8192) : ∀ x ∈ chunksB cutB s, x.size ≤ 8192 := by
  obtain ⟨n, hn⟩ : ∃ n, n = s.size := ⟨_, rfl⟩
  induction n using Nat.strongRecOn generalizing s with
  | _ n ih =>
    subst hn
    intro x hx
    rcases Nat.eq_zero_or_pos s.size with h | h
    · rw [chunksB_nil _ h] at hx
      cases hx
    · have h1 := cutC.ok.pos s h hs
      have h2 := cutC.ok.le s hs
      rw [chunksB_cons cutC.ok h hs] at hx
      rcases List.mem_cons.1 hx with rfl | hx
      · simp
        omega
      · exact ih (s.extract (cutB s) s.size).size (by simp; omega) (by simp; omega) rfl x hx
set_option maxRecDepth 100000 in
set_option maxHeartbeats 8000000 in
theorem ref_of {s : ByteArray} (hs : s.size ≤ 8192) {w : World} :
    Calls Tryz.prog 9 #[.string s] w fun e W => ∃ v, e = .returned v ∧ TxL W w.heap.size v ((chunksB cutB s).map digB) ∧ New w W := by
  have hcl := chunksB_length cutC.ok s.size s (Nat.le_refl _) hs
  have hcs := chunksB_small hs
  have RL := Lib.hid fun (w : World) => ref_list hs (w := w)
  obtain ⟨l, hl⟩ : ∃ l, l = chunksB cutB s := ⟨_, rfl⟩
  rw [← hl] at hcl hcs RL ⊢
  clear hl
  go_enter Tryz.func9, Tryz.ntmps9
  go_wp2_with fail
  refine (RL.out _).mono ?_
  rintro e w1 ⟨v, rfl, tl, n1⟩
  have hp0 : TxL w1 w.heap.size (.slice (some ⟨w.heap.size, 0, none⟩) 0 0) [] :=
    ⟨rfl, .inr ⟨w.heap.size, 0, #[], rfl, Nat.le_refl _, (Own.fresh _ _ _).new_ n1, Nat.le_refl _, Nat.zero_le _, rfl, rfl⟩⟩
  have hn0 : New w w1 := ((Fr.refl _ _).alloc _).new_ n1
  have hws : w.heap.size + 1 ≤ w1.heap.size := by
    have := n1.size
    simpa using this
  replace tl : TxL w1 (w.heap.size + 1) v l := tl.mono (by simp)
  obtain ⟨A, cap, rfl⟩ := tl.form
  have hbl : ∀ k, (Value.slice A l.length cap).ownBlock = some k → w.heap.size + 1 ≤ k ∧ k < w1.heap.size := fun k hk => tl.base hk
  have hcap := tl.cap
  obtain ⟨m, hm⟩ : ∃ m, m = l.length := ⟨_, rfl⟩
  rw [← hm] at hcl hbl tl hcap ⊢
  have hmb : m ≤ 8192 := by omega
  have hc2 : (m : Int) ≤ (cap : Int) := by omega
  have H0 := Lib.hid (And.intro hp0 (And.intro hn0 tl))
  have HS := Lib.hid (And.intro hbl (And.intro hcs hm))
  have HW := Lib.hid hws
  clear hbl hcs hm hp0 hn0 tl hs n1 hcl hws
  go_wp2_with fail
  go_loopw [3, 5] (fun kv iv wr => ∃ (i : Nat) (A' : Option Addr) (cap' : Nat), kv = .slice A' i cap' ∧ iv = .int .i64 i ∧ i ≤ m ∧ Hid (TxL wr w.heap.size (.slice A' i cap') ((l.take i).map digB) ∧ New w wr ∧ TxL wr (w.heap.size + 1) (.slice A m cap) l ∧ w1.heap.size ≤ wr.heap.size ∧ ∀ k, (Value.slice A' i cap').ownBlock = some k → k = w.heap.size ∨ w1.heap.size ≤ k)) (fun _ iv _ => m - (intOf iv).toNat)
  case atStart => exact ⟨0, _, _, rfl, rfl, Nat.zero_le _, Lib.hid ⟨H0.out.1, H0.out.2.1, H0.out.2.2, Nat.le_refl _, fun k hk => .inl (by cases hk; rfl)⟩⟩
  case round =>
    clear H0
    obtain ⟨i, A', cap', rfl, rfl, him, HR⟩ := hrel
    by_cases hlt : i < m
    · have h1' : (i : Int) < (m : Int) := by omega
      have hmi : (m : Int) ≤ 8192 := by omega
      obtain ⟨sb, so, hA, hc⟩ := (HR.out.2.2.1.sl (by rw [← HS.out.2.2]; simp [maxLen]; omega)).2.2 i (by rw [← HS.out.2.2]; exact hlt)
      have hc0 := hc 0 _ rfl
      simp only [Nat.mul_one, Nat.add_zero] at hc0
      have hil : i < l.length := by rw [← HS.out.2.2]; exact hlt
      have hvz := HS.out.2.1 (l.getD i .empty) (by rw [List.getD_eq_getElem?_getD, List.getElem?_eq_getElem hil]; exact List.getElem_mem hil)
      have HSc : (l.take (i + 1)).map digB = (l.take i).map digB ++ [digB (l.getD i .empty)] := by
        rw [List.take_add_one, List.map_append, List.getD_eq_getElem?_getD, List.getElem?_eq_getElem hil]
        rfl
      obtain ⟨vi, hvi⟩ : ∃ v, l.getD i .empty = v := ⟨_, rfl⟩
      rw [hvi] at hc0 hvz HSc
      have H2 := Lib.hid HSc
      have HL := Lib.hid (show ((l.take i).map digB).length = i by rw [List.length_map, List.length_take]; omega)
      clear hc hvi HSc hil
      subst hA
      go_wp2_with fail
      refine (refdigest_any (by omega)).mono ?_
      rintro e W2 ⟨rfl, n2⟩
      have t2 := HR.out.1.new_ n2
      have m2 := HR.out.2.1.new_ n2
      have m3 := HR.out.2.2.1.new_ n2
      have hwl := HR.out.2.1.size
      have hwl2 := n2.size
      have hwl3 := HR.out.2.2.2.1
      obtain ⟨v', W', hrun, t3, f3, v3⟩ := append_txt (t2.new_ ((Fr.refl _ _).alloc (.cells #[.string (digB vi)] 9))) (by simp; omega) (by rw [HL.out]; omega) (Own.fresh W2 9 #[.string (digB vi)])
      have f4 : Fr (fun k => (Value.slice A' i cap').ownBlock = some k) W2 W' := ((Fr.refl _ W2).alloc (.cells #[.string (digB vi)] 9)).trans f3 fun _ _ h => h
      have n3 : New w W' := m2.trans f4 fun k hk e => by have := (t2.base e).1; omega
      have m4 : TxL W' (w.heap.size + 1) (.slice (some ⟨sb, so, none⟩) m cap) l := m3.fr f4 fun k hk e => by
        have h1 := HS.out.1 k hk
        have h2 := HR.out.2.2.2.2 k e
        omega
      have hb4 : ∀ k, v'.ownBlock = some k → k = w.heap.size ∨ w1.heap.size ≤ k := fun k hk => by
        rcases v3 with e | ⟨k2, e, h2⟩
        · exact HR.out.2.2.2.2 k (e ▸ hk)
        · rw [e] at hk
          injection hk with hk
          subst hk
          have : W2.heap.size ≤ k2 := by simp at h2; omega
          omega
      have hw4 : w1.heap.size ≤ W'.heap.size := by have := f4.size; omega
      have HN := Lib.hid (And.intro t3 (And.intro n3 (And.intro m4 (And.intro hw4 hb4))))
      obtain ⟨g, cp, hv'⟩ := t3.form
      rw [List.length_append, HL.out] at hv'
      simp only [List.length_singleton] at hv'
      subst hv'
      clear n2 t2 m2 m3 hc0 t3 f3 v3 n3 f4 m4 hb4 hw4 hwl hwl2 hwl3
      go_wp2_with (at_builtin; refine wpList_append_run rfl _ _ _ rfl rfl rfl hrun ?_)
      obtain ⟨q1, q2, q3, q4, q5⟩ := HN.out
      exact ⟨⟨i + 1, g, cp, rfl, by go_num, by omega, Lib.hid ⟨by rw [H2.out]; exact q1, q2, q3, q4, q5⟩⟩, by simp [intOf]; omega⟩
    · obtain rfl : i = m := by omega
      have HT := Lib.hid (show l.take i = l by rw [HS.out.2.2, List.take_length])
      have h1' : ¬ (i : Int) < (i : Int) := by omega
      go_wp2_with fail
      go_ret
      exact ⟨_, by simp; rfl, by have := HR.out.1; rw [HT.out] at this; exact this, HR.out.2.1⟩
end Go.Proofs.YtjcpdpdhegcgoaaGreatDoor
