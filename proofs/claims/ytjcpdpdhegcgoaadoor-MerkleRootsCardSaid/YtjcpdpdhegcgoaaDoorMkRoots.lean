/- The root of any digests is the reference's. -/
import Derived.Test.YtjcpdpdhegcgoaaDoorMkRefRoot
import Derived.Test.YtjcpdpdhegcgoaaDoorMkVerify
import Derived.Test.YtjcpdpdhegcgoaaDoorOpen
import Derived.SizedLaws
namespace Go.Proofs.YtjcpdpdhegcgoaaDoor
open Go.RowKit
set_option linter.unusedVariables false
set_option linter.unusedSimpArgs false

theorem weightsAll_mem {H : Type} {P : Program} {e : TypeId} : ∀ {ds : List (DataW H)} {d : DataW H}, d ∈ ds → ∀ n ∈ d.weights P e, n ∈ DataW.weightsAll P e ds
  | d0 :: ds, d, hd, n, hn => by
    unfold DataW.weightsAll
    rcases List.mem_cons.1 hd with rfl | hd
    · exact List.mem_append.2 (.inl hn)
    · exact List.mem_append.2 (.inr (weightsAll_mem hd n hn))
/-- A slice of texts as it reads, each within the reach. -/
theorem texts_opened {H : Type} {enc : TypeId × Value → H} {w : World} {base : Nat} {spare : Nat → Bool} {held : Bool} {t fuel : Nat} {cs : List Value} {x : DataW H × List MemPlace} (hu : Tryd.prog.underlying t = some (.slice 9))
    (h : DataW.trod enc Tryd.prog w base spare held fuel t cs = some x) (hz : ∀ n ∈ x.1.weights Tryd.prog t, n ≤ reachBytes) : ∃ y : ESl ByteArray, cs = [.slice y.adr y.len y.cap] ∧ ESl9.facts w y ∧ ∀ i, i < y.len → (y.at_ i).size ≤ 140737488351232 := by
  rcases Deep.open_slice hu h with ⟨rfl, _⟩ | ⟨a, len, cap, m, n, D, Pl, rfl, _, hl, hm, hmm, rfl, hx⟩
  · exact ⟨⟨none, 0, 0, fun _ => default⟩, rfl, ⟨Sl.none_ _ _ _, Nat.le_refl _, Nat.zero_le _, fun i hi => absurd hi (Nat.not_lt_zero i)⟩, fun i hi => absurd hi (Nat.not_lt_zero i)⟩
  have hlm : len ≤ m := by rw [hmm]; split <;> omega
  rw [cells9] at hx
  obtain ⟨V, hV⟩ := Deep.choose_lt (α := ByteArray) (n := len) (p := fun i y => (w.cells? base (a.add (i * 1)) 1 = some (ESl9.cell y) ∧ y.size ≤ maxLen) ∧ y.size ≤ 140737488351232) (fun i hi => by
    obtain ⟨cs', h1, h2⟩ := hx i (by omega)
    obtain ⟨y, q, q2, fw⟩ := DataW.trod_string Tryd.underlying9 h2
    subst q
    have hD : D i = .lit (.string y.data.toList) := congrArg Prod.fst q2
    refine ⟨y, ⟨h1, fw⟩, ?_⟩
    have hmem : D i ∈ (List.range len).map D := List.mem_map.2 ⟨i, List.mem_range.2 hi, rfl⟩
    have hw : y.data.toList.length ∈ (D i).weights Tryd.prog 9 := by rw [hD]; simp [DataW.weights]
    have := hz y.data.toList.length (by
      simp only [DataW.weights, hu]
      exact List.mem_cons.2 (.inr (List.mem_append.2 (.inl (weightsAll_mem hmem _ hw)))))
    rw [Array.length_toList] at this
    exact this)
  refine ⟨⟨some a, len, cap, V⟩, rfl, ⟨Sl.of_cells (by decide) (show len ≤ maxLen from by omega) (fun i hi => (hV i hi).1.1), hl, hm, fun i hi => (hV i hi).1.2⟩, fun i hi => (hV i hi).2⟩
set_option maxHeartbeats 2000000 in
theorem mk_digest_big {s : ByteArray} (hs : s.size ≤ 140737488351232) {w : World} : Calls Tryd.prog 10 #[.string s] w fun e W => e = .returned (.string (digB s)) ∧ New w W := by
  have hT : ∀ i, i ≤ 1 → (tailL (fun _ => s) i).length + 4 * 1 ≤ 140737488351900 := fun i hi => by
    have h0 : (tailL (fun _ => s) 0).length = 0 := by simp [tailL]
    have hc : i = 0 ∨ i = 1 := by omega
    rcases hc with rfl | rfl
    · omega
    · rw [tailL_succ, List.length_append, data_len]
      omega
  go_enter Tryd.func10, Tryd.ntmps10
  go_wp2_with fail
  refine (tagged_fit 75 _ 1 1 (fun _ => s) _ (sl_one' (Own.fresh w _ _)) (by omega) hT).mono ?_
  rintro e w1 ⟨rfl, n1⟩
  go_wp2_with fail
  go_ret
  exact ⟨rfl, ((Fr.refl _ _).alloc _).new_ n1⟩
/-- The digests of the first i texts. -/
def digsV (V : Nat → ByteArray) (i : Nat) : List ByteArray := (List.range i).map fun j => digB (V j)
theorem digsV_length (V : Nat → ByteArray) (i : Nat) : (digsV V i).length = i := by simp [digsV]
theorem digsV_succ (V : Nat → ByteArray) (i : Nat) : digsV V (i + 1) = digsV V i ++ [digB (V i)] := by simp [digsV, List.range_succ]
theorem digsV_le (V : Nat → ByteArray) (i : Nat) : ∀ x ∈ digsV V i, x.size ≤ 100000 := fun x hx => by
  obtain ⟨j, _, rfl⟩ := List.mem_map.1 hx
  rw [digB_size]
  omega
set_option maxRecDepth 100000 in
set_option maxHeartbeats 8000000 in
theorem merkleRoots_core {w : World} (l : ESl ByteArray) (hl : ESl9.facts w l) (hz : ∀ i, i < l.len → (l.at_ i).size ≤ 140737488351232) :
    Calls Tryd.prog 4 #[.slice l.adr l.len l.cap] w fun e W => e = .returned (.bool true) ∧ New w W := by
  obtain ⟨hsl, hlc, hcm, -⟩ := hl
  obtain ⟨A, len, cap, V⟩ := l
  simp only at hsl hlc hcm hz ⊢
  have hmx : len ≤ maxLen := by omega
  go_enter Tryd.func4, Tryd.ntmps4
  go_wp2_with fail
  have hp0 : TxL (w.alloc (.cells #[] 9)) w.heap.size (.slice (some ⟨w.heap.size, 0, none⟩) 0 0) (digsV V 0) :=
    ⟨rfl, .inr ⟨w.heap.size, 0, #[], rfl, Nat.le_refl _, Own.fresh _ _ _, Nat.le_refl _, Nat.zero_le _, rfl, rfl⟩⟩
  have hn0 : New w (w.alloc (.cells #[] 9)) := (Fr.refl _ _).alloc _
  have HS := Lib.hid (And.intro hsl hz)
  have H0 := Lib.hid (And.intro hp0 hn0)
  clear hsl hz hp0 hn0
  go_loopw [3, 4] (fun kv iv wr => ∃ (i : Nat) (A' : Option Addr) (cap' : Nat), kv = .slice A' i cap' ∧ iv = .int .i64 i ∧ i ≤ len ∧ i ≤ 40 ∧ Hid (TxL wr w.heap.size (.slice A' i cap') (digsV V i) ∧ New w wr)) (fun _ iv _ => len - (intOf iv).toNat)
  case atStart => exact ⟨0, _, _, rfl, rfl, Nat.zero_le _, by omega, H0⟩
  case round =>
    clear H0
    obtain ⟨i, A', cap', rfl, rfl, hil, hi40, HR⟩ := hrel
    by_cases hlt : i < len ∧ i < 40
    · obtain ⟨h1, h2⟩ := hlt
      have h1' : (i : Int) < (len : Int) := by omega
      have h2' : (i : Int) < 40 := by omega
      obtain ⟨sb, so, hA, hc⟩ := (HS.out.1.new_ HR.out.2).2 i h1
      have hc0 := hc 0 _ rfl
      simp only [Nat.mul_one, Nat.add_zero] at hc0
      have hvz := HS.out.2 i h1
      have HSc := digsV_succ V i
      obtain ⟨vi, hvi⟩ : ∃ v, V i = v := ⟨_, rfl⟩
      rw [hvi] at hc0 hvz HSc
      have HA := Lib.hid hA
      have H2 := Lib.hid HSc
      clear hc hvi HSc
      subst hA
      go_wp2_with fail
      refine (mk_digest_big hvz).mono ?_
      rintro e W2 ⟨rfl, n2⟩
      have t2 := HR.out.1.new_ n2
      have m2 := HR.out.2.new_ n2
      have hwl := HR.out.2.size
      have hwl2 := n2.size
      obtain ⟨v', W', hrun, t3, f3, v3⟩ := append_txt (t2.new_ ((Fr.refl _ _).alloc (.cells #[.string (digB vi)] 9))) (by simp; omega) (by rw [digsV_length]; omega) (Own.fresh W2 9 #[.string (digB vi)])
      have n3 : New w W' := (m2.alloc (.cells #[.string (digB vi)] 9)).trans f3 fun k hk e => by have := (t2.base e).1; omega
      obtain ⟨g, cp, hv'⟩ := t3.form
      rw [← H2.out, digsV_length] at hv'
      subst hv'
      have HN := Lib.hid (And.intro t3 n3)
      clear n2 t2 m2 hc0 t3 f3 v3 n3
      go_wp2_with (at_builtin; refine wpList_append_run rfl _ _ _ rfl rfl rfl hrun ?_)
      refine ⟨⟨i + 1, g, cp, rfl, by go_num, by omega, by omega, Lib.hid ⟨by rw [H2.out]; exact HN.out.1, HN.out.2⟩⟩, by simp [intOf]; omega⟩
    · have HT := HR.out.1.cap
      have HSl := SlT.of_txl HR.out.1 (by rw [digsV_length]; simp [maxLen]; omega)
      have hN := HR.out.2
      have hge : (i : Int) < (len : Int) ∧ ¬ (i : Int) < 40 ∨ ¬ (i : Int) < (len : Int) := by omega
      have B1 := fun x => Calls.nw_of (x := x) (w := wr) (merkle_awake (w := nw wr x))
      have B2 := fun x => Calls.nw_of (x := x) (w := wr) (root_any i A' i cap' (digsV V i) (nw wr x) (Nat.le_refl _) (HSl.new_ (nw_new wr x)) HT.1 HT.2 (by omega) (digsV_le V i))
      have B3 := fun x => Calls.nw_of (x := x) (w := wr) (refRoot_any i A' i cap' (digsV V i) (nw wr x) (Nat.le_refl _) (HSl.new_ (nw_new wr x)) HT.1 HT.2 (by omega) (digsV_le V i))
      have HN := Lib.hid hN
      obtain ⟨r, hr⟩ : ∃ r, r = rootB (digsV V i) := ⟨_, rfl⟩
      rw [← hr] at B2 B3
      clear hN hlt
      by_cases h1 : i = 1
      · subst h1
        obtain ⟨b, o, hA, hc⟩ := HSl.2.2 0 (by omega)
        have hrd : (digsV V 1).getD 0 .empty = r := by rw [hr]; exact (rootB_one (digsV_length V 1)).symm
        have q0 : ∀ x, (nw wr x).cell? ⟨b, o, none⟩ = some (.string r) := fun x => by
          obtain ⟨b', o', e, hc'⟩ := (HSl.new_ (nw_new wr x)).2.2 0 (by omega)
          rw [hA] at e
          cases e
          have := hc' 0 _ rfl
          rw [hrd] at this
          simpa using this
        subst hA
        clear hc hrd hr HSl HT HR
        rcases hge with ⟨e1, e2⟩ | e1
        · exfalso
          omega
        · go_wp2_with fail
          refine wp_region_new_lit (by kernel_rfl) (by kernel_rfl) ?_; (repeat (any_goals (first | go_big_quiet_step ((first | (go_at_call 6; with_reducible exact B1 _) | (go_at_call 11; with_reducible exact B2 _) | (go_at_call 12; with_reducible exact B3 _))) | quiet_step ((first | (go_at_call 6; with_reducible exact B1 _) | (go_at_call 11; with_reducible exact B2 _) | (go_at_call 12; with_reducible exact B3 _))) | (refine wpQuiet_step (fun K hK => ?_); go_simp; split <;> (refine hK _ ?_; clear hK K))))); all_goals (refine wpQuiet_nil ?_; intro _ hw'; obtain ⟨xq, hw''⟩ := hw'; subst hw''; have hnq := nw_new _ xq)
          clear B1 B2 B3
          go_wp2_with fail
          go_ret
          exact ⟨rfl, HN.out.new_ hnq⟩
      · have h1' : ¬ (i : Int) = 1 := by omega
        clear hr HSl HT HR
        rcases hge with ⟨e1, e2⟩ | e1
        · go_wp2_with fail
          refine wp_region_new_lit (by kernel_rfl) (by kernel_rfl) ?_; (repeat (any_goals (first | go_big_quiet_step ((first | (go_at_call 6; with_reducible exact B1 _) | (go_at_call 11; with_reducible exact B2 _) | (go_at_call 12; with_reducible exact B3 _))) | quiet_step ((first | (go_at_call 6; with_reducible exact B1 _) | (go_at_call 11; with_reducible exact B2 _) | (go_at_call 12; with_reducible exact B3 _))) | (refine wpQuiet_step (fun K hK => ?_); go_simp; split <;> (refine hK _ ?_; clear hK K))))); all_goals (refine wpQuiet_nil ?_; intro _ hw'; obtain ⟨xq, hw''⟩ := hw'; subst hw''; have hnq := nw_new _ xq)
          clear B1 B2 B3
          go_wp2_with fail
          go_ret
          exact ⟨rfl, HN.out.new_ hnq⟩
        · go_wp2_with fail
          refine wp_region_new_lit (by kernel_rfl) (by kernel_rfl) ?_; (repeat (any_goals (first | go_big_quiet_step ((first | (go_at_call 6; with_reducible exact B1 _) | (go_at_call 11; with_reducible exact B2 _) | (go_at_call 12; with_reducible exact B3 _))) | quiet_step ((first | (go_at_call 6; with_reducible exact B1 _) | (go_at_call 11; with_reducible exact B2 _) | (go_at_call 12; with_reducible exact B3 _))) | (refine wpQuiet_step (fun K hK => ?_); go_simp; split <;> (refine hK _ ?_; clear hK K))))); all_goals (refine wpQuiet_nil ?_; intro _ hw'; obtain ⟨xq, hw''⟩ := hw'; subst hw''; have hnq := nw_new _ xq)
          clear B1 B2 B3
          go_wp2_with fail
          go_ret
          exact ⟨rfl, HN.out.new_ hnq⟩
theorem merkleRoots_walk {w : World} (l : ESl ByteArray) (hl : ESl9.facts w l) (hz : ∀ i, i < l.len → (l.at_ i).size ≤ 140737488351232) :
    Calls Tryd.prog 4 #[.slice l.adr l.len l.cap] w fun e W => e = .returned (.bool true) ∧ New w W := merkleRoots_core l hl hz
end Go.Proofs.YtjcpdpdhegcgoaaDoor
