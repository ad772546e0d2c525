/- The chunks of a text, as a list. -/
import Derived.Test.YtjcpdpdhegcgoaaGreatDoorMkChunk
import Derived.Test.YtjcpdpdhegcgoaaGreatDoorTxL
import Derived.Test.YtjcpdpdhegcgoaaGreatDoorRounds
namespace Go.Proofs.YtjcpdpdhegcgoaaGreatDoor
open Go.RowKit Go.Shelf
set_option linter.unusedVariables false
set_option linter.unusedSimpArgs false
attribute [local go_sem] Oper.semAt_some

theorem TxL.cells {W : World} {B : Nat} {v : Value} {l : List ByteArray} (h : TxL W B v l) {k : Nat} {o : Obj} (hk : v.ownBlock = some k) (ho : W.heap[k]? = some o) : o.isCells = true := by
  rcases h.2 with ⟨e, h0⟩ | ⟨g, cap, cur, e, hB, hg, r⟩
  · rw [e] at hk
    cases hk
  · subst e
    injection hk with hk
    have e2 : g = k := hk
    subst e2
    rw [hg] at ho
    injection ho with ho
    subst ho
    rfl
theorem TxL.stp {B0 b : Nat} {W W' : World} {B : Nat} {v : Value} {l : List ByteArray} (h : TxL W B v l) (s : Stp B0 b W W') (hb : b < B) : TxL W' B v l := by
  rcases h.2 with ⟨e, h0⟩ | ⟨g, cap, cur, e, hB, hg, r⟩
  · exact ⟨h.1, .inl ⟨e, h0⟩⟩
  · subst e
    refine ⟨h.1, .inr ⟨g, cap, cur, rfl, hB, (s.block g (lt_of_block hg) fun a => ?_).trans hg, r⟩⟩
    rcases a with e | ⟨_, o, ho, hn⟩
    · omega
    · rw [h.cells (k := g) rfl ho] at hn
      cases hn
/-- What the loop of List keeps. -/
def LstI (w : World) (xs : List ByteArray) (W : World) : Prop := ∃ v, Own W w.heap.size 24 #[v] ∧ TxL W (w.heap.size + 2) v xs ∧ New w W ∧ w.heap.size + 2 ≤ W.heap.size
theorem LstI.stp {w : World} {xs : List ByteArray} {W W' : World} {B : Nat} (h : LstI w xs W) (s : Stp B (w.heap.size + 1) W W') (hB : w.heap.size ≤ B) : LstI w xs W' := by
  obtain ⟨v, h1, h2, h3, h4⟩ := h
  exact ⟨v, h1.stp s (by omega), h2.stp s (by omega), h3.stp s hB (.inl (by omega)), Nat.le_trans h4 s.size⟩
set_option maxRecDepth 100000 in
set_option maxHeartbeats 4000000 in
theorem chunk_list {cut : ByteArray → Nat} {m : Nat} (hc : CutC cut m) (hm : m ≤ 100000) {s : ByteArray} (hs : s.size ≤ m) {w : World} :
    Calls Tryz.prog 39 #[.string s] w fun e W => ∃ v, e = .returned v ∧ TxL W w.heap.size v (chunksB cut s) ∧ New w W := by
  refine (callsIn_wide (n := 4)).1 ?_
  refine callsIn_of_wp_marks Tryz.func39 rfl trivial ?_
  simp only [Tryz.ntmps39, List.size_toArray, List.length_cons, List.length_nil, Nat.reduceAdd, Nat.reduceSub, Array.replicate_succ, Array.replicate_zero, List.push_toArray, List.append_toArray, List.nil_append, List.cons_append]
  refine wpIn_wide.2 ?_
  go_wp2_with fail
  have ho0 := Own.fresh w 24 #[.slice none 0 0]
  have hn0 : New w (w.alloc (.cells #[.slice none 0 0] 24)) := (Fr.refl _ _).alloc _
  have hs0 : (w.alloc (.cells #[.slice none 0 0] 24)).heap.size = w.heap.size + 1 := by simp
  obtain ⟨W0, hW0⟩ : ∃ W0, W0 = w.alloc (.cells #[.slice none 0 0] 24) := ⟨_, rfl⟩
  rw [← hW0] at ho0 hn0 hs0 ⊢
  clear hW0
  refine chunk_all.mono ?_
  rintro e W1 ⟨rfl, hW1⟩
  have hbx : Own W1 (w.heap.size + 1) 9 #[.string s] := by
    rw [hW1, ← hs0]
    exact Own.fresh _ _ _
  have ho1 : Own W1 w.heap.size 24 #[.slice none 0 0] := hW1 ▸ ho0.alloc _
  have hn1 : New w W1 := hW1 ▸ hn0.alloc _
  have hs1 : W1.heap.size = w.heap.size + 2 := by rw [hW1]; simp [hs0]
  rw [hs0]
  clear hW1 ho0 hn0 hs0 W0
  go_wp2_with fail
  refine (wpIn_wide (n := 4)).1 ?_
  refine wpIn_rangeFunc_boxed (b := w.heap.size + 1) (N := s.size) (S := fun xs => xs = chunksB cut s) (T := fun x => x.size ≤ m) (encs := fun x : ByteArray => #[.string x]) (gf := 72) (lb := #[.pointer (some ⟨w.heap.size + 1, 0, none⟩)]) rfl (by omega) rfl trivial (enters_of Tryz.func72 (by kernel_rfl) rfl)
    hbx.lt (chunk_all1 hc (by simp [maxLen]; omega) hs hbx 3 (by omega)) (fun _ => rfl) (LstI w) (fun xs X Y h st => h.stp st (by omega)) ⟨_, ho1, TxL.nil _ _, hn1, by omega⟩ (fun x => { tmps := #[.string s, undef, .slice none 0 0, .pointer (some ⟨w.heap.size, 0, none⟩), .string x, .string s, .func (.func 72) #[] #[.pointer (some ⟨w.heap.size + 1, 0, none⟩)], .string x, undef, undef, undef, undef, undef], defers := [] }) ?assign ?body ?done
  case assign =>
    intro l x W K hK
    gi_wp2
    exact hK
  case body =>
    rintro l pre x W ⟨v, h1, h2, h3, h4⟩ hT hlen
    have hws := h3.size
    obtain ⟨A, cap, rfl⟩ := h2.form
    have hpl : pre.length ≤ 100000 := by omega
    obtain ⟨v', W', hrun, t3, f3, v3⟩ := append_txt (h2.new_ ((Fr.refl _ _).alloc (.cells #[.string x] 9))) (by simp; omega) hpl (Own.fresh W 9 #[.string x])
    have c0 : W.cell? ⟨w.heap.size, 0, none⟩ = some (.slice A pre.length cap) := h1.cell 0
    have hne : ∀ k, (Value.slice A pre.length cap).ownBlock = some k → w.heap.size + 2 ≤ k ∧ k < W.heap.size := fun k hk => h2.base hk
    have f4 : Fr (fun k => (Value.slice A pre.length cap).ownBlock = some k) W W' := ((Fr.refl _ W).alloc (.cells #[.string x] 9)).trans f3 fun _ _ h => h
    have h1' : Own W' w.heap.size 24 #[.slice A pre.length cap] := h1.fr f4 fun e => by have := hne _ e; omega
    have c1 : W'.cell? ⟨w.heap.size, 0, none⟩ = some (.slice A pre.length cap) := h1'.cell 0
    have d1 : W'.frozen? ⟨w.heap.size, 0, none⟩ = false := h1'.free 0
    have h5 : Own (W'.setCell ⟨w.heap.size, 0, none⟩ v') w.heap.size 24 #[v'] := h1'.put rfl
    have hvb : ∀ k, v'.ownBlock = some k → k ≠ w.heap.size := fun k hk e => by have := (t3.base hk).1; omega
    have f5 : Fr (fun k => k = w.heap.size ∨ (Value.slice A pre.length cap).ownBlock = some k) W (W'.setCell ⟨w.heap.size, 0, none⟩ v') := Fr.set (p := ⟨w.heap.size, 0, none⟩) (f4.mono fun _ h => .inr h) (fun _ => .inl rfl) _
    have t5 : TxL (W'.setCell ⟨w.heap.size, 0, none⟩ v') (w.heap.size + 2) v' (pre ++ [x]) := t3.fr (Fr.set (F := fun k => k = w.heap.size) (p := ⟨w.heap.size, 0, none⟩) (Fr.refl _ W') (fun _ => rfl) _) hvb
    have P1 : KeepsFrom W1.heap.size W (W'.setCell ⟨w.heap.size, 0, none⟩ v') := keepsFrom_of_fr f5 fun k o hk ho => by
      rcases hk with e | e
      · subst e
        exact h1.cells ho
      · exact h2.cells e ho
    have P2 : (W'.setCell ⟨w.heap.size, 0, none⟩ v').heap[w.heap.size + 1]? = W.heap[w.heap.size + 1]? := f5.block _ (by omega) fun hk => by
      rcases hk with e | e
      · omega
      · have := (hne _ e).1
        omega
    have P3 : LstI w (pre ++ [x]) (W'.setCell ⟨w.heap.size, 0, none⟩ v') := ⟨v', h5, t5, h3.trans f5 fun k hk e => by
      rcases e with e | e
      · omega
      · have := (hne _ e).1
        omega, Nat.le_trans h4 f5.size⟩
    have HP := Lib.hid (And.intro P1 (And.intro P2 P3))
    obtain ⟨g, cap', hv'⟩ := t3.form
    rw [List.length_append, List.length_singleton] at hv'
    subst hv'
    clear h5 hvb f5 t5 P1 P2 P3 f4 h1' hne t3 f3 v3 h2
    refine wpIn_block ?_
    refine wpIn_region_plain (by kernel_rfl) (fun ⟨_, _, h⟩ => h) ?_
    go_wp2_with (at_builtin; refine wpList_append_run rfl _ _ _ rfl rfl rfl hrun ?_)
    exact HP.out
  case done =>
    rintro D xs W hD rfl ⟨v, h1, h2, h3, h4⟩ hK
    have c0 : W.cell? ⟨w.heap.size, 0, none⟩ = some v := h1.cell 0
    have f0 : W.frozen? ⟨w.heap.size, 0, none⟩ = false := h1.free 0
    have HI := Lib.hid (And.intro h2 h3)
    clear h1 h2 h3
    obtain ⟨A, cap, rfl⟩ := HI.out.1.form
    go_wp2_with fail
    refine ⟨by simp, .inl ⟨_, _, rfl, run_takeDeferred hK, ?_⟩⟩
    have st : Stp W1.heap.size (w.heap.size + 1) W (W.putObj D (.deferred none)) := Stp.put _ hK rfl hD
    exact ⟨_, results_tmp rfl _ _ _, _, rfl, (HI.out.1.stp st (by omega)).mono (by omega), HI.out.2.stp st (by omega) (.inl (by omega))⟩
end Go.Proofs.YtjcpdpdhegcgoaaGreatDoor
