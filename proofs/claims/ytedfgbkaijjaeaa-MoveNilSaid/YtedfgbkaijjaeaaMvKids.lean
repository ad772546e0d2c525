/- The rows of kids: searched. -/
import Derived.Test.YtedfgbkaijjaeaaMvTree
import Derived.LoopTactic
namespace Go.Proofs.Ytedfgbkaijjaeaa
open Go.RowKit Go.Maps
set_option linter.unusedVariables false
set_option linter.unusedSimpArgs false

theorem low_iff {l : List Nat} (h : Up l) {x k : Nat} {y : Nat} (hy : l[k]? = some y) : y < x ↔ k < lowB l x := by
  induction l generalizing k with
  | nil => simp at hy
  | cons a l ih =>
    obtain ⟨h1, h2⟩ := List.pairwise_cons.1 h
    rw [lowB_cons]
    cases k with
    | zero =>
      simp at hy
      subst hy
      split <;> omega
    | succ k =>
      have hy' : l[k]? = some y := by simpa using hy
      have := ih h2 hy'
      split
      · omega
      · have := h1 y (List.mem_of_getElem? hy')
        omega
theorem uCells_eq (l : List Nat) : uCells l = l.map (fun (p : Nat) => Value.int .u64 (p : Int)) := by
  induction l with
  | nil => rfl
  | cons a l ih => simp [uCells, ih]
theorem UL.get {W : World} {A : Option Addr} {n cap : Nat} {l : List Nat} (h : UL W (.slice A n cap) l) {i : Nat} (hi : i < n) (hn : n = l.length) : ∃ g y, A = some ⟨g, 0, none⟩ ∧ l[i]? = some y ∧ W.cell? ⟨g, i, none⟩ = some (.int .u64 (y : Int)) := by
  obtain ⟨g, e, hc⟩ := h.at_ hi
  have hy : l[i]? = some l[i] := List.getElem?_eq_getElem (by omega)
  have := hc 0 (.int .u64 (l[i] : Int)) (by rw [uCells_eq, Nat.add_zero, List.getElem?_map, hy]; rfl) (by omega)
  exact ⟨g, l[i], e, hy, this⟩
set_option maxRecDepth 100000 in
set_option maxHeartbeats 4000000 in
theorem bs_any {w : World} {A : Option Addr} {n cap : Nat} {l : List Nat} (h : UL w (.slice A n cap) l) (hn : n = l.length) (hl : n ≤ 100000) (hu : Up l) (x : Nat) :
    Calls Try.prog 102 #[.slice A n cap, .int .u64 (x : Int)] w fun e W => e = .returned (.tuple #[.int .i64 (lowB l x : Nat), .bool (decide (x ∈ l))]) ∧ W = w := by
  obtain ⟨p, hp⟩ : ∃ p, p = lowB l x := ⟨_, rfl⟩
  have hpn : p ≤ n := by rw [hp, hn]; exact lowB_le _ _
  have HI := Lib.hid fun (k y : Nat) (e : l[k]? = some y) => hp ▸ low_iff hu (x := x) e
  have HG := Lib.hid fun (k : Nat) (hk : k < n) => h.get hk hn
  have HA := Lib.hid (show l[p]? = some x ↔ x ∈ l from by rw [hp]; exact at_low hu)
  rw [← hp]
  clear hp
  have hl' : (n : Int) ≤ 100000 := by omega
  have HN := Lib.hid hn
  clear h hn hu hl
  go_enter Try.func102, Try.ntmps102
  go_wp2
  go_loopw [7, 8] (fun iv jv wr => ∃ i j : Nat, iv = .int .i64 i ∧ jv = .int .i64 j ∧ i ≤ p ∧ p ≤ j ∧ j ≤ n ∧ wr = w) (fun iv jv _ => (intOf jv).toNat - (intOf iv).toNat)
  case atStart => exact ⟨0, n, rfl, rfl, Nat.zero_le _, hpn, Nat.le_refl _, rfl⟩
  case round =>
    obtain ⟨i, j, rfl, rfl, h1, h2, h3, rfl⟩ := hrel
    by_cases hij : i < j
    · have hij' : (i : Int) < (j : Int) := by omega
      have hj' : (j : Int) ≤ 100000 := by omega
      obtain ⟨m, hm⟩ : ∃ m : Nat, ((i : Int) + (j : Int)) / 2 = (m : Int) := ⟨(i + j) / 2, by omega⟩
      have hm1 : i ≤ m ∧ m < j := by omega
      obtain ⟨g, y, rfl, hy, hc⟩ := HG.out m (by omega)
      have hmn : (m : Int) < (n : Int) := by omega
      have HY := Lib.hid (HI.out m y hy)
      clear hy
      by_cases hyx : y < x
      · have hyx' : (y : Int) < (x : Int) := by omega
        have h4 := HY.out.1 hyx
        go_wp2
        refine ⟨⟨m + 1, j, by simp, rfl, by omega, h2, h3, trivial⟩, ?_⟩
        show (j : Int).toNat - ((m : Int) + 1).toNat < (j : Int).toNat - (i : Int).toNat
        omega
      · have hyx' : ¬ (y : Int) < (x : Int) := by omega
        have h4 : p ≤ m := Nat.le_of_not_lt fun h => hyx (HY.out.2 h)
        go_wp2
        refine ⟨⟨i, m, rfl, rfl, h1, h4, by omega, trivial⟩, ?_⟩
        show (m : Int).toNat - (i : Int).toNat < (j : Int).toNat - (i : Int).toNat
        omega
    · have hij' : ¬ (i : Int) < (j : Int) := by omega
      obtain rfl : i = p := by omega
      by_cases hin : i < n
      · have hin' : (i : Int) < (n : Int) := by omega
        obtain ⟨g, y, rfl, hy, hc⟩ := HG.out i hin
        have HL := Lib.hid (show l[i]? = some x ↔ x ∈ l from HA.out)
        have HY := Lib.hid hy
        clear hy
        by_cases hyx : y = x
        · subst hyx
          go_wp2
          exact bodyPost_ret (v := .tuple #[.int .i64 i, .bool true]) (by simp [results, Try.results102, go_sem, *]) rfl ⟨by rw [show decide (y ∈ l) = true from decide_eq_true (HL.out.1 HY.out)], rfl⟩
        · have hyx' : ((y : Int) == (x : Int)) = false := by simp; omega
          have HN' := Lib.hid (show decide (x ∈ l) = false from decide_eq_false fun h => hyx (by
            have h1 := HL.out.2 h
            rw [HY.out] at h1
            injection h1))
          go_wp2
          exact bodyPost_ret (v := .tuple #[.int .i64 i, .bool false]) (by simp [results, Try.results102, go_sem, *]) rfl ⟨by rw [HN'.out], rfl⟩
      · have hin' : ¬ (i : Int) < (n : Int) := by omega
        have HN' := Lib.hid (show decide (x ∈ l) = false from decide_eq_false fun h => by
          have h1 := HA.out.2 h
          rw [List.getElem?_eq_none (by rw [← HN.out]; omega)] at h1
          cases h1)
        go_wp2
        exact bodyPost_ret (v := .tuple #[.int .i64 i, .bool false]) (by simp [results, Try.results102, go_sem, *]) rfl ⟨by rw [HN'.out], rfl⟩
end Go.Proofs.Ytedfgbkaijjaeaa
