/- The chunks of a text, ranged over, as far as the cut is known. -/
import Derived.Test.YtjcpdpdhegcgoaaGreatDoorRangeBox
namespace Go.Proofs.YtjcpdpdhegcgoaaGreatDoor
open Go.RowKit Go.Shelf
set_option linter.unusedVariables false
set_option linter.unusedSimpArgs false
attribute [local go_sem] Oper.semAt_some

/-- The chunks of a text by a cut. -/
def chunksF (cut : ByteArray → Nat) : Nat → ByteArray → List ByteArray
  | 0, _ => []
  | k + 1, s => if s.size = 0 then [] else s.extract 0 (cut s) :: chunksF cut k (s.extract (cut s) s.size)
def chunksB (cut : ByteArray → Nat) (s : ByteArray) : List ByteArray := chunksF cut s.size s
structure CutOk (cut : ByteArray → Nat) (m : Nat) : Prop where
  pos : ∀ s : ByteArray, 0 < s.size → s.size ≤ m → 1 ≤ cut s
  le : ∀ s : ByteArray, s.size ≤ m → cut s ≤ s.size
theorem chunksF_fuel {cut : ByteArray → Nat} {m : Nat} (hc : CutOk cut m) : ∀ (k : Nat) (s : ByteArray), s.size ≤ m → s.size ≤ k → chunksF cut k s = chunksB cut s := by
  intro k
  induction k using Nat.strongRecOn with
  | _ k ih =>
    intro s hm hk
    unfold chunksB
    match k, hk with
    | 0, hk =>
      have : s.size = 0 := by omega
      rw [this]
    | k + 1, hk =>
      rcases Nat.eq_zero_or_pos s.size with h0 | hp
      · rw [h0]
        simp [chunksF, h0]
      · obtain ⟨j, hj⟩ : ∃ j, s.size = j + 1 := ⟨s.size - 1, by omega⟩
        have h1 := hc.pos s hp hm
        have h2 := hc.le s hm
        have hs : (s.extract (cut s) s.size).size = s.size - cut s := by simp
        rw [hj]
        unfold chunksF
        rw [if_neg (by omega), if_neg (by omega)]
        congr 1
        rw [ih k (by omega) _ (by omega) (by omega)]
        by_cases hjk : j = k
        · subst hjk
          exact (ih j (by omega) _ (by omega) (by omega)).symm
        · exact (ih j (by omega) _ (by omega) (by omega)).symm
theorem chunksB_nil (cut : ByteArray → Nat) {s : ByteArray} (h : s.size = 0) : chunksB cut s = [] := by
  unfold chunksB
  rw [h]
  rfl
theorem chunksB_cons {cut : ByteArray → Nat} {m : Nat} (hc : CutOk cut m) {s : ByteArray} (hp : 0 < s.size) (hm : s.size ≤ m) : chunksB cut s = s.extract 0 (cut s) :: chunksB cut (s.extract (cut s) s.size) := by
  have h1 := hc.pos s hp hm
  have h2 := hc.le s hm
  have hs : (s.extract (cut s) s.size).size = s.size - cut s := by simp
  obtain ⟨j, hj⟩ : ∃ j, s.size = j + 1 := ⟨s.size - 1, by omega⟩
  conv => lhs; unfold chunksB; rw [hj]
  unfold chunksF
  rw [if_neg (by omega), chunksF_fuel hc j _ (by omega) (by omega)]
theorem chunksB_length {cut : ByteArray → Nat} {m : Nat} (hc : CutOk cut m) : ∀ (k : Nat) (s : ByteArray), s.size ≤ k → s.size ≤ m → (chunksB cut s).length ≤ s.size := by
  intro k
  induction k with
  | zero =>
    intro s hk hm
    rw [chunksB_nil cut (by omega)]
    simp
  | succ k ih =>
    intro s hk hm
    rcases Nat.eq_zero_or_pos s.size with h0 | hp
    · rw [chunksB_nil cut h0]
      simp
    · have h1 := hc.pos s hp hm
      have h2 := hc.le s hm
      have hs : (s.extract (cut s) s.size).size = s.size - cut s := by simp
      rw [chunksB_cons hc hp hm, List.length_cons]
      have := ih (s.extract (cut s) s.size) (by omega) (by omega)
      omega

theorem txt_loop (bs : ByteArray) : ∀ (n i : Nat) (r : List UInt8), bs.size - i = n → ByteArray.toList.loop bs i r = r.reverse ++ bs.data.toList.drop i
  | 0, i, r, h => by
    unfold ByteArray.toList.loop
    have h2 : ¬ i < bs.size := by omega
    rw [if_neg h2, List.drop_eq_nil_of_le (by rw [Array.length_toList]; show bs.size ≤ i; omega), List.append_nil]
  | n + 1, i, r, h => by
    unfold ByteArray.toList.loop
    have h2 : i < bs.size := by omega
    rw [if_pos h2, txt_loop bs n (i + 1) _ (by omega), List.reverse_cons, List.append_assoc]
    congr 1
    have h3 : i < bs.data.toList.length := by rw [Array.length_toList]; exact h2
    rw [List.drop_eq_getElem_cons h3]
    simp [ByteArray.get!, getElem!_pos bs.data i h2]
theorem txt_inj {a b : ByteArray} (h : a.toList = b.toList) : a = b := by
  unfold ByteArray.toList at h
  rw [txt_loop a _ 0 _ rfl, txt_loop b _ 0 _ rfl] at h
  cases a; cases b
  simpa using h
theorem txt_none {s : ByteArray} (h : s.size = 0) : s = ByteArray.empty := by
  apply ByteArray.ext
  exact Array.eq_empty_of_size_eq_zero h
theorem txt_nil : ByteArray.empty.toList = [] := by
  unfold ByteArray.toList
  rw [txt_loop _ _ 0 _ rfl]
  rfl
theorem txt_empty {s : ByteArray} : s.toList.isEmpty = decide (s.size = 0) := by
  rcases Nat.eq_zero_or_pos s.size with h | h
  · rw [txt_none h, txt_nil]
    rfl
  · have e : ¬ s.toList = [] := fun e => by
      have : s = ByteArray.empty := txt_inj (e.trans txt_nil.symm)
      rw [this] at h
      exact absurd h (by decide)
    rw [decide_eq_false (by omega), List.isEmpty_eq_false_iff]
    exact e
def leftS (b : Nat) (w : World) : Nat := match w.cell? ⟨b, 0, none⟩ with
  | some (.string s) => s.size
  | _ => 0
theorem leftS_of {b : Nat} {w : World} {s : ByteArray} (h : w.cell? ⟨b, 0, none⟩ = some (.string s)) : leftS b w = s.size := by
  unfold leftS
  rw [h]
theorem cut_small {w : World} {s : ByteArray} (h : s.size ≤ 32) : Calls Tryz.prog 73 #[.string s] w fun e W => e = .returned (.int .i64 s.size) ∧ W = w := by
  have h' : (s.size : Int) ≤ 32 := by omega
  go_enter Tryz.func73, Tryz.ntmps73
  go_wp2
  go_ret
  exact ⟨rfl, rfl⟩
theorem chunk_all {w : World} {s : ByteArray} : Calls Tryz.prog 46 #[.string s] w fun e W => e = .returned (.func (.func 72) #[] #[.pointer (some ⟨w.heap.size, 0, none⟩)]) ∧ W = w.alloc (.cells #[.string s] 9) := by
  go_enter Tryz.func46, Tryz.ntmps46
  go_wp2
  go_ret
  exact ⟨rfl, rfl⟩
/-- What is known of the cut of texts of at most m bytes. -/
structure CutC (cut : ByteArray → Nat) (m : Nat) : Prop where
  ok : CutOk cut m
  run : ∀ (s : ByteArray) (w : World), 0 < s.size → s.size ≤ m → Calls Tryz.prog 73 #[.string s] w fun e W => e = .returned (.int .i64 (cut s : Nat)) ∧ New w W
theorem cutC_small : CutC ByteArray.size 32 where
  ok := ⟨fun s h _ => h, fun s _ => Nat.le_refl _⟩
  run := fun s w _ h => (cut_small h).mono fun e W ⟨he, hw⟩ => ⟨he, hw ▸ Fr.refl _ _⟩
set_option maxRecDepth 100000 in
set_option maxHeartbeats 4000000 in
theorem chunk_all1 {cut : ByteArray → Nat} {m : Nat} (hc : CutC cut m) (hm : m ≤ maxLen) {s0 : ByteArray} (h0 : s0.size ≤ m) {b : Nat} {w : World} (hB : Own w b 9 #[.string s0]) (n : Nat) (hn : 1 ≤ n) :
    BoxSeq Fence.wide n Tryz.prog 72 #[.pointer (some ⟨b, 0, none⟩)] (fun x : ByteArray => #[.string x]) (fun x => x.size ≤ m) (fun xs => xs = chunksB cut s0) s0.size b w := by
  intro l J W hN hJ hY hj0
  have hb := hB.new_ hN
  refine callsIn_of_wp Tryz.func72 rfl trivial ?_ rfl
  simp only [Tryz.ntmps72, List.size_toArray, List.length_cons, List.length_nil, Nat.reduceAdd, Nat.reduceSub, Array.replicate_succ, Array.replicate_zero, List.push_toArray, List.append_toArray, List.nil_append, List.cons_append]
  gi_wp2
  gi_loopw [3] (fun nv wr => ∃ (rest : ByteArray) (pre : List ByteArray), Own wr b 9 #[.string rest] ∧ rest.size ≤ m ∧ chunksB cut s0 = pre ++ chunksB cut rest ∧ pre.length + rest.size ≤ s0.size ∧ J pre wr) (fun _ wr => leftS b wr)
  case atStart => exact ⟨s0, [], hb, h0, rfl, by simp, hj0⟩
  case round =>
    obtain ⟨rest, pre, hb1, hrm, hch, hlen, hJ1⟩ := hrel
    have c0 : wr.cell? ⟨b, 0, none⟩ = some (.string rest) := hb1.cell 0
    have hls := leftS_of c0
    have hem := txt_empty (s := rest)
    rcases Nat.eq_zero_or_pos rest.size with hz | hp
    · have hem2 : rest.toList.isEmpty = true := by rw [hem, hz]; rfl
      clear hem
      gi_wp2
      go_end0
      exact ⟨⟨_, rfl⟩, _, by rw [hch, chunksB_nil cut hz, List.append_nil], hJ1⟩
    · have hem2 : rest.toList.isEmpty = false := by rw [hem, decide_eq_false (by omega)]
      have h1 := hc.ok.pos rest hp hrm
      have h2 := hc.ok.le rest hrm
      clear hem
      gi_wp2_with fail
      refine ⟨trivial, ?_⟩
      refine (callsIn_wide.2 (hc.run rest wr hp hrm)).mono ?_
      rintro e W2 ⟨rfl, hN2⟩
      have hb2 := hb1.new_ hN2
      have hJ2 := hJ _ _ _ hJ1 (hN2.mono fun _ h => h.elim)
      have c2 : W2.cell? ⟨b, 0, none⟩ = some (.string rest) := hb2.cell 0
      obtain ⟨fn, tmps, assign, body, hy, hR⟩ := hY pre (rest.extract 0 (cut rest)) W2 hJ2 (by simp; omega) (by omega) hb2.lt
      clear hN2
      gi_wp2
      refine hR.mono ?_
      rintro e W3 ⟨rfl, hJ3, hk3⟩
      have hb3 := hb2.of_eq hk3
      have c3 : W3.cell? ⟨b, 0, none⟩ = some (.string rest) := hb3.cell 0
      have f3 : W3.frozen? ⟨b, 0, none⟩ = false := hb3.free 0
      have hb4 : Own (W3.setCell ⟨b, 0, none⟩ (.string (rest.extract (cut rest) rest.size))) b 9 #[.string (rest.extract (cut rest) rest.size)] := hb3.put rfl
      have hJ4 := hJ _ _ (W3.setCell ⟨b, 0, none⟩ (.string (rest.extract (cut rest) rest.size))) hJ3 (Fr.set (F := fun k => k = b) (p := ⟨b, 0, none⟩) (Fr.refl _ W3) (fun _ => rfl) _)
      have hlf : leftS b (W3.setCell ⟨b, 0, none⟩ (.string (rest.extract (cut rest) rest.size))) = rest.size - cut rest := by
        rw [leftS_of (hb4.cell 0)]
        simp
      have HK := Lib.hid (And.intro hb4 (And.intro hJ4 hlf))
      clear hk3 hJ3 hb4 hJ4 hlf hR hy hY
      gi_wp2
      go_roundw
      case rel => exact ⟨rest.extract (cut rest) rest.size, pre ++ [rest.extract 0 (cut rest)], HK.out.1, by simp; omega, by rw [hch, chunksB_cons hc.ok hp hrm]; simp, by simp; omega, HK.out.2.1⟩
      case measure =>
        rw [HK.out.2.2, hls]
        omega
end Go.Proofs.YtjcpdpdhegcgoaaGreatDoor
