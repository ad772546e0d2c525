/- The digest of digests, as a tree. -/
import Derived.Test.YtjcpdpdhegcgoaaGreatDoorMkOf
import Derived.Test.YtjcpdpdhegcgoaaGreatDoorWireFnv
namespace Go.Proofs.YtjcpdpdhegcgoaaGreatDoor
open Go.RowKit
set_option linter.unusedVariables false
set_option linter.unusedSimpArgs false

/-- The greatest power of two below n. -/
def splitF : Nat → Nat → Nat → Nat
  | 0, k, _ => k
  | f + 1, k, n => if 2 * k < n then splitF f (2 * k) n else k
def splitN (n : Nat) : Nat := splitF n 1 n
theorem splitF_lt : ∀ (f k n : Nat), 1 ≤ k → k < n → 1 ≤ splitF f k n ∧ splitF f k n < n
  | 0, k, n, h1, h2 => ⟨h1, h2⟩
  | f + 1, k, n, h1, h2 => by
    unfold splitF
    split
    · exact splitF_lt f (2 * k) n (by omega) (by omega)
    · exact ⟨h1, h2⟩
theorem splitN_lt {n : Nat} (h : 2 ≤ n) : 1 ≤ splitN n ∧ splitN n < n := splitF_lt n 1 n (by omega) (by omega)
theorem splitF_more : ∀ (f g k n : Nat), n ≤ k + f → n ≤ k + g → 1 ≤ k → splitF f k n = splitF g k n
  | 0, g, k, n, h1, h2, h3 => by
    cases g with
    | zero => rfl
    | succ g => unfold splitF; rw [if_neg (by omega)]
  | f + 1, 0, k, n, h1, h2, h3 => by unfold splitF; rw [if_neg (by omega)]
  | f + 1, g + 1, k, n, h1, h2, h3 => by
    unfold splitF
    split
    · exact splitF_more f g (2 * k) n (by omega) (by omega) (by omega)
    · rfl
def emptyB : ByteArray := shaB (partsV 69 0 fun _ => .empty)
def halfB (a b : ByteArray) : ByteArray := shaB (partsV 74 2 fun i => if i = 0 then a else b)
/-- The root of a list of digests. -/
def rootF : Nat → List ByteArray → ByteArray
  | 0, _ => emptyB
  | f + 1, l => if l.length = 0 then emptyB else if l.length = 1 then l.getD 0 .empty else halfB (rootF f (l.take (splitN l.length))) (rootF f (l.drop (splitN l.length)))
def rootB (l : List ByteArray) : ByteArray := rootF l.length l
theorem rootF_more : ∀ (f g : Nat) (l : List ByteArray), l.length ≤ f → l.length ≤ g → rootF f l = rootF g l
  | 0, 0, l, _, _ => rfl
  | 0, g + 1, l, h1, h2 => by
    unfold rootF
    rw [if_pos (by omega)]
  | f + 1, 0, l, h1, h2 => by
    unfold rootF
    rw [if_pos (by omega)]
  | f + 1, g + 1, l, h1, h2 => by
    unfold rootF
    split
    · rfl
    split
    · rfl
    have hs := splitN_lt (n := l.length) (by omega)
    rw [rootF_more f g (l.take (splitN l.length)) (by simp only [List.length_take]; omega) (by simp only [List.length_take]; omega), rootF_more f g (l.drop (splitN l.length)) (by simp only [List.length_drop]; omega) (by simp only [List.length_drop]; omega)]
theorem rootB_nil {l : List ByteArray} (h : l.length = 0) : rootB l = emptyB := by
  unfold rootB
  rw [h]
  rfl
theorem rootB_one {l : List ByteArray} (h : l.length = 1) : rootB l = l.getD 0 .empty := by
  unfold rootB
  rw [h]
  unfold rootF
  rw [if_neg (by omega), if_pos h]
theorem rootB_two {l : List ByteArray} (h : 2 ≤ l.length) : rootB l = halfB (rootB (l.take (splitN l.length))) (rootB (l.drop (splitN l.length))) := by
  have hs := splitN_lt h
  obtain ⟨f, hf⟩ : ∃ f, l.length = f + 1 := ⟨l.length - 1, by omega⟩
  conv => lhs; unfold rootB; rw [hf]
  unfold rootF
  rw [if_neg (by omega), if_neg (by omega)]
  unfold rootB
  rw [rootF_more f _ (l.take (splitN l.length)) (by simp only [List.length_take]; omega) (Nat.le_refl _), rootF_more f _ (l.drop (splitN l.length)) (by simp only [List.length_drop]; omega) (Nat.le_refl _)]
theorem rootB_size (l : List ByteArray) (h : ∀ x ∈ l, x.size ≤ 100000) : (rootB l).size ≤ 100000 := by
  rcases Nat.lt_or_ge l.length 2 with h2 | h2
  · by_cases h0 : l.length = 0
    · rw [rootB_nil h0]
      unfold emptyB
      rw [shaB_size]
      omega
    · rw [rootB_one (by omega)]
      match l, h0 with
      | x :: l, _ => exact h x List.mem_cons_self
  · rw [rootB_two h2]
    unfold halfB
    rw [shaB_size]
    omega
/-- A slice that reads as texts. -/
def SlT (w : World) (A : Option Addr) (n : Nat) (l : List ByteArray) : Prop := n = l.length ∧ Sl w 1 A n fun i => [.string (l.getD i .empty)]
theorem SlT.new_ {w w' : World} {A : Option Addr} {n : Nat} {l : List ByteArray} (h : SlT w A n l) (f : New w w') : SlT w' A n l := ⟨h.1, h.2.new_ f⟩
theorem SlT.fr {F : Nat → Prop} {w w' : World} {A : Option Addr} {n : Nat} {l : List ByteArray} (h : SlT w A n l) (f : Fr F w w') (hF : ∀ ad, A = some ad → ¬ F ad.block) : SlT w' A n l := ⟨h.1, h.2.fr f hF⟩
theorem SlT.take {w : World} {A : Option Addr} {n : Nat} {l : List ByteArray} (h : SlT w A n l) {k : Nat} (hk : k ≤ n) : SlT w A k (l.take k) := by
  refine ⟨by rw [List.length_take, ← h.1]; omega, Nat.le_trans hk h.2.1, fun i hi => ?_⟩
  obtain ⟨b, o, e, hc⟩ := h.2.2 i (by omega)
  refine ⟨b, o, e, fun j v hv => hc j v ?_⟩
  rw [← hv]
  simp [List.getD, List.getElem?_take, hi]
theorem SlT.drop {w : World} {b o : Nat} {n : Nat} {l : List ByteArray} (h : SlT w (some ⟨b, o, none⟩) n l) {k : Nat} (hk : k ≤ n) : SlT w (some ⟨b, o + k, none⟩) (n - k) (l.drop k) := by
  refine ⟨by rw [List.length_drop, ← h.1], by have := h.2.1; omega, fun i hi => ⟨b, o + k, rfl, fun j v hv => ?_⟩⟩
  obtain ⟨b', o', e, hc⟩ := h.2.2 (k + i) (by omega)
  cases e
  have := hc j v (by rw [← hv]; simp [List.getD, List.getElem?_drop])
  rw [← this]
  congr 2
  omega
theorem SlT.of_txl {W : World} {B : Nat} {A : Option Addr} {n cap : Nat} {l : List ByteArray} (h : TxL W B (.slice A n cap) l) (hn : l.length ≤ maxLen) : SlT W A n l := by
  obtain ⟨e, hs⟩ := h.sl hn
  subst e
  exact ⟨rfl, hs⟩
set_option maxHeartbeats 2000000 in
theorem split_any (n : Nat) (hn : n ≤ 1000000) (w : World) : Calls Tryz.prog 48 #[.int .i64 n] w fun e W => e = .returned (.int .i64 (splitN n : Nat)) ∧ W = w := by
  go_enter Tryz.func48, Tryz.ntmps48
  go_wp2
  go_loopw [3] (fun kv wr => ∃ k f : Nat, kv = .int .i64 k ∧ 1 ≤ k ∧ k ≤ 1000000 ∧ splitN n = splitF f k n ∧ n ≤ k + f ∧ wr = w) (fun kv _ => n - (intOf kv).toNat)
  case atStart => exact ⟨1, n, rfl, by omega, by omega, rfl, by omega, rfl⟩
  case round =>
    obtain ⟨k, f, rfl, h1, h3, h2, hf, rfl⟩ := hrel
    have hk4 : (k : Int) ≤ 1000000 := by omega
    by_cases hlt : 2 * k < n
    · have hlt2 : 2 * (k : Int) < (n : Int) := by omega
      have H2 := Lib.hid h2
      clear h2
      go_wp2
      go_roundw
      case rel =>
        refine ⟨2 * k, f - 1, by (go_num <;> omega), by omega, by omega, ?_, by omega, by trivial⟩
        rw [H2.out]
        obtain ⟨g, hg⟩ : ∃ g, f = g + 1 := ⟨f - 1, by omega⟩
        rw [hg]
        show (if 2 * k < n then splitF g (2 * k) n else k) = _
        rw [if_pos hlt]
        rfl
      case measure => simp [intOf]; omega
    · have hlt2 : ¬ 2 * (k : Int) < (n : Int) := by omega
      have h4 : splitN n = k := by
        rw [h2]
        cases f with
        | zero => rfl
        | succ f => unfold splitF; rw [if_neg hlt]
      have H4 := Lib.hid h4
      clear h4 h2
      go_wp2
      go_ret
      exact ⟨by rw [H4.out]; rfl, rfl⟩
theorem sl_two' {W : World} {b : Nat} {s t : ByteArray} (h : Own W b 9 #[.string s, .string t]) : Sl W 1 (some ⟨b, 0, none⟩) 2 fun i => [.string (if i = 0 then s else t)] := by
  refine ⟨by simp [maxLen], fun k hk => ⟨b, 0, rfl, fun j u hu => ?_⟩⟩
  have hj : j = 0 := by
    rcases j with _ | j
    · rfl
    · simp at hu
  subst hj
  have hu' : u = .string (if k = 0 then s else t) := by simpa using hu.symm
  subst hu'
  rw [show 0 + k * 1 + 0 = k by omega, h.cell k]
  have : k = 0 ∨ k = 1 := by omega
  rcases this with rfl | rfl <;> rfl
set_option maxHeartbeats 2000000 in
theorem half_any {a b : ByteArray} (ha : a.size ≤ 100000) (hb : b.size ≤ 100000) {w : World} : Calls Tryz.prog 49 #[.string a, .string b] w fun e W => e = .returned (.string (halfB a b)) ∧ New w W := by
  go_enter Tryz.func49, Tryz.ntmps49
  go_wp2_with fail
  refine (tagged_any 74 _ 2 2 (fun i => if i = 0 then a else b) _ (sl_two' (Own.fresh w _ _)) (by omega) (fun j _ => by split <;> assumption)).mono ?_
  rintro e w1 ⟨rfl, n1⟩
  go_wp2_with fail
  go_ret
  exact ⟨rfl, ((Fr.refl _ _).alloc _).new_ n1⟩
set_option maxRecDepth 100000 in
set_option maxHeartbeats 4000000 in
theorem root_any : ∀ (m : Nat) (A : Option Addr) (n cap : Nat) (l : List ByteArray) (w : World), n ≤ m → SlT w A n l → n ≤ cap → cap ≤ maxLen → n ≤ 1000000 → (∀ x ∈ l, x.size ≤ 100000) →
    Calls Tryz.prog 17 #[.slice A n cap] w fun e W => e = .returned (.string (rootB l)) ∧ New w W := by
  intro m
  induction m with
  | zero =>
    intro A n cap l w hm hl hc hc2 hn hx
    obtain rfl : n = 0 := by omega
    go_enter Tryz.func17, Tryz.ntmps17
    go_wp2_with fail
    refine (tagged_any 69 none 0 0 (fun _ => .empty) _ (Sl.none_ _ _ _) (by omega) (fun j hj => by omega)).mono ?_
    rintro e w1 ⟨rfl, n1⟩
    go_wp2_with fail
    go_ret
    exact ⟨by rw [rootB_nil hl.1.symm]; rfl, n1⟩
  | succ m ih =>
    intro A n cap l w hm hl hc hc2 hn hx
    by_cases h0 : n = 0
    · subst h0
      go_enter Tryz.func17, Tryz.ntmps17
      go_wp2_with fail
      refine (tagged_any 69 none 0 0 (fun _ => .empty) _ (Sl.none_ _ _ _) (by omega) (fun j hj => by omega)).mono ?_
      rintro e w1 ⟨rfl, n1⟩
      go_wp2_with fail
      go_ret
      exact ⟨by rw [rootB_nil hl.1.symm]; rfl, n1⟩
    by_cases h1 : n = 1
    · subst h1
      obtain ⟨b, o, hA, hc0⟩ := hl.2.2 0 (by omega)
      have c0 := hc0 0 _ rfl
      simp only [Nat.zero_mul, Nat.add_zero] at c0
      subst hA
      have HR1 := Lib.hid (rootB_one hl.1.symm)
      go_enter Tryz.func17, Tryz.ntmps17
      go_wp2
      go_ret
      exact ⟨by rw [HR1.out]; simp, Fr.refl _ _⟩
    have hs := splitN_lt (n := n) (by omega)
    obtain ⟨b, o, hA, hc0⟩ := hl.2.2 0 (by omega)
    subst hA
    have hr := rootB_two (l := l) (by rw [← hl.1]; omega)
    rw [← hl.1] at hr
    have hne0 : ¬ (n : Int) = 0 := by omega
    have hne1 : ¬ (n : Int) = 1 := by omega
    have S1 := split_any n hn w
    obtain ⟨k, hk⟩ : ∃ k, k = splitN n := ⟨_, rfl⟩
    rw [← hk] at S1 hs hr
    have hk1 : (k : Int) ≤ (n : Int) := by omega
    have hk2 : (n : Int) ≤ (cap : Int) := by omega
    have B1 := fun x => Calls.nw_of (x := x) (w := w) (ih (some ⟨b, o, none⟩) k cap (l.take k) (nw w x) (by omega) ((hl.take (by omega)).new_ (nw_new w x)) (by omega) hc2 (by omega) (fun y hy => hx y (List.mem_of_mem_take hy)))
    have B2 := fun x => Calls.nw_of (x := x) (w := w) (ih (some ⟨b, o + k, none⟩) (n - k) (cap - k) (l.drop k) (nw w x) (by omega) ((hl.drop (by omega)).new_ (nw_new w x)) (by omega) (by omega) (by omega) (fun y hy => hx y (List.mem_of_mem_drop hy)))
    have z1 := rootB_size (l.take k) (fun y hy => hx y (List.mem_of_mem_take hy))
    have z2 := rootB_size (l.drop k) (fun y hy => hx y (List.mem_of_mem_drop hy))
    obtain ⟨r1, hr1⟩ : ∃ r, r = rootB (l.take k) := ⟨_, rfl⟩
    obtain ⟨r2, hr2⟩ : ∃ r, r = rootB (l.drop k) := ⟨_, rfl⟩
    rw [← hr1] at z1 B1 hr
    rw [← hr2] at z2 B2 hr
    have B3 := fun x => Calls.nw_of (x := x) (w := w) (half_any z1 z2 (w := nw w x))
    have HR := Lib.hid hr
    have HS := Lib.hid hs
    clear hr1 hr2 hr hk hs z1 z2
    go_enter Tryz.func17, Tryz.ntmps17
    go_wp2_with fail
    refine S1.mono ?_
    rintro e w1 ⟨rfl, rfl⟩
    have hs := HS.out
    go_wp2_with fail
    refine wp_region_new_lit (by kernel_rfl) (by kernel_rfl) ?_; (repeat (any_goals (first | go_big_quiet_step ((first | (go_at_call 17; with_reducible exact B1 _) | (go_at_call 17; with_reducible exact B2 _) | (go_at_call 49; with_reducible exact B3 _))) | quiet_step ((first | (go_at_call 17; with_reducible exact B1 _) | (go_at_call 17; with_reducible exact B2 _) | (go_at_call 49; with_reducible exact B3 _))) | (refine wpQuiet_step (fun K hK => ?_); go_simp; split <;> (refine hK _ ?_; clear hK K))))); all_goals (refine wpQuiet_nil ?_; intro _ hw'; obtain ⟨xq, hw''⟩ := hw'; subst hw''; have hnq := nw_new _ xq)
    go_wp2_with fail
    go_ret
    exact ⟨by rw [HR.out]; rfl, hnq⟩
end Go.Proofs.YtjcpdpdhegcgoaaGreatDoor
