/- The way up from a chunk's digest: what climb answers where it shows. -/
import Derived.Test.YtjcpdpdhegcgoaaGreatDoorMkPath
import Derived.Test.YtjcpdpdhegcgoaaGreatDoorMkVerify
namespace Go.Proofs.YtjcpdpdhegcgoaaGreatDoor
open Go.RowKit
set_option linter.unusedVariables false
set_option linter.unusedSimpArgs false

/-- The digest at the top, if the digests beside the way up are as many as they must be. -/
def upF : Nat → ByteArray → Nat → Nat → List ByteArray → Option ByteArray
  | 0, _, _, _, _ => none
  | f + 1, h, i, n, p =>
    if n = 1 then (if p.length = 0 then some h else none)
    else if p.length = 0 then none
    else if (p.getD (p.length - 1) .empty).size = 32 then
      (if i < splitN n then (upF f h i (splitN n) (p.take (p.length - 1))).map (fun a => halfB a (p.getD (p.length - 1) .empty))
       else (upF f h (i - splitN n) (n - splitN n) (p.take (p.length - 1))).map (fun a => halfB (p.getD (p.length - 1) .empty) a))
    else none
def upB (h : ByteArray) (i n : Nat) (p : List ByteArray) : Option ByteArray := upF n h i n p
theorem upF_more : ∀ (f g : Nat) (h : ByteArray) (i n : Nat) (p : List ByteArray), 1 ≤ n → n ≤ f → n ≤ g → upF f h i n p = upF g h i n p
  | 0, g, h, i, n, p, h1, h2, h3 => by omega
  | f + 1, 0, h, i, n, p, h1, h2, h3 => by omega
  | f + 1, g + 1, h, i, n, p, h1, h2, h3 => by
    unfold upF
    split
    · rfl
    rename_i hn1
    have hs := splitN_lt (n := n) (by omega)
    rw [upF_more f g h i (splitN n) _ (by omega) (by omega) (by omega), upF_more f g h (i - splitN n) (n - splitN n) _ (by omega) (by omega) (by omega)]
theorem upB_one (h : ByteArray) (i : Nat) (p : List ByteArray) : upB h i 1 p = if p.length = 0 then some h else none := rfl
theorem upB_step (h : ByteArray) (i n : Nat) (p : List ByteArray) (hn : 2 ≤ n) : upB h i n p =
    if p.length = 0 then none
    else if (p.getD (p.length - 1) .empty).size = 32 then
      (if i < splitN n then (upB h i (splitN n) (p.take (p.length - 1))).map (fun a => halfB a (p.getD (p.length - 1) .empty))
       else (upB h (i - splitN n) (n - splitN n) (p.take (p.length - 1))).map (fun a => halfB (p.getD (p.length - 1) .empty) a))
    else none := by
  have hs := splitN_lt hn
  obtain ⟨f, hf⟩ : ∃ f, n = f + 1 := ⟨n - 1, by omega⟩
  conv => lhs; unfold upB; rw [hf]
  unfold upF
  rw [← hf, if_neg (by omega)]
  unfold upB
  rw [upF_more f (splitN n) h i (splitN n) _ (by omega) (by omega) (Nat.le_refl _), upF_more f (n - splitN n) h (i - splitN n) (n - splitN n) _ (by omega) (by omega) (Nat.le_refl _)]
theorem halfB_size (a b : ByteArray) : (halfB a b).size = 32 := shaB_size _
theorem upB_size : ∀ (m : Nat) (h : ByteArray) (i n : Nat) (p : List ByteArray) (u : ByteArray), n ≤ m → 1 ≤ n → h.size = 32 → upB h i n p = some u → u.size = 32
  | 0, h, i, n, p, u, h1, h2, hz, hu => by omega
  | m + 1, h, i, n, p, u, h1, h2, hz, hu => by
    by_cases hn : n = 1
    · subst hn
      rw [upB_one] at hu
      split at hu
      · cases hu
        exact hz
      · cases hu
    · rw [upB_step h i n p (by omega)] at hu
      split at hu
      · cases hu
      split at hu
      · split at hu
        · obtain ⟨a, _, rfl⟩ := Option.map_eq_some_iff.1 hu
          exact halfB_size _ _
        · obtain ⟨a, _, rfl⟩ := Option.map_eq_some_iff.1 hu
          exact halfB_size _ _
      · cases hu
/-- The path shows the digest. -/
theorem rootB_32 (l : List ByteArray) (h : ∀ x ∈ l, x.size = 32) : (rootB l).size = 32 := by
  rcases Nat.lt_or_ge l.length 2 with h2 | h2
  · by_cases h0 : l.length = 0
    · rw [rootB_nil h0]
      exact shaB_size _
    · rw [rootB_one (by omega)]
      match l, h0 with
      | x :: l, _ => exact h x List.mem_cons_self
  · rw [rootB_two h2]
    exact halfB_size _ _
theorem up_path : ∀ (m : Nat) (l : List ByteArray) (i : Nat), l.length ≤ m → i < l.length → (∀ x ∈ l, x.size = 32) → upB (l.getD i .empty) i l.length (pathB l i) = some (rootB l)
  | 0, l, i, h1, h2, h3 => by omega
  | m + 1, l, i, h1, h2, h3 => by
    by_cases hn : l.length = 1
    · rw [hn, upB_one, pathB_nil i (by omega), if_pos (show ([] : List ByteArray).length = 0 from rfl), rootB_one hn, show i = 0 by omega]
    · have hs := splitN_lt (n := l.length) (by omega)
      rw [upB_step _ _ _ _ (by omega), rootB_two (by omega)]
      by_cases hi : i < splitN l.length
      · rw [pathB_left (by omega) hi, if_pos hi]
        simp only [List.length_append, List.length_singleton]
        rw [if_neg (by omega)]
        have e1 : ((pathB (l.take (splitN l.length)) i ++ [rootB (l.drop (splitN l.length))]).getD ((pathB (l.take (splitN l.length)) i).length + 1 - 1) .empty) = rootB (l.drop (splitN l.length)) := by simp [List.getD]
        have e2 : (pathB (l.take (splitN l.length)) i ++ [rootB (l.drop (splitN l.length))]).take ((pathB (l.take (splitN l.length)) i).length + 1 - 1) = pathB (l.take (splitN l.length)) i := by simp
        rw [e1, e2, if_pos (rootB_32 _ fun x hx => h3 x (List.mem_of_mem_drop hx))]
        have ih := up_path m (l.take (splitN l.length)) i (by simp only [List.length_take]; omega) (by simp only [List.length_take]; omega) (fun x hx => h3 x (List.mem_of_mem_take hx))
        have e3 : (l.take (splitN l.length)).length = splitN l.length := by simp only [List.length_take]; omega
        have e4 : (l.take (splitN l.length)).getD i .empty = l.getD i .empty := by simp [List.getD, List.getElem?_take, hi]
        rw [e3, e4] at ih
        rw [ih]
        rfl
      · rw [pathB_right (by omega) (by omega), if_neg hi]
        simp only [List.length_append, List.length_singleton]
        rw [if_neg (by omega)]
        have e1 : ((pathB (l.drop (splitN l.length)) (i - splitN l.length) ++ [rootB (l.take (splitN l.length))]).getD ((pathB (l.drop (splitN l.length)) (i - splitN l.length)).length + 1 - 1) .empty) = rootB (l.take (splitN l.length)) := by simp [List.getD]
        have e2 : (pathB (l.drop (splitN l.length)) (i - splitN l.length) ++ [rootB (l.take (splitN l.length))]).take ((pathB (l.drop (splitN l.length)) (i - splitN l.length)).length + 1 - 1) = pathB (l.drop (splitN l.length)) (i - splitN l.length) := by simp
        rw [e1, e2, if_pos (rootB_32 _ fun x hx => h3 x (List.mem_of_mem_take hx))]
        have ih := up_path m (l.drop (splitN l.length)) (i - splitN l.length) (by simp only [List.length_drop]; omega) (by simp only [List.length_drop]; omega) (fun x hx => h3 x (List.mem_of_mem_drop hx))
        have e3 : (l.drop (splitN l.length)).length = l.length - splitN l.length := by simp only [List.length_drop]
        have e4 : (l.drop (splitN l.length)).getD (i - splitN l.length) .empty = l.getD i .empty := by
          simp only [List.getD, List.getElem?_drop]
          rw [show splitN l.length + (i - splitN l.length) = i by omega]
        rw [e3, e4] at ih
        rw [ih]
        rfl
set_option maxRecDepth 100000 in
set_option maxHeartbeats 16000000 in
theorem climb_ok : ∀ (m : Nat) (h : ByteArray) (i n : Nat) (P : Option Addr) (q cap : Nat) (p : List ByteArray) (u : ByteArray) (w : World), n ≤ m → 1 ≤ n → n ≤ 1000 → i ≤ 1000 → h.size = 32 → SlT w P q p → q ≤ cap → cap ≤ maxLen → upB h i n p = some u →
    Calls Tryz.prog 68 #[.string h, .int .i64 i, .int .i64 n, .slice P q cap] w fun e W => e = .returned (.tuple #[.string u, .nilIface]) ∧ New w W := by
  intro m
  induction m with
  | zero => intro h i n P q cap p u w hm h1; omega
  | succ m ih =>
    intro h i n P q cap p u w hm h1 hn hi hz hl hc hc2 hu
    by_cases hn1 : n = 1
    · subst hn1
      rw [upB_one] at hu
      split at hu
      · rename_i h0
        cases hu
        obtain rfl : q = 0 := by rw [hl.1]; exact h0
        go_enter Tryz.func68, Tryz.ntmps68
        go_wp2_with fail
        go_ret2
        exact ⟨rfl, Fr.refl _ _⟩
      · cases hu
    rw [upB_step h i n p (by omega)] at hu
    split at hu
    · cases hu
    rename_i hp0
    split at hu
    case isFalse => cases hu
    rename_i hp32
    have hql := hl.1
    have hq1 : 1 ≤ q := by omega
    obtain ⟨b, o, hA, hc0⟩ := hl.2.2 (q - 1) (by omega)
    subst hA
    have c0 := hc0 0 _ rfl
    simp only [Nat.mul_one, Nat.add_zero] at c0
    rw [← hql] at hu hp32
    obtain ⟨x, hx⟩ : ∃ x, x = p.getD (q - 1) .empty := ⟨_, rfl⟩
    rw [← hx] at c0 hp32 hu
    have hxq := hx
    have hs := splitN_lt (n := n) (by omega)
    have S1 := Lib.hid fun (w : World) => split_any n (by omega) w
    obtain ⟨k, hk⟩ : ∃ k, k = splitN n := ⟨_, rfl⟩
    rw [← hk] at S1 hs hu
    obtain ⟨q', hq'⟩ : ∃ q', q' = q - 1 := ⟨q - 1, rfl⟩
    rw [← hq'] at c0 hu hxq
    have HX := Lib.hid hxq
    have hx32 : (x.size : Int) = 32 := by omega
    have hn2 : ¬ (n : Int) = 1 := by omega
    have hn3 : (n : Int) ≤ 1000 := by omega
    have hi3 : (i : Int) ≤ 1000 := by omega
    have hkn : (k : Int) < (n : Int) := by omega
    have hmx : cap ≤ 9223372036854775807 := hc2
    have hqi : (q : Int) - 1 = (q' : Int) := by omega
    have hqz : ¬ (q : Int) = 0 := by omega
    have hqq : (q' : Int) < (q : Int) := by omega
    have hqc : (q' : Int) ≤ (cap : Int) := by omega
    have hqm : (q : Int) ≤ 9223372036854775807 := by omega
    have hsl := Lib.hid hl
    have HK := Lib.hid hs
    clear hk hc0 hx hxq hql hp32 hp0 hl hq'
    by_cases hik : i < k
    · have hik' : (i : Int) < (k : Int) := by omega
      rw [if_pos hik] at hu
      obtain ⟨a, ha, rfl⟩ := Option.map_eq_some_iff.1 hu
      have haz := upB_size k h i k _ a (Nat.le_refl _) (by omega) hz ha
      have IH := Lib.hid fun (w : World) (f : SlT w (some ⟨b, o, none⟩) q' (p.take q')) => ih h i k (some ⟨b, o, none⟩) q' cap (p.take q') a w (by omega) (by omega) (by omega) (by omega) hz f (by omega) hc2 ha
      have HA := Lib.hid (And.intro haz hu)
      have HT := Lib.hid fun W (f : New w W) => show SlT W (some ⟨b, o, none⟩) q' (p.take q') from (hsl.out.take (by omega)).new_ f
      have HC := Lib.hid fun W (f : New w W) => show W.cell? ⟨b, o + q', none⟩ = some (.string x) by
        obtain ⟨b', o', e', hc'⟩ := (hsl.out.new_ f).2.2 q' (by omega)
        cases e'
        have := hc' 0 _ rfl
        rw [← HX.out] at this
        simpa using this
      clear ih hu ha haz hik
      go_enter Tryz.func68, Tryz.ntmps68
      go_wp2_with fail
      refine (S1.out _).mono ?_
      rintro e w1 ⟨rfl, rfl⟩
      go_wp2_with fail
      refine (IH.out _ (HT.out _ (Fr.refl _ _))).mono ?_
      rintro e w2 ⟨rfl, n2⟩
      have c2 := HC.out _ n2
      have N2 := Lib.hid n2
      clear n2 c0
      go_wp2_with fail
      refine (half_any (by have := HA.out.1; omega) (by omega)).mono ?_
      rintro e w3 ⟨rfl, n3⟩
      have N3 := Lib.hid (N2.out.new_ n3)
      clear n3 c2
      go_wp2_with fail
      go_ret2
      exact ⟨rfl, N3.out⟩
    · have hik' : ¬ (i : Int) < (k : Int) := by omega
      rw [if_neg hik] at hu
      obtain ⟨a, ha, rfl⟩ := Option.map_eq_some_iff.1 hu
      have haz := upB_size (n - k) h (i - k) (n - k) _ a (Nat.le_refl _) (by omega) hz ha
      obtain ⟨j, hj⟩ : ∃ j, j = i - k := ⟨_, rfl⟩
      obtain ⟨n', hn'⟩ : ∃ n', n' = n - k := ⟨_, rfl⟩
      rw [← hj, ← hn'] at ha
      have IH := Lib.hid fun (w : World) (f : SlT w (some ⟨b, o, none⟩) q' (p.take q')) => ih h j n' (some ⟨b, o, none⟩) q' cap (p.take q') a w (by omega) (by omega) (by omega) (by omega) hz f (by omega) hc2 ha
      have HA := Lib.hid (And.intro haz hu)
      have hji : (i : Int) - (k : Int) = (j : Int) := by omega
      have hni : (n : Int) - (k : Int) = (n' : Int) := by omega
      have HT := Lib.hid fun W (f : New w W) => show SlT W (some ⟨b, o, none⟩) q' (p.take q') from (hsl.out.take (by omega)).new_ f
      have HC := Lib.hid fun W (f : New w W) => show W.cell? ⟨b, o + q', none⟩ = some (.string x) by
        obtain ⟨b', o', e', hc'⟩ := (hsl.out.new_ f).2.2 q' (by omega)
        cases e'
        have := hc' 0 _ rfl
        rw [← HX.out] at this
        simpa using this
      clear ih hu ha haz hik hj hn'
      go_enter Tryz.func68, Tryz.ntmps68
      go_wp2_with fail
      refine (S1.out _).mono ?_
      rintro e w1 ⟨rfl, rfl⟩
      go_wp2_with fail
      refine (IH.out _ (HT.out _ (Fr.refl _ _))).mono ?_
      rintro e w2 ⟨rfl, n2⟩
      have c2 := HC.out _ n2
      have N2 := Lib.hid n2
      clear n2 c0
      go_wp2_with fail
      refine (half_any (by omega) (by have := HA.out.1; omega)).mono ?_
      rintro e w3 ⟨rfl, n3⟩
      have N3 := Lib.hid (N2.out.new_ n3)
      clear n3 c2
      go_wp2_with fail
      go_ret2
      exact ⟨rfl, N3.out⟩
end Go.Proofs.YtjcpdpdhegcgoaaGreatDoor
