/- What was taken is told again by the same bytes: plain laws (no program in sight). -/
import Derived.Test.YtjcpdpdhegcgoaaGreatDoorRLoop
import Derived.Test.YtjcpdpdhegcgoaaGreatDoorWireB
namespace Go.Proofs.YtjcpdpdhegcgoaaGreatDoor
open Go.RowKit
set_option linter.unusedVariables false

theorem dig_hexv_all : ∀ n : Fin 256, hexv (UInt8.ofNat n.val) < 16 → dig (hexv (UInt8.ofNat n.val)) = UInt8.ofNat n.val := by decide +kernel
theorem dig_hexv (c : UInt8) (h : hexv c < 16) : dig (hexv c) = c := by
  have := dig_hexv_all ⟨c.toNat, c.toNat_lt⟩
  simp only [UInt8.ofNat_toNat] at this
  exact this h
theorem hexs_of_num : ∀ (k : Nat) (l : List UInt8) (n : Nat), l.length = k → numL l = some n → l = hexs k n
  | 0, l, n, hl, h => by
    rw [List.length_eq_zero_iff] at hl
    rw [hl]
    rfl
  | k + 1, l, n, hl, h => by
    have hne : l ≠ [] := fun e => by rw [e] at hl; simp at hl
    obtain ⟨l', c, rfl⟩ : ∃ l' c, l = l' ++ [c] := ⟨l.dropLast, l.getLast hne, (List.dropLast_concat_getLast hne).symm⟩
    have hl' : l'.length = k := by simpa using hl
    rw [numL_snoc] at h
    cases hm : numL l' with
    | none => rw [hm] at h; cases h
    | some m =>
      rw [hm] at h
      unfold valStep at h
      simp only [Option.bind_some] at h
      split at h
      · rename_i hc
        injection h with h
        subst h
        have e1 : (m * 16 + hexv c) / 16 = m := by omega
        have e2 : (m * 16 + hexv c) % 16 = hexv c := by omega
        rw [hexs, e1, e2, dig_hexv c hc, ← hexs_of_num k l' m hl' hm]
      · cases h
/-- From r to r', with no error, just the bytes t were taken. -/
structure Back (r r' : Rd) (t : ByteArray) : Prop where
  s : r'.s = r.s
  e0 : r.err = 0
  e1 : r'.err = 0
  p0 : 0 ≤ r.pos
  p1 : r.pos ≤ r'.pos
  p2 : r'.pos ≤ r.s.size
  t : r.s.extract r.pos.toNat r'.pos.toNat = t
theorem Back.trans {r r' r'' : Rd} {t u : ByteArray} (h : Back r r' t) (k : Back r' r'' u) : Back r r'' (t ++ u) := by
  refine ⟨k.s.trans h.s, h.e0, k.e1, h.p0, Int.le_trans h.p1 k.p1, by rw [← h.s]; exact k.p2, ?_⟩
  have ht := h.t
  have hu := k.t
  rw [h.s] at hu
  have h1 := h.p0
  have h2 := h.p1
  have h3 := k.p1
  rw [← ht, ← hu, ByteArray.extract_append_extract, Nat.min_eq_left (by omega), Nat.max_eq_right (by omega)]
theorem Back.refl {r : Rd} (h : r.ok) (he : r.err = 0) : Back r r .empty := by
  refine ⟨rfl, he, he, h.2.1, Int.le_refl _, h.2.2, ?_⟩
  apply ByteArray.ext
  simp
theorem bytes_back {r : Rd} (h : r.ok) (n : Int) (hn : (rBytes r n).1.err = 0) : Back r (rBytes r n).1 (rBytes r n).2 ∧ ((rBytes r n).2.size : Int) = n := by
  unfold rBytes at hn ⊢
  obtain ⟨h0, h1, h2⟩ := h
  split
  · rename_i he
    rw [if_pos he] at hn
    split
    · rename_i h3
      rw [if_pos h3] at hn
      exact absurd hn (by show ¬ ((1 : Int) = 0); decide)
    · rename_i h3
      rw [if_neg h3] at hn
      split
      · rename_i h4
        rw [if_pos h4] at hn
        exact absurd hn (by show ¬ ((4 : Int) = 0); decide)
      · rename_i h4
        refine ⟨⟨rfl, he, rfl, h1, by simp only; omega, by simp only; omega, rfl⟩, ?_⟩
        simp only [ByteArray.size_extract]
        omega
  · rename_i he
    rw [if_neg he] at hn
    exact absurd hn he
theorem number_back {r : Rd} (h : r.ok) (k : Nat) (hn : (rNumber r k).1.err = 0) : Back r (rNumber r k).1 (numB k (rNumber r k).2) := by
  unfold rNumber at hn ⊢
  obtain ⟨h0, h1, h2⟩ := h
  split
  · rename_i he
    rw [if_pos he] at hn
    split
    · rename_i h3
      rw [if_pos h3] at hn
      exact absurd hn (by show ¬ ((1 : Int) = 0); decide)
    · rename_i h3
      rw [if_neg h3] at hn
      split
      · rename_i h4
        rw [if_pos h4] at hn
        exact absurd hn (by show ¬ ((4 : Int) = 0); decide)
      · rename_i h4
        rw [if_neg h4] at hn
        cases hl : numL (r.s.extract r.pos.toNat (r.pos + 2 * (k : Int)).toNat).data.toList with
        | none =>
          rw [hl] at hn
          exact absurd hn (by show ¬ ((6 : Int) = 0); decide)
        | some n =>
          refine ⟨rfl, he, rfl, h1, by simp only; omega, by simp only; omega, ?_⟩
          have hlen : (r.s.extract r.pos.toNat (r.pos + 2 * (k : Int)).toNat).data.toList.length = 2 * k := by
            have : (r.s.extract r.pos.toNat (r.pos + 2 * (k : Int)).toNat).size = 2 * k := by
              rw [ByteArray.size_extract]
              omega
            rw [Array.length_toList]
            exact this
          have hx := hexs_of_num (2 * k) _ n hlen hl
          unfold numB
          apply ByteArray.ext
          apply Array.ext'
          exact hx
  · rename_i he
    rw [if_neg he] at hn
    exact absurd hn he
theorem count_back {r : Rd} (h : r.ok) (most : Int) (hn : (rCount r most).1.err = 0) : Back r (rCount r most).1 (numB 4 (rCount r most).2.toNat) ∧ 0 ≤ (rCount r most).2 ∧ (rCount r most).2 ≤ most := by
  unfold rCount at hn ⊢
  split
  · rename_i he
    rw [if_pos he] at hn
    split
    · rename_i h3
      rw [if_pos h3] at hn
      split
      · rename_i h4
        rw [if_pos h4] at hn
        exact absurd hn (by show ¬ ((3 : Int) = 0); decide)
      · rename_i h4
        refine ⟨number_back h 4 h3, by simp, by simp only; omega⟩
    · rename_i h3
      rw [if_neg h3] at hn
      exact absurd hn h3
  · rename_i he
    rw [if_neg he] at hn
    exact absurd hn he
theorem text_back {r : Rd} (h : r.ok) (most : Int) (hn : (rText r most).1.err = 0) : Back r (rText r most).1 (textB (rText r most).2) ∧ ((rText r most).2.size : Int) ≤ most := by
  unfold rText at hn ⊢
  split
  · rename_i he
    rw [if_pos he] at hn
    split
    · rename_i h3
      have hb := bytes_back (rCount_ok h most) _ h3
      have hc := count_back h most hb.1.e0
      refine ⟨?_, by rw [hb.2]; exact hc.2.2⟩
      unfold textB
      have e : (rBytes (rCount r most).1 (rCount r most).2).2.size = (rCount r most).2.toNat := by
        have := hb.2
        omega
      rw [e]
      exact hc.1.trans hb.1
    · rename_i h3
      rw [if_neg h3] at hn
      exact absurd hn h3
  · rename_i he
    rw [if_neg he] at hn
    exact absurd hn he
theorem hashB_self {s : ByteArray} (h : s.size = 32) : hashB s = s := by
  unfold hashB
  apply ByteArray.ext
  apply Array.ext'
  have e2 : List.take 32 s.data.toList = s.data.toList := List.take_of_length_le (by rw [Array.length_toList]; exact Nat.le_of_eq h)
  have h2 : s.data.toList.length = 32 := by rw [Array.length_toList]; exact h
  simp [e2, h]
/-- The bytes of digests, one behind the other. -/
def hashsB (l : List ByteArray) : ByteArray := l.foldl (fun a s => a ++ hashB s) .empty
theorem bempty_app (t : ByteArray) : ByteArray.empty ++ t = t := by
  apply ByteArray.ext
  apply Array.ext'
  simp
theorem hashs_fold (l : List ByteArray) (a : ByteArray) : l.foldl (fun a s => a ++ hashB s) a = a ++ hashsB l := by
  unfold hashsB
  induction l generalizing a with
  | nil =>
    apply ByteArray.ext
    apply Array.ext'
    simp
  | cons s l ih =>
    rw [List.foldl_cons, List.foldl_cons, ih, ih (ByteArray.empty ++ hashB s), bempty_app, ByteArray.append_assoc]
theorem hashsB_cons (s : ByteArray) (l : List ByteArray) : hashsB (s :: l) = hashB s ++ hashsB l := by
  conv => lhs; unfold hashsB
  rw [List.foldl_cons, hashs_fold, bempty_app]
theorem loop_back : ∀ (n : Nat) (r : Rd), r.ok → (rLoop rHash n r).1.err = 0 → Back r (rLoop rHash n r).1 (hashsB (rLoop rHash n r).2) ∧ (rLoop rHash n r).2.length = n ∧ ∀ x ∈ (rLoop rHash n r).2, x.size = 32
  | 0, r, h, hn => ⟨Back.refl h hn, rfl, fun x hx => by cases hx⟩
  | n + 1, r, h, hn => by
    unfold rLoop at hn ⊢
    split
    · rename_i he
      rw [if_pos he] at hn
      have hi := loop_back n (rHash r).1 (rBytes_ok h 32) hn
      have hb := bytes_back h 32 hi.1.e0
      have hz : (rHash r).2.size = 32 := by
        have := hb.2
        have e : ((rHash r).2.size : Int) = 32 := this
        omega
      refine ⟨?_, by simp only [List.length_cons]; rw [hi.2.1], fun x hx => ?_⟩
      · simp only
        rw [hashsB_cons, hashB_self hz]
        exact hb.1.trans hi.1
      · rcases List.mem_cons.1 hx with rfl | hx
        · exact hz
        · exact hi.2.2 x hx
    · rename_i he
      rw [if_neg he] at hn
      exact absurd hn he
theorem hashsB_snoc (l : List ByteArray) (s : ByteArray) : hashsB (l ++ [s]) = hashsB l ++ hashB s := by
  unfold hashsB
  rw [List.foldl_append]
  rfl
theorem hashsB_size (l : List ByteArray) : (hashsB l).size = 32 * l.length := by
  induction l with
  | nil => rfl
  | cons s l ih =>
    rw [hashsB_cons, ByteArray.size_append, hashB_size, ih, List.length_cons]
    omega
end Go.Proofs.YtjcpdpdhegcgoaaGreatDoor
