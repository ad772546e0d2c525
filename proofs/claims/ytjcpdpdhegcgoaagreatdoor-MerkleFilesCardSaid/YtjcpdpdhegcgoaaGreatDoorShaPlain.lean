/- The digest, block by block. -/
import Derived.Test.YtjcpdpdhegcgoaaGreatDoorShaSpec
namespace Go.Proofs.YtjcpdpdhegcgoaaGreatDoor
set_option linter.unusedVariables false

theorem wordL_take (l m : List UInt8) (n : Nat) (h : 8 * n + 8 ≤ l.length) : blockW (l ++ m) n = blockW l n := by
  unfold blockW
  rw [List.drop_append_of_le_length (by omega), List.take_append_of_le_length (by simp; omega)]
theorem shaBlocks_one (s : ShaS) (l : List UInt8) (h : l.length = 128) : shaBlocks 1 s l = shaMix s l := by
  rw [shaBlocks_succ, shaBlocks, List.take_of_length_le (by omega)]
theorem shaBlocks_add (i j : Nat) (s : ShaS) (l : List UInt8) : shaBlocks (i + j) s l = shaBlocks j (shaBlocks i s l) (l.drop (128 * i)) := by
  induction i generalizing s l with
  | zero => simp [shaBlocks]
  | succ i ih =>
    rw [show i + 1 + j = (i + j) + 1 by omega, shaBlocks_succ, shaBlocks_succ, ih, List.drop_drop]
    congr 2
    omega
theorem shaBlocks_append (i : Nat) (s : ShaS) (l m : List UInt8) (h : 128 * i ≤ l.length) : shaBlocks i s (l ++ m) = shaBlocks i s l := by
  induction i generalizing s l with
  | zero => rfl
  | succ i ih =>
    rw [shaBlocks_succ, shaBlocks_succ, List.take_append_of_le_length (by omega), List.drop_append_of_le_length (by omega), ih]
    simp
    omega
theorem shaBlocks_next (i : Nat) (s : ShaS) (l : List UInt8) : shaBlocks (i + 1) s l = shaMix (shaBlocks i s l) ((l.drop (128 * i)).take 128) := by
  rw [shaBlocks_add, shaBlocks_succ, shaBlocks]
/-- Behind all whole blocks: what is left is short. -/
theorem shaL_last (l : List UInt8) (i r : Nat) (hi : l.length = 128 * i + r) (hr : r < 128) :
    shaBlocks ((l.length + 144) / 128) shaStart (l ++ padL l.length) =
      if r < 112 then shaMix (shaBlocks i shaStart l) (l.drop (128 * i) ++ [128] ++ List.replicate (119 - r) 0 ++ bytesN 8 (8 * l.length))
      else shaMix (shaMix (shaBlocks i shaStart l) (l.drop (128 * i) ++ [128] ++ List.replicate (127 - r) 0)) (List.replicate 120 0 ++ bytesN 8 (8 * l.length)) := by
  have hd : (l.drop (128 * i)).length = r := by simp; omega
  have hA : shaBlocks i shaStart (l ++ padL l.length) = shaBlocks i shaStart l := shaBlocks_append _ _ _ _ (by omega)
  have hD : (l ++ padL l.length).drop (128 * i) = l.drop (128 * i) ++ padL l.length := List.drop_append_of_le_length (by omega)
  split
  · rw [show (l.length + 144) / 128 = i + 1 by omega, shaBlocks_add, hA, hD]
    have e : l.drop (128 * i) ++ padL l.length = l.drop (128 * i) ++ [128] ++ List.replicate (119 - r) 0 ++ bytesN 8 (8 * l.length) := by
      unfold padL
      rw [show (239 - l.length % 128) % 128 = 111 - r by omega, show 119 - r = (111 - r) + 8 by omega, ← List.replicate_append_replicate]
      simp
    rw [e, shaBlocks_one]
    simp [bytesN_length, hd]
    omega
  · rw [show (l.length + 144) / 128 = i + (1 + 1) by omega, shaBlocks_add, hA, hD]
    have e : l.drop (128 * i) ++ padL l.length = (l.drop (128 * i) ++ [128] ++ List.replicate (127 - r) 0) ++ (List.replicate 120 0 ++ bytesN 8 (8 * l.length)) := by
      unfold padL
      rw [show (239 - l.length % 128) % 128 = (127 - r) + 112 by omega, ← List.replicate_append_replicate, show (120 : Nat) = 112 + 8 from rfl, ← List.replicate_append_replicate]
      simp
    have hl : (l.drop (128 * i) ++ [128] ++ List.replicate (127 - r) (0 : UInt8)).length = 128 := by
      simp [hd]
      omega
    rw [e, shaBlocks_add, shaBlocks_append _ _ _ _ (by rw [hl]; omega), shaBlocks_one _ _ hl, List.drop_append_of_le_length (by rw [hl]; omega), List.drop_of_length_le (l := l.drop (128 * i) ++ [128] ++ List.replicate (127 - r) (0 : UInt8)) (by rw [hl]; omega), List.nil_append, shaBlocks_one]
    simp [bytesN_length]
/-- The text whose digest is that of parts for a purpose. -/
def partsL (p : UInt8) (ls : List (List UInt8)) : List UInt8 := p :: bytesN 4 ls.length ++ ls.flatMap (fun l => bytesN 4 l.length) ++ ls.flatten
def keyL (k : List UInt8) (turn : UInt8) : List UInt8 := ((if 128 < k.length then shaL k else k) ++ List.replicate 128 0).take 128 |>.map (· ^^^ turn)
/-- The tag of a text under a key. -/
def macL (k s : List UInt8) : List UInt8 := shaL (keyL k 92 ++ shaL (keyL k 54 ++ s))
theorem keyL_length (k : List UInt8) (t : UInt8) : (keyL k t).length = 128 := by
  unfold keyL
  simp
theorem macL_length (k s : List UInt8) : (macL k s).length = 32 := shaL_length _
theorem bytesN_inj (k m n : Nat) (hm : m < 256 ^ k) (hn : n < 256 ^ k) (h : bytesN k m = bytesN k n) : m = n := by
  induction k generalizing m n with
  | zero => simp at hm hn; omega
  | succ k ih =>
    rw [bytesN, bytesN] at h
    have h1 := List.append_inj' h rfl
    have e := h1.2
    simp only [List.cons.injEq, and_true] at e
    have e2 : (UInt8.ofNat (m % 256)).toNat = (UInt8.ofNat (n % 256)).toNat := by rw [e]
    simp at e2
    have e3 := ih (m / 256) (n / 256) (by rw [Nat.pow_succ] at hm; omega) (by rw [Nat.pow_succ] at hn; omega) h1.1
    omega
/-- Unlike parts make unlike texts. -/
theorem partsL_inj (p q : UInt8) (x y : List (List UInt8)) (hx : x.length < 2 ^ 32) (hy : y.length < 2 ^ 32) (hx' : ∀ l ∈ x, l.length < 2 ^ 32) (hy' : ∀ l ∈ y, l.length < 2 ^ 32)
    (h : partsL p x = partsL q y) : p = q ∧ x = y := by
  unfold partsL at h
  simp only [List.cons_append, List.cons.injEq, List.append_assoc] at h
  obtain ⟨hp, h⟩ := h
  refine ⟨hp, ?_⟩
  have h1 := List.append_inj h (by rw [bytesN_length, bytesN_length])
  have hl := bytesN_inj 4 _ _ (by simpa using hx) (by simpa using hy) h1.1
  have h2 := h1.2
  clear h h1
  have flen : ∀ z : List (List UInt8), (z.flatMap fun l => bytesN 4 l.length).length = 4 * z.length := by
    intro z
    induction z with
    | nil => rfl
    | cons a z ih => rw [List.flatMap_cons, List.length_append, ih, bytesN_length, List.length_cons]; omega
  have h3 := List.append_inj h2 (by rw [flen, flen, hl])
  clear h2
  obtain ⟨h3, h4⟩ := h3
  clear hp hx hy
  induction x generalizing y with
  | nil =>
    cases y with
    | nil => rfl
    | cons b y => simp at hl
  | cons a x ih =>
    cases y with
    | nil => simp at hl
    | cons b y =>
      rw [List.flatMap_cons, List.flatMap_cons] at h3
      have h5 := List.append_inj h3 (by rw [bytesN_length, bytesN_length])
      have e := bytesN_inj 4 _ _ (by simpa using hx' a (by simp)) (by simpa using hy' b (by simp)) h5.1
      rw [List.flatten_cons, List.flatten_cons] at h4
      have h6 := List.append_inj h4 e
      rw [h6.1, ih y (fun l hl => hx' l (by simp [hl])) (fun l hl => hy' l (by simp [hl])) (by simpa using hl) h5.2 h6.2]
end Go.Proofs.YtjcpdpdhegcgoaaGreatDoor
