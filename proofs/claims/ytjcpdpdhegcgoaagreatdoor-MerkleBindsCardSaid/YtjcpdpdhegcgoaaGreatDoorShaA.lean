/- ShaA: several texts as one. -/
import Derived.Test.YtjcpdpdhegcgoaaGreatDoorBase
import Derived.Laws.BitsAllLaws
import Derived.Lib.Hide
import Derived.OwnWalk
import Derived.RegionTactic
import Derived.LoopTactic
import Derived.Deep.WholeRow
import Derived.Lib.ConvBytes
/- The digest as plain arithmetic: words of 64 bits, steps, blocks, and the whole. -/
namespace Go.Proofs.YtjcpdpdhegcgoaaGreatDoor
set_option linter.unusedVariables false

abbrev W64 := BitVec 64
def rotr (x : W64) (n : Nat) : W64 := (x >>> n) ||| (x <<< (64 - n))
def fold3 (x : W64) (a b c : Nat) : W64 := rotr x a ^^^ rotr x b ^^^ rotr x c
def slide3 (x : W64) (a b c : Nat) : W64 := rotr x a ^^^ rotr x b ^^^ (x >>> c)
/-- A number is made plain before it is handed on. -/
def force {α : Type} (x : W64) (k : W64 → α) : α := Nat.rec (motive := fun _ => α) (k 0#64) (fun n _ => k (BitVec.ofNat 64 (n + 1))) x.toNat
theorem force_eq {α : Type} (x : W64) (k : W64 → α) : force x k = k x := by
  unfold force
  cases h : x.toNat with
  | zero =>
    have : x = 0#64 := BitVec.eq_of_toNat_eq (by simpa using h)
    rw [this]
    try rfl
  | succ n =>
    have : x = BitVec.ofNat 64 (n + 1) := BitVec.eq_of_toNat_eq (by simp [← h])
    rw [this]
structure ShaS where
  (a b c d e f g h : W64)
deriving DecidableEq
def ShaS.force {α : Type} (s : ShaS) (k : ShaS → α) : α := Proofs.YtjcpdpdhegcgoaaGreatDoor.force s.a fun a => Proofs.YtjcpdpdhegcgoaaGreatDoor.force s.b fun b => Proofs.YtjcpdpdhegcgoaaGreatDoor.force s.c fun c => Proofs.YtjcpdpdhegcgoaaGreatDoor.force s.d fun d => Proofs.YtjcpdpdhegcgoaaGreatDoor.force s.e fun e => Proofs.YtjcpdpdhegcgoaaGreatDoor.force s.f fun f => Proofs.YtjcpdpdhegcgoaaGreatDoor.force s.g fun g => Proofs.YtjcpdpdhegcgoaaGreatDoor.force s.h fun h => k ⟨a, b, c, d, e, f, g, h⟩
theorem ShaS.force_eq {α : Type} (s : ShaS) (k : ShaS → α) : s.force k = k s := by
  simp only [ShaS.force, Proofs.YtjcpdpdhegcgoaaGreatDoor.force_eq]
def shaStart : ShaS := ⟨0x6a09e667f3bcc908#64, 0xbb67ae8584caa73b#64, 0x3c6ef372fe94f82b#64, 0xa54ff53a5f1d36f1#64, 0x510e527fade682d1#64, 0x9b05688c2b3e6c1f#64, 0x1f83d9abfb41bd6b#64, 0x5be0cd19137e2179#64⟩
def salts : List W64 := [0x428a2f98d728ae22#64, 0x7137449123ef65cd#64, 0xb5c0fbcfec4d3b2f#64, 0xe9b5dba58189dbbc#64, 0x3956c25bf348b538#64, 0x59f111f1b605d019#64, 0x923f82a4af194f9b#64, 0xab1c5ed5da6d8118#64, 0xd807aa98a3030242#64, 0x12835b0145706fbe#64, 0x243185be4ee4b28c#64, 0x550c7dc3d5ffb4e2#64, 0x72be5d74f27b896f#64, 0x80deb1fe3b1696b1#64, 0x9bdc06a725c71235#64, 0xc19bf174cf692694#64, 0xe49b69c19ef14ad2#64, 0xefbe4786384f25e3#64, 0xfc19dc68b8cd5b5#64, 0x240ca1cc77ac9c65#64, 0x2de92c6f592b0275#64, 0x4a7484aa6ea6e483#64, 0x5cb0a9dcbd41fbd4#64, 0x76f988da831153b5#64, 0x983e5152ee66dfab#64, 0xa831c66d2db43210#64, 0xb00327c898fb213f#64, 0xbf597fc7beef0ee4#64, 0xc6e00bf33da88fc2#64, 0xd5a79147930aa725#64, 0x6ca6351e003826f#64, 0x142929670a0e6e70#64, 0x27b70a8546d22ffc#64, 0x2e1b21385c26c926#64, 0x4d2c6dfc5ac42aed#64, 0x53380d139d95b3df#64, 0x650a73548baf63de#64, 0x766a0abb3c77b2a8#64, 0x81c2c92e47edaee6#64, 0x92722c851482353b#64, 0xa2bfe8a14cf10364#64, 0xa81a664bbc423001#64, 0xc24b8b70d0f89791#64, 0xc76c51a30654be30#64, 0xd192e819d6ef5218#64, 0xd69906245565a910#64, 0xf40e35855771202a#64, 0x106aa07032bbd1b8#64, 0x19a4c116b8d2d0c8#64, 0x1e376c085141ab53#64, 0x2748774cdf8eeb99#64, 0x34b0bcb5e19b48a8#64, 0x391c0cb3c5c95a63#64, 0x4ed8aa4ae3418acb#64, 0x5b9cca4f7763e373#64, 0x682e6ff3d6b2b8a3#64, 0x748f82ee5defb2fc#64, 0x78a5636f43172f60#64, 0x84c87814a1f0ab72#64, 0x8cc702081a6439ec#64, 0x90befffa23631e28#64, 0xa4506cebde82bde9#64, 0xbef9a3f7b2c67915#64, 0xc67178f2e372532b#64, 0xca273eceea26619c#64, 0xd186b8c721c0c207#64, 0xeada7dd6cde0eb1e#64, 0xf57d4f7fee6ed178#64, 0x6f067aa72176fba#64, 0xa637dc5a2c898a6#64, 0x113f9804bef90dae#64, 0x1b710b35131c471b#64, 0x28db77f523047d84#64, 0x32caab7b40c72493#64, 0x3c9ebe0a15c9bebc#64, 0x431d67c49c100d4c#64, 0x4cc5d4becb3e42b6#64, 0x597f299cfc657e2a#64, 0x5fcb6fab3ad6faec#64, 0x6c44198c4a475817#64]
def shaT (s : ShaS) (k w : W64) : W64 := s.h + fold3 s.e 14 18 41 + ((s.e &&& s.f) ^^^ (~~~s.e &&& s.g)) + k + w
def shaU (s : ShaS) : W64 := fold3 s.a 28 34 39 + ((s.a &&& s.b) ^^^ (s.a &&& s.c) ^^^ (s.b &&& s.c))
/-- One step. -/
def ShaS.step (s : ShaS) (k w : W64) : ShaS := ⟨shaT s k w + shaU s, s.a, s.b, s.c, s.d + shaT s k w, s.e, s.f, s.g⟩
/-- The next word of those that were, the last one first. -/
def nextW (ws : List W64) : W64 := ws.getD 15 0 + slide3 (ws.getD 14 0) 1 8 7 + ws.getD 6 0 + slide3 (ws.getD 1 0) 19 61 6
def wordL (l : List UInt8) : W64 := l.foldl (fun n c => n * 256#64 + BitVec.ofNat 64 c.toNat) 0#64
def blockW (l : List UInt8) (n : Nat) : W64 := wordL ((l.drop (8 * n)).take 8)
/-- The words of so many steps (the last one first), and the numbers behind them. -/
def shaRun (l : List UInt8) (s : ShaS) : Nat → List W64 × ShaS
  | 0 => ([], s)
  | n + 1 => match shaRun l s n with
    | (old, s') => force (if n < 16 then blockW l n else nextW old) fun w => (s'.step (salts.getD n 0) w).force fun s2 => (w :: old, s2)
def ShaS.plus (s x : ShaS) : ShaS := ⟨s.a + x.a, s.b + x.b, s.c + x.c, s.d + x.d, s.e + x.e, s.f + x.f, s.g + x.g, s.h + x.h⟩
def shaMix (s : ShaS) (l : List UInt8) : ShaS := s.plus (shaRun l s 80).2
/-- A number's lowest bytes, the highest first. -/
def bytesN : Nat → Nat → List UInt8
  | 0, _ => []
  | k + 1, n => bytesN k (n / 256) ++ [UInt8.ofNat (n % 256)]
def padL (n : Nat) : List UInt8 := 128 :: (List.replicate ((239 - n % 128) % 128) 0 ++ List.replicate 8 0 ++ bytesN 8 (8 * n))
def shaBlocks : Nat → ShaS → List UInt8 → ShaS
  | 0, s, _ => s
  | n + 1, s, l => (shaMix s (l.take 128)).force fun s' => shaBlocks n s' (l.drop 128)
def ShaS.out (s : ShaS) : List UInt8 := bytesN 8 s.a.toNat ++ bytesN 8 s.b.toNat ++ bytesN 8 s.c.toNat ++ bytesN 8 s.d.toNat
def shaL (l : List UInt8) : List UInt8 := (shaBlocks ((l.length + 144) / 128) shaStart (l ++ padL l.length)).out
def shaB (t : ByteArray) : ByteArray := ⟨(shaL t.data.toList).toArray⟩

theorem bytesN_length (k n : Nat) : (bytesN k n).length = k := by
  induction k generalizing n with
  | zero => rfl
  | succ k ih => simp [bytesN, ih]
theorem padL_length (n : Nat) : (n + (padL n).length) = (n + 144) / 128 * 128 := by
  unfold padL
  simp only [List.length_cons, List.length_append, List.length_replicate, bytesN_length]
  omega
theorem shaL_length (l : List UInt8) : (shaL l).length = 32 := by simp [shaL, ShaS.out, bytesN_length]
theorem shaB_size (t : ByteArray) : (shaB t).size = 32 := by
  show (shaL t.data.toList).toArray.size = 32
  rw [List.size_toArray, shaL_length]

/-- The n-th word. -/
def shaW (l : List UInt8) (s : ShaS) (n : Nat) : W64 := if n < 16 then blockW l n else nextW (shaRun l s n).1
theorem shaRun_succ (l : List UInt8) (s : ShaS) (n : Nat) : shaRun l s (n + 1) = (shaW l s n :: (shaRun l s n).1, (shaRun l s n).2.step (salts.getD n 0) (shaW l s n)) := by
  rw [shaRun]
  simp only [force_eq, ShaS.force_eq]
  rfl
theorem shaRun_getD (l : List UInt8) (s : ShaS) (n k : Nat) (h : k < n) : (shaRun l s n).1.getD k 0 = shaW l s (n - 1 - k) := by
  induction n generalizing k with
  | zero => omega
  | succ n ih =>
    rw [shaRun_succ]
    cases k with
    | zero => simp
    | succ k =>
      rw [List.getD_cons_succ, ih k (by omega)]
      congr 1
      omega
theorem shaW_low (l : List UInt8) (s : ShaS) (n : Nat) (h : n < 16) : shaW l s n = blockW l n := if_pos h
theorem shaW_next (l : List UInt8) (s : ShaS) (n : Nat) (h : 16 ≤ n) : shaW l s n = shaW l s (n - 16) + slide3 (shaW l s (n - 15)) 1 8 7 + shaW l s (n - 7) + slide3 (shaW l s (n - 2)) 19 61 6 := by
  rw [shaW, if_neg (by omega), nextW, shaRun_getD _ _ _ _ (by omega), shaRun_getD _ _ _ _ (by omega), shaRun_getD _ _ _ _ (by omega), shaRun_getD _ _ _ _ (by omega)]
  rfl
theorem shaBlocks_succ (n : Nat) (s : ShaS) (l : List UInt8) : shaBlocks (n + 1) s l = shaBlocks n (shaMix s (l.take 128)) (l.drop 128) := by
  rw [shaBlocks, ShaS.force_eq]
theorem sha_abc : ((shaL [97, 98, 99]).getD 0 0, (shaL [97, 98, 99]).getD 1 0, (shaL [97, 98, 99]).getD 31 0) = (0xdd, 0xaf, 0x9a) := by decide +kernel
end Go.Proofs.YtjcpdpdhegcgoaaGreatDoor

/- The digest, block by block. -/
namespace Go.Proofs.YtjcpdpdhegcgoaaGreatDoor
set_option linter.unusedVariables false

theorem wordL_take (l m : List UInt8) (n : Nat) (h : 8 * n + 8 ≤ l.length) : blockW (l ++ m) n = blockW l n := by
  unfold blockW
  rw [List.drop_append_of_le_length (by omega), List.take_append_of_le_length (by simp; omega)]
theorem shaBlocks_one (s : ShaS) (l : List UInt8) (h : l.length = 128) : shaBlocks 1 s l = shaMix s l := by
  rw [shaBlocks_succ, shaBlocks, List.take_of_length_le (by omega)]
theorem shaBlocks_add (i j : Nat) (s : ShaS) (l : List UInt8) : shaBlocks (i + j) s l = shaBlocks j (shaBlocks i s l) (l.drop (128 * i)) := by
  induction i generalizing s l with
  | zero => simp [shaBlocks]
  | succ i ih =>
    rw [show i + 1 + j = (i + j) + 1 by omega, shaBlocks_succ, shaBlocks_succ, ih, List.drop_drop]
    congr 2
    omega
theorem shaBlocks_append (i : Nat) (s : ShaS) (l m : List UInt8) (h : 128 * i ≤ l.length) : shaBlocks i s (l ++ m) = shaBlocks i s l := by
  induction i generalizing s l with
  | zero => rfl
  | succ i ih =>
    rw [shaBlocks_succ, shaBlocks_succ, List.take_append_of_le_length (by omega), List.drop_append_of_le_length (by omega), ih]
    simp
    omega
theorem shaBlocks_next (i : Nat) (s : ShaS) (l : List UInt8) : shaBlocks (i + 1) s l = shaMix (shaBlocks i s l) ((l.drop (128 * i)).take 128) := by
  rw [shaBlocks_add, shaBlocks_succ, shaBlocks]
/-- Behind all whole blocks: what is left is short. -/
theorem shaL_last (l : List UInt8) (i r : Nat) (hi : l.length = 128 * i + r) (hr : r < 128) :
    shaBlocks ((l.length + 144) / 128) shaStart (l ++ padL l.length) =
      if r < 112 then shaMix (shaBlocks i shaStart l) (l.drop (128 * i) ++ [128] ++ List.replicate (119 - r) 0 ++ bytesN 8 (8 * l.length))
      else shaMix (shaMix (shaBlocks i shaStart l) (l.drop (128 * i) ++ [128] ++ List.replicate (127 - r) 0)) (List.replicate 120 0 ++ bytesN 8 (8 * l.length)) := by
  have hd : (l.drop (128 * i)).length = r := by simp; omega
  have hA : shaBlocks i shaStart (l ++ padL l.length) = shaBlocks i shaStart l := shaBlocks_append _ _ _ _ (by omega)
  have hD : (l ++ padL l.length).drop (128 * i) = l.drop (128 * i) ++ padL l.length := List.drop_append_of_le_length (by omega)
  split
  · rw [show (l.length + 144) / 128 = i + 1 by omega, shaBlocks_add, hA, hD]
    have e : l.drop (128 * i) ++ padL l.length = l.drop (128 * i) ++ [128] ++ List.replicate (119 - r) 0 ++ bytesN 8 (8 * l.length) := by
      unfold padL
      rw [show (239 - l.length % 128) % 128 = 111 - r by omega, show 119 - r = (111 - r) + 8 by omega, ← List.replicate_append_replicate]
      simp
    rw [e, shaBlocks_one]
    simp [bytesN_length, hd]
    omega
  · rw [show (l.length + 144) / 128 = i + (1 + 1) by omega, shaBlocks_add, hA, hD]
    have e : l.drop (128 * i) ++ padL l.length = (l.drop (128 * i) ++ [128] ++ List.replicate (127 - r) 0) ++ (List.replicate 120 0 ++ bytesN 8 (8 * l.length)) := by
      unfold padL
      rw [show (239 - l.length % 128) % 128 = (127 - r) + 112 by omega, ← List.replicate_append_replicate, show (120 : Nat) = 112 + 8 from rfl, ← List.replicate_append_replicate]
      simp
    have hl : (l.drop (128 * i) ++ [128] ++ List.replicate (127 - r) (0 : UInt8)).length = 128 := by
      simp [hd]
      omega
    rw [e, shaBlocks_add, shaBlocks_append _ _ _ _ (by rw [hl]; omega), shaBlocks_one _ _ hl, List.drop_append_of_le_length (by rw [hl]; omega), List.drop_of_length_le (l := l.drop (128 * i) ++ [128] ++ List.replicate (127 - r) (0 : UInt8)) (by rw [hl]; omega), List.nil_append, shaBlocks_one]
    simp [bytesN_length]
/-- The text whose digest is that of parts for a purpose. -/
def partsL (p : UInt8) (ls : List (List UInt8)) : List UInt8 := p :: bytesN 4 ls.length ++ ls.flatMap (fun l => bytesN 4 l.length) ++ ls.flatten
def keyL (k : List UInt8) (turn : UInt8) : List UInt8 := ((if 128 < k.length then shaL k else k) ++ List.replicate 128 0).take 128 |>.map (· ^^^ turn)
/-- The tag of a text under a key. -/
def macL (k s : List UInt8) : List UInt8 := shaL (keyL k 92 ++ shaL (keyL k 54 ++ s))
theorem keyL_length (k : List UInt8) (t : UInt8) : (keyL k t).length = 128 := by
  unfold keyL
  simp
theorem macL_length (k s : List UInt8) : (macL k s).length = 32 := shaL_length _
theorem bytesN_inj (k m n : Nat) (hm : m < 256 ^ k) (hn : n < 256 ^ k) (h : bytesN k m = bytesN k n) : m = n := by
  induction k generalizing m n with
  | zero => simp at hm hn; omega
  | succ k ih =>
    rw [bytesN, bytesN] at h
    have h1 := List.append_inj' h rfl
    have e := h1.2
    simp only [List.cons.injEq, and_true] at e
    have e2 : (UInt8.ofNat (m % 256)).toNat = (UInt8.ofNat (n % 256)).toNat := by rw [e]
    simp at e2
    have e3 := ih (m / 256) (n / 256) (by rw [Nat.pow_succ] at hm; omega) (by rw [Nat.pow_succ] at hn; omega) h1.1
    omega
/-- Unlike parts make unlike texts. -/
theorem partsL_inj (p q : UInt8) (x y : List (List UInt8)) (hx : x.length < 2 ^ 32) (hy : y.length < 2 ^ 32) (hx' : ∀ l ∈ x, l.length < 2 ^ 32) (hy' : ∀ l ∈ y, l.length < 2 ^ 32)
    (h : partsL p x = partsL q y) : p = q ∧ x = y := by
  unfold partsL at h
  simp only [List.cons_append, List.cons.injEq, List.append_assoc] at h
  obtain ⟨hp, h⟩ := h
  refine ⟨hp, ?_⟩
  have h1 := List.append_inj h (by rw [bytesN_length, bytesN_length])
  have hl := bytesN_inj 4 _ _ (by simpa using hx) (by simpa using hy) h1.1
  have h2 := h1.2
  clear h h1
  have flen : ∀ z : List (List UInt8), (z.flatMap fun l => bytesN 4 l.length).length = 4 * z.length := by
    intro z
    induction z with
    | nil => rfl
    | cons a z ih => rw [List.flatMap_cons, List.length_append, ih, bytesN_length, List.length_cons]; omega
  have h3 := List.append_inj h2 (by rw [flen, flen, hl])
  clear h2
  obtain ⟨h3, h4⟩ := h3
  clear hp hx hy
  induction x generalizing y with
  | nil =>
    cases y with
    | nil => rfl
    | cons b y => simp at hl
  | cons a x ih =>
    cases y with
    | nil => simp at hl
    | cons b y =>
      rw [List.flatMap_cons, List.flatMap_cons] at h3
      have h5 := List.append_inj h3 (by rw [bytesN_length, bytesN_length])
      have e := bytesN_inj 4 _ _ (by simpa using hx' a (by simp)) (by simpa using hy' b (by simp)) h5.1
      rw [List.flatten_cons, List.flatten_cons] at h4
      have h6 := List.append_inj h4 e
      rw [h6.1, ih y (fun l hl => hx' l (by simp [hl])) (fun l hl => hy' l (by simp [hl])) (by simpa using hl) h5.2 h6.2]
end Go.Proofs.YtjcpdpdhegcgoaaGreatDoor

/- Words of 64 bits as the machine has them; turns; fold and slide. -/
namespace Go.Proofs.YtjcpdpdhegcgoaaGreatDoor
open Go.RowKit
set_option linter.unusedVariables false

/-- A word as a value. -/
abbrev U (x : W64) : Value := .int .u64 (x.toNat : Int)
theorem bx_ (a b : W64) : bits .xor .u64 (a.toNat : Int) (b.toNat : Int) = ((a ^^^ b).toNat : Int) := by rw [u64_xor_nat _ _ a.isLt b.isLt, BitVec.toNat_xor]
theorem ba_ (a b : W64) : bits .and .u64 (a.toNat : Int) (b.toNat : Int) = ((a &&& b).toNat : Int) := by rw [u64_and_nat _ _ a.isLt b.isLt, BitVec.toNat_and]
theorem bo_ (a b : W64) : bits .or .u64 (a.toNat : Int) (b.toNat : Int) = ((a ||| b).toNat : Int) := by rw [u64_or_nat _ _ a.isLt b.isLt, BitVec.toNat_or]
theorem badd_ (a b : W64) : ((a.toNat : Int) + (b.toNat : Int)) % 18446744073709551616 = ((a + b).toNat : Int) := by rw [BitVec.toNat_add]; simp
theorem bnot_ (a : W64) : (18446744073709551615 : Int) - (a.toNat : Int) = ((~~~a).toNat : Int) := by
  have := a.isLt
  rw [BitVec.toNat_not]
  omega
theorem bshr_ (a : W64) (n : Nat) : (a.toNat : Int) / 2 ^ n = ((a >>> n).toNat : Int) := by
  rw [BitVec.toNat_ushiftRight, Nat.shiftRight_eq_div_pow]
  simp
theorem bshl_ (a : W64) (n : Nat) : ((a.toNat : Int) * 2 ^ n) % 18446744073709551616 = ((a <<< n).toNat : Int) := by
  rw [BitVec.toNat_shiftLeft, Nat.shiftLeft_eq]
  simp
theorem blt (a : W64) : (a.toNat : Int) < 18446744073709551616 := by have := a.isLt; omega

theorem run_shl {P : Program} (x : W64) (m : Nat) (h : m ≤ 64) (k : IntKind) (w : World) : (Op.shift .shl .u64 (x.toNat : Int) k (m : Int)).run P w = .ok (U (x <<< m)) w := by
  unfold Op.shift
  rw [if_neg (by omega)]
  have e : min (m : Int).toNat IntKind.u64.bits = m := by show min (m : Int).toNat 64 = m; omega
  simp only [e]
  show Result.ok (Value.int .u64 (IntKind.u64.wrap ((x.toNat : Int) * 2 ^ m))) w = _
  rw [IntKind.wrap_u64, bshl_]
theorem run_shr {P : Program} (x : W64) (m : Nat) (h : m ≤ 64) (k : IntKind) (w : World) : (Op.shift .shr .u64 (x.toNat : Int) k (m : Int)).run P w = .ok (U (x >>> m)) w := by
  unfold Op.shift
  rw [if_neg (by omega)]
  have e : min (m : Int).toNat IntKind.u64.bits = m := by show min (m : Int).toNat 64 = m; omega
  simp only [e]
  show Result.ok (Value.int .u64 ((x.toNat : Int).fdiv (2 ^ m))) w = _
  rw [Int.fdiv_eq_ediv_of_nonneg _ (by exact Int.le_of_lt (by exact Int.pow_pos (by omega))), bshr_]

set_option maxRecDepth 100000 in
theorem rotl_any (x : W64) (n : Nat) (h1 : 0 < n) (h2 : n < 64) (w : World) :
    Calls Tryz.prog 122 #[U x, .int .i64 (-(n : Int))] w fun e w' => e = .returned (U (rotr x n)) ∧ w = w' := by
  have hb := blt x
  have hA : bits .and .u64 (IntKind.u64.wrap (-(n : Int))) 63 = ((64 - n : Nat) : Int) := by
    rw [IntKind.wrap_u64, show (-(n : Int)) % 18446744073709551616 = ((18446744073709551616 - n : Nat) : Int) by omega, show (63 : Int) = ((63 : Nat) : Int) from rfl, u64_and_nat _ _ (by omega) (by omega), show (63 : Nat) = 2 ^ 6 - 1 from rfl, Nat.and_two_pow_sub_one_eq_mod]
    omega
  obtain ⟨m, hm⟩ : ∃ m, 64 - n = m := ⟨_, rfl⟩
  rw [hm] at hA
  have hm1 : (m : Int) < 64 := by omega
  have hsub : (64 : Int) - (m : Int) = (n : Int) := by omega
  have hL := fun w => run_shl (P := Tryz.prog) x m (by omega) .u64 w
  have hR := fun w => run_shr (P := Tryz.prog) x n (by omega) .u64 w
  have hor : bits .or .u64 ((x <<< m).toNat : Int) ((x >>> n).toNat : Int) = ((rotr x n).toNat : Int) := by rw [bo_, ← hm, BitVec.or_comm]; rfl
  clear hm
  go_enter Tryz.func122, Tryz.ntmps122
  go_wp2
  go_ret
  refine ⟨congrArg (fun z => Ending.returned (.int .u64 z)) ?_, rfl⟩
  show bits .or .u64 (IntKind.u64.wrap ((x.toNat : Int) * 2 ^ m)) ((x.toNat : Int) / 2 ^ n) = _
  rw [IntKind.wrap_u64, bshl_, bshr_, hor]
set_option maxRecDepth 100000 in
theorem turn_any (x : W64) (n : Nat) (h1 : 0 < n) (h2 : n < 64) (w : World) :
    Calls Tryz.prog 116 #[U x, .int .i64 (n : Int)] w fun e w' => e = .returned (U (rotr x n)) ∧ w = w' := by
  have hb := blt x
  obtain ⟨m, hm⟩ : ∃ m, 64 - n = m := ⟨_, rfl⟩
  have hm1 : (m : Int) < 64 := by omega
  have hn1 : (n : Int) < 64 := by omega
  have hsub : (64 : Int) - (n : Int) = (m : Int) := by omega
  have hL := fun w => run_shl (P := Tryz.prog) x m (by omega) .u64 w
  have hR := fun w => run_shr (P := Tryz.prog) x n (by omega) .u64 w
  have hor : bits .or .u64 ((x >>> n).toNat : Int) ((x <<< m).toNat : Int) = ((rotr x n).toNat : Int) := by rw [bo_, ← hm]; rfl
  clear hm
  go_enter Tryz.func116, Tryz.ntmps116
  go_wp2
  go_ret
  refine ⟨congrArg (fun z => Ending.returned (.int .u64 z)) ?_, rfl⟩
  show bits .or .u64 ((x.toNat : Int) / 2 ^ n) (IntKind.u64.wrap ((x.toNat : Int) * 2 ^ m)) = _
  rw [IntKind.wrap_u64, bshl_, bshr_, hor]
set_option maxRecDepth 100000 in
theorem fold_any (x : W64) (a b c : Nat) (ha : 0 < a ∧ a < 64) (hb : 0 < b ∧ b < 64) (hc : 0 < c ∧ c < 64) (w : World) :
    Calls Tryz.prog 114 #[U x, .int .i64 (a : Int), .int .i64 (b : Int), .int .i64 (c : Int)] w fun e w' => e = .returned (U (fold3 x a b c)) ∧ w = w' := by
  have hx := blt x
  go_enter Tryz.func114, Tryz.ntmps114
  go_wp2_with fail
  refine (rotl_any x a ha.1 ha.2 _).mono ?_
  rintro e w1 ⟨rfl, rfl⟩
  go_wp2_with fail
  refine (rotl_any x b hb.1 hb.2 _).mono ?_
  rintro e w1 ⟨rfl, rfl⟩
  go_wp2_with fail
  refine (rotl_any x c hc.1 hc.2 _).mono ?_
  rintro e w1 ⟨rfl, rfl⟩
  go_wp2
  go_ret
  refine ⟨congrArg (fun z => Ending.returned (.int .u64 z)) ?_, rfl⟩
  show bits .xor .u64 (bits .xor .u64 ((rotr x a).toNat : Int) ((rotr x b).toNat : Int)) ((rotr x c).toNat : Int) = _
  rw [bx_, bx_]
  rfl
/-- A call that leaves all as it was but for answers drawn. -/
theorem Calls.drew_of {P : Program} {f : FuncId} {args : Array Value} {w : World} {v : Value}
    (h : Calls P f args w fun e w' => e = .returned v ∧ w = w') : Calls P f args w fun e w' => e = .returned v ∧ ∃ m, w' = w.drewN m :=
  h.mono fun _ w' ⟨he, hn⟩ => ⟨he, 0, by subst hn; rfl⟩
set_option maxRecDepth 100000 in
theorem slide_any (x : W64) (a b c : Nat) (ha : 0 < a ∧ a < 64) (hb : 0 < b ∧ b < 64) (hc : c < 64) (w : World) :
    Calls Tryz.prog 113 #[U x, .int .i64 (a : Int), .int .i64 (b : Int), .int .i64 (c : Int)] w fun e w' => e = .returned (U (slide3 x a b c)) ∧ ∃ m, w' = w.drewN m := by
  have hx := blt x
  have hc2 : (c : Int) < 64 := by omega
  have HA : ∀ w, Calls Tryz.prog 122 #[U x, .int .i64 (-(a : Int))] w fun e w' => e = .returned (U (rotr x a)) ∧ ∃ z, w' = w.drewN z := fun y => Calls.drew_of (rotl_any x a ha.1 ha.2 y)
  have HB : ∀ w, Calls Tryz.prog 122 #[U x, .int .i64 (-(b : Int))] w fun e w' => e = .returned (U (rotr x b)) ∧ ∃ z, w' = w.drewN z := fun y => Calls.drew_of (rotl_any x b hb.1 hb.2 y)
  go_enter Tryz.func113, Tryz.ntmps113
  go_wp2_with fail
  go_quiet ((go_at_call 122; first | with_reducible exact Calls.quiet_of (HA _) | with_reducible exact Calls.quiet_of (HB _)))
  go_wp2
  go_ret
  refine ⟨congrArg (fun z => Ending.returned (.int .u64 z)) ?_, nq, rfl⟩
  show bits .xor .u64 (bits .xor .u64 ((rotr x a).toNat : Int) ((rotr x b).toNat : Int)) ((x.toNat : Int) / 2 ^ c) = _
  rw [bx_, bshr_, bx_]
  rfl
end Go.Proofs.YtjcpdpdhegcgoaaGreatDoor

/- The first numbers, the numbers of the steps, the words of a block. -/
namespace Go.Proofs.YtjcpdpdhegcgoaaGreatDoor
open Go.RowKit
set_option linter.unusedVariables false

/-- Eight numbers as a value's parts. -/
abbrev ShaS.cells (s : ShaS) : Array Value := #[U s.a, U s.b, U s.c, U s.d, U s.e, U s.f, U s.g, U s.h]
set_option maxRecDepth 100000 in
theorem start_any (w : World) : Calls Tryz.prog 97 #[] w fun e w' => e = .returned (.agg shaStart.cells) ∧ New w w' := by
  go_enter Tryz.func97, Tryz.ntmps97
  go_wp2
  refine bodyPost_ret (v := .agg shaStart.cells) (by (simp [results, Tryz.results97, go_sem, *]); decide) rfl ⟨rfl, ?_⟩
  repeat (first | with_reducible exact Fr.refl _ _ | with_reducible assumption | with_reducible refine Fr.drew ?_ | with_reducible refine Fr.drewN ?_ _ | with_reducible refine Fr.alloc ?_ _ | with_reducible refine Fr.set ?_ (by first | exact fun _ => rfl | (intro hlt; exfalso; simp at hlt; try omega) | (simp; omega)) _ | with_reducible refine Fr.new_ ?_ (by assumption))
set_option maxRecDepth 100000 in
theorem refStart_any (w : World) : Calls Tryz.prog 100 #[] w fun e w' => e = .returned (.agg shaStart.cells) ∧ New w w' := by
  go_enter Tryz.func100, Tryz.ntmps100
  go_wp2
  refine bodyPost_ret (v := .agg shaStart.cells) (by (simp [results, Tryz.results100, go_sem, *]); decide) rfl ⟨rfl, ?_⟩
  repeat (first | with_reducible exact Fr.refl _ _ | with_reducible assumption | with_reducible refine Fr.drew ?_ | with_reducible refine Fr.drewN ?_ _ | with_reducible refine Fr.alloc ?_ _ | with_reducible refine Fr.set ?_ (by first | exact fun _ => rfl | (intro hlt; exfalso; simp at hlt; try omega) | (simp; omega)) _ | with_reducible refine Fr.new_ ?_ (by assumption))
/-- Eighty numbers. -/
def zero80 : Array Value := Array.replicate 80 (.int .u64 0)
theorem info80 : (Tryz.prog.info? 160).map (fun i => (i.zero, i.size)) = some (some (.agg zero80), 80) := by kernel_rfl
def saltV : Array Value := #[.int .u64 4794697086780616226, .int .u64 8158064640168781261, .int .u64 13096744586834688815, .int .u64 16840607885511220156, .int .u64 4131703408338449720, .int .u64 6480981068601479193, .int .u64 10538285296894168987, .int .u64 12329834152419229976, .int .u64 15566598209576043074, .int .u64 1334009975649890238, .int .u64 2608012711638119052, .int .u64 6128411473006802146, .int .u64 8268148722764581231, .int .u64 9286055187155687089, .int .u64 11230858885718282805, .int .u64 13951009754708518548, .int .u64 16472876342353939154, .int .u64 17275323862435702243, .int .u64 1135362057144423861, .int .u64 2597628984639134821, .int .u64 3308224258029322869, .int .u64 5365058923640841347, .int .u64 6679025012923562964, .int .u64 8573033837759648693, .int .u64 10970295158949994411, .int .u64 12119686244451234320, .int .u64 12683024718118986047, .int .u64 13788192230050041572, .int .u64 14330467153632333762, .int .u64 15395433587784984357, .int .u64 489312712824947311, .int .u64 1452737877330783856, .int .u64 2861767655752347644, .int .u64 3322285676063803686, .int .u64 5560940570517711597, .int .u64 5996557281743188959, .int .u64 7280758554555802590, .int .u64 8532644243296465576, .int .u64 9350256976987008742, .int .u64 10552545826968843579, .int .u64 11727347734174303076, .int .u64 12113106623233404929, .int .u64 14000437183269869457, .int .u64 14369950271660146224, .int .u64 15101387698204529176, .int .u64 15463397548674623760, .int .u64 17586052441742319658, .int .u64 1182934255886127544, .int .u64 1847814050463011016, .int .u64 2177327727835720531, .int .u64 2830643537854262169, .int .u64 3796741975233480872, .int .u64 4115178125766777443, .int .u64 5681478168544905931, .int .u64 6601373596472566643, .int .u64 7507060721942968483, .int .u64 8399075790359081724, .int .u64 8693463985226723168, .int .u64 9568029438360202098, .int .u64 10144078919501101548, .int .u64 10430055236837252648, .int .u64 11840083180663258601, .int .u64 13761210420658862357, .int .u64 14299343276471374635, .int .u64 14566680578165727644, .int .u64 15097957966210449927, .int .u64 16922976911328602910, .int .u64 17689382322260857208, .int .u64 500013540394364858, .int .u64 748580250866718886, .int .u64 1242879168328830382, .int .u64 1977374033974150939, .int .u64 2944078676154940804, .int .u64 3659926193048069267, .int .u64 4368137639120453308, .int .u64 4836135668995329356, .int .u64 5532061633213252278, .int .u64 6448918945643986474, .int .u64 6902733635092675308, .int .u64 7801388544844847127]
theorem saltV_eq : saltV = (salts.map U).toArray := by kernel_rfl
theorem oper_val {P : Program} {o : Oper} {a : Act} {w w' : World} {next : Act → World → Prop} {Q : Exit → Act → World → Prop} (v : Value) (h : (execOp a.eval o).run P w = .ok (.value v) w') (k : next (a.put o.dst v) w') : o.wp P a w next Q := by
  unfold Oper.wp
  rw [h]
  exact k
theorem oper_skip {P : Program} {o : Oper} {a : Act} {w w' : World} {next : Act → World → Prop} {Q : Exit → Act → World → Prop} (h : (execOp a.eval o).run P w = .ok .skip w') (k : next (a.put o.dst undef) w') : o.wp P a w next Q := by
  unfold Oper.wp
  rw [h]
  exact k
theorem results_cell1 {fn : Func} {p : Tmp} {ty : TypeId} (h : fn.results = #[.cell p ty]) (tmps : Array Value) (P : Program) (w : World) :
    (results fn tmps).run P w = ((asAddr (tmps.getD p undef)).run P w).andThen fun a w₁ => ((loadVar ty a).run P w₁).andThen fun v w₂ => .ok v w₂ := by
  simp only [results, h]
  simp [Sem.run_bind, Result.andThen]
  repeat' (first | rfl | assumption | split)
set_option maxRecDepth 100000 in
set_option maxHeartbeats 2000000 in
theorem salt_any (w : World) : Calls Tryz.prog 111 #[] w fun e w' => e = .returned (.agg saltV) ∧ New w w' := by
  go_enter Tryz.func111, Tryz.ntmps111
  go_step
  go_step
  go_step
  go_step
  go_simp
  first
    | (rw [(zero_of_info info80).1]; simp only [Result.andThen]; rw [Oper.upon_value])
    | (rw [show Tryz.zeroCells160 = zero80 by kernel_rfl])
  go_step
  go_step
  go_step
  go_step
  go_step
  go_step
  go_step
  refine oper_val (w' := w.alloc (.cells zero80 160)) (.agg saltV) ?_ ?_
  · kernel_rfl
  go_step
  go_step
  refine oper_skip (w' := w.alloc (.cells saltV 160)) ?_ ?_
  · have hs := run_storeAt_new (P := Tryz.prog) w 160 zero80 saltV (zero_of_info info80).2 (by decide) (by kernel_rfl)
    simp [execOp, Act.put, Act.eval, hs]
    done
  go_step
  go_step
  go_step
  go_step
  go_step
  go_step
  refine bodyPost_ret (v := .agg saltV) ?_ rfl ⟨rfl, (Fr.refl _ _).alloc _⟩
  rw [results_cell1 rfl]
  have hl := run_loadVar_new (P := Tryz.prog) w 160 saltV 80 22 Tryz.underlying160 (zero_of_info info80).2
  simp [Act.put, asAddr, Result.andThen, hl]
set_option maxRecDepth 100000 in
theorem refSalts_any (w : World) : Calls Tryz.prog 115 #[] w fun e w' => e = .returned (.agg saltV) ∧ New w w' := by
  go_enter Tryz.func115, Tryz.ntmps115
  go_step
  go_step
  go_step
  go_step
  go_simp
  first
    | (rw [(zero_of_info info80).1]; simp only [Result.andThen]; rw [Oper.upon_value])
    | (rw [show Tryz.zeroCells160 = zero80 by kernel_rfl])
  go_step
  go_step
  go_step
  go_step
  go_step
  go_step
  go_step
  refine oper_val (w' := w.alloc (.cells zero80 160)) (.agg saltV) ?_ ?_
  · kernel_rfl
  go_step
  go_step
  refine oper_skip (w' := w.alloc (.cells saltV 160)) ?_ ?_
  · have hs := run_storeAt_new (P := Tryz.prog) w 160 zero80 saltV (zero_of_info info80).2 (by decide) (by kernel_rfl)
    simp [execOp, Act.put, Act.eval, hs]
    done
  go_step
  go_step
  go_step
  go_step
  go_step
  go_step
  refine bodyPost_ret (v := .agg saltV) ?_ rfl ⟨rfl, (Fr.refl _ _).alloc _⟩
  rw [results_cell1 rfl]
  have hl := run_loadVar_new (P := Tryz.prog) w 160 saltV 80 22 Tryz.underlying160 (zero_of_info info80).2
  simp [Act.put, asAddr, Result.andThen, hl]

theorem ret_int' {k : IntKind} {a b : Int} (h : a = b) : Value.int k a = .int k b := by rw [h]
/-- The bytes of a string, in a row of the call's own. -/
theorem convS_bytes (w : World) (s : ByteArray) : ∃ c w', (convert 9 82 (.string s)).run Tryz.prog w = .ok (.slice (some ⟨w.heap.size, 0, none⟩) s.size c) w' ∧ New w w' ∧ w'.heap.size = w.heap.size + 1 ∧
    ∀ j, j < s.size → w'.cell? ⟨w.heap.size, j, none⟩ = some (.int .u8 (s.data.toList.getD j 0).toNat) :=
  ⟨_, _, Lib.run_convert_string_bytes w 9 82 5 s Tryz.underlying9 Tryz.underlying82 Tryz.underlying5,
    ⟨rfl, rfl, rfl, by rw [Lib.bytesWorld_size]; omega, fun k hk _ => Lib.bytesWorld_at_old w _ s k hk⟩, Lib.bytesWorld_size w _ s, fun j hj => Lib.bytesWorld_cell w _ s j hj⟩
theorem wordL_snoc (l : List UInt8) (c : UInt8) : wordL (l ++ [c]) = wordL l * 256#64 + BitVec.ofNat 64 c.toNat := by
  unfold wordL
  rw [List.foldl_append, List.foldl_cons, List.foldl_nil]
theorem getD_get (l : List UInt8) (i : Nat) (h : i < l.length) : l.getD i 0 = l[i] := by simp [List.getD, h]
theorem word_step (n : W64) (d : UInt8) : IntKind.u64.wrap (IntKind.u64.wrap ((n.toNat : Int) * 256) + (d.toNat : Int)) = ((n * 256#64 + BitVec.ofNat 64 d.toNat).toNat : Int) := by
  have := d.toNat_lt
  rw [IntKind.wrap_u64, IntKind.wrap_u64, BitVec.toNat_add, BitVec.toNat_mul, BitVec.toNat_ofNat, BitVec.toNat_ofNat]
  omega
set_option maxRecDepth 100000 in
theorem word_any (s : ByteArray) (hs : 8 ≤ s.size) (hz : s.size ≤ 9223372036854775807) (w : World) : Calls Tryz.prog 112 #[.string s] w fun e w' => e = .returned (U (wordL (s.data.toList.take 8))) ∧ New w w' := by
  obtain ⟨c, w1, hr, hn, hsz, hc⟩ := convS_bytes w (s.extract 0 8)
  have he : (s.extract 0 8).data.toList = s.data.toList.take 8 := by simp [ByteArray.data_extract]
  have hl : (s.extract 0 8).size = 8 := by simp [ByteArray.size_extract]; omega
  have hll : (s.data.toList.take 8).length = 8 := by rw [List.length_take]; show min 8 s.size = 8; omega
  rw [hl] at hr hc
  rw [he] at hc
  obtain ⟨l, hL⟩ : ∃ l, s.data.toList.take 8 = l := ⟨_, rfl⟩
  rw [hL] at hc hll ⊢
  clear he hL hl
  go_enter Tryz.func112, Tryz.ntmps112
  go_wp2
  go_loop [3, 5, 10] (fun nv _ iv => ∃ i : Nat, i ≤ 8 ∧ iv = .int .i64 i ∧ nv = U (wordL (l.take i))) (fun _ _ iv => 8 - (intOf iv).toNat)
  case atStart => exact ⟨0, by omega, rfl, rfl⟩
  case round =>
    obtain ⟨i, hi, rfl, rfl⟩ := hrel
    by_cases hlt : i < 8
    · have hlt2 : (i : Int) < 8 := by omega
      have hci := hc i hlt
      have hb := blt (wordL (l.take i))
      have hc2 : ((l.getD i 0).toNat : Int) < 256 := by have := (l.getD i 0).toNat_lt; omega
      obtain ⟨n, hn'⟩ : ∃ n, wordL (l.take i) = n := ⟨_, rfl⟩
      have HN := Lib.hid hn'
      obtain ⟨d, hd'⟩ : ∃ d, l.getD i 0 = d := ⟨_, rfl⟩
      have HD := Lib.hid hd'
      rw [hd'] at hci hc2
      rw [hn'] at hb ⊢
      clear hn' hd' hc
      go_wp2
      go_round
      case rel =>
        refine ⟨i + 1, by omega, by go_num, ret_int' ?_⟩
        rw [List.take_succ_eq_append_getElem (by omega), wordL_snoc, HN.out, ← getD_get l i (by omega), HD.out]
        exact word_step n d
      case measure => simp [intOf]; omega
    · obtain rfl : i = 8 := by omega
      have HL : Hid (List.take 8 l = l) := List.take_of_length_le (by omega)
      go_wp2
      go_ret
      exact ⟨by rw [HL.out]; rfl, hn⟩
end Go.Proofs.YtjcpdpdhegcgoaaGreatDoor
