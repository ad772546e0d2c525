/- The digest as plain arithmetic: words of 64 bits, steps, blocks, and the whole. -/
import Derived.Test.YtjcpdpdhegcgoaaGreatDoorBase
namespace Go.Proofs.YtjcpdpdhegcgoaaGreatDoor
set_option linter.unusedVariables false

abbrev W64 := BitVec 64
def rotr (x : W64) (n : Nat) : W64 := (x >>> n) ||| (x <<< (64 - n))
def fold3 (x : W64) (a b c : Nat) : W64 := rotr x a ^^^ rotr x b ^^^ rotr x c
def slide3 (x : W64) (a b c : Nat) : W64 := rotr x a ^^^ rotr x b ^^^ (x >>> c)
/-- A number is made plain before it is handed on. -/
def force {α : Type} (x : W64) (k : W64 → α) : α := Nat.rec (motive := fun _ => α) (k 0#64) (fun n _ => k (BitVec.ofNat 64 (n + 1))) x.toNat
theorem force_eq {α : Type} (x : W64) (k : W64 → α) : force x k = k x := by
  unfold force
  cases h : x.toNat with
  | zero =>
    have : x = 0#64 := BitVec.eq_of_toNat_eq (by simpa using h)
    rw [this]
    try rfl
  | succ n =>
    have : x = BitVec.ofNat 64 (n + 1) := BitVec.eq_of_toNat_eq (by simp [← h])
    rw [this]
structure ShaS where
  (a b c d e f g h : W64)
deriving DecidableEq
def ShaS.force {α : Type} (s : ShaS) (k : ShaS → α) : α := Proofs.YtjcpdpdhegcgoaaGreatDoor.force s.a fun a => Proofs.YtjcpdpdhegcgoaaGreatDoor.force s.b fun b => Proofs.YtjcpdpdhegcgoaaGreatDoor.force s.c fun c => Proofs.YtjcpdpdhegcgoaaGreatDoor.force s.d fun d => Proofs.YtjcpdpdhegcgoaaGreatDoor.force s.e fun e => Proofs.YtjcpdpdhegcgoaaGreatDoor.force s.f fun f => Proofs.YtjcpdpdhegcgoaaGreatDoor.force s.g fun g => Proofs.YtjcpdpdhegcgoaaGreatDoor.force s.h fun h => k ⟨a, b, c, d, e, f, g, h⟩
theorem ShaS.force_eq {α : Type} (s : ShaS) (k : ShaS → α) : s.force k = k s := by
  simp only [ShaS.force, Proofs.YtjcpdpdhegcgoaaGreatDoor.force_eq]
def shaStart : ShaS := ⟨0x6a09e667f3bcc908#64, 0xbb67ae8584caa73b#64, 0x3c6ef372fe94f82b#64, 0xa54ff53a5f1d36f1#64, 0x510e527fade682d1#64, 0x9b05688c2b3e6c1f#64, 0x1f83d9abfb41bd6b#64, 0x5be0cd19137e2179#64⟩
def salts : List W64 := [0x428a2f98d728ae22#64, 0x7137449123ef65cd#64, 0xb5c0fbcfec4d3b2f#64, 0xe9b5dba58189dbbc#64, 0x3956c25bf348b538#64, 0x59f111f1b605d019#64, 0x923f82a4af194f9b#64, 0xab1c5ed5da6d8118#64, 0xd807aa98a3030242#64, 0x12835b0145706fbe#64, 0x243185be4ee4b28c#64, 0x550c7dc3d5ffb4e2#64, 0x72be5d74f27b896f#64, 0x80deb1fe3b1696b1#64, 0x9bdc06a725c71235#64, 0xc19bf174cf692694#64, 0xe49b69c19ef14ad2#64, 0xefbe4786384f25e3#64, 0xfc19dc68b8cd5b5#64, 0x240ca1cc77ac9c65#64, 0x2de92c6f592b0275#64, 0x4a7484aa6ea6e483#64, 0x5cb0a9dcbd41fbd4#64, 0x76f988da831153b5#64, 0x983e5152ee66dfab#64, 0xa831c66d2db43210#64, 0xb00327c898fb213f#64, 0xbf597fc7beef0ee4#64, 0xc6e00bf33da88fc2#64, 0xd5a79147930aa725#64, 0x6ca6351e003826f#64, 0x142929670a0e6e70#64, 0x27b70a8546d22ffc#64, 0x2e1b21385c26c926#64, 0x4d2c6dfc5ac42aed#64, 0x53380d139d95b3df#64, 0x650a73548baf63de#64, 0x766a0abb3c77b2a8#64, 0x81c2c92e47edaee6#64, 0x92722c851482353b#64, 0xa2bfe8a14cf10364#64, 0xa81a664bbc423001#64, 0xc24b8b70d0f89791#64, 0xc76c51a30654be30#64, 0xd192e819d6ef5218#64, 0xd69906245565a910#64, 0xf40e35855771202a#64, 0x106aa07032bbd1b8#64, 0x19a4c116b8d2d0c8#64, 0x1e376c085141ab53#64, 0x2748774cdf8eeb99#64, 0x34b0bcb5e19b48a8#64, 0x391c0cb3c5c95a63#64, 0x4ed8aa4ae3418acb#64, 0x5b9cca4f7763e373#64, 0x682e6ff3d6b2b8a3#64, 0x748f82ee5defb2fc#64, 0x78a5636f43172f60#64, 0x84c87814a1f0ab72#64, 0x8cc702081a6439ec#64, 0x90befffa23631e28#64, 0xa4506cebde82bde9#64, 0xbef9a3f7b2c67915#64, 0xc67178f2e372532b#64, 0xca273eceea26619c#64, 0xd186b8c721c0c207#64, 0xeada7dd6cde0eb1e#64, 0xf57d4f7fee6ed178#64, 0x6f067aa72176fba#64, 0xa637dc5a2c898a6#64, 0x113f9804bef90dae#64, 0x1b710b35131c471b#64, 0x28db77f523047d84#64, 0x32caab7b40c72493#64, 0x3c9ebe0a15c9bebc#64, 0x431d67c49c100d4c#64, 0x4cc5d4becb3e42b6#64, 0x597f299cfc657e2a#64, 0x5fcb6fab3ad6faec#64, 0x6c44198c4a475817#64]
def shaT (s : ShaS) (k w : W64) : W64 := s.h + fold3 s.e 14 18 41 + ((s.e &&& s.f) ^^^ (~~~s.e &&& s.g)) + k + w
def shaU (s : ShaS) : W64 := fold3 s.a 28 34 39 + ((s.a &&& s.b) ^^^ (s.a &&& s.c) ^^^ (s.b &&& s.c))
/-- One step. -/
def ShaS.step (s : ShaS) (k w : W64) : ShaS := ⟨shaT s k w + shaU s, s.a, s.b, s.c, s.d + shaT s k w, s.e, s.f, s.g⟩
/-- The next word of those that were, the last one first. -/
def nextW (ws : List W64) : W64 := ws.getD 15 0 + slide3 (ws.getD 14 0) 1 8 7 + ws.getD 6 0 + slide3 (ws.getD 1 0) 19 61 6
def wordL (l : List UInt8) : W64 := l.foldl (fun n c => n * 256#64 + BitVec.ofNat 64 c.toNat) 0#64
def blockW (l : List UInt8) (n : Nat) : W64 := wordL ((l.drop (8 * n)).take 8)
/-- The words of so many steps (the last one first), and the numbers behind them. -/
def shaRun (l : List UInt8) (s : ShaS) : Nat → List W64 × ShaS
  | 0 => ([], s)
  | n + 1 => match shaRun l s n with
    | (old, s') => force (if n < 16 then blockW l n else nextW old) fun w => (s'.step (salts.getD n 0) w).force fun s2 => (w :: old, s2)
def ShaS.plus (s x : ShaS) : ShaS := ⟨s.a + x.a, s.b + x.b, s.c + x.c, s.d + x.d, s.e + x.e, s.f + x.f, s.g + x.g, s.h + x.h⟩
def shaMix (s : ShaS) (l : List UInt8) : ShaS := s.plus (shaRun l s 80).2
/-- A number's lowest bytes, the highest first. -/
def bytesN : Nat → Nat → List UInt8
  | 0, _ => []
  | k + 1, n => bytesN k (n / 256) ++ [UInt8.ofNat (n % 256)]
def padL (n : Nat) : List UInt8 := 128 :: (List.replicate ((239 - n % 128) % 128) 0 ++ List.replicate 8 0 ++ bytesN 8 (8 * n))
def shaBlocks : Nat → ShaS → List UInt8 → ShaS
  | 0, s, _ => s
  | n + 1, s, l => (shaMix s (l.take 128)).force fun s' => shaBlocks n s' (l.drop 128)
def ShaS.out (s : ShaS) : List UInt8 := bytesN 8 s.a.toNat ++ bytesN 8 s.b.toNat ++ bytesN 8 s.c.toNat ++ bytesN 8 s.d.toNat
def shaL (l : List UInt8) : List UInt8 := (shaBlocks ((l.length + 144) / 128) shaStart (l ++ padL l.length)).out
def shaB (t : ByteArray) : ByteArray := ⟨(shaL t.data.toList).toArray⟩

theorem bytesN_length (k n : Nat) : (bytesN k n).length = k := by
  induction k generalizing n with
  | zero => rfl
  | succ k ih => simp [bytesN, ih]
theorem padL_length (n : Nat) : (n + (padL n).length) = (n + 144) / 128 * 128 := by
  unfold padL
  simp only [List.length_cons, List.length_append, List.length_replicate, bytesN_length]
  omega
theorem shaL_length (l : List UInt8) : (shaL l).length = 32 := by simp [shaL, ShaS.out, bytesN_length]
theorem shaB_size (t : ByteArray) : (shaB t).size = 32 := by
  show (shaL t.data.toList).toArray.size = 32
  rw [List.size_toArray, shaL_length]

/-- The n-th word. -/
def shaW (l : List UInt8) (s : ShaS) (n : Nat) : W64 := if n < 16 then blockW l n else nextW (shaRun l s n).1
theorem shaRun_succ (l : List UInt8) (s : ShaS) (n : Nat) : shaRun l s (n + 1) = (shaW l s n :: (shaRun l s n).1, (shaRun l s n).2.step (salts.getD n 0) (shaW l s n)) := by
  rw [shaRun]
  simp only [force_eq, ShaS.force_eq]
  rfl
theorem shaRun_getD (l : List UInt8) (s : ShaS) (n k : Nat) (h : k < n) : (shaRun l s n).1.getD k 0 = shaW l s (n - 1 - k) := by
  induction n generalizing k with
  | zero => omega
  | succ n ih =>
    rw [shaRun_succ]
    cases k with
    | zero => simp
    | succ k =>
      rw [List.getD_cons_succ, ih k (by omega)]
      congr 1
      omega
theorem shaW_low (l : List UInt8) (s : ShaS) (n : Nat) (h : n < 16) : shaW l s n = blockW l n := if_pos h
theorem shaW_next (l : List UInt8) (s : ShaS) (n : Nat) (h : 16 ≤ n) : shaW l s n = shaW l s (n - 16) + slide3 (shaW l s (n - 15)) 1 8 7 + shaW l s (n - 7) + slide3 (shaW l s (n - 2)) 19 61 6 := by
  rw [shaW, if_neg (by omega), nextW, shaRun_getD _ _ _ _ (by omega), shaRun_getD _ _ _ _ (by omega), shaRun_getD _ _ _ _ (by omega), shaRun_getD _ _ _ _ (by omega)]
  rfl
theorem shaBlocks_succ (n : Nat) (s : ShaS) (l : List UInt8) : shaBlocks (n + 1) s l = shaBlocks n (shaMix s (l.take 128)) (l.drop 128) := by
  rw [shaBlocks, ShaS.force_eq]
theorem sha_abc : ((shaL [97, 98, 99]).getD 0 0, (shaL [97, 98, 99]).getD 1 0, (shaL [97, 98, 99]).getD 31 0) = (0xdd, 0xaf, 0x9a) := by decide +kernel
end Go.Proofs.YtjcpdpdhegcgoaaGreatDoor
