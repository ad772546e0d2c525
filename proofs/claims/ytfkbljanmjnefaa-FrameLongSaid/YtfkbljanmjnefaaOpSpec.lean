/- Operations: when one may be, its bytes; plain laws: the bytes tell it. -/
import Derived.Test.YtfkbljanmjnefaaWireHash
import Derived.Test.YtfkbljanmjnefaaStampTake
namespace Go.Proofs.Ytfkbljanmjnefaa
open Go.RowKit
set_option linter.unusedVariables false

structure OpV where
  kind : Int
  count : Nat
  who : Int
  thing : Nat
  parent : Nat
  name : ByteArray
  dir : Bool
  digest : ByteArray
  size : Int
abbrev OpV.cells (o : OpV) : Array Value := #[.int .i64 o.kind, .int .u64 o.count, .int .i64 o.who, .int .u64 o.thing, .int .u64 o.parent, .string o.name, .bool o.dir, .string o.digest, .int .i64 o.size]
abbrev OpV.val (o : OpV) : Value := .agg o.cells
def Place (o : OpV) : Prop := (o.parent = 0 ∨ madeB o.parent = true) ∧ o.parent ≠ o.thing ∧ 1 ≤ o.name.size ∧ o.name.size ≤ 32
def Bare (o : OpV) : Prop := o.parent = 0 ∧ o.name.size = 0 ∧ o.dir = false
def NoBytes (o : OpV) : Prop := o.digest.size = 0 ∧ o.size = 0
def OpOk (o : OpV) : Prop := madeB o.thing = true ∧
  ((o.kind = 1 ∧ NoBytes o ∧ (o.thing : Int) = thingI o.count o.who ∧ Place o) ∨ (o.kind = 2 ∧ NoBytes o ∧ Place o ∧ o.dir = false) ∨
   (o.kind = 3 ∧ NoBytes o ∧ Bare o) ∨ (o.kind = 4 ∧ o.digest.size = 32 ∧ 0 ≤ o.size ∧ o.size ≤ 8192 ∧ Bare o))
instance (o : OpV) : Decidable (Place o) := by unfold Place; infer_instance
instance (o : OpV) : Decidable (Bare o) := by unfold Bare; infer_instance
instance (o : OpV) : Decidable (NoBytes o) := by unfold NoBytes; infer_instance
instance (o : OpV) : Decidable (OpOk o) := by unfold OpOk; infer_instance
def placeB (o : OpV) : Bool := decide (Place o)
def bareB (o : OpV) : Bool := decide (Bare o)
/-- The error of an operation. -/
def opCheck (o : OpV) : Int := if checkI o.count o.who = 0 then (if OpOk o then 0 else 50) else 40
theorem opCheck_zero {o : OpV} : opCheck o = 0 ↔ Good o.count o.who ∧ OpOk o := by
  unfold opCheck checkI
  by_cases hg : Good o.count o.who <;> by_cases hk : OpOk o <;> simp [hg, hk]
theorem opCheck_cases (o : OpV) : opCheck o = 0 ∨ opCheck o = 40 ∨ opCheck o = 50 := by
  unfold opCheck
  split
  · split <;> simp
  · simp

def opHead (o : OpV) : ByteArray := numB 1 o.kind.toNat ++ numB 8 o.count ++ numB 1 o.who.toNat ++ numB 8 o.thing
def opTail (o : OpV) : ByteArray :=
  if o.kind = 1 then boolB o.dir ++ numB 8 o.parent ++ textB o.name
  else if o.kind = 2 then numB 8 o.parent ++ textB o.name
  else if o.kind = 4 then hashB o.digest ++ numB 4 o.size.toNat
  else .empty
/-- An operation's bytes. -/
def opB (o : OpV) : ByteArray := opHead o ++ opTail o

theorem ba_inj {a b c d : ByteArray} (h : a ++ b = c ++ d) (hs : a.size = c.size) : a = c ∧ b = d := by
  have hl : ∀ x : ByteArray, x.data.toList.length = x.size := by intro x; simp
  have e : a.data.toList ++ b.data.toList = c.data.toList ++ d.data.toList := by
    have := congrArg (fun x : ByteArray => x.data.toList) h
    simpa using this
  obtain ⟨h1, h2⟩ := List.append_inj e (by rw [hl, hl]; exact hs)
  exact ⟨ByteArray.ext (Array.ext' h1), ByteArray.ext (Array.ext' h2)⟩
theorem numB_inj {k n m : Nat} (hn : n < 16 ^ (2 * k)) (hm : m < 16 ^ (2 * k)) (h : numB k n = numB k m) : n = m := by
  have e : hexs (2 * k) n = hexs (2 * k) m := by
    have := congrArg (fun x : ByteArray => x.data.toList) h
    simpa [numB] using this
  have e1 := numL_hexs (2 * k) n
  rw [e, numL_hexs, Nat.mod_eq_of_lt hn, Nat.mod_eq_of_lt hm] at e1
  exact (Option.some.inj e1).symm
theorem pow1 : (16 : Nat) ^ (2 * 1) = 256 := by decide
theorem pow4 : (16 : Nat) ^ (2 * 4) = 4294967296 := by decide
theorem pow8 : (16 : Nat) ^ (2 * 8) = 18446744073709551616 := by decide
theorem hashB_self {s : ByteArray} (h : s.size = 32) : hashB s = s := by
  unfold hashB
  have := extract_end .empty s 0 32 rfl (by rw [h]; rfl)
  apply ByteArray.ext
  apply Array.ext'
  have hl : s.data.toList.length = 32 := by rw [← h]; simp
  have h3 : ∀ a : ByteArray, (a.extract 0 32).data.toList = a.data.toList.take 32 := by intro a; simp
  have h4 : ∀ a b : ByteArray, (a ++ b).data.toList = a.data.toList ++ b.data.toList := by intro a b; simp
  rw [h3, h4, List.take_append_of_le_length (by omega), List.take_of_length_le (by omega)]
theorem opHead_size (o : OpV) : (opHead o).size = 36 := by
  unfold opHead
  simp only [ByteArray.size_append, numB_size]
theorem textB_inj {s t : ByteArray} (hs : s.size < 4294967296) (ht : t.size < 4294967296) (h : textB s = textB t) : s = t := by
  unfold textB at h
  exact (ba_inj h (by rw [numB_size, numB_size])).2
theorem empty_of {s : ByteArray} (h : s.size = 0) : s = .empty := by
  cases s with
  | mk d =>
    cases d with
    | mk l =>
      have : l.length = 0 := h
      rw [List.length_eq_zero_iff] at this
      subst this
      rfl
theorem boolB_inj {x y : Bool} (h : boolB x = boolB y) : x = y := by
  cases x <;> cases y <;> first | rfl | (exfalso; revert h; decide)
theorem boolB_size1 (x : Bool) : (boolB x).size = 1 := by cases x <;> rfl
/-- Bounds of the numbers of an operation that Go's types give. -/
def OpB (o : OpV) : Prop := o.count ≤ 18446744073709551615 ∧ o.thing ≤ 18446744073709551615 ∧ o.parent ≤ 18446744073709551615
/-- What is told is told of one operation alone. -/
theorem opB_inj {a b : OpV} (ga : Good a.count a.who) (ka : OpOk a) (gb : Good b.count b.who) (kb : OpOk b) (ba : OpB a) (bb : OpB b) (h : opB a = opB b) : a = b := by
  obtain ⟨ka1, kk1, kn1, kt1, kp1, kna1, kd1, kdi1, ks1⟩ := a
  obtain ⟨ka2, kk2, kn2, kt2, kp2, kna2, kd2, kdi2, ks2⟩ := b
  obtain ⟨h1, h2⟩ := ba_inj h (by rw [opHead_size, opHead_size])
  unfold opHead at h1
  obtain ⟨h1, h3⟩ := ba_inj h1 (by simp only [ByteArray.size_append, numB_size])
  obtain ⟨h1, h4⟩ := ba_inj h1 (by simp only [ByteArray.size_append, numB_size])
  obtain ⟨h1, h5⟩ := ba_inj h1 (by simp only [numB_size])
  unfold Good at ga gb
  obtain ⟨b1, b2, b3⟩ := ba
  obtain ⟨c1, c2, c3⟩ := bb
  simp only at *
  have kr1 : 1 ≤ ka1 ∧ ka1 ≤ 4 := by unfold OpOk at ka; simp only at ka; omega
  have kr2 : 1 ≤ ka2 ∧ ka2 ≤ 4 := by unfold OpOk at kb; simp only at kb; omega
  have e1 := numB_inj (by rw [pow1]; omega) (by rw [pow1]; omega) h1
  have e5 := numB_inj (by rw [pow8]; omega) (by rw [pow8]; omega) h5
  have e4 := numB_inj (by rw [pow1]; omega) (by rw [pow1]; omega) h4
  have e3 := numB_inj (by rw [pow8]; omega) (by rw [pow8]; omega) h3
  obtain rfl : ka1 = ka2 := by omega
  obtain rfl : kn1 = kn2 := by omega
  subst e3 e5
  clear h1 h3 h4 h5 e1 e4
  unfold OpOk NoBytes Place Bare at ka kb
  unfold opTail at h2
  simp only at ka kb h2
  rcases (by omega : ka1 = 1 ∨ ka1 = 2 ∨ ka1 = 3 ∨ ka1 = 4) with rfl | rfl | rfl | rfl
  · simp only [if_pos] at h2
    obtain ⟨m1, ⟨_, ⟨q1, q2⟩, q3, q4, q5, q6, q7⟩ | ⟨x, _⟩ | ⟨x, _⟩ | ⟨x, _⟩⟩ := ka <;> try omega
    obtain ⟨m2, ⟨_, ⟨r1, r2⟩, r3, r4, r5, r6, r7⟩ | ⟨x, _⟩ | ⟨x, _⟩ | ⟨x, _⟩⟩ := kb <;> try omega
    obtain ⟨h2, h7⟩ := ba_inj h2 (by simp only [ByteArray.size_append, numB_size, boolB_size1])
    obtain ⟨h2, h8⟩ := ba_inj h2 (by simp only [boolB_size1])
    have e8 := numB_inj (by rw [pow8]; omega) (by rw [pow8]; omega) h8
    have e7 := textB_inj (by omega) (by omega) h7
    have e2 := boolB_inj h2
    rw [empty_of q1, empty_of r1]
    subst e8 e7 e2 q2 r2
    rfl
  · rw [if_neg (by omega), if_pos rfl, if_neg (by omega), if_pos rfl] at h2
    obtain ⟨m1, ⟨x, _⟩ | ⟨_, ⟨q1, q2⟩, ⟨q4, q5, q6, q7⟩, q8⟩ | ⟨x, _⟩ | ⟨x, _⟩⟩ := ka <;> try omega
    obtain ⟨m2, ⟨x, _⟩ | ⟨_, ⟨r1, r2⟩, ⟨r4, r5, r6, r7⟩, r8⟩ | ⟨x, _⟩ | ⟨x, _⟩⟩ := kb <;> try omega
    obtain ⟨h8, h7⟩ := ba_inj h2 (by simp only [numB_size])
    have e8 := numB_inj (by rw [pow8]; omega) (by rw [pow8]; omega) h8
    have e7 := textB_inj (by omega) (by omega) h7
    rw [empty_of q1, empty_of r1]
    subst e8 e7 q2 r2 q8 r8
    rfl
  · obtain ⟨m1, ⟨x, _⟩ | ⟨x, _⟩ | ⟨_, ⟨q1, q2⟩, q4, q5, q6⟩ | ⟨x, _⟩⟩ := ka <;> try omega
    obtain ⟨m2, ⟨x, _⟩ | ⟨x, _⟩ | ⟨_, ⟨r1, r2⟩, r4, r5, r6⟩ | ⟨x, _⟩⟩ := kb <;> try omega
    rw [empty_of q1, empty_of r1, empty_of q5, empty_of r5]
    subst q2 r2 q4 r4 q6 r6
    rfl
  · rw [if_neg (by omega), if_neg (by omega), if_pos rfl, if_neg (by omega), if_neg (by omega), if_pos rfl] at h2
    obtain ⟨m1, ⟨x, _⟩ | ⟨x, _⟩ | ⟨x, _⟩ | ⟨_, q1, q2, q3, q4, q5, q6⟩⟩ := ka <;> try omega
    obtain ⟨m2, ⟨x, _⟩ | ⟨x, _⟩ | ⟨x, _⟩ | ⟨_, r1, r2, r3, r4, r5, r6⟩⟩ := kb <;> try omega
    obtain ⟨h8, h7⟩ := ba_inj h2 (by simp only [hashB_size])
    rw [hashB_self q1, hashB_self r1] at h8
    have e7 := numB_inj (by rw [pow4]; omega) (by rw [pow4]; omega) h7
    obtain rfl : ks1 = ks2 := by omega
    rw [empty_of q5, empty_of r5]
    subst h8 q4 r4 q6 r6
    rfl
theorem opB_size (o : OpV) (h : OpOk o) : (opB o).size ≤ 1000 := by
  unfold opB
  rw [ByteArray.size_append, opHead_size]
  have ht : (opTail o).size ≤ 100 := by
    unfold opTail OpOk Place Bare NoBytes at *
    split
    · simp only [ByteArray.size_append, numB_size, boolB_size1, textB]; omega
    · split
      · simp only [ByteArray.size_append, numB_size, textB]; omega
      · split
        · simp only [ByteArray.size_append, numB_size, hashB_size]; omega
        · simp
  omega
end Go.Proofs.Ytfkbljanmjnefaa
