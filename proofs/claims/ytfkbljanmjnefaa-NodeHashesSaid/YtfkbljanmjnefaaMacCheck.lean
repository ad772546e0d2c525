/- A tag is right: Check; few, key and awake of the law. -/
import Derived.Test.YtfkbljanmjnefaaMacRing
namespace Go.Proofs.Ytfkbljanmjnefaa
open Go.RowKit
set_option linter.unusedVariables false

theorem or_u8 (a b : UInt8) : bits .or .u8 (a.toNat : Int) (b.toNat : Int) = ((a ||| b).toNat : Int) := by
  have h := u8_or_nat a.toNat b.toNat a.toNat_lt b.toNat_lt
  rw [h]
  simp
theorem chk_step (d x y : UInt8) : bits .or .u8 (d.toNat : Int) (bits .xor .u8 (x.toNat : Int) (y.toNat : Int)) = ((d ||| (x ^^^ y)).toNat : Int) := by rw [xor_u8, or_u8]
theorem chk_zero : ∀ d z : UInt8, (d ||| z = 0) ↔ d = 0 ∧ z = 0 := by
  intro d z
  rw [UInt8.or_eq_zero_iff]
theorem xor_zero (x y : UInt8) : x ^^^ y = 0 ↔ x = y := by
  rw [UInt8.xor_eq_zero_iff]
/-- What the loop knows: no byte was unlike so far, just where the sum is zero. -/
def Alike (t g : ByteArray) (k : Nat) (d : UInt8) : Prop := d = 0 ↔ ∀ j, j < k → t.data.toList[j]? = g.data.toList[j]?
theorem Alike.next {t g : ByteArray} {k : Nat} {d x y : UInt8} (h : Alike t g k d) (hx : t.data.toList[k]? = some x) (hy : g.data.toList[k]? = some y) : Alike t g (k + 1) (d ||| (x ^^^ y)) := by
  unfold Alike at *
  rw [chk_zero, xor_zero, h]
  constructor
  · rintro ⟨h1, rfl⟩ j hj
    by_cases e : j = k
    · subst e; rw [hx, hy]
    · exact h1 j (by omega)
  · intro h1
    refine ⟨fun j hj => h1 j (by omega), ?_⟩
    have := h1 k (by omega)
    rw [hx, hy] at this
    exact Option.some.inj this
theorem Alike.done {t g : ByteArray} {d : UInt8} (h : Alike t g t.size d) (hs : t.size = g.size) : ((d.toNat : Int) == 0) = decide (g = t) := by
  rw [Bool.eq_iff_iff, decide_eq_true_eq, beq_iff_eq]
  have e0 : ((d.toNat : Int) = 0) ↔ d = 0 := by
    constructor
    · intro h
      have h' : d.toNat = 0 := by omega
      exact UInt8.toNat_inj.1 (by simpa using h')
    · intro h; subst h; rfl
  rw [e0]
  unfold Alike at h
  rw [h]
  constructor
  · intro hj
    have : g.data.toList = t.data.toList := by
      apply List.ext_getElem?
      intro j
      by_cases hl : j < t.size
      · exact (hj j hl).symm
      · rw [List.getElem?_eq_none (by rw [data_len]; omega), List.getElem?_eq_none (by rw [data_len]; omega)]
    cases g; cases t
    simp only [ByteArray.mk.injEq]
    exact Array.toList_inj.1 this
  · intro e j hj
    rw [e]
theorem get_list (t : ByteArray) (k : Nat) (h : k < t.size) : t.data.toList[k]? = some t[k] := by
  rw [List.getElem?_eq_getElem (by rw [data_len]; exact h)]
  rfl
set_option maxRecDepth 100000 in
set_option maxHeartbeats 1000000 in
theorem mcheck_no {W : World} {b b2 : Nat} {s : ByteArray} {n : Nat} (h : RingO W b b2 s n) (i : Int) (t g : ByteArray) (hi : i < 0 ∨ (n : Int) ≤ i) :
    Calls Try.prog 65 #[.pointer (some ⟨b, 0, none⟩), .int .i64 i, .string t, .string g] W fun e w' => e = .returned (.bool false) ∧ w' = W := by
  have HL := Lib.hid (tag_no h i t hi)
  go_enter Try.func65, Try.ntmps65
  go_wp2_with fail
  refine HL.out.mono ?_
  rintro e w1 ⟨rfl, rfl⟩
  go_wp2
  go_ret
  exact ⟨rfl, rfl⟩
set_option maxRecDepth 100000 in
set_option maxHeartbeats 1000000 in
theorem check_is {W : World} {b b2 : Nat} {s : ByteArray} {n : Nat} (h : RingO W b b2 s n) (i : Nat) (t g : ByteArray) (ht : t.size ≤ 1000000) (hg : g.size ≤ 1000000) (hi : i < n) :
    Calls Try.prog 65 #[.pointer (some ⟨b, 0, none⟩), .int .i64 i, .string t, .string g] W fun e w' => e = .returned (.bool (decide (g = macB (ringKey s i) t))) ∧ New W w' := by
  have HL := Lib.hid (tag_is h i t ht hi)
  have hz := macB_size (ringKey s i) t
  obtain ⟨m, hm⟩ : ∃ m, macB (ringKey s i) t = m := ⟨_, rfl⟩
  rw [hm] at HL hz
  rw [hm]
  clear hm h
  rcases (by omega : g.size = 32 ∨ g.size ≠ 32) with h32 | h32
  · go_enter Try.func65, Try.ntmps65
    go_wp2_with fail
    refine HL.out.mono ?_
    rintro e w1 ⟨rfl, g1⟩
    go_wp2_with fail
    go_loopw [31, 11] (fun kv dv wr => ∃ (k : Nat) (d : UInt8), k ≤ 32 ∧ kv = .int .i64 k ∧ dv = .int .u8 d.toNat ∧ Hid (Alike m g k d) ∧ New W wr) (fun kv _ _ => 32 - (intOf kv).toNat)
    case atStart => exact ⟨0, 0, by omega, rfl, rfl, ⟨fun _ j hj => by omega, fun _ => rfl⟩, g1⟩
    case round =>
      clear g1
      obtain ⟨k, d, hk, rfl, rfl, HA, g1⟩ := hrel
      by_cases hlt : k < 32
      · have hlt2 : (k : Int) < 32 := by omega
        have HN := Lib.hid (HA.out.next (get_list m k (by omega)) (get_list g k (by omega)))
        clear HA
        go_wp2_with fail
        go_quiet (fail)
        go_wp2_with fail
        go_roundw
        case rel => exact ⟨k + 1, d ||| (m[k] ^^^ g[k]), by omega, by go_num, congrArg (Value.int .u8) (chk_step d m[k] g[k]), HN.out, g1.drewN nq⟩
        case measure => simp [intOf]; omega
      · obtain rfl : k = 32 := by omega
        have hd : ((d.toNat : Int) == 0) = decide (g = m) := Alike.done (by rw [hz]; exact HA.out) (by omega)
        have HD := Lib.hid hd
        clear hd HA
        go_wp2
        go_ret
        exact ⟨by rw [← HD.out]; rfl, g1⟩
  · have hne : decide (g = m) = false := decide_eq_false (fun e => h32 (by rw [e, hz]))
    rw [hne]
    clear hne
    have h32' : ¬ (g.size : Int) = 32 := by omega
    go_enter Try.func65, Try.ntmps65
    go_wp2_with fail
    refine HL.out.mono ?_
    rintro e w1 ⟨rfl, g1⟩
    go_wp2
    go_ret
    exact ⟨rfl, g1⟩

/-- A text that is not too long. -/
def few02 (s : ByteArray) : ByteArray := if 400 < s.size then s.extract 0 400 else s
theorem few02_size (s : ByteArray) : (few02 s).size ≤ 400 := by
  unfold few02
  split
  · simp; omega
  · omega
def seedB : ByteArray := ⟨#[115, 101, 101, 100]⟩
def mtextB : ByteArray := ⟨#[116, 101, 120, 116]⟩
def testB : ByteArray := ⟨#[116, 101, 115, 116]⟩
def rkL (i : UInt8) : List UInt8 := shaL (partsL 82 [[115, 101, 101, 100], [i]])
theorem mac_unlike1 : macL (rkL 1) [116, 101, 115, 116] ≠ macL (rkL 1) [116, 101, 120, 116] := by decide +kernel
theorem mac_unlike2 : macL (rkL 0) [116, 101, 120, 116] ≠ macL (rkL 1) [116, 101, 120, 116] := by decide +kernel
theorem macB_list (k s : ByteArray) : (macB k s).data.toList = macL k.data.toList s.data.toList := by
  simp [macB, shaB, keyB, macL]
theorem ringKey_list (s : ByteArray) (i : Nat) : (ringKey s i).data.toList = shaL (partsL 82 [s.data.toList, [UInt8.ofNat i]]) := by
  have e : headL 82 2 (twoV s i) 2 ++ tailL (twoV s i) 2 = partsL 82 [s.data.toList, [UInt8.ofNat i]] := by
    simp [headL, tailL, partsL, twoV, List.range_succ]
    rfl
  rw [← e]
  rfl
theorem awake_no1 : decide (macB (ringKey seedB 1) mtextB = macB (ringKey seedB 1) testB) = false := decide_eq_false fun e => by
  have := congrArg (fun b : ByteArray => b.data.toList) e
  rw [macB_list, macB_list, ringKey_list] at this
  exact mac_unlike1 this.symm
theorem awake_no2 : decide (macB (ringKey seedB 1) mtextB = macB (ringKey seedB 0) mtextB) = false := decide_eq_false fun e => by
  have := congrArg (fun b : ByteArray => b.data.toList) e
  rw [macB_list, macB_list, ringKey_list, ringKey_list] at this
  exact mac_unlike2 this.symm
end Go.Proofs.Ytfkbljanmjnefaa
