/- A byte's number: the program's Gear, the reference's. -/
import Derived.Test.YtjcpdpdhegcgoaaGreatDoorShaA
namespace Go.Proofs.YtjcpdpdhegcgoaaGreatDoor
open Go.RowKit
set_option linter.unusedVariables false
set_option linter.unusedSimpArgs false

def gear0 (b : UInt8) : W64 := (BitVec.ofNat 64 b.toNat + 1#64) * 11400714819323198485#64
def gear1 (x : W64) : W64 := (x ^^^ (x >>> 30)) * 13787848793156543929#64
def gear2 (x : W64) : W64 := (x ^^^ (x >>> 27)) * 10723151780598845931#64
/-- A byte's number. -/
def gearB (b : UInt8) : W64 := gear2 (gear1 (gear0 b)) ^^^ (gear2 (gear1 (gear0 b)) >>> 31)
theorem bmul_ (a b : W64) : ((a.toNat : Int) * (b.toNat : Int)) % 18446744073709551616 = ((a * b).toNat : Int) := by rw [BitVec.toNat_mul]; simp
set_option maxRecDepth 100000 in
theorem gear_any {b : UInt8} {w : World} : Calls Tryz.prog 95 #[.int .u8 b.toNat] w fun e W => e = .returned (U (gearB b)) ∧ W = w := by
  have hb := b.toNat_lt
  have hb2 : (b.toNat : Int) < 256 := by omega
  obtain ⟨x0, h0⟩ : ∃ x, x = gear0 b := ⟨_, rfl⟩
  have e0 : IntKind.u64.wrap (((b.toNat : Int) + 1) * 11400714819323198485) = (x0.toNat : Int) := by
    rw [IntKind.wrap_u64, h0]
    unfold gear0
    rw [← bmul_]
    have e : (BitVec.ofNat 64 b.toNat + 1#64).toNat = b.toNat + 1 := by
      rw [BitVec.toNat_add, BitVec.toNat_ofNat]
      simp
      omega
    rw [e]
    simp
  obtain ⟨s0, hs0⟩ : ∃ x, x = x0 >>> 30 := ⟨_, rfl⟩
  have e1 : (x0.toNat : Int) / 1073741824 = (s0.toNat : Int) := by rw [hs0]; exact bshr_ x0 30
  obtain ⟨y0, hy0⟩ : ∃ x, x = x0 ^^^ s0 := ⟨_, rfl⟩
  have e2 : bits .xor .u64 (x0.toNat : Int) (s0.toNat : Int) = (y0.toNat : Int) := by rw [hy0]; exact bx_ _ _
  obtain ⟨x1, hx1⟩ : ∃ x, x = y0 * 13787848793156543929#64 := ⟨_, rfl⟩
  have e3 : IntKind.u64.wrap ((y0.toNat : Int) * 13787848793156543929) = (x1.toNat : Int) := by rw [IntKind.wrap_u64, hx1, ← bmul_]; rfl
  obtain ⟨s1, hs1⟩ : ∃ x, x = x1 >>> 27 := ⟨_, rfl⟩
  have e4 : (x1.toNat : Int) / 134217728 = (s1.toNat : Int) := by rw [hs1]; exact bshr_ x1 27
  obtain ⟨y1, hy1⟩ : ∃ x, x = x1 ^^^ s1 := ⟨_, rfl⟩
  have e5 : bits .xor .u64 (x1.toNat : Int) (s1.toNat : Int) = (y1.toNat : Int) := by rw [hy1]; exact bx_ _ _
  obtain ⟨x2, hx2⟩ : ∃ x, x = y1 * 10723151780598845931#64 := ⟨_, rfl⟩
  have e6 : IntKind.u64.wrap ((y1.toNat : Int) * 10723151780598845931) = (x2.toNat : Int) := by rw [IntKind.wrap_u64, hx2, ← bmul_]; rfl
  obtain ⟨s2, hs2⟩ : ∃ x, x = x2 >>> 31 := ⟨_, rfl⟩
  have e7 : (x2.toNat : Int) / 2147483648 = (s2.toNat : Int) := by rw [hs2]; exact bshr_ x2 31
  have hg : gearB b = x2 ^^^ s2 := by
    rw [hs2, hx2, hy1, hs1, hx1, hy0, hs0, h0]
    rfl
  obtain ⟨z, hz⟩ : ∃ x, x = x2 ^^^ s2 := ⟨_, rfl⟩
  have e8 : bits .xor .u64 (x2.toNat : Int) (s2.toNat : Int) = (z.toNat : Int) := by rw [hz]; exact bx_ _ _
  rw [hg, ← hz]
  clear hg hz h0 hs0 hy0 hx1 hs1 hy1 hx2 hs2
  have b0 := blt x0
  have b1 := blt y0
  have b2 := blt x1
  have b3 := blt y1
  have b4 := blt x2
  go_enter Tryz.func95, Tryz.ntmps95
  go_wp2
  go_ret
  exact ⟨rfl, rfl⟩
/-- The reference's product is the product. -/
theorem times_nat (a b : Nat) (ha : a < 18446744073709551616) (hb : b < 18446744073709551616) :
    ((a % 4294967296) * (b % 4294967296) + ((a % 4294967296) * (b / 4294967296) + (a / 4294967296) * (b % 4294967296)) % 4294967296 * 4294967296) % 18446744073709551616 = a * b % 18446744073709551616 := by
  obtain ⟨p, hp⟩ : ∃ p, p = a / 4294967296 := ⟨_, rfl⟩
  obtain ⟨q, hq⟩ : ∃ q, q = a % 4294967296 := ⟨_, rfl⟩
  obtain ⟨r, hr⟩ : ∃ r, r = b / 4294967296 := ⟨_, rfl⟩
  obtain ⟨s, hs⟩ : ∃ s, s = b % 4294967296 := ⟨_, rfl⟩
  have ea : a = p * 4294967296 + q := by omega
  have eb : b = r * 4294967296 + s := by omega
  rw [← hp, ← hq, ← hr, ← hs]
  have e : a * b = q * s + (q * r + p * s) * 4294967296 + p * r * 18446744073709551616 := by
    rw [ea, eb]
    simp only [Nat.add_mul, Nat.mul_add]
    have h1 : p * 4294967296 * (r * 4294967296) = p * r * 18446744073709551616 := by
      rw [Nat.mul_mul_mul_comm]
    have h2 : p * 4294967296 * s = p * s * 4294967296 := by rw [Nat.mul_right_comm]
    have h3 : q * (r * 4294967296) = q * r * 4294967296 := by rw [Nat.mul_assoc]
    rw [h1, h2, h3]
    omega
  rw [e, Nat.add_mul_mod_self_right]
  generalize q * r + p * s = m
  generalize q * s = n
  omega
set_option maxRecDepth 100000 in
theorem times_any {a b : W64} {w : World} : Calls Tryz.prog 81 #[U a, U b] w fun e W => e = .returned (U (a * b)) ∧ W = w := by
  have ha := a.isLt
  have hb := b.isLt
  obtain ⟨x, hx⟩ : ∃ x, x = a.toNat := ⟨_, rfl⟩
  obtain ⟨y, hy⟩ : ∃ y, y = b.toNat := ⟨_, rfl⟩
  rw [← hx] at ha
  rw [← hy] at hb
  have hres : (((a * b).toNat : Nat) : Int) = ((x * y % 18446744073709551616 : Nat) : Int) := by rw [BitVec.toNat_mul, hx, hy]
  unfold U
  rw [hres, ← hx, ← hy]
  have ht := times_nat x y ha hb
  clear hres hx hy
  obtain ⟨z, hz⟩ : ∃ z, z = x * y % 18446744073709551616 := ⟨_, rfl⟩
  rw [← hz] at ht ⊢
  clear hz
  have hx2 : (x : Int) < 18446744073709551616 := by omega
  have hy2 : (y : Int) < 18446744073709551616 := by omega
  have fin : IntKind.u64.wrap (IntKind.u64.wrap ((x : Int) % 4294967296 * ((y : Int) % 4294967296)) + IntKind.u64.wrap ((IntKind.u64.wrap (IntKind.u64.wrap ((x : Int) % 4294967296 * ((y : Int) / 4294967296)) + IntKind.u64.wrap ((x : Int) / 4294967296 * ((y : Int) % 4294967296)))).tmod 4294967296 * 4294967296)) = (z : Int) := by
    have e1 : ((x : Int) % 4294967296 * ((y : Int) % 4294967296)) = (((x % 4294967296) * (y % 4294967296) : Nat) : Int) := by simp
    have e2 : ((x : Int) % 4294967296 * ((y : Int) / 4294967296)) = (((x % 4294967296) * (y / 4294967296) : Nat) : Int) := by simp
    have e3 : ((x : Int) / 4294967296 * ((y : Int) % 4294967296)) = (((x / 4294967296) * (y % 4294967296) : Nat) : Int) := by simp
    rw [e1, e2, e3]
    generalize (x % 4294967296) * (y % 4294967296) = n1 at ht ⊢
    generalize (x % 4294967296) * (y / 4294967296) = n2 at ht ⊢
    generalize (x / 4294967296) * (y % 4294967296) = n3 at ht ⊢
    simp only [IntKind.wrap_u64]
    rw [Int.tmod_eq_emod_of_nonneg (by omega)]
    omega
  have FIN := Lib.hid fin
  clear fin ht
  go_enter Tryz.func81, Tryz.ntmps81
  go_wp2
  go_ret
  exact ⟨congrArg (fun v => Ending.returned (Value.int .u64 v)) FIN.out, rfl⟩
theorem refGear_any {b : UInt8} {w : World} : Calls Tryz.prog 82 #[.int .u8 b.toNat] w fun e W => e = .returned (U (gearB b)) ∧ W = w := by
  have hb := b.toNat_lt
  have hb2 : (b.toNat : Int) < 256 := by omega
  obtain ⟨bb, hbb⟩ : ∃ x, x = BitVec.ofNat 64 b.toNat + 1#64 := ⟨_, rfl⟩
  have e00 : (b.toNat : Int) + 1 = (bb.toNat : Int) := by
    rw [hbb, BitVec.toNat_add, BitVec.toNat_ofNat]
    simp
    omega
  have T0 := fun (w : World) => times_any (a := bb) (b := 11400714819323198485#64) (w := w)
  obtain ⟨x0, h0⟩ : ∃ x, x = bb * 11400714819323198485#64 := ⟨_, rfl⟩
  rw [← h0] at T0
  obtain ⟨s0, hs0⟩ : ∃ x, x = x0 >>> 30 := ⟨_, rfl⟩
  have e1 : (x0.toNat : Int) / 1073741824 = (s0.toNat : Int) := by rw [hs0]; exact bshr_ x0 30
  obtain ⟨y0, hy0⟩ : ∃ x, x = x0 ^^^ s0 := ⟨_, rfl⟩
  have e2 : bits .xor .u64 (x0.toNat : Int) (s0.toNat : Int) = (y0.toNat : Int) := by rw [hy0]; exact bx_ _ _
  have T1 := fun (w : World) => times_any (a := y0) (b := 13787848793156543929#64) (w := w)
  obtain ⟨x1, hx1⟩ : ∃ x, x = y0 * 13787848793156543929#64 := ⟨_, rfl⟩
  rw [← hx1] at T1
  obtain ⟨s1, hs1⟩ : ∃ x, x = x1 >>> 27 := ⟨_, rfl⟩
  have e4 : (x1.toNat : Int) / 134217728 = (s1.toNat : Int) := by rw [hs1]; exact bshr_ x1 27
  obtain ⟨y1, hy1⟩ : ∃ x, x = x1 ^^^ s1 := ⟨_, rfl⟩
  have e5 : bits .xor .u64 (x1.toNat : Int) (s1.toNat : Int) = (y1.toNat : Int) := by rw [hy1]; exact bx_ _ _
  have T2 := fun (w : World) => times_any (a := y1) (b := 10723151780598845931#64) (w := w)
  obtain ⟨x2, hx2⟩ : ∃ x, x = y1 * 10723151780598845931#64 := ⟨_, rfl⟩
  rw [← hx2] at T2
  obtain ⟨s2, hs2⟩ : ∃ x, x = x2 >>> 31 := ⟨_, rfl⟩
  have e7 : (x2.toNat : Int) / 2147483648 = (s2.toNat : Int) := by rw [hs2]; exact bshr_ x2 31
  have hg : gearB b = x2 ^^^ s2 := by
    rw [hs2, hx2, hy1, hs1, hx1, hy0, hs0, h0, hbb]
    rfl
  obtain ⟨z, hz⟩ : ∃ x, x = x2 ^^^ s2 := ⟨_, rfl⟩
  have e8 : bits .xor .u64 (x2.toNat : Int) (s2.toNat : Int) = (z.toNat : Int) := by rw [hz]; exact bx_ _ _
  rw [hg, ← hz]
  have H0 := Lib.hid T0
  have H1 := Lib.hid T1
  have H2 := Lib.hid T2
  clear hg hz h0 hs0 hy0 hx1 hs1 hy1 hx2 hs2 hbb T0 T1 T2
  have b0 := blt x0
  have b1 := blt y0
  have b2 := blt x1
  have b3 := blt y1
  have b4 := blt x2
  go_enter Tryz.func82, Tryz.ntmps82
  go_wp2_with fail
  refine (H0.out _).mono ?_
  rintro e w' ⟨rfl, rfl⟩
  go_wp2_with fail
  refine (H1.out _).mono ?_
  rintro e w' ⟨rfl, rfl⟩
  go_wp2_with fail
  refine (H2.out _).mono ?_
  rintro e w' ⟨rfl, rfl⟩
  go_wp2_with fail
  go_ret
  exact ⟨rfl, rfl⟩
end Go.Proofs.YtjcpdpdhegcgoaaGreatDoor
