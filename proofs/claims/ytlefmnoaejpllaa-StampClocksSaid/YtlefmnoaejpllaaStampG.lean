/- See of any time: one contract. -/
import Derived.Test.YtlefmnoaejpllaaStampF
namespace Go.Proofs.Ytlefmnoaejpllaa
open Go.RowKit

def seenI (seen c n : Int) : Int := if Good c n then max seen c else seen
theorem seenI_le {seen c n : Int} : seen ≤ seenI seen c n := by
  unfold seenI
  split <;> omega
theorem seenI_good {seen c n : Int} (h : Good c n) : c ≤ seenI seen c n := by
  unfold seenI
  rw [if_pos h]
  omega
theorem seenI_most {seen c n : Int} (h : seen ≤ 281474976710655) : seenI seen c n ≤ 281474976710655 := by
  unfold seenI
  split
  · rename_i g; unfold Good at g; omega
  · exact h
theorem see_any {b : Nat} {who seen c n : Int} {w : World} (h : Own w b 103 #[.int .i64 who, .int .u64 seen]) :
    Calls Try.prog 19 #[.pointer (some ⟨b, 0, none⟩), .agg #[.int .u64 c, .int .i64 n]] w fun e w' => e = .returned (.int .i64 (checkI c n)) ∧
      Own w' b 103 #[.int .i64 who, .int .u64 (seenI seen c n)] ∧ Fr (· = b) w w' := by
  unfold checkI seenI
  by_cases hg : Good c n
  · rw [if_pos hg, if_pos hg]
    exact see_yes h hg
  · rw [if_neg hg, if_neg hg]
    exact (see_no h hg).mono fun e w' ⟨he, hn⟩ => ⟨he, h.new_ hn, hn.mono fun _ f => f.elim⟩
end Go.Proofs.Ytlefmnoaejpllaa
