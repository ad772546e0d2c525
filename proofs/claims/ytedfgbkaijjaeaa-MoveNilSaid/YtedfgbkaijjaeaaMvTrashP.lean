/- What is deleted, and comes again: the things of eight folders in a row, plain laws. -/
import Derived.Test.YtedfgbkaijjaeaaMvAddP
namespace Go.Proofs.Ytedfgbkaijjaeaa
set_option linter.unusedVariables false

/-- How deep a thing stands. -/
def deepF (th : Ths) (id : Nat) : Int := if (upT th id).all (fun k => (th k).isSome) = true then ((upT th id).length : Int) else -1
def crT (i : Nat) : EnV := ⟨⟨1, i, 0, 16 * i, if 1 < i then 16 * (i - 1) else 0, ⟨#[97]⟩, true, ⟨#[]⟩, 0⟩, ⟨#[104]⟩⟩
def dlT (a : Nat) : EnV := ⟨⟨3, 50, 0, a, 0, ⟨#[]⟩, false, ⟨#[]⟩, 0⟩, ⟨#[104]⟩⟩
def mvT (a : Nat) : EnV := ⟨⟨2, 60, 0, a, 0, ⟨#[98]⟩, false, ⟨#[]⟩, 0⟩, ⟨#[104]⟩⟩
def lgT : Nat → List EnV
  | 0 => []
  | n + 1 => addE (lgT n) (crT (n + 1))
def lgT2 (n b : Nat) : List EnV := addE (lgT n) (dlT (16 * (b + 1)))
def lgT3 (n b : Nat) : List EnV := addE (lgT2 n b) (mvT (16 * (b + 1)))
def okT (n b : Nat) : Bool :=
  let s := runS (lgT2 n b)
  let s3 := runS (lgT3 n b)
  let a := 16 * (b + 1)
  (List.range n).all (fun i => decide (a ∈ upT s.th (16 * (i + 1))) == decide (a ≤ 16 * (i + 1)) && decide (1 ≤ deepF s.th (16 * (i + 1)))) &&
    (s.th a).isSome && ((s.th a).getD zeroT).parent == 1 && (s.ks 1).length == 1 &&
    (s3.th a).isSome && ((s3.th a).getD zeroT).parent == 0 && decide (((s3.th a).getD zeroT).name = ⟨#[98]⟩) && (s3.ks 1).length == 0
set_option maxRecDepth 100000 in
theorem okT_all : ∀ n, n < 9 → ∀ b, b < n → okT n b = true := by decide +kernel
/-! The awake of the laws. -/
def aw1 : EnV := ⟨⟨1, 1, 0, 16, 0, ⟨#[97]⟩, true, ⟨#[]⟩, 0⟩, ⟨#[]⟩⟩
def aw2 : EnV := ⟨⟨1, 2, 0, 32, 0, ⟨#[98]⟩, true, ⟨#[]⟩, 0⟩, ⟨#[]⟩⟩
def aw3 : EnV := ⟨⟨2, 6, 0, 32, 16, ⟨#[98]⟩, false, ⟨#[]⟩, 0⟩, ⟨#[]⟩⟩
def aw4 : EnV := ⟨⟨2, 5, 0, 16, 32, ⟨#[97]⟩, false, ⟨#[]⟩, 0⟩, ⟨#[]⟩⟩
def awL : List EnV := addE (addE (addE (addE [] aw1) aw2) aw3) aw4
set_option maxRecDepth 100000 in
theorem aw_adds : freshE [] aw1 = true ∧ freshE (addE [] aw1) aw2 = true ∧ freshE (addE (addE [] aw1) aw2) aw3 = true ∧ freshE (addE (addE (addE [] aw1) aw2) aw3) aw4 = true := by decide +kernel
set_option maxRecDepth 100000 in
theorem aw_undone : (([] : List EnV).length - lowE [] aw1) + ((addE [] aw1).length - lowE (addE [] aw1) aw2) + ((addE (addE [] aw1) aw2).length - lowE (addE (addE [] aw1) aw2) aw3) + ((addE (addE (addE [] aw1) aw2) aw3).length - lowE (addE (addE (addE [] aw1) aw2) aw3) aw4) = 1 := by decide +kernel
set_option maxRecDepth 100000 in
theorem aw_things : ((runS awL).th 16).isSome = true ∧ ((runS awL).th 32).isSome = true ∧ (((runS awL).th 16).getD zeroT).parent = 32 ∧ (((runS awL).th 32).getD zeroT).parent = 0 := by decide +kernel
end Go.Proofs.Ytedfgbkaijjaeaa
