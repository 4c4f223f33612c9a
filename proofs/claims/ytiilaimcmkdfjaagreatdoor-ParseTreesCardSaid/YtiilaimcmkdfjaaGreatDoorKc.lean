/- Chapter 8: the calls that 'awake' makes: statements, units. -/
import Derived.Test.YtiilaimcmkdfjaaGreatDoorKb
set_option linter.unusedVariables false
set_option linter.unusedSimpArgs false
namespace Go.Proofs.YtiilaimcmkdfjaaGreatDoor
open Go.Y
noncomputable section
def e5S : List UInt8 := [91, 97, 44, 32, 45, 93, 32, 58, 61, 32, 102, 40, 49, 41, 59]
def e5R : List V := resV (.agg (nV 20 [] 0 1 [(nV 21 [] 0 1 [(nV 58 [] 0 1 [(nV 53 [97] 0 1 []), (nV 79 [] 0 1 [])]), (nV 75 [] 0 1 [(nV 53 [102] 0 1 []), (nV 50 [49] 0 1 [])])])])) 0 0 0
theorem e5_run (ty : Nat) : go Tryz.prog G08 20000 (.call 32 [.str e5S] (varM spaceV ty) (Go.Q.isFz e5R)) = true := by kernel_rfl
def e6S : List UInt8 := [112, 114, 111, 103, 114, 97, 109, 32, 112, 59, 32, 112, 114, 105, 110, 116, 40, 49, 41, 32, 101, 110, 100, 59]
def e6R : List V := resV (.xs [] nodeSh) 1 21 160
theorem e6_run (ty : Nat) : go Tryz.prog G08 20000 (.call 33 [.str e6S] (varM spaceV ty) (Go.Q.isFz e6R)) = true := by kernel_rfl
end
end Go.Proofs.YtiilaimcmkdfjaaGreatDoor
