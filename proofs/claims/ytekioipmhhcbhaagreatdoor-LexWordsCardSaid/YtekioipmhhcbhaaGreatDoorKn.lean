/- lex.Keys, lex.Signs: closed runs; their contracts. -/
import Derived.Test.YtekioipmhhcbhaaGreatDoorV9
set_option linter.unusedVariables false
set_option linter.unusedSectionVars false
set_option linter.unusedSimpArgs false
set_option maxRecDepth 20000
namespace Go.Proofs.YtekioipmhhcbhaaGreatDoor
open Go Go.Z Go.Q Go.W6
open Go.Y hiding KE KK KR go Task go_sound
noncomputable section
variable [Ext]
theorem x_signs (ty : Nat) (N : E -> Nat -> List (Option Chunk) -> Prop) : Go.Q.go Tryz.prog ⟨⟨varG 0, [], [(0, spaceV)]⟩, [], []⟩ 2000 (.call 18 [] ⟨1, ofMo ([0].zip [some (spC ty)]), [wh 0]⟩ (cutA [0, 1] N)) =
 N (.ret (.sl 1 0 0 28 none)) 5 [some (spC ty), some (.cells (signsR.map V.str) 9 1)] := by kernel_rfl
theorem x_keys (ty : Nat) (N : E -> Nat -> List (Option Chunk) -> Prop) : Go.Q.go Tryz.prog ⟨⟨varG 0, [], [(0, spaceV)]⟩, [], []⟩ 2000 (.call 16 [] ⟨1, ofMo ([0].zip [some (spC ty)]), [wh 0]⟩ (cutA [0, 1] N)) =
 N (.ret (.sl 1 0 0 77 none)) 3 [some (spC ty), some (.cells (keysR.map V.str) 9 1)] := by kernel_rfl
end
end Go.Proofs.YtekioipmhhcbhaaGreatDoor
