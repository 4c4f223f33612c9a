/- Chapter 8: the calls that 'awake' makes, each carried out once. The operators' numbers are known calls: they are asked at every level of every token. -/
import Derived.Test.YtiilaimcmkdfjaaGreatDoorKa
import Derived.Test.YtiilaimcmkdfjaaGreatDoorM9
set_option linter.unusedVariables false
set_option linter.unusedSimpArgs false
namespace Go.Proofs.YtiilaimcmkdfjaaGreatDoor
open Go.Y
noncomputable section
def opW : List (List UInt8 × Nat) := [([], 0), ([45], 2), ([42, 42], 7), ([61], 8), ([62], 12), ([105, 110], 14), ([124], 0), ([123], 0), ([125], 0), ([91], 0), ([93], 0), ([40], 0), ([41], 0), ([44], 0), ([59], 0), ([58, 61], 0), ([112, 114, 111, 103, 114, 97, 109], 0), ([112, 114, 105, 110, 116], 0), ([101, 110, 100], 0)]
def nV (k : Int) (t : List UInt8) (n l : Int) (ks : List (List V)) : List V := [.int .i64 k, .str t, .int .i64 n, .int .i64 l, .xs ks nodeSh]
def resV (x : V) (line col e : Int) : List V := [x, .int .i64 line, .int .i64 col, .int .i64 e]
theorem op_run (ty : Nat) : (opW.all λ p => go Tryz.prog ⟨varG 0, [], []⟩ 5000 (.call 224 [.str p.1] (varM spaceV ty) (isRes (.val (.int .i64 (.ofNat p.2)))))) = true := by kernel_rfl
def G08 : GV := ⟨varG 0, (189, [.str wordsB], wordsK) :: (189, [.str signsB], signsK) :: (188, [], classK) :: opW.map (λ p => (224, [.str p.1], .val (.int .i64 (.ofNat p.2)))), [(0, spaceV)]⟩
def e1S : List UInt8 := [45, 50, 42, 42, 50]
def e1R : List V := resV (.agg (nV 67 [] 1 1 [(nV 68 [] 7 1 [(nV 50 [50] 0 1 []), (nV 50 [50] 0 1 [])])])) 0 0 0
theorem e1_run (ty : Nat) : go Tryz.prog G08 20000 (.call 31 [.str e1S] (varM spaceV ty) (Go.Q.isFz e1R)) = true := by kernel_rfl
def e2S : List UInt8 := [97, 32, 45, 32, 98, 32, 45, 32, 99]
def e2R : List V := resV (.agg (nV 68 [] 2 1 [(nV 68 [] 2 1 [(nV 53 [97] 0 1 []), (nV 53 [98] 0 1 [])]), (nV 53 [99] 0 1 [])])) 0 0 0
theorem e2_run (ty : Nat) : go Tryz.prog G08 20000 (.call 31 [.str e2S] (varM spaceV ty) (Go.Q.isFz e2R)) = true := by kernel_rfl
def e3S : List UInt8 := [123, 120, 32, 105, 110, 32, 115, 32, 124, 32, 120, 32, 62, 32, 49, 125]
def e3R : List V := resV (.agg (nV 61 [] 8 1 [(nV 53 [120] 0 1 []), (nV 63 [] 0 1 [(nV 64 [] 0 1 [(nV 53 [120] 0 1 []), (nV 53 [115] 0 1 [])])]), (nV 68 [] 12 1 [(nV 53 [120] 0 1 []), (nV 50 [49] 0 1 [])])])) 0 0 0
theorem e3_run (ty : Nat) : go Tryz.prog G08 20000 (.call 31 [.str e3S] (varM spaceV ty) (Go.Q.isFz e3R)) = true := by kernel_rfl
def e4S : List UInt8 := [97, 32, 61, 32, 98, 32, 61, 32, 99]
def e4R : List V := resV (.agg (nV 0 [] 0 0 [])) 1 7 160
theorem e4_run (ty : Nat) : go Tryz.prog G08 20000 (.call 31 [.str e4S] (varM spaceV ty) (Go.Q.isFz e4R)) = true := by kernel_rfl
end
end Go.Proofs.YtiilaimcmkdfjaaGreatDoor
