/- The scanner: what its loops and functions come to, as the machine over open terms tells it (printed by tools/phigen.py out of scan/s1.phi, s2.phi). -/
import Derived.Test.YtekioipmhhcbhaaDoorV2
import Derived.Test.YtekioipmhhcbhaaDoorKm
set_option linter.unusedVariables false
set_option linter.unusedSimpArgs false
namespace Go.Proofs.YtekioipmhhcbhaaDoor
open Go Go.Z Go.Q Go.W6
open Go.Y hiding KE KK KR go Task go_sound
noncomputable section
theorem f67_eq (s : List UInt8) (n a l c : Int) (cc : Nat) (N : E → Nat → List (Option Chunk) → Prop) : Go.Q.go Tryd.prog ⟨⟨.nil, [], []⟩, [], []⟩ 100 (.call 67 [.ptr 0 0, .sint .i64 n, .int .u8 (.ofNat cc)] ⟨3, ofMo ([0,1,2].zip [some (.cells (scn a l c s 1 2) 54 262), none, none]), []⟩ (cutE [0,1,2] N)) =
  (True ∧
  True ∧
  (decide (n < (↑s.length : Int)) = true → ((0 : Int) ≤ n ∧
  n < (↑s.length : Int)) ∧
  ((0 : Int) ≤ (↑(s.getD n.toNat 0).toNat : Int) ∧
  (↑(s.getD n.toNat 0).toNat : Int) < (256 : Int)) ∧
  (↑(s.getD n.toNat 0).toNat : Int).toNat < (256 : Nat) ∧
  True ∧
  (decide (clsT.getD (↑(s.getD n.toNat 0).toNat : Int).toNat (0 : Int) = Int.ofNat cc) = true → N (E.ret (V.bool true)) (3 : Nat) [some (Chunk.cells ((V.sint IntKind.i64 a) :: (V.sint IntKind.i64 l) :: (V.sint IntKind.i64 c) :: (V.sstr s) :: tl 1 2) (54 : Nat) (262 : Nat)), none, none]) ∧
  (decide (clsT.getD (↑(s.getD n.toNat 0).toNat : Int).toNat (0 : Int) = Int.ofNat cc) = false → N (E.ret (V.bool false)) (3 : Nat) [some (Chunk.cells ((V.sint IntKind.i64 a) :: (V.sint IntKind.i64 l) :: (V.sint IntKind.i64 c) :: (V.sstr s) :: tl 1 2) (54 : Nat) (262 : Nat)), none, none])) ∧
  (decide (n < (↑s.length : Int)) = false → N (E.ret (V.bool false)) (3 : Nat) [some (Chunk.cells ((V.sint IntKind.i64 a) :: (V.sint IntKind.i64 l) :: (V.sint IntKind.i64 c) :: (V.sstr s) :: tl 1 2) (54 : Nat) (262 : Nat)), none, none])) := by kernel_rfl
theorem f70_loop (s : List UInt8) (n a l c : Int) (N : O → List (Option V) → Nat → List (Option Chunk) → Prop) : Go.Q.go Tryd.prog ⟨⟨.nil, [], []⟩, [(67, sIs)], []⟩ 100 (.code ⟨11, none⟩ (lp Tryd.prog 70 0) [] (ofE ([0,1].zip [.ptr 0 0, .sint .i64 n])) ⟨3, ofMo ([0].zip [some (.cells (scn a l c s 1 2) 54 262)]), []⟩ (cutM [0,1] [0] N)) =
  (((0 : Int) ≤ a ∧
  a ≤ (↑s.length : Int) ∧
  (↑s.length : Int) ≤ (20000 : Int) ∧
  l = (↑(lc s a.toNat).fst : Int) ∧
  c = (↑(lc s a.toNat).snd : Int)) ∧
  ((0 : Int) ≤ n ∧
  n ≤ (20001 : Int)) ∧
  (isAt (clsB (3 : Nat)) s n.toNat = true → ((-9223372036854775808 : Int) ≤ n + (1 : Int) ∧
  n + (1 : Int) ≤ (9223372036854775807 : Int)) ∧
  N O.normal [some (V.ptr (0 : Nat) (0 : Nat)), some (V.sint IntKind.i64 (n + (1 : Int)))] (3 : Nat) [some (Chunk.cells ((V.sint IntKind.i64 (↑a.toNat : Int)) :: (V.sint IntKind.i64 (↑(lc s a.toNat).fst : Int)) :: (V.sint IntKind.i64 (↑(lc s a.toNat).snd : Int)) :: (V.sstr s) :: tl 1 2) (54 : Nat) (262 : Nat))]) ∧
  (isAt (clsB (3 : Nat)) s n.toNat = false → N (O.exit (0 : Nat)) [some (V.ptr (0 : Nat) (0 : Nat)), some (V.sint IntKind.i64 n)] (3 : Nat) [some (Chunk.cells ((V.sint IntKind.i64 (↑a.toNat : Int)) :: (V.sint IntKind.i64 (↑(lc s a.toNat).fst : Int)) :: (V.sint IntKind.i64 (↑(lc s a.toNat).snd : Int)) :: (V.sstr s) :: tl 1 2) (54 : Nat) (262 : Nat))])) := by kernel_rfl
theorem f56_loop (s : List UInt8) (n a l c : Int) (N : O → List (Option V) → Nat → List (Option Chunk) → Prop) : Go.Q.go Tryd.prog ⟨⟨.nil, [], []⟩, [(67, sIs)], []⟩ 100 (.code ⟨38, none⟩ (lp Tryd.prog 56 0) [] (ofE ([0,3].zip [.ptr 0 0, .sint .i64 n])) ⟨3, ofMo ([0].zip [some (.cells (scn a l c s 1 2) 54 262)]), []⟩ (cutM [0,3] [0] N)) =
  (((0 : Int) ≤ a ∧
  a ≤ (↑s.length : Int) ∧
  (↑s.length : Int) ≤ (20000 : Int) ∧
  l = (↑(lc s a.toNat).fst : Int) ∧
  c = (↑(lc s a.toNat).snd : Int)) ∧
  ((0 : Int) ≤ n ∧
  n ≤ (20001 : Int)) ∧
  (isAt (clsB (2 : Nat)) s n.toNat = true → ((-9223372036854775808 : Int) ≤ n + (1 : Int) ∧
  n + (1 : Int) ≤ (9223372036854775807 : Int)) ∧
  N O.normal [some (V.ptr (0 : Nat) (0 : Nat)), some (V.sint IntKind.i64 (n + (1 : Int)))] (3 : Nat) [some (Chunk.cells ((V.sint IntKind.i64 (↑a.toNat : Int)) :: (V.sint IntKind.i64 (↑(lc s a.toNat).fst : Int)) :: (V.sint IntKind.i64 (↑(lc s a.toNat).snd : Int)) :: (V.sstr s) :: tl 1 2) (54 : Nat) (262 : Nat))]) ∧
  (isAt (clsB (2 : Nat)) s n.toNat = false → ((0 : Int) ≤ (↑a.toNat : Int) ∧
  (↑a.toNat : Int) ≤ (↑s.length : Int) ∧
  (↑s.length : Int) ≤ (20000 : Int) ∧
  (↑(lc s a.toNat).fst : Int) = (↑(lc s (↑a.toNat : Int).toNat).fst : Int) ∧
  (↑(lc s a.toNat).snd : Int) = (↑(lc s (↑a.toNat : Int).toNat).snd : Int)) ∧
  ((0 : Int) ≤ n ∧
  n ≤ (20001 : Int)) ∧
  (isAt (clsB (3 : Nat)) s n.toNat = true → ((-9223372036854775808 : Int) ≤ n + (1 : Int) ∧
  n + (1 : Int) ≤ (9223372036854775807 : Int)) ∧
  N O.normal [some (V.ptr (0 : Nat) (0 : Nat)), some (V.sint IntKind.i64 (n + (1 : Int)))] (3 : Nat) [some (Chunk.cells ((V.sint IntKind.i64 (↑(↑a.toNat : Int).toNat : Int)) :: (V.sint IntKind.i64 (↑(lc s (↑a.toNat : Int).toNat).fst : Int)) :: (V.sint IntKind.i64 (↑(lc s (↑a.toNat : Int).toNat).snd : Int)) :: (V.sstr s) :: tl 1 2) (54 : Nat) (262 : Nat))]) ∧
  (isAt (clsB (3 : Nat)) s n.toNat = false → True ∧
  True ∧
  (decide (n < (↑s.length : Int)) = true → ((0 : Int) ≤ n ∧
  n < (↑s.length : Int)) ∧
  True ∧
  (decide ((↑(s.getD n.toNat 0).toNat : Int) = (95 : Int)) = true → ((-9223372036854775808 : Int) ≤ n + (1 : Int) ∧
  n + (1 : Int) ≤ (9223372036854775807 : Int)) ∧
  N O.normal [some (V.ptr (0 : Nat) (0 : Nat)), some (V.sint IntKind.i64 (n + (1 : Int)))] (3 : Nat) [some (Chunk.cells ((V.sint IntKind.i64 (↑(↑a.toNat : Int).toNat : Int)) :: (V.sint IntKind.i64 (↑(lc s (↑a.toNat : Int).toNat).fst : Int)) :: (V.sint IntKind.i64 (↑(lc s (↑a.toNat : Int).toNat).snd : Int)) :: (V.sstr s) :: tl 1 2) (54 : Nat) (262 : Nat))]) ∧
  (decide ((↑(s.getD n.toNat 0).toNat : Int) = (95 : Int)) = false → N (O.exit (0 : Nat)) [some (V.ptr (0 : Nat) (0 : Nat)), some (V.sint IntKind.i64 n)] (3 : Nat) [some (Chunk.cells ((V.sint IntKind.i64 (↑(↑a.toNat : Int).toNat : Int)) :: (V.sint IntKind.i64 (↑(lc s (↑a.toNat : Int).toNat).fst : Int)) :: (V.sint IntKind.i64 (↑(lc s (↑a.toNat : Int).toNat).snd : Int)) :: (V.sstr s) :: tl 1 2) (54 : Nat) (262 : Nat))])) ∧
  (decide (n < (↑s.length : Int)) = false → N (O.exit (0 : Nat)) [some (V.ptr (0 : Nat) (0 : Nat)), some (V.sint IntKind.i64 n)] (3 : Nat) [some (Chunk.cells ((V.sint IntKind.i64 (↑(↑a.toNat : Int).toNat : Int)) :: (V.sint IntKind.i64 (↑(lc s (↑a.toNat : Int).toNat).fst : Int)) :: (V.sint IntKind.i64 (↑(lc s (↑a.toNat : Int).toNat).snd : Int)) :: (V.sstr s) :: tl 1 2) (54 : Nat) (262 : Nat))])))) := by kernel_rfl
theorem f28_loop (s : List UInt8) (n x a l c : Int) (N : O → List (Option V) → Nat → List (Option Chunk) → Prop) : Go.Q.go Tryd.prog ⟨⟨.nil, [], []⟩, [], []⟩ 100 (.code ⟨51, none⟩ (lp Tryd.prog 28 0) [] (ofE ([0,4,5].zip [.ptr 0 0, .sint .i64 n, .sint .i64 x])) ⟨3, ofMo ([0].zip [some (.cells (scn a l c s 1 2) 54 262)]), []⟩ (cutM [0,4,5] [0] N)) =
  (True ∧
  (decide (x < n) = true → ((-9223372036854775808 : Int) ≤ c + (1 : Int) ∧
  c + (1 : Int) ≤ (9223372036854775807 : Int)) ∧
  ((0 : Int) ≤ a ∧
  a < (↑s.length : Int)) ∧
  True ∧
  (decide ((↑(s.getD a.toNat 0).toNat : Int) = (10 : Int)) = true → ((-9223372036854775808 : Int) ≤ l + (1 : Int) ∧
  l + (1 : Int) ≤ (9223372036854775807 : Int)) ∧
  ((-9223372036854775808 : Int) ≤ a + (1 : Int) ∧
  a + (1 : Int) ≤ (9223372036854775807 : Int)) ∧
  ((-9223372036854775808 : Int) ≤ x + (1 : Int) ∧
  x + (1 : Int) ≤ (9223372036854775807 : Int)) ∧
  N O.normal [some (V.ptr (0 : Nat) (0 : Nat)), some (V.sint IntKind.i64 n), some (V.sint IntKind.i64 (x + (1 : Int)))] (3 : Nat) [some (Chunk.cells ((V.sint IntKind.i64 (a + (1 : Int))) :: (V.sint IntKind.i64 (l + (1 : Int))) :: (V.int IntKind.i64 (1 : Int)) :: (V.sstr s) :: tl 1 2) (54 : Nat) (262 : Nat))]) ∧
  (decide ((↑(s.getD a.toNat 0).toNat : Int) = (10 : Int)) = false → ((-9223372036854775808 : Int) ≤ a + (1 : Int) ∧
  a + (1 : Int) ≤ (9223372036854775807 : Int)) ∧
  ((-9223372036854775808 : Int) ≤ x + (1 : Int) ∧
  x + (1 : Int) ≤ (9223372036854775807 : Int)) ∧
  N O.normal [some (V.ptr (0 : Nat) (0 : Nat)), some (V.sint IntKind.i64 n), some (V.sint IntKind.i64 (x + (1 : Int)))] (3 : Nat) [some (Chunk.cells ((V.sint IntKind.i64 (a + (1 : Int))) :: (V.sint IntKind.i64 l) :: (V.sint IntKind.i64 (c + (1 : Int))) :: (V.sstr s) :: tl 1 2) (54 : Nat) (262 : Nat))])) ∧
  (decide (x < n) = false → N (O.exit (0 : Nat)) [some (V.ptr (0 : Nat) (0 : Nat)), some (V.sint IntKind.i64 n), some (V.sint IntKind.i64 x)] (3 : Nat) [some (Chunk.cells ((V.sint IntKind.i64 a) :: (V.sint IntKind.i64 l) :: (V.sint IntKind.i64 c) :: (V.sstr s) :: tl 1 2) (54 : Nat) (262 : Nat))])) := by kernel_rfl
theorem f71_eq (d : List UInt8) (N : E → Nat → List (Option Chunk) → Prop) : Go.Q.go Tryd.prog ⟨⟨.nil, [], []⟩, [(85, sTL)], []⟩ 100 (.call 71 [.sstr d] nomem (cutE [] N)) =
  (True ∧
  ((!decide (Lib.trimLeftB d 48 = [])) = true → N (E.ret (V.sstr (Lib.trimLeftB d 48))) (0 : Nat) []) ∧
  ((!decide (Lib.trimLeftB d 48 = [])) = false → N (E.ret (V.str [48])) (0 : Nat) [])) := by kernel_rfl
theorem f72_eq (d : List UInt8) (N : E → Nat → List (Option Chunk) → Prop) : Go.Q.go Tryd.prog ⟨⟨.nil, [], []⟩, [(86, sTR)], []⟩ 100 (.call 72 [.sstr d] nomem (cutE [] N)) =
  (d.length ≤ (9223372036854775807 : Nat) ∧
  True ∧
  ((!decide (Lib.trimRightB d 48 = [])) = true → N (E.ret (V.sstr (Lib.trimRightB d 48))) (0 : Nat) []) ∧
  ((!decide (Lib.trimRightB d 48 = [])) = false → N (E.ret (V.str [48])) (0 : Nat) [])) := by kernel_rfl
theorem f70_eq (s : List UInt8) (n a l c : Int) (N : E → Nat → List (Option Chunk) → Prop) : Go.Q.go Tryd.prog ⟨⟨.nil, [], []⟩, [], [(11001, lp Tryd.prog 70 0, l70)]⟩ 100 (.call 70 [.ptr 0 0, .sint .i64 n] ⟨3, ofMo ([0,1,2].zip [some (.cells (scn a l c s 1 2) 54 262), none, none]), []⟩ (cutE [0,1,2] N)) =
  (lp Tryd.prog (70 : Nat) (0 : Nat) = lp Tryd.prog (70 : Nat) (0 : Nat) ∧
  ((0 : Int) ≤ a ∧
  a ≤ (↑s.length : Int) ∧
  (↑s.length : Int) ≤ (20000 : Int) ∧
  l = (↑(lc s a.toNat).fst : Int) ∧
  c = (↑(lc s a.toNat).snd : Int)) ∧
  ((0 : Int) ≤ n ∧
  n ≤ (↑s.length : Int)) ∧
  N (E.ret (V.sint IntKind.i64 (↑(digF s n.toNat) : Int))) (3 : Nat) [some (Chunk.cells ((V.sint IntKind.i64 (↑a.toNat : Int)) :: (V.sint IntKind.i64 (↑(lc s a.toNat).fst : Int)) :: (V.sint IntKind.i64 (↑(lc s a.toNat).snd : Int)) :: (V.sstr s) :: tl 1 2) (54 : Nat) (262 : Nat)), none, none]) := by kernel_rfl
theorem f56_eq (s : List UInt8) (n a l c : Int) (N : E → Nat → List (Option Chunk) → Prop) : Go.Q.go Tryd.prog ⟨⟨.nil, [], []⟩, [], [(38002, lp Tryd.prog 56 0, l56)]⟩ 100 (.call 56 [.ptr 0 0] ⟨3, ofMo ([0,1,2].zip [some (.cells (scn a l c s 1 2) 54 262), none, none]), []⟩ (cutE [0,1,2] N)) =
  (lp Tryd.prog (56 : Nat) (0 : Nat) = lp Tryd.prog (56 : Nat) (0 : Nat) ∧
  ((0 : Int) ≤ a ∧
  a ≤ (↑s.length : Int) ∧
  (↑s.length : Int) ≤ (20000 : Int) ∧
  l = (↑(lc s a.toNat).fst : Int) ∧
  c = (↑(lc s a.toNat).snd : Int)) ∧
  ((0 : Int) ≤ a ∧
  a ≤ (↑s.length : Int)) ∧
  N (E.ret (V.sint IntKind.i64 (↑(nameF s a.toNat) : Int))) (3 : Nat) [some (Chunk.cells ((V.sint IntKind.i64 (↑a.toNat : Int)) :: (V.sint IntKind.i64 (↑(lc s a.toNat).fst : Int)) :: (V.sint IntKind.i64 (↑(lc s a.toNat).snd : Int)) :: (V.sstr s) :: tl 1 2) (54 : Nat) (262 : Nat)), none, none]) := by kernel_rfl
theorem f28_eq (s : List UInt8) (n a l c : Int) (N : E → Nat → List (Option Chunk) → Prop) : Go.Q.go Tryd.prog ⟨⟨.nil, [], []⟩, [], [(51001, lp Tryd.prog 28 0, l28)]⟩ 100 (.call 28 [.ptr 0 0, .sint .i64 n] ⟨3, ofMo ([0,1,2].zip [some (.cells (scn a l c s 1 2) 54 262), none, none]), []⟩ (cutE [0,1,2] N)) =
  (lp Tryd.prog (28 : Nat) (0 : Nat) = lp Tryd.prog (28 : Nat) (0 : Nat) ∧
  ((0 : Int) ≤ a ∧
  a ≤ (↑s.length : Int) ∧
  (↑s.length : Int) ≤ (20000 : Int) ∧
  l = (↑(lc s a.toNat).fst : Int) ∧
  c = (↑(lc s a.toNat).snd : Int)) ∧
  ((0 : Int) = (0 : Int) ∧
  (0 : Int) ≤ n ∧
  a + n ≤ (↑s.length : Int)) ∧
  N (E.ret (V.tup [])) (3 : Nat) [some (Chunk.cells ((V.sint IntKind.i64 (↑(a + n).toNat : Int)) :: (V.sint IntKind.i64 (↑(lc s (a + n).toNat).fst : Int)) :: (V.sint IntKind.i64 (↑(lc s (a + n).toNat).snd : Int)) :: (V.sstr s) :: tl 1 2) (54 : Nat) (262 : Nat)), none, none]) := by kernel_rfl
theorem f58_eq (s : List UInt8) (a l c : Int) (N : E → Nat → List (Option Chunk) → Prop) : Go.Q.go Tryd.prog ⟨⟨.nil, [], []⟩, [(67, sIs), (70, sDig), (71, sTrim), (72, sTail)], []⟩ 200 (.call 58 [.ptr 0 0] ⟨3, ofMo ([0,1,2].zip [some (.cells (scn a l c s 1 2) 54 262), none, none]), []⟩ (cutE [0,1,2] N)) =
  (((0 : Int) ≤ a ∧
  a ≤ (↑s.length : Int) ∧
  (↑s.length : Int) ≤ (20000 : Int) ∧
  l = (↑(lc s a.toNat).fst : Int) ∧
  c = (↑(lc s a.toNat).snd : Int)) ∧
  ((0 : Int) ≤ a ∧
  a ≤ (↑s.length : Int)) ∧
  ((0 : Int) ≤ (↑a.toNat : Int) ∧
  (↑a.toNat : Int) ≤ (↑(digF s a.toNat) : Int) ∧
  (↑(digF s a.toNat) : Int) ≤ (↑s.length : Int)) ∧
  True ∧
  True ∧
  (decide ((↑s.length : Int) ≤ (↑(digF s a.toNat) : Int)) = true → True ∧
  True ∧
  (decide ((380 : Int) < (↑(List.drop (↑a.toNat : Int).toNat (List.take (↑(digF s a.toNat) : Int).toNat s)).length : Int)) = true → N (E.pan (V.ifc (58 : Nat) (V.agg [V.sint IntKind.i64 (↑a.toNat : Int), V.int IntKind.i64 (122 : Int)]))) (3 : Nat) [some (Chunk.cells ((V.sint IntKind.i64 (↑a.toNat : Int)) :: (V.sint IntKind.i64 (↑(lc s a.toNat).fst : Int)) :: (V.sint IntKind.i64 (↑(lc s a.toNat).snd : Int)) :: (V.sstr s) :: tl 1 2) (54 : Nat) (262 : Nat)), none, none]) ∧
  (decide ((380 : Int) < (↑(List.drop (↑a.toNat : Int).toNat (List.take (↑(digF s a.toNat) : Int).toNat s)).length : Int)) = false → N (E.ret (V.tup [V.int IntKind.i64 (3 : Int), V.sstr (trimF (List.drop (↑a.toNat : Int).toNat (List.take (↑(digF s a.toNat) : Int).toNat s))), V.sint IntKind.i64 (↑(digF s a.toNat) : Int)])) (3 : Nat) [some (Chunk.cells ((V.sint IntKind.i64 (↑a.toNat : Int)) :: (V.sint IntKind.i64 (↑(lc s a.toNat).fst : Int)) :: (V.sint IntKind.i64 (↑(lc s a.toNat).snd : Int)) :: (V.sstr s) :: tl 1 2) (54 : Nat) (262 : Nat)), none, none])) ∧
  (decide ((↑s.length : Int) ≤ (↑(digF s a.toNat) : Int)) = false → ((0 : Int) ≤ (↑(digF s a.toNat) : Int) ∧
  (↑(digF s a.toNat) : Int) < (↑s.length : Int)) ∧
  True ∧
  ((!decide ((↑(s.getD (↑(digF s a.toNat) : Int).toNat 0).toNat : Int) = (46 : Int))) = true → True ∧
  True ∧
  (decide ((380 : Int) < (↑(List.drop (↑a.toNat : Int).toNat (List.take (↑(digF s a.toNat) : Int).toNat s)).length : Int)) = true → N (E.pan (V.ifc (58 : Nat) (V.agg [V.sint IntKind.i64 (↑a.toNat : Int), V.int IntKind.i64 (122 : Int)]))) (3 : Nat) [some (Chunk.cells ((V.sint IntKind.i64 (↑a.toNat : Int)) :: (V.sint IntKind.i64 (↑(lc s a.toNat).fst : Int)) :: (V.sint IntKind.i64 (↑(lc s a.toNat).snd : Int)) :: (V.sstr s) :: tl 1 2) (54 : Nat) (262 : Nat)), none, none]) ∧
  (decide ((380 : Int) < (↑(List.drop (↑a.toNat : Int).toNat (List.take (↑(digF s a.toNat) : Int).toNat s)).length : Int)) = false → N (E.ret (V.tup [V.int IntKind.i64 (3 : Int), V.sstr (trimF (List.drop (↑a.toNat : Int).toNat (List.take (↑(digF s a.toNat) : Int).toNat s))), V.sint IntKind.i64 (↑(digF s a.toNat) : Int)])) (3 : Nat) [some (Chunk.cells ((V.sint IntKind.i64 (↑a.toNat : Int)) :: (V.sint IntKind.i64 (↑(lc s a.toNat).fst : Int)) :: (V.sint IntKind.i64 (↑(lc s a.toNat).snd : Int)) :: (V.sstr s) :: tl 1 2) (54 : Nat) (262 : Nat)), none, none])) ∧
  ((!decide ((↑(s.getD (↑(digF s a.toNat) : Int).toNat 0).toNat : Int) = (46 : Int))) = false → ((-9223372036854775808 : Int) ≤ (↑(digF s a.toNat) : Int) + (1 : Int) ∧
  (↑(digF s a.toNat) : Int) + (1 : Int) ≤ (9223372036854775807 : Int)) ∧
  ((0 : Int) ≤ (↑a.toNat : Int) ∧
  (↑a.toNat : Int) ≤ (↑s.length : Int) ∧
  (↑s.length : Int) ≤ (20000 : Int) ∧
  (↑(lc s a.toNat).fst : Int) = (↑(lc s (↑a.toNat : Int).toNat).fst : Int) ∧
  (↑(lc s a.toNat).snd : Int) = (↑(lc s (↑a.toNat : Int).toNat).snd : Int)) ∧
  ((0 : Int) ≤ (↑(digF s a.toNat) : Int) + (1 : Int) ∧
  (↑(digF s a.toNat) : Int) + (1 : Int) ≤ (20001 : Int)) ∧
  True ∧
  ((!isAt (clsB (3 : Nat)) s ((↑(digF s a.toNat) : Int) + (1 : Int)).toNat) = true → True ∧
  True ∧
  (decide ((380 : Int) < (↑(List.drop (↑a.toNat : Int).toNat (List.take (↑(digF s a.toNat) : Int).toNat s)).length : Int)) = true → N (E.pan (V.ifc (58 : Nat) (V.agg [V.sint IntKind.i64 (↑(↑a.toNat : Int).toNat : Int), V.int IntKind.i64 (122 : Int)]))) (3 : Nat) [some (Chunk.cells ((V.sint IntKind.i64 (↑(↑a.toNat : Int).toNat : Int)) :: (V.sint IntKind.i64 (↑(lc s (↑a.toNat : Int).toNat).fst : Int)) :: (V.sint IntKind.i64 (↑(lc s (↑a.toNat : Int).toNat).snd : Int)) :: (V.sstr s) :: tl 1 2) (54 : Nat) (262 : Nat)), none, none]) ∧
  (decide ((380 : Int) < (↑(List.drop (↑a.toNat : Int).toNat (List.take (↑(digF s a.toNat) : Int).toNat s)).length : Int)) = false → N (E.ret (V.tup [V.int IntKind.i64 (3 : Int), V.sstr (trimF (List.drop (↑a.toNat : Int).toNat (List.take (↑(digF s a.toNat) : Int).toNat s))), V.sint IntKind.i64 (↑(digF s a.toNat) : Int)])) (3 : Nat) [some (Chunk.cells ((V.sint IntKind.i64 (↑(↑a.toNat : Int).toNat : Int)) :: (V.sint IntKind.i64 (↑(lc s (↑a.toNat : Int).toNat).fst : Int)) :: (V.sint IntKind.i64 (↑(lc s (↑a.toNat : Int).toNat).snd : Int)) :: (V.sstr s) :: tl 1 2) (54 : Nat) (262 : Nat)), none, none])) ∧
  ((!isAt (clsB (3 : Nat)) s ((↑(digF s a.toNat) : Int) + (1 : Int)).toNat) = false → ((-9223372036854775808 : Int) ≤ (↑(digF s a.toNat) : Int) + (1 : Int) ∧
  (↑(digF s a.toNat) : Int) + (1 : Int) ≤ (9223372036854775807 : Int)) ∧
  ((0 : Int) ≤ (↑(↑a.toNat : Int).toNat : Int) ∧
  (↑(↑a.toNat : Int).toNat : Int) ≤ (↑s.length : Int) ∧
  (↑s.length : Int) ≤ (20000 : Int) ∧
  (↑(lc s (↑a.toNat : Int).toNat).fst : Int) = (↑(lc s (↑(↑a.toNat : Int).toNat : Int).toNat).fst : Int) ∧
  (↑(lc s (↑a.toNat : Int).toNat).snd : Int) = (↑(lc s (↑(↑a.toNat : Int).toNat : Int).toNat).snd : Int)) ∧
  ((0 : Int) ≤ (↑(digF s a.toNat) : Int) + (1 : Int) ∧
  (↑(digF s a.toNat) : Int) + (1 : Int) ≤ (↑s.length : Int)) ∧
  ((-9223372036854775808 : Int) ≤ (↑(digF s a.toNat) : Int) + (1 : Int) ∧
  (↑(digF s a.toNat) : Int) + (1 : Int) ≤ (9223372036854775807 : Int)) ∧
  ((0 : Int) ≤ (↑(digF s a.toNat) : Int) + (1 : Int) ∧
  (↑(digF s a.toNat) : Int) + (1 : Int) ≤ (↑(digF s ((↑(digF s a.toNat) : Int) + (1 : Int)).toNat) : Int) ∧
  (↑(digF s ((↑(digF s a.toNat) : Int) + (1 : Int)).toNat) : Int) ≤ (↑s.length : Int)) ∧
  True ∧
  True ∧
  ((-9223372036854775808 : Int) ≤ (↑(List.drop (↑a.toNat : Int).toNat (List.take (↑(digF s a.toNat) : Int).toNat s)).length : Int) + (↑(List.drop ((↑(digF s a.toNat) : Int) + (1 : Int)).toNat (List.take (↑(digF s ((↑(digF s a.toNat) : Int) + (1 : Int)).toNat) : Int).toNat s)).length : Int) ∧
  (↑(List.drop (↑a.toNat : Int).toNat (List.take (↑(digF s a.toNat) : Int).toNat s)).length : Int) + (↑(List.drop ((↑(digF s a.toNat) : Int) + (1 : Int)).toNat (List.take (↑(digF s ((↑(digF s a.toNat) : Int) + (1 : Int)).toNat) : Int).toNat s)).length : Int) ≤ (9223372036854775807 : Int)) ∧
  True ∧
  (decide ((380 : Int) < (↑(List.drop (↑a.toNat : Int).toNat (List.take (↑(digF s a.toNat) : Int).toNat s)).length : Int) + (↑(List.drop ((↑(digF s a.toNat) : Int) + (1 : Int)).toNat (List.take (↑(digF s ((↑(digF s a.toNat) : Int) + (1 : Int)).toNat) : Int).toNat s)).length : Int)) = true → N (E.pan (V.ifc (58 : Nat) (V.agg [V.sint IntKind.i64 (↑(↑(↑a.toNat : Int).toNat : Int).toNat : Int), V.int IntKind.i64 (122 : Int)]))) (3 : Nat) [some (Chunk.cells ((V.sint IntKind.i64 (↑(↑(↑a.toNat : Int).toNat : Int).toNat : Int)) :: (V.sint IntKind.i64 (↑(lc s (↑(↑a.toNat : Int).toNat : Int).toNat).fst : Int)) :: (V.sint IntKind.i64 (↑(lc s (↑(↑a.toNat : Int).toNat : Int).toNat).snd : Int)) :: (V.sstr s) :: tl 1 2) (54 : Nat) (262 : Nat)), none, none]) ∧
  (decide ((380 : Int) < (↑(List.drop (↑a.toNat : Int).toNat (List.take (↑(digF s a.toNat) : Int).toNat s)).length : Int) + (↑(List.drop ((↑(digF s a.toNat) : Int) + (1 : Int)).toNat (List.take (↑(digF s ((↑(digF s a.toNat) : Int) + (1 : Int)).toNat) : Int).toNat s)).length : Int)) = false → (List.drop ((↑(digF s a.toNat) : Int) + (1 : Int)).toNat (List.take (↑(digF s ((↑(digF s a.toNat) : Int) + (1 : Int)).toNat) : Int).toNat s)).length ≤ (20000 : Nat) ∧
  True ∧
  True ∧
  (decide ((20 : Int) < (↑(tailF (List.drop ((↑(digF s a.toNat) : Int) + (1 : Int)).toNat (List.take (↑(digF s ((↑(digF s a.toNat) : Int) + (1 : Int)).toNat) : Int).toNat s))).length : Int)) = true → N (E.pan (V.ifc (58 : Nat) (V.agg [V.sint IntKind.i64 (↑(↑(↑a.toNat : Int).toNat : Int).toNat : Int), V.int IntKind.i64 (122 : Int)]))) (3 : Nat) [some (Chunk.cells ((V.sint IntKind.i64 (↑(↑(↑a.toNat : Int).toNat : Int).toNat : Int)) :: (V.sint IntKind.i64 (↑(lc s (↑(↑a.toNat : Int).toNat : Int).toNat).fst : Int)) :: (V.sint IntKind.i64 (↑(lc s (↑(↑a.toNat : Int).toNat : Int).toNat).snd : Int)) :: (V.sstr s) :: tl 1 2) (54 : Nat) (262 : Nat)), none, none]) ∧
  (decide ((20 : Int) < (↑(tailF (List.drop ((↑(digF s a.toNat) : Int) + (1 : Int)).toNat (List.take (↑(digF s ((↑(digF s a.toNat) : Int) + (1 : Int)).toNat) : Int).toNat s))).length : Int)) = false → (trimF (List.drop (↑a.toNat : Int).toNat (List.take (↑(digF s a.toNat) : Int).toNat s))).length + (1 : Nat) ≤ (9223372036854775807 : Nat) ∧
  (List.drop ((↑(digF s a.toNat) : Int) + (1 : Int)).toNat (List.take (↑(digF s ((↑(digF s a.toNat) : Int) + (1 : Int)).toNat) : Int).toNat s)).length ≤ (20000 : Nat) ∧
  (trimF (List.drop (↑a.toNat : Int).toNat (List.take (↑(digF s a.toNat) : Int).toNat s)) ++ [46]).length + (tailF (List.drop ((↑(digF s a.toNat) : Int) + (1 : Int)).toNat (List.take (↑(digF s ((↑(digF s a.toNat) : Int) + (1 : Int)).toNat) : Int).toNat s))).length ≤ (9223372036854775807 : Nat) ∧
  N (E.ret (V.tup [V.int IntKind.i64 (4 : Int), V.sstr (trimF (List.drop (↑a.toNat : Int).toNat (List.take (↑(digF s a.toNat) : Int).toNat s)) ++ [46] ++ tailF (List.drop ((↑(digF s a.toNat) : Int) + (1 : Int)).toNat (List.take (↑(digF s ((↑(digF s a.toNat) : Int) + (1 : Int)).toNat) : Int).toNat s))), V.sint IntKind.i64 (↑(digF s ((↑(digF s a.toNat) : Int) + (1 : Int)).toNat) : Int)])) (3 : Nat) [some (Chunk.cells ((V.sint IntKind.i64 (↑(↑(↑a.toNat : Int).toNat : Int).toNat : Int)) :: (V.sint IntKind.i64 (↑(lc s (↑(↑a.toNat : Int).toNat : Int).toNat).fst : Int)) :: (V.sint IntKind.i64 (↑(lc s (↑(↑a.toNat : Int).toNat : Int).toNat).snd : Int)) :: (V.sstr s) :: tl 1 2) (54 : Nat) (262 : Nat)), none, none])))))) := by kernel_rfl
theorem f59_loop0 (s : List UInt8) (n bad a l c : Int) (N : O → List (Option V) → Nat → List (Option Chunk) → Prop) : Go.Q.go Tryd.prog ⟨⟨.nil, [], []⟩, [(67, sIs)], []⟩ 200 (.code ⟨101, none⟩ (lp Tryd.prog 59 0) [] (ofE ([0,3,4,5].zip [.ptr 0 0, .sint .i64 n, .sint .i64 bad, .nils])) ⟨4, ofMo ([0].zip [some (.cells (scn a l c s 1 2) 54 262)]), []⟩ (cutM [0,3,4,5] [0,3,4,5] N)) =
  (True ∧
  True ∧
  (decide ((↑s.length : Int) ≤ n) = true → N (O.panic (V.ifc (58 : Nat) (V.agg [V.sint IntKind.i64 a, V.int IntKind.i64 (121 : Int)]))) [some (V.ptr (0 : Nat) (0 : Nat)), some (V.sint IntKind.i64 n), some (V.sint IntKind.i64 bad), some V.nils] (4 : Nat) [some (Chunk.cells ((V.sint IntKind.i64 a) :: (V.sint IntKind.i64 l) :: (V.sint IntKind.i64 c) :: (V.sstr s) :: tl 1 2) (54 : Nat) (262 : Nat)), none, none, none]) ∧
  (decide ((↑s.length : Int) ≤ n) = false → ((0 : Int) ≤ n ∧
  n < (↑s.length : Int)) ∧
  True ∧
  (decide ((↑(s.getD n.toNat 0).toNat : Int) = (10 : Int)) = true → N (O.panic (V.ifc (58 : Nat) (V.agg [V.sint IntKind.i64 a, V.int IntKind.i64 (121 : Int)]))) [some (V.ptr (0 : Nat) (0 : Nat)), some (V.sint IntKind.i64 n), some (V.sint IntKind.i64 bad), some V.nils] (4 : Nat) [some (Chunk.cells ((V.sint IntKind.i64 a) :: (V.sint IntKind.i64 l) :: (V.sint IntKind.i64 c) :: (V.sstr s) :: tl 1 2) (54 : Nat) (262 : Nat)), none, none, none]) ∧
  (decide ((↑(s.getD n.toNat 0).toNat : Int) = (10 : Int)) = false → ((0 : Int) ≤ n ∧
  n < (↑s.length : Int)) ∧
  True ∧
  (decide ((↑(s.getD n.toNat 0).toNat : Int) = (34 : Int)) = true → ((-9223372036854775808 : Int) ≤ n + (1 : Int) ∧
  n + (1 : Int) ≤ (9223372036854775807 : Int)) ∧
  ((0 : Int) ≤ a ∧
  a ≤ (↑s.length : Int) ∧
  (↑s.length : Int) ≤ (20000 : Int) ∧
  l = (↑(lc s a.toNat).fst : Int) ∧
  c = (↑(lc s a.toNat).snd : Int)) ∧
  ((0 : Int) ≤ n + (1 : Int) ∧
  n + (1 : Int) ≤ (20001 : Int)) ∧
  True ∧
  ((!isAt (clsB (4 : Nat)) s (n + (1 : Int)).toNat) = true → N (O.exit (0 : Nat)) [some (V.ptr (0 : Nat) (0 : Nat)), some (V.sint IntKind.i64 n), some (V.sint IntKind.i64 bad), some V.nils] (4 : Nat) [some (Chunk.cells ((V.sint IntKind.i64 (↑a.toNat : Int)) :: (V.sint IntKind.i64 (↑(lc s a.toNat).fst : Int)) :: (V.sint IntKind.i64 (↑(lc s a.toNat).snd : Int)) :: (V.sstr s) :: tl 1 2) (54 : Nat) (262 : Nat)), none, none, none]) ∧
  ((!isAt (clsB (4 : Nat)) s (n + (1 : Int)).toNat) = false → ((0 : Int) ≤ n ∧
  n < (↑s.length : Int)) ∧
  True ∧
  (decide ((↑(s.getD n.toNat 0).toNat : Int) = (34 : Int)) = true → ((-9223372036854775808 : Int) ≤ n + (1 : Int) ∧
  n + (1 : Int) ≤ (9223372036854775807 : Int)) ∧
  ((0 : Int) ≤ n + (1 : Int) ∧
  n + (1 : Int) < (↑s.length : Int)) ∧
  ((-9223372036854775808 : Int) ≤ n + (1 : Int) + (1 : Int) ∧
  n + (1 : Int) + (1 : Int) ≤ (9223372036854775807 : Int)) ∧
  N O.normal [some (V.ptr (0 : Nat) (0 : Nat)), some (V.sint IntKind.i64 (n + (1 : Int) + (1 : Int))), some (V.sint IntKind.i64 bad), some (V.sl (5 : Nat) (0 : Nat) (0 : Nat) (1 : Nat) none)] (6 : Nat) [some (Chunk.cells ((V.sint IntKind.i64 (↑a.toNat : Int)) :: (V.sint IntKind.i64 (↑(lc s a.toNat).fst : Int)) :: (V.sint IntKind.i64 (↑(lc s a.toNat).snd : Int)) :: (V.sstr s) :: tl 1 2) (54 : Nat) (262 : Nat)), none, some (Chunk.cells [V.sint IntKind.u8 (↑(s.getD (n + (1 : Int)).toNat 0).toNat : Int)] (5 : Nat) (1 : Nat)), some (Chunk.cells [V.sint IntKind.u8 (↑(s.getD (n + (1 : Int)).toNat 0).toNat : Int)] (5 : Nat) (1 : Nat))]) ∧
  (decide ((↑(s.getD n.toNat 0).toNat : Int) = (34 : Int)) = false → ((0 : Int) ≤ n ∧
  n < (↑s.length : Int)) ∧
  True ∧
  (decide ((↑(s.getD n.toNat 0).toNat : Int) = (10 : Int)) = true → ((0 : Int) ≤ n ∧
  n < (↑s.length : Int)) ∧
  ((-9223372036854775808 : Int) ≤ n + (1 : Int) ∧
  n + (1 : Int) ≤ (9223372036854775807 : Int)) ∧
  N O.normal [some (V.ptr (0 : Nat) (0 : Nat)), some (V.sint IntKind.i64 (n + (1 : Int))), some (V.sint IntKind.i64 bad), some (V.sl (5 : Nat) (0 : Nat) (0 : Nat) (1 : Nat) none)] (6 : Nat) [some (Chunk.cells ((V.sint IntKind.i64 (↑a.toNat : Int)) :: (V.sint IntKind.i64 (↑(lc s a.toNat).fst : Int)) :: (V.sint IntKind.i64 (↑(lc s a.toNat).snd : Int)) :: (V.sstr s) :: tl 1 2) (54 : Nat) (262 : Nat)), none, some (Chunk.cells [V.sint IntKind.u8 (↑(s.getD n.toNat 0).toNat : Int)] (5 : Nat) (1 : Nat)), some (Chunk.cells [V.sint IntKind.u8 (↑(s.getD n.toNat 0).toNat : Int)] (5 : Nat) (1 : Nat))]) ∧
  (decide ((↑(s.getD n.toNat 0).toNat : Int) = (10 : Int)) = false → True ∧
  (decide ((32 : Int) ≤ (↑(s.getD n.toNat 0).toNat : Int)) = true → True ∧
  (decide ((↑(s.getD n.toNat 0).toNat : Int) ≤ (126 : Int)) = true → ((0 : Int) ≤ n ∧
  n < (↑s.length : Int)) ∧
  ((-9223372036854775808 : Int) ≤ n + (1 : Int) ∧
  n + (1 : Int) ≤ (9223372036854775807 : Int)) ∧
  N O.normal [some (V.ptr (0 : Nat) (0 : Nat)), some (V.sint IntKind.i64 (n + (1 : Int))), some (V.sint IntKind.i64 bad), some (V.sl (5 : Nat) (0 : Nat) (0 : Nat) (1 : Nat) none)] (6 : Nat) [some (Chunk.cells ((V.sint IntKind.i64 (↑a.toNat : Int)) :: (V.sint IntKind.i64 (↑(lc s a.toNat).fst : Int)) :: (V.sint IntKind.i64 (↑(lc s a.toNat).snd : Int)) :: (V.sstr s) :: tl 1 2) (54 : Nat) (262 : Nat)), none, some (Chunk.cells [V.sint IntKind.u8 (↑(s.getD n.toNat 0).toNat : Int)] (5 : Nat) (1 : Nat)), some (Chunk.cells [V.sint IntKind.u8 (↑(s.getD n.toNat 0).toNat : Int)] (5 : Nat) (1 : Nat))]) ∧
  (decide ((↑(s.getD n.toNat 0).toNat : Int) ≤ (126 : Int)) = false → True ∧
  (decide (bad < (0 : Int)) = true → ((0 : Int) ≤ n ∧
  n < (↑s.length : Int)) ∧
  ((-9223372036854775808 : Int) ≤ n + (1 : Int) ∧
  n + (1 : Int) ≤ (9223372036854775807 : Int)) ∧
  N O.normal [some (V.ptr (0 : Nat) (0 : Nat)), some (V.sint IntKind.i64 (n + (1 : Int))), some (V.sint IntKind.i64 n), some (V.sl (5 : Nat) (0 : Nat) (0 : Nat) (1 : Nat) none)] (6 : Nat) [some (Chunk.cells ((V.sint IntKind.i64 (↑a.toNat : Int)) :: (V.sint IntKind.i64 (↑(lc s a.toNat).fst : Int)) :: (V.sint IntKind.i64 (↑(lc s a.toNat).snd : Int)) :: (V.sstr s) :: tl 1 2) (54 : Nat) (262 : Nat)), none, some (Chunk.cells [V.sint IntKind.u8 (↑(s.getD n.toNat 0).toNat : Int)] (5 : Nat) (1 : Nat)), some (Chunk.cells [V.sint IntKind.u8 (↑(s.getD n.toNat 0).toNat : Int)] (5 : Nat) (1 : Nat))]) ∧
  (decide (bad < (0 : Int)) = false → ((0 : Int) ≤ n ∧
  n < (↑s.length : Int)) ∧
  ((-9223372036854775808 : Int) ≤ n + (1 : Int) ∧
  n + (1 : Int) ≤ (9223372036854775807 : Int)) ∧
  N O.normal [some (V.ptr (0 : Nat) (0 : Nat)), some (V.sint IntKind.i64 (n + (1 : Int))), some (V.sint IntKind.i64 bad), some (V.sl (5 : Nat) (0 : Nat) (0 : Nat) (1 : Nat) none)] (6 : Nat) [some (Chunk.cells ((V.sint IntKind.i64 (↑a.toNat : Int)) :: (V.sint IntKind.i64 (↑(lc s a.toNat).fst : Int)) :: (V.sint IntKind.i64 (↑(lc s a.toNat).snd : Int)) :: (V.sstr s) :: tl 1 2) (54 : Nat) (262 : Nat)), none, some (Chunk.cells [V.sint IntKind.u8 (↑(s.getD n.toNat 0).toNat : Int)] (5 : Nat) (1 : Nat)), some (Chunk.cells [V.sint IntKind.u8 (↑(s.getD n.toNat 0).toNat : Int)] (5 : Nat) (1 : Nat))]))) ∧
  (decide ((32 : Int) ≤ (↑(s.getD n.toNat 0).toNat : Int)) = false → True ∧
  (decide (bad < (0 : Int)) = true → ((0 : Int) ≤ n ∧
  n < (↑s.length : Int)) ∧
  ((-9223372036854775808 : Int) ≤ n + (1 : Int) ∧
  n + (1 : Int) ≤ (9223372036854775807 : Int)) ∧
  N O.normal [some (V.ptr (0 : Nat) (0 : Nat)), some (V.sint IntKind.i64 (n + (1 : Int))), some (V.sint IntKind.i64 n), some (V.sl (5 : Nat) (0 : Nat) (0 : Nat) (1 : Nat) none)] (6 : Nat) [some (Chunk.cells ((V.sint IntKind.i64 (↑a.toNat : Int)) :: (V.sint IntKind.i64 (↑(lc s a.toNat).fst : Int)) :: (V.sint IntKind.i64 (↑(lc s a.toNat).snd : Int)) :: (V.sstr s) :: tl 1 2) (54 : Nat) (262 : Nat)), none, some (Chunk.cells [V.sint IntKind.u8 (↑(s.getD n.toNat 0).toNat : Int)] (5 : Nat) (1 : Nat)), some (Chunk.cells [V.sint IntKind.u8 (↑(s.getD n.toNat 0).toNat : Int)] (5 : Nat) (1 : Nat))]) ∧
  (decide (bad < (0 : Int)) = false → ((0 : Int) ≤ n ∧
  n < (↑s.length : Int)) ∧
  ((-9223372036854775808 : Int) ≤ n + (1 : Int) ∧
  n + (1 : Int) ≤ (9223372036854775807 : Int)) ∧
  N O.normal [some (V.ptr (0 : Nat) (0 : Nat)), some (V.sint IntKind.i64 (n + (1 : Int))), some (V.sint IntKind.i64 bad), some (V.sl (5 : Nat) (0 : Nat) (0 : Nat) (1 : Nat) none)] (6 : Nat) [some (Chunk.cells ((V.sint IntKind.i64 (↑a.toNat : Int)) :: (V.sint IntKind.i64 (↑(lc s a.toNat).fst : Int)) :: (V.sint IntKind.i64 (↑(lc s a.toNat).snd : Int)) :: (V.sstr s) :: tl 1 2) (54 : Nat) (262 : Nat)), none, some (Chunk.cells [V.sint IntKind.u8 (↑(s.getD n.toNat 0).toNat : Int)] (5 : Nat) (1 : Nat)), some (Chunk.cells [V.sint IntKind.u8 (↑(s.getD n.toNat 0).toNat : Int)] (5 : Nat) (1 : Nat))])))))) ∧
  (decide ((↑(s.getD n.toNat 0).toNat : Int) = (34 : Int)) = false → ((0 : Int) ≤ n ∧
  n < (↑s.length : Int)) ∧
  True ∧
  (decide ((↑(s.getD n.toNat 0).toNat : Int) = (34 : Int)) = true → ((-9223372036854775808 : Int) ≤ n + (1 : Int) ∧
  n + (1 : Int) ≤ (9223372036854775807 : Int)) ∧
  ((0 : Int) ≤ n + (1 : Int) ∧
  n + (1 : Int) < (↑s.length : Int)) ∧
  ((-9223372036854775808 : Int) ≤ n + (1 : Int) + (1 : Int) ∧
  n + (1 : Int) + (1 : Int) ≤ (9223372036854775807 : Int)) ∧
  N O.normal [some (V.ptr (0 : Nat) (0 : Nat)), some (V.sint IntKind.i64 (n + (1 : Int) + (1 : Int))), some (V.sint IntKind.i64 bad), some (V.sl (5 : Nat) (0 : Nat) (0 : Nat) (1 : Nat) none)] (6 : Nat) [some (Chunk.cells ((V.sint IntKind.i64 a) :: (V.sint IntKind.i64 l) :: (V.sint IntKind.i64 c) :: (V.sstr s) :: tl 1 2) (54 : Nat) (262 : Nat)), none, some (Chunk.cells [V.sint IntKind.u8 (↑(s.getD (n + (1 : Int)).toNat 0).toNat : Int)] (5 : Nat) (1 : Nat)), some (Chunk.cells [V.sint IntKind.u8 (↑(s.getD (n + (1 : Int)).toNat 0).toNat : Int)] (5 : Nat) (1 : Nat))]) ∧
  (decide ((↑(s.getD n.toNat 0).toNat : Int) = (34 : Int)) = false → ((0 : Int) ≤ n ∧
  n < (↑s.length : Int)) ∧
  True ∧
  (decide ((↑(s.getD n.toNat 0).toNat : Int) = (10 : Int)) = true → ((0 : Int) ≤ n ∧
  n < (↑s.length : Int)) ∧
  ((-9223372036854775808 : Int) ≤ n + (1 : Int) ∧
  n + (1 : Int) ≤ (9223372036854775807 : Int)) ∧
  N O.normal [some (V.ptr (0 : Nat) (0 : Nat)), some (V.sint IntKind.i64 (n + (1 : Int))), some (V.sint IntKind.i64 bad), some (V.sl (5 : Nat) (0 : Nat) (0 : Nat) (1 : Nat) none)] (6 : Nat) [some (Chunk.cells ((V.sint IntKind.i64 a) :: (V.sint IntKind.i64 l) :: (V.sint IntKind.i64 c) :: (V.sstr s) :: tl 1 2) (54 : Nat) (262 : Nat)), none, some (Chunk.cells [V.sint IntKind.u8 (↑(s.getD n.toNat 0).toNat : Int)] (5 : Nat) (1 : Nat)), some (Chunk.cells [V.sint IntKind.u8 (↑(s.getD n.toNat 0).toNat : Int)] (5 : Nat) (1 : Nat))]) ∧
  (decide ((↑(s.getD n.toNat 0).toNat : Int) = (10 : Int)) = false → True ∧
  (decide ((32 : Int) ≤ (↑(s.getD n.toNat 0).toNat : Int)) = true → True ∧
  (decide ((↑(s.getD n.toNat 0).toNat : Int) ≤ (126 : Int)) = true → ((0 : Int) ≤ n ∧
  n < (↑s.length : Int)) ∧
  ((-9223372036854775808 : Int) ≤ n + (1 : Int) ∧
  n + (1 : Int) ≤ (9223372036854775807 : Int)) ∧
  N O.normal [some (V.ptr (0 : Nat) (0 : Nat)), some (V.sint IntKind.i64 (n + (1 : Int))), some (V.sint IntKind.i64 bad), some (V.sl (5 : Nat) (0 : Nat) (0 : Nat) (1 : Nat) none)] (6 : Nat) [some (Chunk.cells ((V.sint IntKind.i64 a) :: (V.sint IntKind.i64 l) :: (V.sint IntKind.i64 c) :: (V.sstr s) :: tl 1 2) (54 : Nat) (262 : Nat)), none, some (Chunk.cells [V.sint IntKind.u8 (↑(s.getD n.toNat 0).toNat : Int)] (5 : Nat) (1 : Nat)), some (Chunk.cells [V.sint IntKind.u8 (↑(s.getD n.toNat 0).toNat : Int)] (5 : Nat) (1 : Nat))]) ∧
  (decide ((↑(s.getD n.toNat 0).toNat : Int) ≤ (126 : Int)) = false → True ∧
  (decide (bad < (0 : Int)) = true → ((0 : Int) ≤ n ∧
  n < (↑s.length : Int)) ∧
  ((-9223372036854775808 : Int) ≤ n + (1 : Int) ∧
  n + (1 : Int) ≤ (9223372036854775807 : Int)) ∧
  N O.normal [some (V.ptr (0 : Nat) (0 : Nat)), some (V.sint IntKind.i64 (n + (1 : Int))), some (V.sint IntKind.i64 n), some (V.sl (5 : Nat) (0 : Nat) (0 : Nat) (1 : Nat) none)] (6 : Nat) [some (Chunk.cells ((V.sint IntKind.i64 a) :: (V.sint IntKind.i64 l) :: (V.sint IntKind.i64 c) :: (V.sstr s) :: tl 1 2) (54 : Nat) (262 : Nat)), none, some (Chunk.cells [V.sint IntKind.u8 (↑(s.getD n.toNat 0).toNat : Int)] (5 : Nat) (1 : Nat)), some (Chunk.cells [V.sint IntKind.u8 (↑(s.getD n.toNat 0).toNat : Int)] (5 : Nat) (1 : Nat))]) ∧
  (decide (bad < (0 : Int)) = false → ((0 : Int) ≤ n ∧
  n < (↑s.length : Int)) ∧
  ((-9223372036854775808 : Int) ≤ n + (1 : Int) ∧
  n + (1 : Int) ≤ (9223372036854775807 : Int)) ∧
  N O.normal [some (V.ptr (0 : Nat) (0 : Nat)), some (V.sint IntKind.i64 (n + (1 : Int))), some (V.sint IntKind.i64 bad), some (V.sl (5 : Nat) (0 : Nat) (0 : Nat) (1 : Nat) none)] (6 : Nat) [some (Chunk.cells ((V.sint IntKind.i64 a) :: (V.sint IntKind.i64 l) :: (V.sint IntKind.i64 c) :: (V.sstr s) :: tl 1 2) (54 : Nat) (262 : Nat)), none, some (Chunk.cells [V.sint IntKind.u8 (↑(s.getD n.toNat 0).toNat : Int)] (5 : Nat) (1 : Nat)), some (Chunk.cells [V.sint IntKind.u8 (↑(s.getD n.toNat 0).toNat : Int)] (5 : Nat) (1 : Nat))]))) ∧
  (decide ((32 : Int) ≤ (↑(s.getD n.toNat 0).toNat : Int)) = false → True ∧
  (decide (bad < (0 : Int)) = true → ((0 : Int) ≤ n ∧
  n < (↑s.length : Int)) ∧
  ((-9223372036854775808 : Int) ≤ n + (1 : Int) ∧
  n + (1 : Int) ≤ (9223372036854775807 : Int)) ∧
  N O.normal [some (V.ptr (0 : Nat) (0 : Nat)), some (V.sint IntKind.i64 (n + (1 : Int))), some (V.sint IntKind.i64 n), some (V.sl (5 : Nat) (0 : Nat) (0 : Nat) (1 : Nat) none)] (6 : Nat) [some (Chunk.cells ((V.sint IntKind.i64 a) :: (V.sint IntKind.i64 l) :: (V.sint IntKind.i64 c) :: (V.sstr s) :: tl 1 2) (54 : Nat) (262 : Nat)), none, some (Chunk.cells [V.sint IntKind.u8 (↑(s.getD n.toNat 0).toNat : Int)] (5 : Nat) (1 : Nat)), some (Chunk.cells [V.sint IntKind.u8 (↑(s.getD n.toNat 0).toNat : Int)] (5 : Nat) (1 : Nat))]) ∧
  (decide (bad < (0 : Int)) = false → ((0 : Int) ≤ n ∧
  n < (↑s.length : Int)) ∧
  ((-9223372036854775808 : Int) ≤ n + (1 : Int) ∧
  n + (1 : Int) ≤ (9223372036854775807 : Int)) ∧
  N O.normal [some (V.ptr (0 : Nat) (0 : Nat)), some (V.sint IntKind.i64 (n + (1 : Int))), some (V.sint IntKind.i64 bad), some (V.sl (5 : Nat) (0 : Nat) (0 : Nat) (1 : Nat) none)] (6 : Nat) [some (Chunk.cells ((V.sint IntKind.i64 a) :: (V.sint IntKind.i64 l) :: (V.sint IntKind.i64 c) :: (V.sstr s) :: tl 1 2) (54 : Nat) (262 : Nat)), none, some (Chunk.cells [V.sint IntKind.u8 (↑(s.getD n.toNat 0).toNat : Int)] (5 : Nat) (1 : Nat)), some (Chunk.cells [V.sint IntKind.u8 (↑(s.getD n.toNat 0).toNat : Int)] (5 : Nat) (1 : Nat))])))))))) := by kernel_rfl
theorem f59_loop1 (s b : List UInt8) (m : Nat) (n bad a l c : Int) (N : O → List (Option V) → Nat → List (Option Chunk) → Prop) : Go.Q.go Tryd.prog ⟨⟨.nil, [], []⟩, [(67, sIs)], []⟩ 200 (.code ⟨101, none⟩ (lp Tryd.prog 59 0) [] (ofE ([0,3,4,5].zip [.ptr 0 0, .sint .i64 n, .sint .i64 bad, .ssl 3 0 m 1])) ⟨4, ofMo ([0,3].zip [some (.cells (scn a l c s 1 2) 54 262), some (.byt b 5)]), []⟩ (cutM [0,3,4,5] [0,3,4,5] N)) =
  (True ∧
  True ∧
  (decide ((↑s.length : Int) ≤ n) = true → N (O.panic (V.ifc (58 : Nat) (V.agg [V.sint IntKind.i64 a, V.int IntKind.i64 (121 : Int)]))) [some (V.ptr (0 : Nat) (0 : Nat)), some (V.sint IntKind.i64 n), some (V.sint IntKind.i64 bad), some (V.ssl (3 : Nat) (0 : Nat) m (1 : Nat))] (4 : Nat) [some (Chunk.cells ((V.sint IntKind.i64 a) :: (V.sint IntKind.i64 l) :: (V.sint IntKind.i64 c) :: (V.sstr s) :: tl 1 2) (54 : Nat) (262 : Nat)), some (Chunk.byt b (5 : Nat)), none, none]) ∧
  (decide ((↑s.length : Int) ≤ n) = false → ((0 : Int) ≤ n ∧
  n < (↑s.length : Int)) ∧
  True ∧
  (decide ((↑(s.getD n.toNat 0).toNat : Int) = (10 : Int)) = true → N (O.panic (V.ifc (58 : Nat) (V.agg [V.sint IntKind.i64 a, V.int IntKind.i64 (121 : Int)]))) [some (V.ptr (0 : Nat) (0 : Nat)), some (V.sint IntKind.i64 n), some (V.sint IntKind.i64 bad), some (V.ssl (3 : Nat) (0 : Nat) m (1 : Nat))] (4 : Nat) [some (Chunk.cells ((V.sint IntKind.i64 a) :: (V.sint IntKind.i64 l) :: (V.sint IntKind.i64 c) :: (V.sstr s) :: tl 1 2) (54 : Nat) (262 : Nat)), some (Chunk.byt b (5 : Nat)), none, none]) ∧
  (decide ((↑(s.getD n.toNat 0).toNat : Int) = (10 : Int)) = false → ((0 : Int) ≤ n ∧
  n < (↑s.length : Int)) ∧
  True ∧
  (decide ((↑(s.getD n.toNat 0).toNat : Int) = (34 : Int)) = true → ((-9223372036854775808 : Int) ≤ n + (1 : Int) ∧
  n + (1 : Int) ≤ (9223372036854775807 : Int)) ∧
  ((0 : Int) ≤ a ∧
  a ≤ (↑s.length : Int) ∧
  (↑s.length : Int) ≤ (20000 : Int) ∧
  l = (↑(lc s a.toNat).fst : Int) ∧
  c = (↑(lc s a.toNat).snd : Int)) ∧
  ((0 : Int) ≤ n + (1 : Int) ∧
  n + (1 : Int) ≤ (20001 : Int)) ∧
  True ∧
  ((!isAt (clsB (4 : Nat)) s (n + (1 : Int)).toNat) = true → N (O.exit (0 : Nat)) [some (V.ptr (0 : Nat) (0 : Nat)), some (V.sint IntKind.i64 n), some (V.sint IntKind.i64 bad), some (V.ssl (3 : Nat) (0 : Nat) m (1 : Nat))] (4 : Nat) [some (Chunk.cells ((V.sint IntKind.i64 (↑a.toNat : Int)) :: (V.sint IntKind.i64 (↑(lc s a.toNat).fst : Int)) :: (V.sint IntKind.i64 (↑(lc s a.toNat).snd : Int)) :: (V.sstr s) :: tl 1 2) (54 : Nat) (262 : Nat)), some (Chunk.byt b (5 : Nat)), none, none]) ∧
  ((!isAt (clsB (4 : Nat)) s (n + (1 : Int)).toNat) = false → ((0 : Int) ≤ n ∧
  n < (↑s.length : Int)) ∧
  True ∧
  (decide ((↑(s.getD n.toNat 0).toNat : Int) = (34 : Int)) = true → ((-9223372036854775808 : Int) ≤ n + (1 : Int) ∧
  n + (1 : Int) ≤ (9223372036854775807 : Int)) ∧
  ((0 : Int) ≤ n + (1 : Int) ∧
  n + (1 : Int) < (↑s.length : Int)) ∧
  (((0 : Nat) < m ∧
  m ≤ b.length) ∧
  (∀ (v : V), v ∈ [V.sint IntKind.u8 (↑(s.getD (n + (1 : Int)).toNat 0).toNat : Int)] → ∃ (n : Int), (0 : Int) ≤ n ∧
  n ≤ (255 : Int) ∧
  (v = V.int IntKind.u8 n ∨ v = V.sint IntKind.u8 n)) ∧
  (m + (1 : Nat)) * (1 : Nat) ≤ (140737488355328 : Nat) ∧
  (0 : Nat) < m + (1 : Nat)) ∧
  ((-9223372036854775808 : Int) ≤ n + (1 : Int) + (1 : Int) ∧
  n + (1 : Int) + (1 : Int) ≤ (9223372036854775807 : Int)) ∧
  N O.normal [some (V.ptr (0 : Nat) (0 : Nat)), some (V.sint IntKind.i64 (n + (1 : Int) + (1 : Int))), some (V.sint IntKind.i64 bad), some (V.ssl (5 : Nat) (0 : Nat) (m + (1 : Nat)) (1 : Nat))] (6 : Nat) [some (Chunk.cells ((V.sint IntKind.i64 (↑a.toNat : Int)) :: (V.sint IntKind.i64 (↑(lc s a.toNat).fst : Int)) :: (V.sint IntKind.i64 (↑(lc s a.toNat).snd : Int)) :: (V.sstr s) :: tl 1 2) (54 : Nat) (262 : Nat)), none, some (Chunk.cells [V.sint IntKind.u8 (↑(s.getD (n + (1 : Int)).toNat 0).toNat : Int)] (5 : Nat) (1 : Nat)), some (Chunk.byt (List.take m b ++ List.map byB [V.sint IntKind.u8 (↑(s.getD (n + (1 : Int)).toNat 0).toNat : Int)]) (5 : Nat))]) ∧
  (decide ((↑(s.getD n.toNat 0).toNat : Int) = (34 : Int)) = false → ((0 : Int) ≤ n ∧
  n < (↑s.length : Int)) ∧
  True ∧
  (decide ((↑(s.getD n.toNat 0).toNat : Int) = (10 : Int)) = true → ((0 : Int) ≤ n ∧
  n < (↑s.length : Int)) ∧
  (((0 : Nat) < m ∧
  m ≤ b.length) ∧
  (∀ (v : V), v ∈ [V.sint IntKind.u8 (↑(s.getD n.toNat 0).toNat : Int)] → ∃ (n : Int), (0 : Int) ≤ n ∧
  n ≤ (255 : Int) ∧
  (v = V.int IntKind.u8 n ∨ v = V.sint IntKind.u8 n)) ∧
  (m + (1 : Nat)) * (1 : Nat) ≤ (140737488355328 : Nat) ∧
  (0 : Nat) < m + (1 : Nat)) ∧
  ((-9223372036854775808 : Int) ≤ n + (1 : Int) ∧
  n + (1 : Int) ≤ (9223372036854775807 : Int)) ∧
  N O.normal [some (V.ptr (0 : Nat) (0 : Nat)), some (V.sint IntKind.i64 (n + (1 : Int))), some (V.sint IntKind.i64 bad), some (V.ssl (5 : Nat) (0 : Nat) (m + (1 : Nat)) (1 : Nat))] (6 : Nat) [some (Chunk.cells ((V.sint IntKind.i64 (↑a.toNat : Int)) :: (V.sint IntKind.i64 (↑(lc s a.toNat).fst : Int)) :: (V.sint IntKind.i64 (↑(lc s a.toNat).snd : Int)) :: (V.sstr s) :: tl 1 2) (54 : Nat) (262 : Nat)), none, some (Chunk.cells [V.sint IntKind.u8 (↑(s.getD n.toNat 0).toNat : Int)] (5 : Nat) (1 : Nat)), some (Chunk.byt (List.take m b ++ List.map byB [V.sint IntKind.u8 (↑(s.getD n.toNat 0).toNat : Int)]) (5 : Nat))]) ∧
  (decide ((↑(s.getD n.toNat 0).toNat : Int) = (10 : Int)) = false → True ∧
  (decide ((32 : Int) ≤ (↑(s.getD n.toNat 0).toNat : Int)) = true → True ∧
  (decide ((↑(s.getD n.toNat 0).toNat : Int) ≤ (126 : Int)) = true → ((0 : Int) ≤ n ∧
  n < (↑s.length : Int)) ∧
  (((0 : Nat) < m ∧
  m ≤ b.length) ∧
  (∀ (v : V), v ∈ [V.sint IntKind.u8 (↑(s.getD n.toNat 0).toNat : Int)] → ∃ (n : Int), (0 : Int) ≤ n ∧
  n ≤ (255 : Int) ∧
  (v = V.int IntKind.u8 n ∨ v = V.sint IntKind.u8 n)) ∧
  (m + (1 : Nat)) * (1 : Nat) ≤ (140737488355328 : Nat) ∧
  (0 : Nat) < m + (1 : Nat)) ∧
  ((-9223372036854775808 : Int) ≤ n + (1 : Int) ∧
  n + (1 : Int) ≤ (9223372036854775807 : Int)) ∧
  N O.normal [some (V.ptr (0 : Nat) (0 : Nat)), some (V.sint IntKind.i64 (n + (1 : Int))), some (V.sint IntKind.i64 bad), some (V.ssl (5 : Nat) (0 : Nat) (m + (1 : Nat)) (1 : Nat))] (6 : Nat) [some (Chunk.cells ((V.sint IntKind.i64 (↑a.toNat : Int)) :: (V.sint IntKind.i64 (↑(lc s a.toNat).fst : Int)) :: (V.sint IntKind.i64 (↑(lc s a.toNat).snd : Int)) :: (V.sstr s) :: tl 1 2) (54 : Nat) (262 : Nat)), none, some (Chunk.cells [V.sint IntKind.u8 (↑(s.getD n.toNat 0).toNat : Int)] (5 : Nat) (1 : Nat)), some (Chunk.byt (List.take m b ++ List.map byB [V.sint IntKind.u8 (↑(s.getD n.toNat 0).toNat : Int)]) (5 : Nat))]) ∧
  (decide ((↑(s.getD n.toNat 0).toNat : Int) ≤ (126 : Int)) = false → True ∧
  (decide (bad < (0 : Int)) = true → ((0 : Int) ≤ n ∧
  n < (↑s.length : Int)) ∧
  (((0 : Nat) < m ∧
  m ≤ b.length) ∧
  (∀ (v : V), v ∈ [V.sint IntKind.u8 (↑(s.getD n.toNat 0).toNat : Int)] → ∃ (n : Int), (0 : Int) ≤ n ∧
  n ≤ (255 : Int) ∧
  (v = V.int IntKind.u8 n ∨ v = V.sint IntKind.u8 n)) ∧
  (m + (1 : Nat)) * (1 : Nat) ≤ (140737488355328 : Nat) ∧
  (0 : Nat) < m + (1 : Nat)) ∧
  ((-9223372036854775808 : Int) ≤ n + (1 : Int) ∧
  n + (1 : Int) ≤ (9223372036854775807 : Int)) ∧
  N O.normal [some (V.ptr (0 : Nat) (0 : Nat)), some (V.sint IntKind.i64 (n + (1 : Int))), some (V.sint IntKind.i64 n), some (V.ssl (5 : Nat) (0 : Nat) (m + (1 : Nat)) (1 : Nat))] (6 : Nat) [some (Chunk.cells ((V.sint IntKind.i64 (↑a.toNat : Int)) :: (V.sint IntKind.i64 (↑(lc s a.toNat).fst : Int)) :: (V.sint IntKind.i64 (↑(lc s a.toNat).snd : Int)) :: (V.sstr s) :: tl 1 2) (54 : Nat) (262 : Nat)), none, some (Chunk.cells [V.sint IntKind.u8 (↑(s.getD n.toNat 0).toNat : Int)] (5 : Nat) (1 : Nat)), some (Chunk.byt (List.take m b ++ List.map byB [V.sint IntKind.u8 (↑(s.getD n.toNat 0).toNat : Int)]) (5 : Nat))]) ∧
  (decide (bad < (0 : Int)) = false → ((0 : Int) ≤ n ∧
  n < (↑s.length : Int)) ∧
  (((0 : Nat) < m ∧
  m ≤ b.length) ∧
  (∀ (v : V), v ∈ [V.sint IntKind.u8 (↑(s.getD n.toNat 0).toNat : Int)] → ∃ (n : Int), (0 : Int) ≤ n ∧
  n ≤ (255 : Int) ∧
  (v = V.int IntKind.u8 n ∨ v = V.sint IntKind.u8 n)) ∧
  (m + (1 : Nat)) * (1 : Nat) ≤ (140737488355328 : Nat) ∧
  (0 : Nat) < m + (1 : Nat)) ∧
  ((-9223372036854775808 : Int) ≤ n + (1 : Int) ∧
  n + (1 : Int) ≤ (9223372036854775807 : Int)) ∧
  N O.normal [some (V.ptr (0 : Nat) (0 : Nat)), some (V.sint IntKind.i64 (n + (1 : Int))), some (V.sint IntKind.i64 bad), some (V.ssl (5 : Nat) (0 : Nat) (m + (1 : Nat)) (1 : Nat))] (6 : Nat) [some (Chunk.cells ((V.sint IntKind.i64 (↑a.toNat : Int)) :: (V.sint IntKind.i64 (↑(lc s a.toNat).fst : Int)) :: (V.sint IntKind.i64 (↑(lc s a.toNat).snd : Int)) :: (V.sstr s) :: tl 1 2) (54 : Nat) (262 : Nat)), none, some (Chunk.cells [V.sint IntKind.u8 (↑(s.getD n.toNat 0).toNat : Int)] (5 : Nat) (1 : Nat)), some (Chunk.byt (List.take m b ++ List.map byB [V.sint IntKind.u8 (↑(s.getD n.toNat 0).toNat : Int)]) (5 : Nat))]))) ∧
  (decide ((32 : Int) ≤ (↑(s.getD n.toNat 0).toNat : Int)) = false → True ∧
  (decide (bad < (0 : Int)) = true → ((0 : Int) ≤ n ∧
  n < (↑s.length : Int)) ∧
  (((0 : Nat) < m ∧
  m ≤ b.length) ∧
  (∀ (v : V), v ∈ [V.sint IntKind.u8 (↑(s.getD n.toNat 0).toNat : Int)] → ∃ (n : Int), (0 : Int) ≤ n ∧
  n ≤ (255 : Int) ∧
  (v = V.int IntKind.u8 n ∨ v = V.sint IntKind.u8 n)) ∧
  (m + (1 : Nat)) * (1 : Nat) ≤ (140737488355328 : Nat) ∧
  (0 : Nat) < m + (1 : Nat)) ∧
  ((-9223372036854775808 : Int) ≤ n + (1 : Int) ∧
  n + (1 : Int) ≤ (9223372036854775807 : Int)) ∧
  N O.normal [some (V.ptr (0 : Nat) (0 : Nat)), some (V.sint IntKind.i64 (n + (1 : Int))), some (V.sint IntKind.i64 n), some (V.ssl (5 : Nat) (0 : Nat) (m + (1 : Nat)) (1 : Nat))] (6 : Nat) [some (Chunk.cells ((V.sint IntKind.i64 (↑a.toNat : Int)) :: (V.sint IntKind.i64 (↑(lc s a.toNat).fst : Int)) :: (V.sint IntKind.i64 (↑(lc s a.toNat).snd : Int)) :: (V.sstr s) :: tl 1 2) (54 : Nat) (262 : Nat)), none, some (Chunk.cells [V.sint IntKind.u8 (↑(s.getD n.toNat 0).toNat : Int)] (5 : Nat) (1 : Nat)), some (Chunk.byt (List.take m b ++ List.map byB [V.sint IntKind.u8 (↑(s.getD n.toNat 0).toNat : Int)]) (5 : Nat))]) ∧
  (decide (bad < (0 : Int)) = false → ((0 : Int) ≤ n ∧
  n < (↑s.length : Int)) ∧
  (((0 : Nat) < m ∧
  m ≤ b.length) ∧
  (∀ (v : V), v ∈ [V.sint IntKind.u8 (↑(s.getD n.toNat 0).toNat : Int)] → ∃ (n : Int), (0 : Int) ≤ n ∧
  n ≤ (255 : Int) ∧
  (v = V.int IntKind.u8 n ∨ v = V.sint IntKind.u8 n)) ∧
  (m + (1 : Nat)) * (1 : Nat) ≤ (140737488355328 : Nat) ∧
  (0 : Nat) < m + (1 : Nat)) ∧
  ((-9223372036854775808 : Int) ≤ n + (1 : Int) ∧
  n + (1 : Int) ≤ (9223372036854775807 : Int)) ∧
  N O.normal [some (V.ptr (0 : Nat) (0 : Nat)), some (V.sint IntKind.i64 (n + (1 : Int))), some (V.sint IntKind.i64 bad), some (V.ssl (5 : Nat) (0 : Nat) (m + (1 : Nat)) (1 : Nat))] (6 : Nat) [some (Chunk.cells ((V.sint IntKind.i64 (↑a.toNat : Int)) :: (V.sint IntKind.i64 (↑(lc s a.toNat).fst : Int)) :: (V.sint IntKind.i64 (↑(lc s a.toNat).snd : Int)) :: (V.sstr s) :: tl 1 2) (54 : Nat) (262 : Nat)), none, some (Chunk.cells [V.sint IntKind.u8 (↑(s.getD n.toNat 0).toNat : Int)] (5 : Nat) (1 : Nat)), some (Chunk.byt (List.take m b ++ List.map byB [V.sint IntKind.u8 (↑(s.getD n.toNat 0).toNat : Int)]) (5 : Nat))])))))) ∧
  (decide ((↑(s.getD n.toNat 0).toNat : Int) = (34 : Int)) = false → ((0 : Int) ≤ n ∧
  n < (↑s.length : Int)) ∧
  True ∧
  (decide ((↑(s.getD n.toNat 0).toNat : Int) = (34 : Int)) = true → ((-9223372036854775808 : Int) ≤ n + (1 : Int) ∧
  n + (1 : Int) ≤ (9223372036854775807 : Int)) ∧
  ((0 : Int) ≤ n + (1 : Int) ∧
  n + (1 : Int) < (↑s.length : Int)) ∧
  (((0 : Nat) < m ∧
  m ≤ b.length) ∧
  (∀ (v : V), v ∈ [V.sint IntKind.u8 (↑(s.getD (n + (1 : Int)).toNat 0).toNat : Int)] → ∃ (n : Int), (0 : Int) ≤ n ∧
  n ≤ (255 : Int) ∧
  (v = V.int IntKind.u8 n ∨ v = V.sint IntKind.u8 n)) ∧
  (m + (1 : Nat)) * (1 : Nat) ≤ (140737488355328 : Nat) ∧
  (0 : Nat) < m + (1 : Nat)) ∧
  ((-9223372036854775808 : Int) ≤ n + (1 : Int) + (1 : Int) ∧
  n + (1 : Int) + (1 : Int) ≤ (9223372036854775807 : Int)) ∧
  N O.normal [some (V.ptr (0 : Nat) (0 : Nat)), some (V.sint IntKind.i64 (n + (1 : Int) + (1 : Int))), some (V.sint IntKind.i64 bad), some (V.ssl (5 : Nat) (0 : Nat) (m + (1 : Nat)) (1 : Nat))] (6 : Nat) [some (Chunk.cells ((V.sint IntKind.i64 a) :: (V.sint IntKind.i64 l) :: (V.sint IntKind.i64 c) :: (V.sstr s) :: tl 1 2) (54 : Nat) (262 : Nat)), none, some (Chunk.cells [V.sint IntKind.u8 (↑(s.getD (n + (1 : Int)).toNat 0).toNat : Int)] (5 : Nat) (1 : Nat)), some (Chunk.byt (List.take m b ++ List.map byB [V.sint IntKind.u8 (↑(s.getD (n + (1 : Int)).toNat 0).toNat : Int)]) (5 : Nat))]) ∧
  (decide ((↑(s.getD n.toNat 0).toNat : Int) = (34 : Int)) = false → ((0 : Int) ≤ n ∧
  n < (↑s.length : Int)) ∧
  True ∧
  (decide ((↑(s.getD n.toNat 0).toNat : Int) = (10 : Int)) = true → ((0 : Int) ≤ n ∧
  n < (↑s.length : Int)) ∧
  (((0 : Nat) < m ∧
  m ≤ b.length) ∧
  (∀ (v : V), v ∈ [V.sint IntKind.u8 (↑(s.getD n.toNat 0).toNat : Int)] → ∃ (n : Int), (0 : Int) ≤ n ∧
  n ≤ (255 : Int) ∧
  (v = V.int IntKind.u8 n ∨ v = V.sint IntKind.u8 n)) ∧
  (m + (1 : Nat)) * (1 : Nat) ≤ (140737488355328 : Nat) ∧
  (0 : Nat) < m + (1 : Nat)) ∧
  ((-9223372036854775808 : Int) ≤ n + (1 : Int) ∧
  n + (1 : Int) ≤ (9223372036854775807 : Int)) ∧
  N O.normal [some (V.ptr (0 : Nat) (0 : Nat)), some (V.sint IntKind.i64 (n + (1 : Int))), some (V.sint IntKind.i64 bad), some (V.ssl (5 : Nat) (0 : Nat) (m + (1 : Nat)) (1 : Nat))] (6 : Nat) [some (Chunk.cells ((V.sint IntKind.i64 a) :: (V.sint IntKind.i64 l) :: (V.sint IntKind.i64 c) :: (V.sstr s) :: tl 1 2) (54 : Nat) (262 : Nat)), none, some (Chunk.cells [V.sint IntKind.u8 (↑(s.getD n.toNat 0).toNat : Int)] (5 : Nat) (1 : Nat)), some (Chunk.byt (List.take m b ++ List.map byB [V.sint IntKind.u8 (↑(s.getD n.toNat 0).toNat : Int)]) (5 : Nat))]) ∧
  (decide ((↑(s.getD n.toNat 0).toNat : Int) = (10 : Int)) = false → True ∧
  (decide ((32 : Int) ≤ (↑(s.getD n.toNat 0).toNat : Int)) = true → True ∧
  (decide ((↑(s.getD n.toNat 0).toNat : Int) ≤ (126 : Int)) = true → ((0 : Int) ≤ n ∧
  n < (↑s.length : Int)) ∧
  (((0 : Nat) < m ∧
  m ≤ b.length) ∧
  (∀ (v : V), v ∈ [V.sint IntKind.u8 (↑(s.getD n.toNat 0).toNat : Int)] → ∃ (n : Int), (0 : Int) ≤ n ∧
  n ≤ (255 : Int) ∧
  (v = V.int IntKind.u8 n ∨ v = V.sint IntKind.u8 n)) ∧
  (m + (1 : Nat)) * (1 : Nat) ≤ (140737488355328 : Nat) ∧
  (0 : Nat) < m + (1 : Nat)) ∧
  ((-9223372036854775808 : Int) ≤ n + (1 : Int) ∧
  n + (1 : Int) ≤ (9223372036854775807 : Int)) ∧
  N O.normal [some (V.ptr (0 : Nat) (0 : Nat)), some (V.sint IntKind.i64 (n + (1 : Int))), some (V.sint IntKind.i64 bad), some (V.ssl (5 : Nat) (0 : Nat) (m + (1 : Nat)) (1 : Nat))] (6 : Nat) [some (Chunk.cells ((V.sint IntKind.i64 a) :: (V.sint IntKind.i64 l) :: (V.sint IntKind.i64 c) :: (V.sstr s) :: tl 1 2) (54 : Nat) (262 : Nat)), none, some (Chunk.cells [V.sint IntKind.u8 (↑(s.getD n.toNat 0).toNat : Int)] (5 : Nat) (1 : Nat)), some (Chunk.byt (List.take m b ++ List.map byB [V.sint IntKind.u8 (↑(s.getD n.toNat 0).toNat : Int)]) (5 : Nat))]) ∧
  (decide ((↑(s.getD n.toNat 0).toNat : Int) ≤ (126 : Int)) = false → True ∧
  (decide (bad < (0 : Int)) = true → ((0 : Int) ≤ n ∧
  n < (↑s.length : Int)) ∧
  (((0 : Nat) < m ∧
  m ≤ b.length) ∧
  (∀ (v : V), v ∈ [V.sint IntKind.u8 (↑(s.getD n.toNat 0).toNat : Int)] → ∃ (n : Int), (0 : Int) ≤ n ∧
  n ≤ (255 : Int) ∧
  (v = V.int IntKind.u8 n ∨ v = V.sint IntKind.u8 n)) ∧
  (m + (1 : Nat)) * (1 : Nat) ≤ (140737488355328 : Nat) ∧
  (0 : Nat) < m + (1 : Nat)) ∧
  ((-9223372036854775808 : Int) ≤ n + (1 : Int) ∧
  n + (1 : Int) ≤ (9223372036854775807 : Int)) ∧
  N O.normal [some (V.ptr (0 : Nat) (0 : Nat)), some (V.sint IntKind.i64 (n + (1 : Int))), some (V.sint IntKind.i64 n), some (V.ssl (5 : Nat) (0 : Nat) (m + (1 : Nat)) (1 : Nat))] (6 : Nat) [some (Chunk.cells ((V.sint IntKind.i64 a) :: (V.sint IntKind.i64 l) :: (V.sint IntKind.i64 c) :: (V.sstr s) :: tl 1 2) (54 : Nat) (262 : Nat)), none, some (Chunk.cells [V.sint IntKind.u8 (↑(s.getD n.toNat 0).toNat : Int)] (5 : Nat) (1 : Nat)), some (Chunk.byt (List.take m b ++ List.map byB [V.sint IntKind.u8 (↑(s.getD n.toNat 0).toNat : Int)]) (5 : Nat))]) ∧
  (decide (bad < (0 : Int)) = false → ((0 : Int) ≤ n ∧
  n < (↑s.length : Int)) ∧
  (((0 : Nat) < m ∧
  m ≤ b.length) ∧
  (∀ (v : V), v ∈ [V.sint IntKind.u8 (↑(s.getD n.toNat 0).toNat : Int)] → ∃ (n : Int), (0 : Int) ≤ n ∧
  n ≤ (255 : Int) ∧
  (v = V.int IntKind.u8 n ∨ v = V.sint IntKind.u8 n)) ∧
  (m + (1 : Nat)) * (1 : Nat) ≤ (140737488355328 : Nat) ∧
  (0 : Nat) < m + (1 : Nat)) ∧
  ((-9223372036854775808 : Int) ≤ n + (1 : Int) ∧
  n + (1 : Int) ≤ (9223372036854775807 : Int)) ∧
  N O.normal [some (V.ptr (0 : Nat) (0 : Nat)), some (V.sint IntKind.i64 (n + (1 : Int))), some (V.sint IntKind.i64 bad), some (V.ssl (5 : Nat) (0 : Nat) (m + (1 : Nat)) (1 : Nat))] (6 : Nat) [some (Chunk.cells ((V.sint IntKind.i64 a) :: (V.sint IntKind.i64 l) :: (V.sint IntKind.i64 c) :: (V.sstr s) :: tl 1 2) (54 : Nat) (262 : Nat)), none, some (Chunk.cells [V.sint IntKind.u8 (↑(s.getD n.toNat 0).toNat : Int)] (5 : Nat) (1 : Nat)), some (Chunk.byt (List.take m b ++ List.map byB [V.sint IntKind.u8 (↑(s.getD n.toNat 0).toNat : Int)]) (5 : Nat))]))) ∧
  (decide ((32 : Int) ≤ (↑(s.getD n.toNat 0).toNat : Int)) = false → True ∧
  (decide (bad < (0 : Int)) = true → ((0 : Int) ≤ n ∧
  n < (↑s.length : Int)) ∧
  (((0 : Nat) < m ∧
  m ≤ b.length) ∧
  (∀ (v : V), v ∈ [V.sint IntKind.u8 (↑(s.getD n.toNat 0).toNat : Int)] → ∃ (n : Int), (0 : Int) ≤ n ∧
  n ≤ (255 : Int) ∧
  (v = V.int IntKind.u8 n ∨ v = V.sint IntKind.u8 n)) ∧
  (m + (1 : Nat)) * (1 : Nat) ≤ (140737488355328 : Nat) ∧
  (0 : Nat) < m + (1 : Nat)) ∧
  ((-9223372036854775808 : Int) ≤ n + (1 : Int) ∧
  n + (1 : Int) ≤ (9223372036854775807 : Int)) ∧
  N O.normal [some (V.ptr (0 : Nat) (0 : Nat)), some (V.sint IntKind.i64 (n + (1 : Int))), some (V.sint IntKind.i64 n), some (V.ssl (5 : Nat) (0 : Nat) (m + (1 : Nat)) (1 : Nat))] (6 : Nat) [some (Chunk.cells ((V.sint IntKind.i64 a) :: (V.sint IntKind.i64 l) :: (V.sint IntKind.i64 c) :: (V.sstr s) :: tl 1 2) (54 : Nat) (262 : Nat)), none, some (Chunk.cells [V.sint IntKind.u8 (↑(s.getD n.toNat 0).toNat : Int)] (5 : Nat) (1 : Nat)), some (Chunk.byt (List.take m b ++ List.map byB [V.sint IntKind.u8 (↑(s.getD n.toNat 0).toNat : Int)]) (5 : Nat))]) ∧
  (decide (bad < (0 : Int)) = false → ((0 : Int) ≤ n ∧
  n < (↑s.length : Int)) ∧
  (((0 : Nat) < m ∧
  m ≤ b.length) ∧
  (∀ (v : V), v ∈ [V.sint IntKind.u8 (↑(s.getD n.toNat 0).toNat : Int)] → ∃ (n : Int), (0 : Int) ≤ n ∧
  n ≤ (255 : Int) ∧
  (v = V.int IntKind.u8 n ∨ v = V.sint IntKind.u8 n)) ∧
  (m + (1 : Nat)) * (1 : Nat) ≤ (140737488355328 : Nat) ∧
  (0 : Nat) < m + (1 : Nat)) ∧
  ((-9223372036854775808 : Int) ≤ n + (1 : Int) ∧
  n + (1 : Int) ≤ (9223372036854775807 : Int)) ∧
  N O.normal [some (V.ptr (0 : Nat) (0 : Nat)), some (V.sint IntKind.i64 (n + (1 : Int))), some (V.sint IntKind.i64 bad), some (V.ssl (5 : Nat) (0 : Nat) (m + (1 : Nat)) (1 : Nat))] (6 : Nat) [some (Chunk.cells ((V.sint IntKind.i64 a) :: (V.sint IntKind.i64 l) :: (V.sint IntKind.i64 c) :: (V.sstr s) :: tl 1 2) (54 : Nat) (262 : Nat)), none, some (Chunk.cells [V.sint IntKind.u8 (↑(s.getD n.toNat 0).toNat : Int)] (5 : Nat) (1 : Nat)), some (Chunk.byt (List.take m b ++ List.map byB [V.sint IntKind.u8 (↑(s.getD n.toNat 0).toNat : Int)]) (5 : Nat))])))))))) := by kernel_rfl
theorem f59_eq (s : List UInt8) (a l c : Int) (N : E → Nat → List (Option Chunk) → Prop) : Go.Q.go Tryd.prog ⟨⟨.nil, [], []⟩, [], [(101003, lp Tryd.prog 59 0, l59)]⟩ 200 (.call 59 [.ptr 0 0] ⟨3, ofMo ([0,1,2].zip [some (.cells (scn a l c s 1 2) 54 262), none, none]), []⟩ (cutE [0,1,2] N)) =
  (((-9223372036854775808 : Int) ≤ a + (1 : Int) ∧
  a + (1 : Int) ≤ (9223372036854775807 : Int)) ∧
  lp Tryd.prog (59 : Nat) (0 : Nat) = lp Tryd.prog (59 : Nat) (0 : Nat) ∧
  ((0 : Int) ≤ a ∧
  a ≤ (↑s.length : Int) ∧
  (↑s.length : Int) ≤ (20000 : Int) ∧
  l = (↑(lc s a.toNat).fst : Int) ∧
  c = (↑(lc s a.toNat).snd : Int)) ∧
  (a + (1 : Int) = a + (1 : Int) ∧
  (-1 : Int) = (-1 : Int) ∧
  a < (↑s.length : Int)) ∧
  (textL (List.drop (a + (1 : Int)).toNat s) (a + (1 : Int)).toNat [] (-1 : Int) = none → N (E.pan (V.ifc (58 : Nat) (V.agg [V.sint IntKind.i64 a, V.int IntKind.i64 (121 : Int)]))) (4 : Nat) [some (Chunk.cells ((V.sint IntKind.i64 (↑a.toNat : Int)) :: (V.sint IntKind.i64 (↑(lc s a.toNat).fst : Int)) :: (V.sint IntKind.i64 (↑(lc s a.toNat).snd : Int)) :: (V.sstr s) :: tl 1 2) (54 : Nat) (262 : Nat)), none, none]) ∧
  (∀ (p : Nat) (bad : Int), textL (List.drop (a + (1 : Int)).toNat s) (a + (1 : Int)).toNat [] (-1 : Int) = some ([], p, bad) → ((-9223372036854775808 : Int) ≤ (↑p : Int) + (1 : Int) ∧
  (↑p : Int) + (1 : Int) ≤ (9223372036854775807 : Int)) ∧
  N (E.ret (V.tup [V.str [], V.sint IntKind.i64 ((↑p : Int) + (1 : Int)), V.sint IntKind.i64 bad])) (4 : Nat) [some (Chunk.cells ((V.sint IntKind.i64 (↑a.toNat : Int)) :: (V.sint IntKind.i64 (↑(lc s a.toNat).fst : Int)) :: (V.sint IntKind.i64 (↑(lc s a.toNat).snd : Int)) :: (V.sstr s) :: tl 1 2) (54 : Nat) (262 : Nat)), none, none]) ∧
  ∀ (x : UInt8) (b : List UInt8) (p : Nat) (bad : Int), textL (List.drop (a + (1 : Int)).toNat s) (a + (1 : Int)).toNat [] (-1 : Int) = some (x :: b, p, bad) → True ∧
  True ∧
  (decide ((1000 : Int) < (↑(b.length + (1 : Nat)) : Int)) = true → N (E.pan (V.ifc (58 : Nat) (V.agg [V.sint IntKind.i64 (↑a.toNat : Int), V.int IntKind.i64 (122 : Int)]))) (4 : Nat) [some (Chunk.cells ((V.sint IntKind.i64 (↑a.toNat : Int)) :: (V.sint IntKind.i64 (↑(lc s a.toNat).fst : Int)) :: (V.sint IntKind.i64 (↑(lc s a.toNat).snd : Int)) :: (V.sstr s) :: tl 1 2) (54 : Nat) (262 : Nat)), none, none]) ∧
  (decide ((1000 : Int) < (↑(b.length + (1 : Nat)) : Int)) = false → ((0 : Nat) < b.length + (1 : Nat) ∧
  (0 : Nat) + (b.length + (1 : Nat)) ≤ (x :: b).length) ∧
  ((-9223372036854775808 : Int) ≤ (↑p : Int) + (1 : Int) ∧
  (↑p : Int) + (1 : Int) ≤ (9223372036854775807 : Int)) ∧
  N (E.ret (V.tup [V.sstr (List.take (b.length + (1 : Nat)) (List.drop (0 : Nat) (x :: b))), V.sint IntKind.i64 ((↑p : Int) + (1 : Int)), V.sint IntKind.i64 bad])) (4 : Nat) [some (Chunk.cells ((V.sint IntKind.i64 (↑a.toNat : Int)) :: (V.sint IntKind.i64 (↑(lc s a.toNat).fst : Int)) :: (V.sint IntKind.i64 (↑(lc s a.toNat).snd : Int)) :: (V.sstr s) :: tl 1 2) (54 : Nat) (262 : Nat)), none, none])) := by kernel_rfl
theorem f46_in (s : List UInt8) (a l c : Int) (N : O → List (Option V) → Nat → List (Option Chunk) → Prop) : Go.Q.go Tryd.prog ⟨⟨.nil, [], []⟩, [(28, sOver)], []⟩ 200 (.code ⟨79, none⟩ (lp Tryd.prog 46 1) [] (ofE ([0].zip [.ptr 0 0])) ⟨3, ofMo ([0].zip [some (.cells (scn a l c s 1 2) 54 262)]), []⟩ (cutM [0] [0] N)) =
  (True ∧
  True ∧
  (decide (a < (↑s.length : Int)) = true → ((0 : Int) ≤ a ∧
  a < (↑s.length : Int)) ∧
  True ∧
  ((!decide ((↑(s.getD a.toNat 0).toNat : Int) = (10 : Int))) = true → ((0 : Int) ≤ a ∧
  a < (↑s.length : Int)) ∧
  True ∧
  (decide ((↑(s.getD a.toNat 0).toNat : Int) = (10 : Int)) = true → ((0 : Int) ≤ a ∧
  a ≤ (↑s.length : Int) ∧
  (↑s.length : Int) ≤ (20000 : Int) ∧
  l = (↑(lc s a.toNat).fst : Int) ∧
  c = (↑(lc s a.toNat).snd : Int)) ∧
  ((0 : Int) ≤ (1 : Int) ∧
  a + (1 : Int) ≤ (↑s.length : Int)) ∧
  N O.normal [some (V.ptr (0 : Nat) (0 : Nat))] (3 : Nat) [some (Chunk.cells ((V.sint IntKind.i64 (↑(a + (1 : Int)).toNat : Int)) :: (V.sint IntKind.i64 (↑(lc s (a + (1 : Int)).toNat).fst : Int)) :: (V.sint IntKind.i64 (↑(lc s (a + (1 : Int)).toNat).snd : Int)) :: (V.sstr s) :: tl 1 2) (54 : Nat) (262 : Nat))]) ∧
  (decide ((↑(s.getD a.toNat 0).toNat : Int) = (10 : Int)) = false → True ∧
  (decide ((32 : Int) ≤ (↑(s.getD a.toNat 0).toNat : Int)) = true → True ∧
  (decide ((↑(s.getD a.toNat 0).toNat : Int) ≤ (126 : Int)) = true → ((0 : Int) ≤ a ∧
  a ≤ (↑s.length : Int) ∧
  (↑s.length : Int) ≤ (20000 : Int) ∧
  l = (↑(lc s a.toNat).fst : Int) ∧
  c = (↑(lc s a.toNat).snd : Int)) ∧
  ((0 : Int) ≤ (1 : Int) ∧
  a + (1 : Int) ≤ (↑s.length : Int)) ∧
  N O.normal [some (V.ptr (0 : Nat) (0 : Nat))] (3 : Nat) [some (Chunk.cells ((V.sint IntKind.i64 (↑(a + (1 : Int)).toNat : Int)) :: (V.sint IntKind.i64 (↑(lc s (a + (1 : Int)).toNat).fst : Int)) :: (V.sint IntKind.i64 (↑(lc s (a + (1 : Int)).toNat).snd : Int)) :: (V.sstr s) :: tl 1 2) (54 : Nat) (262 : Nat))]) ∧
  (decide ((↑(s.getD a.toNat 0).toNat : Int) ≤ (126 : Int)) = false → N (O.panic (V.ifc (58 : Nat) (V.agg [V.sint IntKind.i64 a, V.int IntKind.i64 (120 : Int)]))) [some (V.ptr (0 : Nat) (0 : Nat))] (3 : Nat) [some (Chunk.cells ((V.sint IntKind.i64 a) :: (V.sint IntKind.i64 l) :: (V.sint IntKind.i64 c) :: (V.sstr s) :: tl 1 2) (54 : Nat) (262 : Nat))])) ∧
  (decide ((32 : Int) ≤ (↑(s.getD a.toNat 0).toNat : Int)) = false → N (O.panic (V.ifc (58 : Nat) (V.agg [V.sint IntKind.i64 a, V.int IntKind.i64 (120 : Int)]))) [some (V.ptr (0 : Nat) (0 : Nat))] (3 : Nat) [some (Chunk.cells ((V.sint IntKind.i64 a) :: (V.sint IntKind.i64 l) :: (V.sint IntKind.i64 c) :: (V.sstr s) :: tl 1 2) (54 : Nat) (262 : Nat))]))) ∧
  ((!decide ((↑(s.getD a.toNat 0).toNat : Int) = (10 : Int))) = false → N (O.exit (3 : Nat)) [some (V.ptr (0 : Nat) (0 : Nat))] (3 : Nat) [some (Chunk.cells ((V.sint IntKind.i64 a) :: (V.sint IntKind.i64 l) :: (V.sint IntKind.i64 c) :: (V.sstr s) :: tl 1 2) (54 : Nat) (262 : Nat))])) ∧
  (decide (a < (↑s.length : Int)) = false → N (O.exit (3 : Nat)) [some (V.ptr (0 : Nat) (0 : Nat))] (3 : Nat) [some (Chunk.cells ((V.sint IntKind.i64 a) :: (V.sint IntKind.i64 l) :: (V.sint IntKind.i64 c) :: (V.sstr s) :: tl 1 2) (54 : Nat) (262 : Nat))])) := by kernel_rfl
theorem f46_loop (s : List UInt8) (a l c : Int) (N : O → List (Option V) → Nat → List (Option Chunk) → Prop) : Go.Q.go Tryd.prog ⟨⟨.nil, [], []⟩, [(28, sOver)], [(79005, lp Tryd.prog 46 1, l46i)]⟩ 200 (.code ⟨79, none⟩ (lp Tryd.prog 46 0) [] (ofE ([0].zip [.ptr 0 0])) ⟨3, ofMo ([0].zip [some (.cells (scn a l c s 1 2) 54 262)]), []⟩ (cutM [0] [0] N)) =
  (True ∧
  True ∧
  (decide (a < (↑s.length : Int)) = true → ((0 : Int) ≤ a ∧
  a < (↑s.length : Int)) ∧
  ((0 : Int) ≤ (↑(s.getD a.toNat 0).toNat : Int) ∧
  (↑(s.getD a.toNat 0).toNat : Int) < (256 : Int)) ∧
  (↑(s.getD a.toNat 0).toNat : Int).toNat < (256 : Nat) ∧
  True ∧
  (decide (clsT.getD (↑(s.getD a.toNat 0).toNat : Int).toNat (0 : Int) = (1 : Int)) = true → ((0 : Int) ≤ a ∧
  a ≤ (↑s.length : Int) ∧
  (↑s.length : Int) ≤ (20000 : Int) ∧
  l = (↑(lc s a.toNat).fst : Int) ∧
  c = (↑(lc s a.toNat).snd : Int)) ∧
  ((0 : Int) ≤ (1 : Int) ∧
  a + (1 : Int) ≤ (↑s.length : Int)) ∧
  N O.normal [some (V.ptr (0 : Nat) (0 : Nat))] (3 : Nat) [some (Chunk.cells ((V.sint IntKind.i64 (↑(a + (1 : Int)).toNat : Int)) :: (V.sint IntKind.i64 (↑(lc s (a + (1 : Int)).toNat).fst : Int)) :: (V.sint IntKind.i64 (↑(lc s (a + (1 : Int)).toNat).snd : Int)) :: (V.sstr s) :: tl 1 2) (54 : Nat) (262 : Nat))]) ∧
  (decide (clsT.getD (↑(s.getD a.toNat 0).toNat : Int).toNat (0 : Int) = (1 : Int)) = false → True ∧
  (decide (clsT.getD (↑(s.getD a.toNat 0).toNat : Int).toNat (0 : Int) = (5 : Int)) = true → lp Tryd.prog (46 : Nat) (1 : Nat) = lp Tryd.prog (46 : Nat) (1 : Nat) ∧
  ((0 : Int) ≤ a ∧
  a ≤ (↑s.length : Int) ∧
  (↑s.length : Int) ≤ (20000 : Int) ∧
  l = (↑(lc s a.toNat).fst : Int) ∧
  c = (↑(lc s a.toNat).snd : Int)) ∧
  (∀ (j : Nat), noteF s a.toNat = Except.ok j → N O.normal [some (V.ptr (0 : Nat) (0 : Nat))] (3 : Nat) [some (Chunk.cells ((V.sint IntKind.i64 (↑j : Int)) :: (V.sint IntKind.i64 (↑(lc s j).fst : Int)) :: (V.sint IntKind.i64 (↑(lc s j).snd : Int)) :: (V.sstr s) :: tl 1 2) (54 : Nat) (262 : Nat))]) ∧
  ∀ (b : Nat), noteF s a.toNat = Except.error b → N (O.panic (V.ifc (58 : Nat) (V.agg [V.sint IntKind.i64 (↑b : Int), V.int IntKind.i64 (120 : Int)]))) [none] (3 : Nat) [some (Chunk.cells ((V.sint IntKind.i64 (↑b : Int)) :: (V.sint IntKind.i64 (↑(lc s b).fst : Int)) :: (V.sint IntKind.i64 (↑(lc s b).snd : Int)) :: (V.sstr s) :: tl 1 2) (54 : Nat) (262 : Nat))]) ∧
  (decide (clsT.getD (↑(s.getD a.toNat 0).toNat : Int).toNat (0 : Int) = (5 : Int)) = false → N O.ret [some (V.ptr (0 : Nat) (0 : Nat))] (3 : Nat) [some (Chunk.cells ((V.sint IntKind.i64 a) :: (V.sint IntKind.i64 l) :: (V.sint IntKind.i64 c) :: (V.sstr s) :: tl 1 2) (54 : Nat) (262 : Nat))]))) ∧
  (decide (a < (↑s.length : Int)) = false → N (O.exit (0 : Nat)) [some (V.ptr (0 : Nat) (0 : Nat))] (3 : Nat) [some (Chunk.cells ((V.sint IntKind.i64 a) :: (V.sint IntKind.i64 l) :: (V.sint IntKind.i64 c) :: (V.sstr s) :: tl 1 2) (54 : Nat) (262 : Nat))])) := by kernel_rfl
theorem f46_eq (s : List UInt8) (a l c : Int) (N : E → Nat → List (Option Chunk) → Prop) : Go.Q.go Tryd.prog ⟨⟨.nil, [], []⟩, [], [(79000, lp Tryd.prog 46 0, l46)]⟩ 200 (.call 46 [.ptr 0 0] ⟨3, ofMo ([0,1,2].zip [some (.cells (scn a l c s 1 2) 54 262), none, none]), []⟩ (cutE [0,1,2] N)) =
  (lp Tryd.prog (46 : Nat) (0 : Nat) = lp Tryd.prog (46 : Nat) (0 : Nat) ∧
  ((0 : Int) ≤ a ∧
  a ≤ (↑s.length : Int) ∧
  (↑s.length : Int) ≤ (20000 : Int) ∧
  l = (↑(lc s a.toNat).fst : Int) ∧
  c = (↑(lc s a.toNat).snd : Int)) ∧
  (∀ (j : Nat), skipF s a.toNat = Except.ok j → N (E.ret (V.tup [])) (3 : Nat) [some (Chunk.cells ((V.sint IntKind.i64 (↑j : Int)) :: (V.sint IntKind.i64 (↑(lc s j).fst : Int)) :: (V.sint IntKind.i64 (↑(lc s j).snd : Int)) :: (V.sstr s) :: tl 1 2) (54 : Nat) (262 : Nat)), none, none]) ∧
  (∀ (j : Nat), skipF s a.toNat = Except.ok j → N (E.ret (V.tup [])) (3 : Nat) [some (Chunk.cells ((V.sint IntKind.i64 (↑j : Int)) :: (V.sint IntKind.i64 (↑(lc s j).fst : Int)) :: (V.sint IntKind.i64 (↑(lc s j).snd : Int)) :: (V.sstr s) :: tl 1 2) (54 : Nat) (262 : Nat)), none, none]) ∧
  ∀ (b : Nat), skipF s a.toNat = Except.error b → N (E.pan (V.ifc (58 : Nat) (V.agg [V.sint IntKind.i64 (↑b : Int), V.int IntKind.i64 (120 : Int)]))) (3 : Nat) [some (Chunk.cells ((V.sint IntKind.i64 (↑b : Int)) :: (V.sint IntKind.i64 (↑(lc s b).fst : Int)) :: (V.sint IntKind.i64 (↑(lc s b).snd : Int)) :: (V.sstr s) :: tl 1 2) (54 : Nat) (262 : Nat)), none, none]) := by kernel_rfl
theorem f47_eq (s : List UInt8) (a l c : Int) (N : E → Nat → List (Option Chunk) → Prop) : Go.Q.go Tryd.prog ⟨⟨.nil, [], []⟩, [(56, sName), (57, sLow), (58, sNum), (59, sText)], []⟩ 300 (.call 47 [.ptr 0 0] ⟨3, ofMo ([0,1,2].zip [some (.cells (scn a l c s 1 2) 54 262), some keysC, some signsC]), []⟩ (cutE [0,1,2] N)) =
  (((0 : Int) ≤ a ∧
  a < (↑s.length : Int)) ∧
  ((0 : Int) ≤ (↑(s.getD a.toNat 0).toNat : Int) ∧
  (↑(s.getD a.toNat 0).toNat : Int) < (256 : Int)) ∧
  (↑(s.getD a.toNat 0).toNat : Int).toNat < (256 : Nat) ∧
  True ∧
  (decide (clsT.getD (↑(s.getD a.toNat 0).toNat : Int).toNat (0 : Int) = (2 : Int)) = true → ((0 : Int) ≤ a ∧
  a ≤ (↑s.length : Int) ∧
  (↑s.length : Int) ≤ (20000 : Int) ∧
  l = (↑(lc s a.toNat).fst : Int) ∧
  c = (↑(lc s a.toNat).snd : Int)) ∧
  ((0 : Int) ≤ a ∧
  a ≤ (↑(nameF s a.toNat) : Int) ∧
  (↑(nameF s a.toNat) : Int) ≤ (↑s.length : Int)) ∧
  ((List.drop a.toNat (List.take (↑(nameF s a.toNat) : Int).toNat s)).length ≤ (140737488355328 : Nat) ∧
  ∀ (b : UInt8), b ∈ List.drop a.toNat (List.take (↑(nameF s a.toNat) : Int).toNat s) → b.toNat < (128 : Nat)) ∧
  True ∧
  (hasK (Lib.toLowerA (List.drop a.toNat (List.take (↑(nameF s a.toNat) : Int).toNat s))) keysL = true → N (E.ret (V.tup [V.agg [V.int IntKind.i64 (2 : Int), V.sstr (Lib.toLowerA (List.drop a.toNat (List.take (↑(nameF s a.toNat) : Int).toNat s))), V.sint IntKind.i64 a, V.sint IntKind.i64 (↑(nameF s a.toNat) : Int), V.sint IntKind.i64 l, V.sint IntKind.i64 c], V.int IntKind.i64 ((-1 : Int))])) (4 : Nat) [some (Chunk.cells ((V.sint IntKind.i64 (↑a.toNat : Int)) :: (V.sint IntKind.i64 (↑(lc s a.toNat).fst : Int)) :: (V.sint IntKind.i64 (↑(lc s a.toNat).snd : Int)) :: (V.sstr s) :: tl 1 2) (54 : Nat) (262 : Nat)), some keysC, some signsC]) ∧
  (hasK (Lib.toLowerA (List.drop a.toNat (List.take (↑(nameF s a.toNat) : Int).toNat s))) keysL = false → True ∧
  True ∧
  (decide ((24 : Int) < (↑(Lib.toLowerA (List.drop a.toNat (List.take (↑(nameF s a.toNat) : Int).toNat s))).length : Int)) = true → N (E.pan (V.ifc (58 : Nat) (V.agg [V.sint IntKind.i64 (↑a.toNat : Int), V.int IntKind.i64 (122 : Int)]))) (4 : Nat) [some (Chunk.cells ((V.sint IntKind.i64 (↑a.toNat : Int)) :: (V.sint IntKind.i64 (↑(lc s a.toNat).fst : Int)) :: (V.sint IntKind.i64 (↑(lc s a.toNat).snd : Int)) :: (V.sstr s) :: tl 1 2) (54 : Nat) (262 : Nat)), some keysC, some signsC]) ∧
  (decide ((24 : Int) < (↑(Lib.toLowerA (List.drop a.toNat (List.take (↑(nameF s a.toNat) : Int).toNat s))).length : Int)) = false → N (E.ret (V.tup [V.agg [V.int IntKind.i64 (1 : Int), V.sstr (Lib.toLowerA (List.drop a.toNat (List.take (↑(nameF s a.toNat) : Int).toNat s))), V.sint IntKind.i64 a, V.sint IntKind.i64 (↑(nameF s a.toNat) : Int), V.sint IntKind.i64 l, V.sint IntKind.i64 c], V.int IntKind.i64 ((-1 : Int))])) (4 : Nat) [some (Chunk.cells ((V.sint IntKind.i64 (↑a.toNat : Int)) :: (V.sint IntKind.i64 (↑(lc s a.toNat).fst : Int)) :: (V.sint IntKind.i64 (↑(lc s a.toNat).snd : Int)) :: (V.sstr s) :: tl 1 2) (54 : Nat) (262 : Nat)), some keysC, some signsC]))) ∧
  (decide (clsT.getD (↑(s.getD a.toNat 0).toNat : Int).toNat (0 : Int) = (2 : Int)) = false → True ∧
  (decide (clsT.getD (↑(s.getD a.toNat 0).toNat : Int).toNat (0 : Int) = (3 : Int)) = true → ((0 : Int) ≤ a ∧
  a ≤ (↑s.length : Int) ∧
  (↑s.length : Int) ≤ (20000 : Int) ∧
  l = (↑(lc s a.toNat).fst : Int) ∧
  c = (↑(lc s a.toNat).snd : Int)) ∧
  (∀ (x : Nat) (t : List UInt8) (e : Nat), numF s a.toNat = some (x, t, e) → N (E.ret (V.tup [V.agg [V.sint IntKind.i64 (↑x : Int), V.sstr t, V.sint IntKind.i64 a, V.sint IntKind.i64 (↑e : Int), V.sint IntKind.i64 l, V.sint IntKind.i64 c], V.int IntKind.i64 ((-1 : Int))])) (4 : Nat) [some (Chunk.cells ((V.sint IntKind.i64 (↑a.toNat : Int)) :: (V.sint IntKind.i64 (↑(lc s a.toNat).fst : Int)) :: (V.sint IntKind.i64 (↑(lc s a.toNat).snd : Int)) :: (V.sstr s) :: tl 1 2) (54 : Nat) (262 : Nat)), some keysC, some signsC]) ∧
  (numF s a.toNat = none → N (E.pan (V.ifc (58 : Nat) (V.agg [V.sint IntKind.i64 a, V.int IntKind.i64 (122 : Int)]))) (4 : Nat) [some (Chunk.cells ((V.sint IntKind.i64 (↑a.toNat : Int)) :: (V.sint IntKind.i64 (↑(lc s a.toNat).fst : Int)) :: (V.sint IntKind.i64 (↑(lc s a.toNat).snd : Int)) :: (V.sstr s) :: tl 1 2) (54 : Nat) (262 : Nat)), some keysC, some signsC])) ∧
  (decide (clsT.getD (↑(s.getD a.toNat 0).toNat : Int).toNat (0 : Int) = (3 : Int)) = false → True ∧
  (decide (clsT.getD (↑(s.getD a.toNat 0).toNat : Int).toNat (0 : Int) = (4 : Int)) = true → ((0 : Int) ≤ a ∧
  a ≤ (↑s.length : Int) ∧
  (↑s.length : Int) ≤ (20000 : Int) ∧
  l = (↑(lc s a.toNat).fst : Int) ∧
  c = (↑(lc s a.toNat).snd : Int)) ∧
  a < (↑s.length : Int) ∧
  (∀ (t : List UInt8) (e : Nat) (bad : Int), textF s a.toNat = Except.ok (t, e, bad) → N (E.ret (V.tup [V.agg [V.int IntKind.i64 (5 : Int), V.sstr t, V.sint IntKind.i64 a, V.sint IntKind.i64 (↑e : Int), V.sint IntKind.i64 l, V.sint IntKind.i64 c], V.sint IntKind.i64 bad])) (4 : Nat) [some (Chunk.cells ((V.sint IntKind.i64 (↑a.toNat : Int)) :: (V.sint IntKind.i64 (↑(lc s a.toNat).fst : Int)) :: (V.sint IntKind.i64 (↑(lc s a.toNat).snd : Int)) :: (V.sstr s) :: tl 1 2) (54 : Nat) (262 : Nat)), some keysC, some signsC]) ∧
  ∀ (e : Nat), textF s a.toNat = Except.error e → N (E.pan (V.ifc (58 : Nat) (V.agg [V.sint IntKind.i64 a, V.int IntKind.i64 (↑e : Int)]))) (4 : Nat) [some (Chunk.cells ((V.sint IntKind.i64 (↑a.toNat : Int)) :: (V.sint IntKind.i64 (↑(lc s a.toNat).fst : Int)) :: (V.sint IntKind.i64 (↑(lc s a.toNat).snd : Int)) :: (V.sstr s) :: tl 1 2) (54 : Nat) (262 : Nat)), some keysC, some signsC]) ∧
  (decide (clsT.getD (↑(s.getD a.toNat 0).toNat : Int).toNat (0 : Int) = (4 : Int)) = false → True ∧
  (decide (clsT.getD (↑(s.getD a.toNat 0).toNat : Int).toNat (0 : Int) = (6 : Int)) = true → ((-9223372036854775808 : Int) ≤ a + (2 : Int) ∧
  a + (2 : Int) ≤ (9223372036854775807 : Int)) ∧
  True ∧
  True ∧
  (decide (a + (2 : Int) ≤ (↑s.length : Int)) = true → ((-9223372036854775808 : Int) ≤ a + (2 : Int) ∧
  a + (2 : Int) ≤ (9223372036854775807 : Int)) ∧
  ((0 : Int) ≤ a ∧
  a ≤ a + (2 : Int) ∧
  a + (2 : Int) ≤ (↑s.length : Int)) ∧
  True ∧
  (hasK (List.drop a.toNat (List.take (a + (2 : Int)).toNat s)) signsL = true → ((-9223372036854775808 : Int) ≤ a + (2 : Int) ∧
  a + (2 : Int) ≤ (9223372036854775807 : Int)) ∧
  ((0 : Int) ≤ a ∧
  a ≤ a + (2 : Int) ∧
  a + (2 : Int) ≤ (↑s.length : Int)) ∧
  ((-9223372036854775808 : Int) ≤ a + (2 : Int) ∧
  a + (2 : Int) ≤ (9223372036854775807 : Int)) ∧
  True ∧
  (hasK (List.drop a.toNat (List.take (a + (2 : Int)).toNat s)) signsL = true → N (E.ret (V.tup [V.agg [V.int IntKind.i64 (6 : Int), V.sstr (List.drop a.toNat (List.take (a + (2 : Int)).toNat s)), V.sint IntKind.i64 a, V.sint IntKind.i64 (a + (2 : Int)), V.sint IntKind.i64 l, V.sint IntKind.i64 c], V.int IntKind.i64 ((-1 : Int))])) (4 : Nat) [some (Chunk.cells ((V.sint IntKind.i64 a) :: (V.sint IntKind.i64 l) :: (V.sint IntKind.i64 c) :: (V.sstr s) :: tl 1 2) (54 : Nat) (262 : Nat)), some keysC, some signsC]) ∧
  (hasK (List.drop a.toNat (List.take (a + (2 : Int)).toNat s)) signsL = false → N (E.pan (V.ifc (58 : Nat) (V.agg [V.sint IntKind.i64 a, V.int IntKind.i64 (120 : Int)]))) (4 : Nat) [some (Chunk.cells ((V.sint IntKind.i64 a) :: (V.sint IntKind.i64 l) :: (V.sint IntKind.i64 c) :: (V.sstr s) :: tl 1 2) (54 : Nat) (262 : Nat)), some keysC, some signsC])) ∧
  (hasK (List.drop a.toNat (List.take (a + (2 : Int)).toNat s)) signsL = false → ((-9223372036854775808 : Int) ≤ a + (1 : Int) ∧
  a + (1 : Int) ≤ (9223372036854775807 : Int)) ∧
  ((0 : Int) ≤ a ∧
  a ≤ a + (1 : Int) ∧
  a + (1 : Int) ≤ (↑s.length : Int)) ∧
  ((-9223372036854775808 : Int) ≤ a + (1 : Int) ∧
  a + (1 : Int) ≤ (9223372036854775807 : Int)) ∧
  True ∧
  (hasK (List.drop a.toNat (List.take (a + (1 : Int)).toNat s)) signsL = true → N (E.ret (V.tup [V.agg [V.int IntKind.i64 (6 : Int), V.sstr (List.drop a.toNat (List.take (a + (1 : Int)).toNat s)), V.sint IntKind.i64 a, V.sint IntKind.i64 (a + (1 : Int)), V.sint IntKind.i64 l, V.sint IntKind.i64 c], V.int IntKind.i64 ((-1 : Int))])) (4 : Nat) [some (Chunk.cells ((V.sint IntKind.i64 a) :: (V.sint IntKind.i64 l) :: (V.sint IntKind.i64 c) :: (V.sstr s) :: tl 1 2) (54 : Nat) (262 : Nat)), some keysC, some signsC]) ∧
  (hasK (List.drop a.toNat (List.take (a + (1 : Int)).toNat s)) signsL = false → N (E.pan (V.ifc (58 : Nat) (V.agg [V.sint IntKind.i64 a, V.int IntKind.i64 (120 : Int)]))) (4 : Nat) [some (Chunk.cells ((V.sint IntKind.i64 a) :: (V.sint IntKind.i64 l) :: (V.sint IntKind.i64 c) :: (V.sstr s) :: tl 1 2) (54 : Nat) (262 : Nat)), some keysC, some signsC]))) ∧
  (decide (a + (2 : Int) ≤ (↑s.length : Int)) = false → ((-9223372036854775808 : Int) ≤ a + (1 : Int) ∧
  a + (1 : Int) ≤ (9223372036854775807 : Int)) ∧
  ((0 : Int) ≤ a ∧
  a ≤ a + (1 : Int) ∧
  a + (1 : Int) ≤ (↑s.length : Int)) ∧
  ((-9223372036854775808 : Int) ≤ a + (1 : Int) ∧
  a + (1 : Int) ≤ (9223372036854775807 : Int)) ∧
  True ∧
  (hasK (List.drop a.toNat (List.take (a + (1 : Int)).toNat s)) signsL = true → N (E.ret (V.tup [V.agg [V.int IntKind.i64 (6 : Int), V.sstr (List.drop a.toNat (List.take (a + (1 : Int)).toNat s)), V.sint IntKind.i64 a, V.sint IntKind.i64 (a + (1 : Int)), V.sint IntKind.i64 l, V.sint IntKind.i64 c], V.int IntKind.i64 ((-1 : Int))])) (4 : Nat) [some (Chunk.cells ((V.sint IntKind.i64 a) :: (V.sint IntKind.i64 l) :: (V.sint IntKind.i64 c) :: (V.sstr s) :: tl 1 2) (54 : Nat) (262 : Nat)), some keysC, some signsC]) ∧
  (hasK (List.drop a.toNat (List.take (a + (1 : Int)).toNat s)) signsL = false → N (E.pan (V.ifc (58 : Nat) (V.agg [V.sint IntKind.i64 a, V.int IntKind.i64 (120 : Int)]))) (4 : Nat) [some (Chunk.cells ((V.sint IntKind.i64 a) :: (V.sint IntKind.i64 l) :: (V.sint IntKind.i64 c) :: (V.sstr s) :: tl 1 2) (54 : Nat) (262 : Nat)), some keysC, some signsC]))) ∧
  (decide (clsT.getD (↑(s.getD a.toNat 0).toNat : Int).toNat (0 : Int) = (6 : Int)) = false → N (E.pan (V.ifc (58 : Nat) (V.agg [V.sint IntKind.i64 a, V.int IntKind.i64 (120 : Int)]))) (4 : Nat) [some (Chunk.cells ((V.sint IntKind.i64 a) :: (V.sint IntKind.i64 l) :: (V.sint IntKind.i64 c) :: (V.sstr s) :: tl 1 2) (54 : Nat) (262 : Nat)), some keysC, some signsC]))))) := by kernel_rfl
theorem f45_loop0 (s : List UInt8) (n a l c : Int) (N : O → List (Option V) → Nat → List (Option Chunk) → Prop) : Go.Q.go Tryd.prog ⟨⟨.nil, [], []⟩, [(46, sSkip), (47, sTok), (28, sOver)], []⟩ 200 (.code ⟨54, none⟩ (lp Tryd.prog 45 0) [] (ofE ([0,1,3].zip [.yld 9, .ptr 7 0, .sint .i64 n])) ⟨11, ofMo ([1,4,5,6,7,9,10].zip [some (.cells [.nils] 30 1), some keysC, some signsC, some (.cells (scn a l c s 4 5) 54 262), some (.cells [.ptr 6 0] 48 1), some loopC, none]), []⟩ (cutM [0,1,3] [1,4,5,6,7,9,10,11,12,13,14,15,16] N)) =
  (((0 : Int) ≤ a ∧
  a ≤ (↑s.length : Int) ∧
  (↑s.length : Int) ≤ (20000 : Int) ∧
  l = (↑(lc s a.toNat).fst : Int) ∧
  c = (↑(lc s a.toNat).snd : Int)) ∧
  (∀ (j : Nat), skipF s a.toNat = Except.ok j → True ∧
  True ∧
  (decide ((↑s.length : Int) ≤ (↑j : Int)) = true → N O.ret [some (V.yld (9 : Nat)), some (V.ptr (7 : Nat) (0 : Nat)), some (V.sint IntKind.i64 n)] (11 : Nat) [some (Chunk.cells [V.nils] (30 : Nat) (1 : Nat)), some keysC, some signsC, some (Chunk.cells ((V.sint IntKind.i64 (↑j : Int)) :: (V.sint IntKind.i64 (↑(lc s j).fst : Int)) :: (V.sint IntKind.i64 (↑(lc s j).snd : Int)) :: (V.sstr s) :: tl 4 5) (54 : Nat) (262 : Nat)), some (Chunk.cells [V.ptr (6 : Nat) (0 : Nat)] (48 : Nat) (1 : Nat)), some loopC, none, none, none, none, none, none, none]) ∧
  (decide ((↑s.length : Int) ≤ (↑j : Int)) = false → ((0 : Int) ≤ (↑j : Int) ∧
  (↑j : Int) ≤ (↑s.length : Int) ∧
  (↑s.length : Int) ≤ (20000 : Int) ∧
  (↑(lc s j).fst : Int) = (↑(lc s (↑j : Int).toNat).fst : Int) ∧
  (↑(lc s j).snd : Int) = (↑(lc s (↑j : Int).toNat).snd : Int)) ∧
  (some keysC = some keysC ∧
  some signsC = some signsC) ∧
  (↑j : Int) < (↑s.length : Int) ∧
  (∀ (x : TokR), tokF s (↑j : Int).toNat = Except.ok x → True ∧
  (decide ((6000 : Int) ≤ n) = true → N (O.panic (V.ifc (58 : Nat) (V.agg [V.sint IntKind.i64 (↑(↑j : Int).toNat : Int), V.int IntKind.i64 (3 : Int)]))) [some (V.yld (9 : Nat)), some (V.ptr (7 : Nat) (0 : Nat)), some (V.sint IntKind.i64 n)] (12 : Nat) [some (Chunk.cells [V.nils] (30 : Nat) (1 : Nat)), some keysC, some signsC, some (Chunk.cells ((V.sint IntKind.i64 (↑(↑j : Int).toNat : Int)) :: (V.sint IntKind.i64 (↑(lc s (↑j : Int).toNat).fst : Int)) :: (V.sint IntKind.i64 (↑(lc s (↑j : Int).toNat).snd : Int)) :: (V.sstr s) :: tl 4 5) (54 : Nat) (262 : Nat)), some (Chunk.cells [V.ptr (6 : Nat) (0 : Nat)] (48 : Nat) (1 : Nat)), some loopC, none, some (Chunk.cells [V.sint IntKind.i64 (↑x.kind : Int), V.sstr x.text, V.sint IntKind.i64 (↑j : Int), V.sint IntKind.i64 (↑x.to : Int), V.sint IntKind.i64 (↑(lc s (↑j : Int).toNat).fst : Int), V.sint IntKind.i64 (↑(lc s (↑j : Int).toNat).snd : Int)] (34 : Nat) (6 : Nat)), none, none, none, none, none]) ∧
  (decide ((6000 : Int) ≤ n) = false → True ∧
  (decide ((0 : Int) ≤ x.bad) = true → N (O.panic (V.ifc (58 : Nat) (V.agg [V.sint IntKind.i64 x.bad, V.int IntKind.i64 (120 : Int)]))) [some (V.yld (9 : Nat)), some (V.ptr (7 : Nat) (0 : Nat)), some (V.sint IntKind.i64 n)] (12 : Nat) [some (Chunk.cells [V.nils] (30 : Nat) (1 : Nat)), some keysC, some signsC, some (Chunk.cells ((V.sint IntKind.i64 (↑(↑j : Int).toNat : Int)) :: (V.sint IntKind.i64 (↑(lc s (↑j : Int).toNat).fst : Int)) :: (V.sint IntKind.i64 (↑(lc s (↑j : Int).toNat).snd : Int)) :: (V.sstr s) :: tl 4 5) (54 : Nat) (262 : Nat)), some (Chunk.cells [V.ptr (6 : Nat) (0 : Nat)] (48 : Nat) (1 : Nat)), some loopC, none, some (Chunk.cells [V.sint IntKind.i64 (↑x.kind : Int), V.sstr x.text, V.sint IntKind.i64 (↑j : Int), V.sint IntKind.i64 (↑x.to : Int), V.sint IntKind.i64 (↑(lc s (↑j : Int).toNat).fst : Int), V.sint IntKind.i64 (↑(lc s (↑j : Int).toNat).snd : Int)] (34 : Nat) (6 : Nat)), none, none, none, none, none]) ∧
  (decide ((0 : Int) ≤ x.bad) = false → ((-9223372036854775808 : Int) ≤ (↑x.to : Int) - (↑(↑j : Int).toNat : Int) ∧
  (↑x.to : Int) - (↑(↑j : Int).toNat : Int) ≤ (9223372036854775807 : Int)) ∧
  ((0 : Int) ≤ (↑(↑j : Int).toNat : Int) ∧
  (↑(↑j : Int).toNat : Int) ≤ (↑s.length : Int) ∧
  (↑s.length : Int) ≤ (20000 : Int) ∧
  (↑(lc s (↑j : Int).toNat).fst : Int) = (↑(lc s (↑(↑j : Int).toNat : Int).toNat).fst : Int) ∧
  (↑(lc s (↑j : Int).toNat).snd : Int) = (↑(lc s (↑(↑j : Int).toNat : Int).toNat).snd : Int)) ∧
  ((0 : Int) ≤ (↑x.to : Int) - (↑(↑j : Int).toNat : Int) ∧
  (↑(↑j : Int).toNat : Int) + ((↑x.to : Int) - (↑(↑j : Int).toNat : Int)) ≤ (↑s.length : Int)) ∧
  ((-9223372036854775808 : Int) ≤ n + (1 : Int) ∧
  n + (1 : Int) ≤ (9223372036854775807 : Int)) ∧
  N O.normal [some (V.yld (9 : Nat)), some (V.ptr (7 : Nat) (0 : Nat)), some (V.sint IntKind.i64 (n + (1 : Int)))] (15 : Nat) [some (Chunk.cells [V.sl (14 : Nat) (0 : Nat) (0 : Nat) (1 : Nat) none] (30 : Nat) (1 : Nat)), some keysC, some signsC, some (Chunk.cells ((V.sint IntKind.i64 (↑((↑(↑j : Int).toNat : Int) + ((↑x.to : Int) - (↑(↑j : Int).toNat : Int))).toNat : Int)) :: (V.sint IntKind.i64 (↑(lc s ((↑(↑j : Int).toNat : Int) + ((↑x.to : Int) - (↑(↑j : Int).toNat : Int))).toNat).fst : Int)) :: (V.sint IntKind.i64 (↑(lc s ((↑(↑j : Int).toNat : Int) + ((↑x.to : Int) - (↑(↑j : Int).toNat : Int))).toNat).snd : Int)) :: (V.sstr s) :: tl 4 5) (54 : Nat) (262 : Nat)), some (Chunk.cells [V.ptr (6 : Nat) (0 : Nat)] (48 : Nat) (1 : Nat)), some loopC, none, some (Chunk.cells [V.sint IntKind.i64 (↑x.kind : Int), V.sstr x.text, V.sint IntKind.i64 (↑j : Int), V.sint IntKind.i64 (↑x.to : Int), V.sint IntKind.i64 (↑(lc s (↑j : Int).toNat).fst : Int), V.sint IntKind.i64 (↑(lc s (↑j : Int).toNat).snd : Int)] (34 : Nat) (6 : Nat)), some (Chunk.cells [V.sint IntKind.i64 (↑x.kind : Int), V.sstr x.text, V.sint IntKind.i64 (↑j : Int), V.sint IntKind.i64 (↑x.to : Int), V.sint IntKind.i64 (↑(lc s (↑j : Int).toNat).fst : Int), V.sint IntKind.i64 (↑(lc s (↑j : Int).toNat).snd : Int)] (34 : Nat) (6 : Nat)), some (Chunk.cells [V.sint IntKind.i64 (↑x.kind : Int), V.sstr x.text, V.sint IntKind.i64 (↑j : Int), V.sint IntKind.i64 (↑x.to : Int), V.sint IntKind.i64 (↑(lc s (↑j : Int).toNat).fst : Int), V.sint IntKind.i64 (↑(lc s (↑j : Int).toNat).snd : Int)] (34 : Nat) (6 : Nat)), some (Chunk.cells [V.sint IntKind.i64 (↑x.kind : Int), V.sstr x.text, V.sint IntKind.i64 (↑j : Int), V.sint IntKind.i64 (↑x.to : Int), V.sint IntKind.i64 (↑(lc s (↑j : Int).toNat).fst : Int), V.sint IntKind.i64 (↑(lc s (↑j : Int).toNat).snd : Int)] (34 : Nat) (6 : Nat)), none, none]))) ∧
  ∀ (e : Nat), tokF s (↑j : Int).toNat = Except.error e → N (O.panic (V.ifc (58 : Nat) (V.agg [V.sint IntKind.i64 (↑j : Int), V.int IntKind.i64 (↑e : Int)]))) [some (V.yld (9 : Nat)), some (V.ptr (7 : Nat) (0 : Nat)), some (V.sint IntKind.i64 n)] (11 : Nat) [some (Chunk.cells [V.nils] (30 : Nat) (1 : Nat)), some keysC, some signsC, some (Chunk.cells ((V.sint IntKind.i64 (↑(↑j : Int).toNat : Int)) :: (V.sint IntKind.i64 (↑(lc s (↑j : Int).toNat).fst : Int)) :: (V.sint IntKind.i64 (↑(lc s (↑j : Int).toNat).snd : Int)) :: (V.sstr s) :: tl 4 5) (54 : Nat) (262 : Nat)), some (Chunk.cells [V.ptr (6 : Nat) (0 : Nat)] (48 : Nat) (1 : Nat)), some loopC, none, none, none, none, none, none, none])) ∧
  ∀ (b : Nat), skipF s a.toNat = Except.error b → N (O.panic (V.ifc (58 : Nat) (V.agg [V.sint IntKind.i64 (↑b : Int), V.int IntKind.i64 (120 : Int)]))) [some (V.yld (9 : Nat)), some (V.ptr (7 : Nat) (0 : Nat)), some (V.sint IntKind.i64 n)] (11 : Nat) [some (Chunk.cells [V.nils] (30 : Nat) (1 : Nat)), some keysC, some signsC, some (Chunk.cells ((V.sint IntKind.i64 (↑b : Int)) :: (V.sint IntKind.i64 (↑(lc s b).fst : Int)) :: (V.sint IntKind.i64 (↑(lc s b).snd : Int)) :: (V.sstr s) :: tl 4 5) (54 : Nat) (262 : Nat)), some (Chunk.cells [V.ptr (6 : Nat) (0 : Nat)] (48 : Nat) (1 : Nat)), some loopC, none, none, none, none, none, none, none]) := by kernel_rfl
theorem f45_loop1 (s : List UInt8) (rs : List (List V)) (m : Nat) (n a l c : Int) (N : O → List (Option V) → Nat → List (Option Chunk) → Prop) : Go.Q.go Tryd.prog ⟨⟨.nil, [], []⟩, [(46, sSkip), (47, sTok), (28, sOver)], []⟩ 200 (.code ⟨54, none⟩ (lp Tryd.prog 45 0) [] (ofE ([0,1,3].zip [.yld 9, .ptr 7 0, .sint .i64 n])) ⟨11, ofMo ([1,4,5,6,7,9,10].zip [some (.cells [.ssl 10 0 m 6] 30 1), some keysC, some signsC, some (.cells (scn a l c s 4 5) 54 262), some (.cells [.ptr 6 0] 48 1), some loopC, some (.rows rs shTok 34)]), []⟩ (cutM [0,1,3] [1,4,5,6,7,9,10,11,12,13,14,15,16] N)) =
  (((0 : Int) ≤ a ∧
  a ≤ (↑s.length : Int) ∧
  (↑s.length : Int) ≤ (20000 : Int) ∧
  l = (↑(lc s a.toNat).fst : Int) ∧
  c = (↑(lc s a.toNat).snd : Int)) ∧
  (∀ (j : Nat), skipF s a.toNat = Except.ok j → True ∧
  True ∧
  (decide ((↑s.length : Int) ≤ (↑j : Int)) = true → N O.ret [some (V.yld (9 : Nat)), some (V.ptr (7 : Nat) (0 : Nat)), some (V.sint IntKind.i64 n)] (11 : Nat) [some (Chunk.cells [V.ssl (10 : Nat) (0 : Nat) m (6 : Nat)] (30 : Nat) (1 : Nat)), some keysC, some signsC, some (Chunk.cells ((V.sint IntKind.i64 (↑j : Int)) :: (V.sint IntKind.i64 (↑(lc s j).fst : Int)) :: (V.sint IntKind.i64 (↑(lc s j).snd : Int)) :: (V.sstr s) :: tl 4 5) (54 : Nat) (262 : Nat)), some (Chunk.cells [V.ptr (6 : Nat) (0 : Nat)] (48 : Nat) (1 : Nat)), some loopC, some (Chunk.rows rs [Sh.int IntKind.i64, Sh.str, Sh.int IntKind.i64, Sh.int IntKind.i64, Sh.int IntKind.i64, Sh.int IntKind.i64] (34 : Nat)), none, none, none, none, none, none]) ∧
  (decide ((↑s.length : Int) ≤ (↑j : Int)) = false → ((0 : Int) ≤ (↑j : Int) ∧
  (↑j : Int) ≤ (↑s.length : Int) ∧
  (↑s.length : Int) ≤ (20000 : Int) ∧
  (↑(lc s j).fst : Int) = (↑(lc s (↑j : Int).toNat).fst : Int) ∧
  (↑(lc s j).snd : Int) = (↑(lc s (↑j : Int).toNat).snd : Int)) ∧
  (some keysC = some keysC ∧
  some signsC = some signsC) ∧
  (↑j : Int) < (↑s.length : Int) ∧
  (∀ (x : TokR), tokF s (↑j : Int).toNat = Except.ok x → True ∧
  (decide ((6000 : Int) ≤ n) = true → N (O.panic (V.ifc (58 : Nat) (V.agg [V.sint IntKind.i64 (↑(↑j : Int).toNat : Int), V.int IntKind.i64 (3 : Int)]))) [some (V.yld (9 : Nat)), some (V.ptr (7 : Nat) (0 : Nat)), some (V.sint IntKind.i64 n)] (12 : Nat) [some (Chunk.cells [V.ssl (10 : Nat) (0 : Nat) m (6 : Nat)] (30 : Nat) (1 : Nat)), some keysC, some signsC, some (Chunk.cells ((V.sint IntKind.i64 (↑(↑j : Int).toNat : Int)) :: (V.sint IntKind.i64 (↑(lc s (↑j : Int).toNat).fst : Int)) :: (V.sint IntKind.i64 (↑(lc s (↑j : Int).toNat).snd : Int)) :: (V.sstr s) :: tl 4 5) (54 : Nat) (262 : Nat)), some (Chunk.cells [V.ptr (6 : Nat) (0 : Nat)] (48 : Nat) (1 : Nat)), some loopC, some (Chunk.rows rs [Sh.int IntKind.i64, Sh.str, Sh.int IntKind.i64, Sh.int IntKind.i64, Sh.int IntKind.i64, Sh.int IntKind.i64] (34 : Nat)), some (Chunk.cells [V.sint IntKind.i64 (↑x.kind : Int), V.sstr x.text, V.sint IntKind.i64 (↑j : Int), V.sint IntKind.i64 (↑x.to : Int), V.sint IntKind.i64 (↑(lc s (↑j : Int).toNat).fst : Int), V.sint IntKind.i64 (↑(lc s (↑j : Int).toNat).snd : Int)] (34 : Nat) (6 : Nat)), none, none, none, none, none]) ∧
  (decide ((6000 : Int) ≤ n) = false → True ∧
  (decide ((0 : Int) ≤ x.bad) = true → N (O.panic (V.ifc (58 : Nat) (V.agg [V.sint IntKind.i64 x.bad, V.int IntKind.i64 (120 : Int)]))) [some (V.yld (9 : Nat)), some (V.ptr (7 : Nat) (0 : Nat)), some (V.sint IntKind.i64 n)] (12 : Nat) [some (Chunk.cells [V.ssl (10 : Nat) (0 : Nat) m (6 : Nat)] (30 : Nat) (1 : Nat)), some keysC, some signsC, some (Chunk.cells ((V.sint IntKind.i64 (↑(↑j : Int).toNat : Int)) :: (V.sint IntKind.i64 (↑(lc s (↑j : Int).toNat).fst : Int)) :: (V.sint IntKind.i64 (↑(lc s (↑j : Int).toNat).snd : Int)) :: (V.sstr s) :: tl 4 5) (54 : Nat) (262 : Nat)), some (Chunk.cells [V.ptr (6 : Nat) (0 : Nat)] (48 : Nat) (1 : Nat)), some loopC, some (Chunk.rows rs [Sh.int IntKind.i64, Sh.str, Sh.int IntKind.i64, Sh.int IntKind.i64, Sh.int IntKind.i64, Sh.int IntKind.i64] (34 : Nat)), some (Chunk.cells [V.sint IntKind.i64 (↑x.kind : Int), V.sstr x.text, V.sint IntKind.i64 (↑j : Int), V.sint IntKind.i64 (↑x.to : Int), V.sint IntKind.i64 (↑(lc s (↑j : Int).toNat).fst : Int), V.sint IntKind.i64 (↑(lc s (↑j : Int).toNat).snd : Int)] (34 : Nat) (6 : Nat)), none, none, none, none, none]) ∧
  (decide ((0 : Int) ≤ x.bad) = false → (((0 : Nat) < m ∧
  m ≤ rs.length) ∧
  True ∧
  (m + (1 : Nat)) * (56 : Nat) ≤ (140737488355328 : Nat) ∧
  (0 : Nat) < m + (1 : Nat)) ∧
  ((-9223372036854775808 : Int) ≤ (↑x.to : Int) - (↑(↑j : Int).toNat : Int) ∧
  (↑x.to : Int) - (↑(↑j : Int).toNat : Int) ≤ (9223372036854775807 : Int)) ∧
  ((0 : Int) ≤ (↑(↑j : Int).toNat : Int) ∧
  (↑(↑j : Int).toNat : Int) ≤ (↑s.length : Int) ∧
  (↑s.length : Int) ≤ (20000 : Int) ∧
  (↑(lc s (↑j : Int).toNat).fst : Int) = (↑(lc s (↑(↑j : Int).toNat : Int).toNat).fst : Int) ∧
  (↑(lc s (↑j : Int).toNat).snd : Int) = (↑(lc s (↑(↑j : Int).toNat : Int).toNat).snd : Int)) ∧
  ((0 : Int) ≤ (↑x.to : Int) - (↑(↑j : Int).toNat : Int) ∧
  (↑(↑j : Int).toNat : Int) + ((↑x.to : Int) - (↑(↑j : Int).toNat : Int)) ≤ (↑s.length : Int)) ∧
  ((-9223372036854775808 : Int) ≤ n + (1 : Int) ∧
  n + (1 : Int) ≤ (9223372036854775807 : Int)) ∧
  N O.normal [some (V.yld (9 : Nat)), some (V.ptr (7 : Nat) (0 : Nat)), some (V.sint IntKind.i64 (n + (1 : Int)))] (15 : Nat) [some (Chunk.cells [V.ssl (14 : Nat) (0 : Nat) (m + (1 : Nat)) (6 : Nat)] (30 : Nat) (1 : Nat)), some keysC, some signsC, some (Chunk.cells ((V.sint IntKind.i64 (↑((↑(↑j : Int).toNat : Int) + ((↑x.to : Int) - (↑(↑j : Int).toNat : Int))).toNat : Int)) :: (V.sint IntKind.i64 (↑(lc s ((↑(↑j : Int).toNat : Int) + ((↑x.to : Int) - (↑(↑j : Int).toNat : Int))).toNat).fst : Int)) :: (V.sint IntKind.i64 (↑(lc s ((↑(↑j : Int).toNat : Int) + ((↑x.to : Int) - (↑(↑j : Int).toNat : Int))).toNat).snd : Int)) :: (V.sstr s) :: tl 4 5) (54 : Nat) (262 : Nat)), some (Chunk.cells [V.ptr (6 : Nat) (0 : Nat)] (48 : Nat) (1 : Nat)), some loopC, none, some (Chunk.cells [V.sint IntKind.i64 (↑x.kind : Int), V.sstr x.text, V.sint IntKind.i64 (↑j : Int), V.sint IntKind.i64 (↑x.to : Int), V.sint IntKind.i64 (↑(lc s (↑j : Int).toNat).fst : Int), V.sint IntKind.i64 (↑(lc s (↑j : Int).toNat).snd : Int)] (34 : Nat) (6 : Nat)), some (Chunk.cells [V.sint IntKind.i64 (↑x.kind : Int), V.sstr x.text, V.sint IntKind.i64 (↑j : Int), V.sint IntKind.i64 (↑x.to : Int), V.sint IntKind.i64 (↑(lc s (↑j : Int).toNat).fst : Int), V.sint IntKind.i64 (↑(lc s (↑j : Int).toNat).snd : Int)] (34 : Nat) (6 : Nat)), some (Chunk.cells [V.sint IntKind.i64 (↑x.kind : Int), V.sstr x.text, V.sint IntKind.i64 (↑j : Int), V.sint IntKind.i64 (↑x.to : Int), V.sint IntKind.i64 (↑(lc s (↑j : Int).toNat).fst : Int), V.sint IntKind.i64 (↑(lc s (↑j : Int).toNat).snd : Int)] (34 : Nat) (6 : Nat)), some (Chunk.rows (List.take m rs ++ [[V.sint IntKind.i64 (↑x.kind : Int), V.sstr x.text, V.sint IntKind.i64 (↑j : Int), V.sint IntKind.i64 (↑x.to : Int), V.sint IntKind.i64 (↑(lc s (↑j : Int).toNat).fst : Int), V.sint IntKind.i64 (↑(lc s (↑j : Int).toNat).snd : Int)]]) [Sh.int IntKind.i64, Sh.str, Sh.int IntKind.i64, Sh.int IntKind.i64, Sh.int IntKind.i64, Sh.int IntKind.i64] (34 : Nat)), none, none]))) ∧
  ∀ (e : Nat), tokF s (↑j : Int).toNat = Except.error e → N (O.panic (V.ifc (58 : Nat) (V.agg [V.sint IntKind.i64 (↑j : Int), V.int IntKind.i64 (↑e : Int)]))) [some (V.yld (9 : Nat)), some (V.ptr (7 : Nat) (0 : Nat)), some (V.sint IntKind.i64 n)] (11 : Nat) [some (Chunk.cells [V.ssl (10 : Nat) (0 : Nat) m (6 : Nat)] (30 : Nat) (1 : Nat)), some keysC, some signsC, some (Chunk.cells ((V.sint IntKind.i64 (↑(↑j : Int).toNat : Int)) :: (V.sint IntKind.i64 (↑(lc s (↑j : Int).toNat).fst : Int)) :: (V.sint IntKind.i64 (↑(lc s (↑j : Int).toNat).snd : Int)) :: (V.sstr s) :: tl 4 5) (54 : Nat) (262 : Nat)), some (Chunk.cells [V.ptr (6 : Nat) (0 : Nat)] (48 : Nat) (1 : Nat)), some loopC, some (Chunk.rows rs [Sh.int IntKind.i64, Sh.str, Sh.int IntKind.i64, Sh.int IntKind.i64, Sh.int IntKind.i64, Sh.int IntKind.i64] (34 : Nat)), none, none, none, none, none, none])) ∧
  ∀ (b : Nat), skipF s a.toNat = Except.error b → N (O.panic (V.ifc (58 : Nat) (V.agg [V.sint IntKind.i64 (↑b : Int), V.int IntKind.i64 (120 : Int)]))) [some (V.yld (9 : Nat)), some (V.ptr (7 : Nat) (0 : Nat)), some (V.sint IntKind.i64 n)] (11 : Nat) [some (Chunk.cells [V.ssl (10 : Nat) (0 : Nat) m (6 : Nat)] (30 : Nat) (1 : Nat)), some keysC, some signsC, some (Chunk.cells ((V.sint IntKind.i64 (↑b : Int)) :: (V.sint IntKind.i64 (↑(lc s b).fst : Int)) :: (V.sint IntKind.i64 (↑(lc s b).snd : Int)) :: (V.sstr s) :: tl 4 5) (54 : Nat) (262 : Nat)), some (Chunk.cells [V.ptr (6 : Nat) (0 : Nat)] (48 : Nat) (1 : Nat)), some loopC, some (Chunk.rows rs [Sh.int IntKind.i64, Sh.str, Sh.int IntKind.i64, Sh.int IntKind.i64, Sh.int IntKind.i64, Sh.int IntKind.i64] (34 : Nat)), none, none, none, none, none, none]) := by kernel_rfl
end
end Go.Proofs.YtekioipmhhcbhaaDoor
