/- Lines and columns: what lex.Where, lex.Offset and those of the reference compute, each run once by the machine over open terms. -/
import Derived.Test.YtekioipmhhcbhaaDoorM9
import Derived.Test.YtekioipmhhcbhaaDoorKp
import Derived.Test.YtekioipmhhcbhaaDoorKm
import Derived.Test.YtekioipmhhcbhaaDoorKk
set_option linter.unusedVariables false
set_option linter.unusedSimpArgs false
namespace Go.Proofs.YtekioipmhhcbhaaDoor
open Go Go.Z Go.Q Go.W6
open Go.Y hiding KE KK KR go Task go_sound
noncomputable section
def le11 (n : Int) (x : Nat) : List V := [.ptr 0 0, .sint .i64 n, .sint .i64 x]
def lm11 (s : List UInt8) (rest : List V) (ty sz : Nat) (x : Nat) : List Chunk := [.cells (.sint .i64 x :: .sint .i64 (lc s x).1 :: .sint .i64 (lc s x).2 :: .sstr s :: rest) ty sz]
def s11 (S : Nat → Nat → List Lk → List DV → V → V → V → V → V → V → Bool → Prop) (EE : Int → Int → Int → Int → V → Prop) : FI → List DV → Tr V → Mem → KK → Prop := fun fi ds env hp k => match fi.ro, env.get 0, env.get 4, env.get 5, hp.t.get 0 with | none, some (.ptr 0 0), some n, some x, some (.cells (a :: l :: c :: st :: rest) ty sz) => S fi.nt hp.n hp.ro ds n x a l c st (vins 1 rest) ∧ ∀ (n' a' l' c' : Int) (st' : V), EE n' a' l' c' st' → k (.exit 0) [] (ofE ([0,4,5].zip [.ptr 0 0, .sint .i64 n', .sint .i64 n'])) ⟨1, ofM ([0].zip [.cells (.sint .i64 a' :: .sint .i64 l' :: .sint .i64 c' :: st' :: rest) ty sz]), []⟩ | _, _, _, _, _ => False
def le13 (s : List UInt8) (a : Int) (x : Nat) : List V := [.sstr s, .sint .i64 a, .sint .i64 (fs s x).1, .sint .i64 (fs s x).2, .sint .i64 x]
def s13 : FI → List DV → Tr V → Mem → KK → Prop := fun fi ds env hp k => match Nat.beq fi.nt 36, fi.ro, ds, hp.ro, Nat.beq hp.n 0 with | true, none, [], [], true => (∃ (s : List UInt8) (a : Int), s.length ≤ 20000 ∧ 0 ≤ a ∧ a ≤ s.length ∧ fitV (pk [0,1,7,8,9] env) (le13 s a 0) ∧ k (.exit 0) [] (ofE ([0,1,7,8,9].zip (le13 s a a.toNat))) ⟨0, ofM ([].zip []), []⟩) | _, _, _, _, _ => False
def s12 : FI → List DV → Tr V → Mem → KK → Prop := fun fi ds env hp k => match Nat.beq fi.nt 55, fi.ro, ds, hp.ro, Nat.beq hp.n 0 with | true, none, [], [], true => (∃ (s : List UInt8) (line col : Int), s.length ≤ 20000 ∧ fitV (pk [0,1,2,6,7,8,9] env) [.sstr s, .sint .i64 line, .sint .i64 col, .sint .i64 0, .sint .i64 0, .sint .i64 0, .sint .i64 1] ∧ ∀ a n : Int, k .ret [] (ofE ([0,1,2,6,7,8,9].zip [.sstr s, .sint .i64 line, .sint .i64 col, .sint .i64 (offF s line col).1, .sint .i64 (offF s line col).2, .sint .i64 a, .sint .i64 n])) ⟨0, ofM ([].zip []), []⟩) | _, _, _, _, _ => False
def X14 (s : List UInt8) (line : Int) (n first i : Nat) : Prop := lineAt s n = some first ∧ first ≤ i ∧ i ≤ s.length ∧ n ≤ i ∧ (∀ j, first ≤ j → j < i → (s.getD j 0).toNat ≠ 10) ∧ ((n : Int) = 0 ∨ (n : Int) + 1 ≤ line)
def Y14 (s : List UInt8) (first last : Nat) : Prop := first ≤ last ∧ last ≤ s.length ∧ ∀ j, first ≤ j → j < last → (s.getD j 0).toNat ≠ 10
def le14 (s : List UInt8) (line col : Int) (n first i : Nat) : List V := [.sstr s, .sint .i64 line, .sint .i64 col, .sint .i64 ((n : Int) + 1), .sint .i64 first, .sint .i64 i]
def s14a : FI → List DV → Tr V → Mem → KK → Prop := fun fi ds env hp k => match Nat.beq fi.nt 61, fi.ro, ds, hp.ro, Nat.beq hp.n 0 with | true, none, [], [], true => (∃ (s : List UInt8) (line col : Int), s.length ≤ 20000 ∧ fitV (pk [0,1,2,8,9,10] env) (le14 s line col 0 0 0) ∧ ∀ n first i : Nat, X14 s line n first i → (i = s.length ∨ line ≤ (n : Int) + 1) → k (.exit 0) [] (ofE ([0,1,2,8,9,10].zip (le14 s line col n first i))) ⟨0, ofM ([].zip []), []⟩) | _, _, _, _, _ => False
def s14b : FI → List DV → Tr V → Mem → KK → Prop := fun fi ds env hp k => match Nat.beq fi.nt 61, fi.ro, ds, hp.ro, Nat.beq hp.n 0 with | true, none, [], [], true => (∃ (s : List UInt8) (line col : Int) (n first : Nat), s.length ≤ 20000 ∧ first ≤ s.length ∧ fitV (pk [0,1,2,8,9,11] env) (le14 s line col n first first) ∧ ∀ last : Nat, Y14 s first last → (last = s.length ∨ (s.getD last 0).toNat = 10) → k (.exit 2) [] (ofE ([0,1,2,8,9,11].zip (le14 s line col n first last))) ⟨0, ofM ([].zip []), []⟩) | _, _, _, _, _ => False
theorem w11_loop (s : List UInt8) (n x a l c : Int) (rest : List V) (ty sz : Nat) (N : O → List (Option V) → Nat → List (Option Chunk) → Prop) : Go.Q.go Tryd.prog ⟨⟨.nil, [], []⟩, [], []⟩ 100 (.code ⟨51, none⟩ (lp Tryd.prog 28 0) [] (ofE ([0,4,5].zip [.ptr 0 0, .sint .i64 n, .sint .i64 x])) ⟨1, ofM ([0].zip [.cells (.sint .i64 a :: .sint .i64 l :: .sint .i64 c :: .sstr s :: rest) ty sz]), []⟩ (cutK [0,4,5] [0] N)) =
  (
    True ∧
      (decide (x < n) = true →
          (IntKind.min IntKind.i64 ≤ c + (1 : Int) ∧ c + (1 : Int) ≤ IntKind.max IntKind.i64) ∧
            ((0 : Int) ≤ a ∧ a < (↑(List.length s) : Int)) ∧
              True ∧
                (decide ((↑(UInt8.toNat (List.getD s (Int.toNat a) (0 : UInt8))) : Int) = (10 : Int)) = true →
                    (IntKind.min IntKind.i64 ≤ l + (1 : Int) ∧ l + (1 : Int) ≤ IntKind.max IntKind.i64) ∧
                      (IntKind.min IntKind.i64 ≤ a + (1 : Int) ∧ a + (1 : Int) ≤ IntKind.max IntKind.i64) ∧
                        (IntKind.min IntKind.i64 ≤ x + (1 : Int) ∧ x + (1 : Int) ≤ IntKind.max IntKind.i64) ∧
                          N O.normal
                            [some (V.ptr 0 0), some (V.sint IntKind.i64 n),
                              some (V.sint IntKind.i64 (x + (1 : Int)))]
                            (1 : Nat)
                            [some
                                (Chunk.cells
                                  (V.sint IntKind.i64 (a + (1 : Int)) ::
                                    V.sint IntKind.i64 (l + (1 : Int)) ::
                                      V.int IntKind.i64 (Int.ofNat 1) :: V.sstr s :: rest)
                                  ty sz)]) ∧
                  (decide ((↑(UInt8.toNat (List.getD s (Int.toNat a) (0 : UInt8))) : Int) = (10 : Int)) = false →
                    (IntKind.min IntKind.i64 ≤ a + (1 : Int) ∧ a + (1 : Int) ≤ IntKind.max IntKind.i64) ∧
                      (IntKind.min IntKind.i64 ≤ x + (1 : Int) ∧ x + (1 : Int) ≤ IntKind.max IntKind.i64) ∧
                        N O.normal
                          [some (V.ptr 0 0), some (V.sint IntKind.i64 n),
                            some (V.sint IntKind.i64 (x + (1 : Int)))]
                          (1 : Nat)
                          [some
                              (Chunk.cells
                                (V.sint IntKind.i64 (a + (1 : Int)) ::
                                  V.sint IntKind.i64 l :: V.sint IntKind.i64 (c + (1 : Int)) :: V.sstr s :: rest)
                                ty sz)])) ∧
        (decide (x < n) = false →
          N (O.exit 0)
            [some (V.ptr 0 0), some (V.sint IntKind.i64 n), some (V.sint IntKind.i64 x)] (1 : Nat)
            [some
                (Chunk.cells (V.sint IntKind.i64 a :: V.sint IntKind.i64 l :: V.sint IntKind.i64 c :: V.sstr s :: rest) ty
                  sz)])) := by kernel_rfl
theorem w13_loop (s : List UInt8) (at_ line first x : Int) (N : O → List (Option V) → Nat → List (Option Chunk) → Prop) : Go.Q.go Tryd.prog ⟨⟨.nil, [], []⟩, [], []⟩ 100 (.code ⟨36, none⟩ (lp Tryd.prog 13 0) [] (ofE ([0,1,7,8,9].zip [.sstr s, .sint .i64 at_, .sint .i64 line, .sint .i64 first, .sint .i64 x])) ⟨0, ofM ([].zip []), []⟩ (cutK [0,1,7,8,9] [] N)) =
  (
    True ∧
      (decide (x < at_) = true →
          ((0 : Int) ≤ x ∧ x < (↑(List.length s) : Int)) ∧
            True ∧
              (decide ((↑(UInt8.toNat (List.getD s (Int.toNat x) (0 : UInt8))) : Int) = (10 : Int)) = true →
                  (IntKind.min IntKind.i64 ≤ line + (1 : Int) ∧ line + (1 : Int) ≤ IntKind.max IntKind.i64) ∧
                    (IntKind.min IntKind.i64 ≤ x + (1 : Int) ∧ x + (1 : Int) ≤ IntKind.max IntKind.i64) ∧
                      (IntKind.min IntKind.i64 ≤ x + (1 : Int) ∧ x + (1 : Int) ≤ IntKind.max IntKind.i64) ∧
                        N O.normal
                          [some (V.sstr s), some (V.sint IntKind.i64 at_), some (V.sint IntKind.i64 (line + (1 : Int))),
                            some (V.sint IntKind.i64 (x + (1 : Int))), some (V.sint IntKind.i64 (x + (1 : Int)))]
                          0 []) ∧
                (decide ((↑(UInt8.toNat (List.getD s (Int.toNat x) (0 : UInt8))) : Int) = (10 : Int)) = false →
                  (IntKind.min IntKind.i64 ≤ x + (1 : Int) ∧ x + (1 : Int) ≤ IntKind.max IntKind.i64) ∧
                    N O.normal
                      [some (V.sstr s), some (V.sint IntKind.i64 at_), some (V.sint IntKind.i64 line),
                        some (V.sint IntKind.i64 first), some (V.sint IntKind.i64 (x + (1 : Int)))]
                      0 [])) ∧
        (decide (x < at_) = false →
          N (O.exit 0)
            [some (V.sstr s), some (V.sint IntKind.i64 at_), some (V.sint IntKind.i64 line),
              some (V.sint IntKind.i64 first), some (V.sint IntKind.i64 x)]
            0 [])) := by kernel_rfl
theorem w12_loop (s : List UInt8) (line col at_ n : Int) (N : O → List (Option V) → Nat → List (Option Chunk) → Prop) : Go.Q.go Tryd.prog ⟨⟨.nil, [], []⟩, [], []⟩ 100 (.code ⟨55, none⟩ (lp Tryd.prog 12 0) [] (ofE ([0,1,2,6,7,8,9].zip [.sstr s, .sint .i64 line, .sint .i64 col, .sint .i64 0, .sint .i64 0, .sint .i64 at_, .sint .i64 n])) ⟨0, ofM ([].zip []), []⟩ (cutK [0,1,2,6,7,8,9] [] N)) =
  (
    ((0 : Int) ≤ at_ ∧ at_ ≤ (↑(List.length s) : Int)) ∧
      True ∧
        (decide (indexB (List.drop (Int.toNat at_) s) (UInt8.ofNat 10) < (0 : Int)) = true →
            True ∧
              (IntKind.min IntKind.i64 ≤ (↑(List.length s) : Int) - at_ ∧
                  (↑(List.length s) : Int) - at_ ≤ IntKind.max IntKind.i64) ∧
                True ∧
                  (decide (n = line) = true →
                      True ∧
                        (decide ((1 : Int) ≤ col) = true →
                            (IntKind.min IntKind.i64 ≤ (↑(List.length s) : Int) - at_ + (1 : Int) ∧
                                (↑(List.length s) : Int) - at_ + (1 : Int) ≤ IntKind.max IntKind.i64) ∧
                              True ∧
                                (decide (col ≤ (↑(List.length s) : Int) - at_ + (1 : Int)) = true →
                                    (IntKind.min IntKind.i64 ≤ at_ + col ∧ at_ + col ≤ IntKind.max IntKind.i64) ∧
                                      (IntKind.min IntKind.i64 ≤ at_ + col - (1 : Int) ∧
                                          at_ + col - (1 : Int) ≤ IntKind.max IntKind.i64) ∧
                                        N O.ret
                                          [some (V.sstr s), some (V.sint IntKind.i64 line), some (V.sint IntKind.i64 col),
                                            some (V.sint IntKind.i64 (at_ + col - (1 : Int))),
                                            some (V.int IntKind.i64 (Int.ofNat 0)),
                                            some (V.sint IntKind.i64 at_), some (V.sint IntKind.i64 n)]
                                          0 []) ∧
                                  (decide (col ≤ (↑(List.length s) : Int) - at_ + (1 : Int)) = false →
                                    N O.ret
                                      [some (V.sstr s), some (V.sint IntKind.i64 line), some (V.sint IntKind.i64 col),
                                        some (V.int IntKind.i64 (Int.ofNat 0)),
                                        some (V.int IntKind.i64 (Int.ofNat 5)), some (V.sint IntKind.i64 at_),
                                        some (V.sint IntKind.i64 n)]
                                      0 [])) ∧
                          (decide ((1 : Int) ≤ col) = false →
                            N O.ret
                              [some (V.sstr s), some (V.sint IntKind.i64 line), some (V.sint IntKind.i64 col),
                                some (V.int IntKind.i64 (Int.ofNat 0)),
                                some (V.int IntKind.i64 (Int.ofNat 5)), some (V.sint IntKind.i64 at_),
                                some (V.sint IntKind.i64 n)]
                              0 [])) ∧
                    (decide (n = line) = false →
                      N O.ret
                        [some (V.sstr s), some (V.sint IntKind.i64 line), some (V.sint IntKind.i64 col),
                          some (V.int IntKind.i64 (Int.ofNat 0)),
                          some (V.int IntKind.i64 (Int.ofNat 5)), some (V.sint IntKind.i64 at_),
                          some (V.sint IntKind.i64 n)]
                        0 [])) ∧
          (decide (indexB (List.drop (Int.toNat at_) s) (UInt8.ofNat 10) < (0 : Int)) = false →
            True ∧
              (decide (n = line) = true →
                  True ∧
                    (decide ((1 : Int) ≤ col) = true →
                        (IntKind.min IntKind.i64 ≤
                              indexB (List.drop (Int.toNat at_) s) (UInt8.ofNat 10) + (1 : Int) ∧
                            indexB (List.drop (Int.toNat at_) s) (UInt8.ofNat 10) + (1 : Int) ≤
                              IntKind.max IntKind.i64) ∧
                          True ∧
                            (decide (col ≤ indexB (List.drop (Int.toNat at_) s) (UInt8.ofNat 10) + (1 : Int)) =
                                  true →
                                (IntKind.min IntKind.i64 ≤ at_ + col ∧ at_ + col ≤ IntKind.max IntKind.i64) ∧
                                  (IntKind.min IntKind.i64 ≤ at_ + col - (1 : Int) ∧
                                      at_ + col - (1 : Int) ≤ IntKind.max IntKind.i64) ∧
                                    N O.ret
                                      [some (V.sstr s), some (V.sint IntKind.i64 line), some (V.sint IntKind.i64 col),
                                        some (V.sint IntKind.i64 (at_ + col - (1 : Int))),
                                        some (V.int IntKind.i64 (Int.ofNat 0)), some (V.sint IntKind.i64 at_),
                                        some (V.sint IntKind.i64 n)]
                                      0 []) ∧
                              (decide
                                    (col ≤ indexB (List.drop (Int.toNat at_) s) (UInt8.ofNat 10) + (1 : Int)) =
                                  false →
                                True ∧
                                  (decide (line ≤ n) = true →
                                      N O.ret
                                        [some (V.sstr s), some (V.sint IntKind.i64 line), some (V.sint IntKind.i64 col),
                                          some (V.int IntKind.i64 (Int.ofNat 0)),
                                          some (V.int IntKind.i64 (Int.ofNat 5)), some (V.sint IntKind.i64 at_),
                                          some (V.sint IntKind.i64 n)]
                                        0 []) ∧
                                    (decide (line ≤ n) = false →
                                      (IntKind.min IntKind.i64 ≤
                                            indexB (List.drop (Int.toNat at_) s) (UInt8.ofNat 10) + (1 : Int) ∧
                                          indexB (List.drop (Int.toNat at_) s) (UInt8.ofNat 10) + (1 : Int) ≤
                                            IntKind.max IntKind.i64) ∧
                                        (IntKind.min IntKind.i64 ≤
                                              at_ +
                                                (indexB (List.drop (Int.toNat at_) s) (UInt8.ofNat 10) +
                                                  (1 : Int)) ∧
                                            at_ +
                                                (indexB (List.drop (Int.toNat at_) s) (UInt8.ofNat 10) +
                                                  (1 : Int)) ≤
                                              IntKind.max IntKind.i64) ∧
                                          (IntKind.min IntKind.i64 ≤ n + (1 : Int) ∧
                                              n + (1 : Int) ≤ IntKind.max IntKind.i64) ∧
                                            N O.normal
                                              [some (V.sstr s), some (V.sint IntKind.i64 line),
                                                some (V.sint IntKind.i64 col),
                                                some (V.sint IntKind.i64 (Int.ofNat 0)),
                                                some (V.sint IntKind.i64 (Int.ofNat 0)),
                                                some
                                                  (V.sint IntKind.i64
                                                    (at_ +
                                                      (indexB (List.drop (Int.toNat at_) s) (UInt8.ofNat 10) +
                                                        (1 : Int)))),
                                                some (V.sint IntKind.i64 (n + (1 : Int)))]
                                              0 []))) ∧
                      (decide ((1 : Int) ≤ col) = false →
                        True ∧
                          (decide (line ≤ n) = true →
                              N O.ret
                                [some (V.sstr s), some (V.sint IntKind.i64 line), some (V.sint IntKind.i64 col),
                                  some (V.int IntKind.i64 (Int.ofNat 0)),
                                  some (V.int IntKind.i64 (Int.ofNat 5)), some (V.sint IntKind.i64 at_),
                                  some (V.sint IntKind.i64 n)]
                                0 []) ∧
                            (decide (line ≤ n) = false →
                              (IntKind.min IntKind.i64 ≤
                                    indexB (List.drop (Int.toNat at_) s) (UInt8.ofNat 10) + (1 : Int) ∧
                                  indexB (List.drop (Int.toNat at_) s) (UInt8.ofNat 10) + (1 : Int) ≤
                                    IntKind.max IntKind.i64) ∧
                                (IntKind.min IntKind.i64 ≤
                                      at_ +
                                        (indexB (List.drop (Int.toNat at_) s) (UInt8.ofNat 10) + (1 : Int)) ∧
                                    at_ + (indexB (List.drop (Int.toNat at_) s) (UInt8.ofNat 10) + (1 : Int)) ≤
                                      IntKind.max IntKind.i64) ∧
                                  (IntKind.min IntKind.i64 ≤ n + (1 : Int) ∧ n + (1 : Int) ≤ IntKind.max IntKind.i64) ∧
                                    N O.normal
                                      [some (V.sstr s), some (V.sint IntKind.i64 line), some (V.sint IntKind.i64 col),
                                        some (V.sint IntKind.i64 (Int.ofNat 0)),
                                        some (V.sint IntKind.i64 (Int.ofNat 0)),
                                        some
                                          (V.sint IntKind.i64
                                            (at_ +
                                              (indexB (List.drop (Int.toNat at_) s) (UInt8.ofNat 10) +
                                                (1 : Int)))),
                                        some (V.sint IntKind.i64 (n + (1 : Int)))]
                                      0 []))) ∧
                (decide (n = line) = false →
                  True ∧
                    (decide (line ≤ n) = true →
                        N O.ret
                          [some (V.sstr s), some (V.sint IntKind.i64 line), some (V.sint IntKind.i64 col),
                            some (V.int IntKind.i64 (Int.ofNat 0)),
                            some (V.int IntKind.i64 (Int.ofNat 5)), some (V.sint IntKind.i64 at_),
                            some (V.sint IntKind.i64 n)]
                          0 []) ∧
                      (decide (line ≤ n) = false →
                        (IntKind.min IntKind.i64 ≤
                              indexB (List.drop (Int.toNat at_) s) (UInt8.ofNat 10) + (1 : Int) ∧
                            indexB (List.drop (Int.toNat at_) s) (UInt8.ofNat 10) + (1 : Int) ≤
                              IntKind.max IntKind.i64) ∧
                          (IntKind.min IntKind.i64 ≤
                                at_ + (indexB (List.drop (Int.toNat at_) s) (UInt8.ofNat 10) + (1 : Int)) ∧
                              at_ + (indexB (List.drop (Int.toNat at_) s) (UInt8.ofNat 10) + (1 : Int)) ≤
                                IntKind.max IntKind.i64) ∧
                            (IntKind.min IntKind.i64 ≤ n + (1 : Int) ∧ n + (1 : Int) ≤ IntKind.max IntKind.i64) ∧
                              N O.normal
                                [some (V.sstr s), some (V.sint IntKind.i64 line), some (V.sint IntKind.i64 col),
                                  some (V.sint IntKind.i64 (Int.ofNat 0)),
                                  some (V.sint IntKind.i64 (Int.ofNat 0)),
                                  some
                                    (V.sint IntKind.i64
                                      (at_ +
                                        (indexB (List.drop (Int.toNat at_) s) (UInt8.ofNat 10) + (1 : Int)))),
                                  some (V.sint IntKind.i64 (n + (1 : Int)))]
                                0 [])))) := by kernel_rfl
theorem w14_loop (s : List UInt8) (line col n first i : Int) (N : O → List (Option V) → Nat → List (Option Chunk) → Prop) : Go.Q.go Tryd.prog ⟨⟨.nil, [], []⟩, [], []⟩ 100 (.code ⟨61, none⟩ (lp Tryd.prog 14 0) [] (ofE ([0,1,2,8,9,10].zip [.sstr s, .sint .i64 line, .sint .i64 col, .sint .i64 n, .sint .i64 first, .sint .i64 i])) ⟨0, ofM ([].zip []), []⟩ (cutK [0,1,2,8,9,10] [] N)) =
  (
    True ∧
      True ∧
        (decide (i < (↑(List.length s) : Int)) = true →
            True ∧
              (decide (n < line) = true →
                  ((0 : Int) ≤ i ∧ i < (↑(List.length s) : Int)) ∧
                    True ∧
                      (decide ((↑(UInt8.toNat (List.getD s (Int.toNat i) (0 : UInt8))) : Int) = (10 : Int)) = true →
                          (IntKind.min IntKind.i64 ≤ n + (1 : Int) ∧ n + (1 : Int) ≤ IntKind.max IntKind.i64) ∧
                            (IntKind.min IntKind.i64 ≤ i + (1 : Int) ∧ i + (1 : Int) ≤ IntKind.max IntKind.i64) ∧
                              (IntKind.min IntKind.i64 ≤ i + (1 : Int) ∧ i + (1 : Int) ≤ IntKind.max IntKind.i64) ∧
                                N O.normal
                                  [some (V.sstr s), some (V.sint IntKind.i64 line), some (V.sint IntKind.i64 col),
                                    some (V.sint IntKind.i64 (n + (1 : Int))), some (V.sint IntKind.i64 (i + (1 : Int))),
                                    some (V.sint IntKind.i64 (i + (1 : Int)))]
                                  0 []) ∧
                        (decide ((↑(UInt8.toNat (List.getD s (Int.toNat i) (0 : UInt8))) : Int) = (10 : Int)) = false →
                          (IntKind.min IntKind.i64 ≤ i + (1 : Int) ∧ i + (1 : Int) ≤ IntKind.max IntKind.i64) ∧
                            N O.normal
                              [some (V.sstr s), some (V.sint IntKind.i64 line), some (V.sint IntKind.i64 col),
                                some (V.sint IntKind.i64 n), some (V.sint IntKind.i64 first),
                                some (V.sint IntKind.i64 (i + (1 : Int)))]
                              0 [])) ∧
                (decide (n < line) = false →
                  N (O.exit 0)
                    [some (V.sstr s), some (V.sint IntKind.i64 line), some (V.sint IntKind.i64 col),
                      some (V.sint IntKind.i64 n), some (V.sint IntKind.i64 first), some (V.sint IntKind.i64 i)]
                    0 [])) ∧
          (decide (i < (↑(List.length s) : Int)) = false →
            N (O.exit 0)
              [some (V.sstr s), some (V.sint IntKind.i64 line), some (V.sint IntKind.i64 col),
                some (V.sint IntKind.i64 n), some (V.sint IntKind.i64 first), some (V.sint IntKind.i64 i)]
              0 [])) := by kernel_rfl
theorem w14_loop2 (s : List UInt8) (line col n first last : Int) (N : O → List (Option V) → Nat → List (Option Chunk) → Prop) : Go.Q.go Tryd.prog ⟨⟨.nil, [], []⟩, [], []⟩ 100 (.code ⟨61, none⟩ (lp Tryd.prog 14 1) [] (ofE ([0,1,2,8,9,11].zip [.sstr s, .sint .i64 line, .sint .i64 col, .sint .i64 n, .sint .i64 first, .sint .i64 last])) ⟨0, ofM ([].zip []), []⟩ (cutK [0,1,2,8,9,11] [] N)) =
  (
    True ∧
      True ∧
        (decide (last < (↑(List.length s) : Int)) = true →
            ((0 : Int) ≤ last ∧ last < (↑(List.length s) : Int)) ∧
              True ∧
                ((!decide ((↑(UInt8.toNat (List.getD s (Int.toNat last) (0 : UInt8))) : Int) = (10 : Int))) = true →
                    (IntKind.min IntKind.i64 ≤ last + (1 : Int) ∧ last + (1 : Int) ≤ IntKind.max IntKind.i64) ∧
                      N O.normal
                        [some (V.sstr s), some (V.sint IntKind.i64 line), some (V.sint IntKind.i64 col),
                          some (V.sint IntKind.i64 n), some (V.sint IntKind.i64 first),
                          some (V.sint IntKind.i64 (last + (1 : Int)))]
                        0 []) ∧
                  ((!decide ((↑(UInt8.toNat (List.getD s (Int.toNat last) (0 : UInt8))) : Int) = (10 : Int))) = false →
                    N (O.exit 2)
                      [some (V.sstr s), some (V.sint IntKind.i64 line), some (V.sint IntKind.i64 col),
                        some (V.sint IntKind.i64 n), some (V.sint IntKind.i64 first), some (V.sint IntKind.i64 last)]
                      0 [])) ∧
          (decide (last < (↑(List.length s) : Int)) = false →
            N (O.exit 2)
              [some (V.sstr s), some (V.sint IntKind.i64 line), some (V.sint IntKind.i64 col),
                some (V.sint IntKind.i64 n), some (V.sint IntKind.i64 first), some (V.sint IntKind.i64 last)]
              0 [])) := by kernel_rfl
theorem f11_eq (s : List UInt8) (at_ : Int) (K : E → Prop) (S : Nat → Nat → List Lk → List DV → V → V → V → V → V → V → Bool → Prop) (EE : Int → Int → Int → Int → V → Prop) : Go.Q.go Tryd.prog ⟨⟨.nil, [], []⟩, [], [(51001, lp Tryd.prog 28 0, s11 S EE)]⟩ 100 (.call 11 [.sstr s, .sint .i64 at_] nomem fun e _ => K e) =
  (
    True ∧
      True ∧
        (decide ((20000 : Int) < (↑(List.length s) : Int)) = true →
            K
              (E.ret
                (V.tup
                  [V.int IntKind.i64 (Int.ofNat 0), V.int IntKind.i64 (Int.ofNat 0),
                    V.int IntKind.i64 (Int.ofNat 3)]))) ∧
          (decide ((20000 : Int) < (↑(List.length s) : Int)) = false →
            True ∧
              (decide (at_ < (0 : Int)) = true →
                  K
                    (E.ret
                      (V.tup
                        [V.int IntKind.i64 (Int.ofNat 0), V.int IntKind.i64 (Int.ofNat 0),
                          V.int IntKind.i64 (Int.ofNat 1)]))) ∧
                (decide (at_ < (0 : Int)) = false →
                  True ∧
                    True ∧
                      (decide ((↑(List.length s) : Int) < at_) = true →
                          K
                            (E.ret
                              (V.tup
                                [V.int IntKind.i64 (Int.ofNat 0), V.int IntKind.i64 (Int.ofNat 0),
                                  V.int IntKind.i64 (Int.ofNat 1)]))) ∧
                        (decide ((↑(List.length s) : Int) < at_) = false →
                          lp Tryd.prog (28 : Nat) (0 : Nat) = lp Tryd.prog (28 : Nat) (0 : Nat) ∧
                            S 51 (1 : Nat) [] [] (V.sint IntKind.i64 at_)
                                (V.int IntKind.i64 (Int.ofNat 0)) (V.int IntKind.i64 (Int.ofNat 0))
                                (V.int IntKind.i64 (Int.ofNat 1)) (V.int IntKind.i64 (Int.ofNat 1))
                                (V.sstr s) true ∧
                              ∀ (n' a' l' c' : Int) (st' : V),
                                EE n' a' l' c' st' →
                                  K
                                    (E.ret
                                      (V.tup
                                        [V.sint IntKind.i64 l', V.sint IntKind.i64 c',
                                          V.int IntKind.i64 (Int.ofNat 0)])))))) := by kernel_rfl
theorem f13_eq (s : List UInt8) (at_ : Int) (K : E → Prop) : Go.Q.go Tryd.prog ⟨⟨.nil, [], []⟩, [], [(36006, lp Tryd.prog 13 0, s13)]⟩ 100 (.call 13 [.sstr s, .sint .i64 at_] nomem fun e _ => K e) =
  (
    True ∧
      (decide (at_ < (0 : Int)) = true →
          K
            (E.ret
              (V.tup
                [V.int IntKind.i64 (Int.ofNat 0), V.int IntKind.i64 (Int.ofNat 0),
                  V.int IntKind.i64 (Int.ofNat 1)]))) ∧
        (decide (at_ < (0 : Int)) = false →
          True ∧
            True ∧
              (decide ((↑(List.length s) : Int) < at_) = true →
                  K
                    (E.ret
                      (V.tup
                        [V.int IntKind.i64 (Int.ofNat 0), V.int IntKind.i64 (Int.ofNat 0),
                          V.int IntKind.i64 (Int.ofNat 1)]))) ∧
                (decide ((↑(List.length s) : Int) < at_) = false →
                  lp Tryd.prog (13 : Nat) (0 : Nat) = lp Tryd.prog (13 : Nat) (0 : Nat) ∧
                    ∃ (s_1 : List UInt8),
                      ∃ (a : Int),
                        List.length s_1 ≤ (20000 : Nat) ∧
                          (0 : Int) ≤ a ∧
                            a ≤ (↑(List.length s_1) : Int) ∧
                              (s = s_1 ∧
                                  (IntKind.i64 = IntKind.i64 ∧ at_ = a) ∧
                                    (IntKind.i64 = IntKind.i64 ∧ (1 : Int) = (↑(Prod.fst (fs s_1 (0 : Nat))) : Int)) ∧
                                      (IntKind.i64 = IntKind.i64 ∧ (0 : Int) = (↑(Prod.snd (fs s_1 (0 : Nat))) : Int)) ∧
                                        (IntKind.i64 = IntKind.i64 ∧ (0 : Int) = (↑(0 : Nat) : Int)) ∧ True) ∧
                                (IntKind.min IntKind.i64 ≤ a - (↑(Prod.snd (fs s_1 (Int.toNat a))) : Int) ∧
                                    a - (↑(Prod.snd (fs s_1 (Int.toNat a))) : Int) ≤ IntKind.max IntKind.i64) ∧
                                  (IntKind.min IntKind.i64 ≤ a - (↑(Prod.snd (fs s_1 (Int.toNat a))) : Int) + (1 : Int) ∧
                                      a - (↑(Prod.snd (fs s_1 (Int.toNat a))) : Int) + (1 : Int) ≤
                                        IntKind.max IntKind.i64) ∧
                                    K
                                      (E.ret
                                        (V.tup
                                          [V.sint IntKind.i64 (↑(Prod.fst (fs s_1 (Int.toNat a))) : Int),
                                            V.sint IntKind.i64
                                              (a - (↑(Prod.snd (fs s_1 (Int.toNat a))) : Int) + (1 : Int)),
                                            V.int IntKind.i64 (Int.ofNat 0)]))))) := by kernel_rfl
theorem f12_eq (s : List UInt8) (line col : Int) (K : E → Prop) : Go.Q.go Tryd.prog ⟨⟨.nil, [], []⟩, [], [(55006, lp Tryd.prog 12 0, s12)]⟩ 100 (.call 12 [.sstr s, .sint .i64 line, .sint .i64 col] nomem fun e _ => K e) =
  (
    True ∧
      True ∧
        (decide ((20000 : Int) < (↑(List.length s) : Int)) = true →
            K (E.ret (V.tup [V.int IntKind.i64 (Int.ofNat 0), V.int IntKind.i64 (Int.ofNat 3)]))) ∧
          (decide ((20000 : Int) < (↑(List.length s) : Int)) = false →
            lp Tryd.prog (12 : Nat) (0 : Nat) = lp Tryd.prog (12 : Nat) (0 : Nat) ∧
              ∃ (s_1 : List UInt8),
                ∃ (line_1 : Int),
                  ∃ (col_1 : Int),
                    List.length s_1 ≤ (20000 : Nat) ∧
                      (s = s_1 ∧
                          (IntKind.i64 = IntKind.i64 ∧ line = line_1) ∧
                            (IntKind.i64 = IntKind.i64 ∧ col = col_1) ∧
                              (IntKind.i64 = IntKind.i64 ∧ (0 : Int) = (0 : Int)) ∧
                                (IntKind.i64 = IntKind.i64 ∧ (0 : Int) = (0 : Int)) ∧
                                  (IntKind.i64 = IntKind.i64 ∧ (0 : Int) = (0 : Int)) ∧
                                    (IntKind.i64 = IntKind.i64 ∧ (1 : Int) = (1 : Int)) ∧ True) ∧
                        ∀ (a n : Int),
                          K
                            (E.ret
                              (V.tup
                                [V.sint IntKind.i64 (Prod.fst (offF s_1 line_1 col_1)),
                                  V.sint IntKind.i64 (Prod.snd (offF s_1 line_1 col_1))])))) := by kernel_rfl
theorem f14_eq (s : List UInt8) (line col : Int) (K : E → Prop) : Go.Q.go Tryd.prog ⟨⟨.nil, [], []⟩, [], [(61004, lp Tryd.prog 14 0, s14a), (61012, lp Tryd.prog 14 1, s14b)]⟩ 100 (.call 14 [.sstr s, .sint .i64 line, .sint .i64 col] nomem fun e _ => K e) =
  (
    lp Tryd.prog (14 : Nat) (0 : Nat) = lp Tryd.prog (14 : Nat) (0 : Nat) ∧
      ∃ (s_1 : List UInt8),
        ∃ (line_1 : Int),
          ∃ (col_1 : Int),
            List.length s_1 ≤ (20000 : Nat) ∧
              (s = s_1 ∧
                  (IntKind.i64 = IntKind.i64 ∧ line = line_1) ∧
                    (IntKind.i64 = IntKind.i64 ∧ col = col_1) ∧
                      (IntKind.i64 = IntKind.i64 ∧ (1 : Int) = (↑(0 : Nat) : Int) + (1 : Int)) ∧
                        (IntKind.i64 = IntKind.i64 ∧ (0 : Int) = (↑(0 : Nat) : Int)) ∧
                          (IntKind.i64 = IntKind.i64 ∧ (0 : Int) = (↑(0 : Nat) : Int)) ∧ True) ∧
                ∀ (n first i : Nat),
                  X14 s_1 line_1 n first i →
                    i = List.length s_1 ∨ line_1 ≤ (↑n : Int) + (1 : Int) →
                      True ∧
                        ((!decide ((↑n : Int) + (1 : Int) = line_1)) = true →
                            K
                              (E.ret
                                (V.tup
                                  [V.int IntKind.i64 (Int.ofNat 0),
                                    V.int IntKind.i64 (Int.ofNat 5)]))) ∧
                          ((!decide ((↑n : Int) + (1 : Int) = line_1)) = false →
                            True ∧
                              (decide (col_1 < (1 : Int)) = true →
                                  K
                                    (E.ret
                                      (V.tup
                                        [V.int IntKind.i64 (Int.ofNat 0),
                                          V.int IntKind.i64 (Int.ofNat 5)]))) ∧
                                (decide (col_1 < (1 : Int)) = false →
                                  lp Tryd.prog (14 : Nat) (1 : Nat) = lp Tryd.prog (14 : Nat) (1 : Nat) ∧
                                    ∃ (s : List UInt8),
                                      ∃ (line : Int),
                                        ∃ (col : Int),
                                          ∃ (n_1 : Nat),
                                            ∃ (first_1 : Nat),
                                              List.length s ≤ (20000 : Nat) ∧
                                                first_1 ≤ List.length s ∧
                                                  (s_1 = s ∧
                                                      (IntKind.i64 = IntKind.i64 ∧ line_1 = line) ∧
                                                        (IntKind.i64 = IntKind.i64 ∧ col_1 = col) ∧
                                                          (IntKind.i64 = IntKind.i64 ∧
                                                              (↑n : Int) + (1 : Int) = (↑n_1 : Int) + (1 : Int)) ∧
                                                            (IntKind.i64 = IntKind.i64 ∧
                                                                (↑first : Int) = (↑first_1 : Int)) ∧
                                                              (IntKind.i64 = IntKind.i64 ∧
                                                                  (↑first : Int) = (↑first_1 : Int)) ∧
                                                                True) ∧
                                                    ∀ (last : Nat),
                                                      Y14 s first_1 last →
                                                        last = List.length s ∨
                                                            UInt8.toNat (List.getD s last (0 : UInt8)) = (10 : Nat) →
                                                          (IntKind.min IntKind.i64 ≤ (↑last : Int) - (↑first_1 : Int) ∧
                                                              (↑last : Int) - (↑first_1 : Int) ≤
                                                                IntKind.max IntKind.i64) ∧
                                                            (IntKind.min IntKind.i64 ≤
                                                                  (↑last : Int) - (↑first_1 : Int) + (1 : Int) ∧
                                                                (↑last : Int) - (↑first_1 : Int) + (1 : Int) ≤
                                                                  IntKind.max IntKind.i64) ∧
                                                              True ∧
                                                                (decide
                                                                        ((↑last : Int) - (↑first_1 : Int) + (1 : Int) <
                                                                          col) =
                                                                      true →
                                                                    K
                                                                      (E.ret
                                                                        (V.tup
                                                                          [V.int IntKind.i64 (Int.ofNat 0),
                                                                            V.int IntKind.i64
                                                                              (Int.ofNat 5)]))) ∧
                                                                  (decide
                                                                        ((↑last : Int) - (↑first_1 : Int) + (1 : Int) <
                                                                          col) =
                                                                      false →
                                                                    (IntKind.min IntKind.i64 ≤ (↑first_1 : Int) + col ∧
                                                                        (↑first_1 : Int) + col ≤
                                                                          IntKind.max IntKind.i64) ∧
                                                                      (IntKind.min IntKind.i64 ≤
                                                                            (↑first_1 : Int) + col - (1 : Int) ∧
                                                                          (↑first_1 : Int) + col - (1 : Int) ≤
                                                                            IntKind.max IntKind.i64) ∧
                                                                        K
                                                                          (E.ret
                                                                            (V.tup
                                                                              [V.sint IntKind.i64
                                                                                  ((↑first_1 : Int) + col - (1 : Int)),
                                                                                V.int IntKind.i64
                                                                                  (Int.ofNat 0)])))))) := by kernel_rfl
end
end Go.Proofs.YtekioipmhhcbhaaDoor
namespace Go.Proofs.YtekioipmhhcbhaaDoor
open Go Go.Z Go.Q Go.W6
open Go.Y hiding KE KK KR go Task go_sound
noncomputable section
theorem imin : IntKind.min .i64 = -9223372036854775808 := rfl
theorem imax : IntKind.max .i64 = 9223372036854775807 := rfl
def whereF (s : List UInt8) (a : Int) : Int × Int × Int :=
  if 20000 < s.length then (0, 0, 3) else if a < 0 ∨ (s.length : Int) < a then (0, 0, 1) else ((lc s a.toNat).1, (lc s a.toNat).2, 0)
def whereR (s : List UInt8) (a : Int) : List V := [.sint .i64 (whereF s a).1, .sint .i64 (whereF s a).2.1, .sint .i64 (whereF s a).2.2]
def offsetF (s : List UInt8) (line col : Int) : Int × Int := if 20000 < s.length then (0, 3) else offF s line col
def offsetR (s : List UInt8) (line col : Int) : List V := [.sint .i64 (offsetF s line col).1, .sint .i64 (offsetF s line col).2]
def S11 (s : List UInt8) (at_ : Int) (nt hn : Nat) (ro : List Lk) (ds : List DV) (n x a l c st : V) (b : Bool) : Prop :=
  nt = 51 ∧ hn = 1 ∧ ro = [] ∧ ds = [] ∧ vle n (.sint .i64 at_) ∧ vle x (.sint .i64 (0 : Nat)) ∧ vle a (.sint .i64 (0 : Nat)) ∧ vle l (.sint .i64 (lc s 0).1) ∧ vle c (.sint .i64 (lc s 0).2) ∧ vle st (.sstr s) ∧ b = true ∧ 0 ≤ at_ ∧ at_ ≤ s.length ∧ s.length ≤ 20000
def E11 (s : List UInt8) (at_ : Int) (n a l c : Int) (st : V) : Prop := n = at_ ∧ a = at_ ∧ l = (lc s at_.toNat).1 ∧ c = (lc s at_.toNat).2 ∧ st = .sstr s
theorem s11_ok (s : List UInt8) (at_ : Int) {gf gl} : ∀ fi ds env hp k, s11 (S11 s at_) (E11 s at_) fi ds env hp k → TaskOk Tryd.prog ⟨⟨.nil, [], []⟩, gf, gl⟩ (.code fi (.loop (lp Tryd.prog 28 0)) ds env hp k) := by
  intro fi ds env hp k h
  unfold s11 at h
  split at h
  · rename_i hfr n x a l c st rest ty sz hfi h0 h4 h5 hm
    obtain ⟨⟨e1, e2, e3, e4, vn, vx, va, vl, vc, vst, hb, g1, g2, g3⟩, hk⟩ := h
    obtain ⟨nt, ro⟩ := fi
    obtain ⟨hn, ht, hro⟩ := hp
    dsimp only at e1 e2 e3 e4 hfi hm h0
    subst e1 e2 e3 e4 hfi
    refine loop_cut [0, 4, 5] [0] (le11 at_) (lm11 s rest ty sz) (fun x => (x : Int) ≤ at_) (fun x => at_.toNat - x) 0 (by simpa using g1) rfl rfl rfl (fun x => rfl) (fun x => ?_) ?_ ?_ ?_
    · show chins 1 (lm11 s rest ty sz x) = true
      simp only [lm11, chins, chin, vins, vin, hb]
    · simp only [pk, h0, h4, h5, le11, fitV]
      exact ⟨vle_refl _, vn, vx, trivial⟩
    · simp only [pk, hm, lm11, fitC, chle, vles]
      exact ⟨⟨trivial, trivial, va, vl, vc, vst, vles_refl _⟩, trivial⟩
    · intro x hx
      have hx : (x : Int) ≤ at_ := hx
      have t := go_sound (G := ⟨⟨.nil, [], []⟩, [], []⟩) qmix qNG known_nil (fs_none rfl) (ls_none rfl) 100 _ (by
        rw [show Go.Q.go Tryd.prog ⟨⟨.nil, [], []⟩, [], []⟩ 100 (.code ⟨51, none⟩ (lp Tryd.prog 28 0) [] (ofE ([0, 4, 5].zip (le11 at_ x))) ⟨1, ofM ([0].zip (lm11 s rest ty sz x)), []⟩ (cutK [0, 4, 5] [0] (rN [0, 4, 5] [0] (le11 at_) (lm11 s rest ty sz) 1 (fun x => (x : Int) ≤ at_) (fun x => at_.toNat - x) k x))) = _ from w11_loop s at_ x x (lc s x).1 (lc s x).2 rest ty sz _]
        have b := lc_le s x
        have step : lc s (x + 1) = if (s.getD x 0).toNat = 10 then ((lc s x).1 + 1, 1) else ((lc s x).1, (lc s x).2 + 1) := rfl
        simp only [imin, imax, decide_eq_true_eq, decide_eq_false_iff_not, Int.toNat_natCast]
        refine ⟨trivial, fun h => ⟨by omega, by omega, trivial, fun h2 => ⟨by omega, by omega, by omega, ?_⟩, fun h2 => ⟨by omega, by omega, ?_⟩⟩, fun h => ?_⟩
        · have h2 : (s.getD x 0).toNat = 10 := by exact_mod_cast h2
          rw [if_pos h2] at step
          refine ⟨Nat.le_refl _, x + 1, by push_cast; omega, (by show at_.toNat - (x + 1) < at_.toNat - x; omega), ⟨vle_refl _, vle_refl _, ⟨rfl, by push_cast; rfl⟩, trivial⟩, ?_, trivial⟩
          simp only [chle, vles, vle, step, vles_refl]
          push_cast; simp
        · have h2 : ¬ (s.getD x 0).toNat = 10 := by exact_mod_cast h2
          rw [if_neg h2] at step
          refine ⟨Nat.le_refl _, x + 1, by push_cast; omega, (by show at_.toNat - (x + 1) < at_.toNat - x; omega), ⟨vle_refl _, vle_refl _, ⟨rfl, by push_cast; rfl⟩, trivial⟩, ?_, trivial⟩
          simp only [chle, vles, vle, step, vles_refl]
          push_cast; simp
        · have e : (x : Int) = at_ := by omega
          have e2 : x = at_.toNat := by omega
          refine ⟨[.ptr 0 0, .sint .i64 at_, .sint .i64 at_], [.cells (.sint .i64 at_ :: .sint .i64 (lc s x).1 :: .sint .i64 (lc s x).2 :: .sstr s :: rest) ty sz], Nat.le_refl _, rfl, rfl, ?_, ⟨vle_refl _, vle_refl _, ⟨rfl, e⟩, trivial⟩, ?_, ?_⟩
          · simp only [chins, chin, vins, vin, hb]
          · simp only [fitC, chle, vles, vle, vles_refl, e]
            simp
          · exact hk _ _ _ _ _ ⟨rfl, rfl, by rw [e2], by rw [e2], rfl⟩)
      exact t
  · exact h.elim
theorem where_run (s : List UInt8) (a : Int) : TaskOk Tryd.prog ⟨⟨.nil, [], []⟩, [], [(51001, lp Tryd.prog 28 0, s11 (S11 s a) (E11 s a))]⟩ (.call 11 [.sstr s, .sint .i64 a] nomem fun e _ => retT (whereR s a) e) := by
  refine go_sound qmix qNG known_nil (fs_none rfl) (ls_one rfl (s11_ok s a)) 100 _ ?_
  rw [f11_eq]
  refine ⟨trivial, trivial, fun h => ?_, fun h => ⟨trivial, fun h1 => ?_, fun h1 => ⟨trivial, trivial, fun h2 => ?_, fun h2 => ⟨rfl, ?_, fun n' a' l' c' st' he => ?_⟩⟩⟩⟩
  · replace h := of_decide_eq_true h
    have e : whereF s a = (0, 0, 3) := by unfold whereF; rw [if_pos (by omega)]
    simp only [retT, whereR, e, vles, vle]; simp
  · replace h := of_decide_eq_false h
    replace h1 := of_decide_eq_true h1
    have e : whereF s a = (0, 0, 1) := by unfold whereF; rw [if_neg (by omega), if_pos (by omega)]
    simp only [retT, whereR, e, vles, vle]; simp
  · replace h := of_decide_eq_false h
    replace h1 := of_decide_eq_false h1
    replace h2 := of_decide_eq_true h2
    have e : whereF s a = (0, 0, 1) := by unfold whereF; rw [if_neg (by omega), if_pos (by omega)]
    simp only [retT, whereR, e, vles, vle]; simp
  · replace h := of_decide_eq_false h
    replace h1 := of_decide_eq_false h1
    replace h2 := of_decide_eq_false h2
    exact ⟨rfl, rfl, rfl, rfl, vle_refl _, ⟨rfl, rfl⟩, ⟨rfl, rfl⟩, ⟨rfl, rfl⟩, ⟨rfl, rfl⟩, vle_refl _, rfl, by omega, by omega, by omega⟩
  · replace h := of_decide_eq_false h
    replace h1 := of_decide_eq_false h1
    replace h2 := of_decide_eq_false h2
    have e : whereF s a = (((lc s a.toNat).1 : Int), ((lc s a.toNat).2 : Int), (0 : Int)) := by unfold whereF; rw [if_neg (by omega), if_neg (by omega)]
    obtain ⟨_, _, e3, e4, _⟩ := he
    simp only [retT, whereR, e, vles, vle, e3, e4]; simp
theorem s13_ok {gf gl} : ∀ fi ds env hp k, s13 fi ds env hp k → TaskOk Tryd.prog ⟨⟨.nil, [], []⟩, gf, gl⟩ (.code fi (.loop (lp Tryd.prog 13 0)) ds env hp k) := by
  intro fi ds env hp k h
  unfold s13 at h
  split at h
  · rename_i h1 h2 h3 h4
    obtain ⟨s, a, g1, g2, g3, g4, hk⟩ := h
    obtain ⟨nt, ro⟩ := fi
    obtain ⟨hn, ht, hro⟩ := hp
    replace h1 := Nat.eq_of_beq_eq_true h1
    replace h4 := Nat.eq_of_beq_eq_true h4
    dsimp only at h1 h2 h3 h4
    subst h1 h2 h3 h4
    refine loop_cut [0, 1, 7, 8, 9] [] (le13 s a) (fun _ => []) (fun x => (x : Int) ≤ a) (fun x => a.toNat - x) 0 (by simpa using g2) rfl rfl rfl (fun x => rfl) (fun x => rfl) g4 trivial ?_
    intro x hx
    have hx : (x : Int) ≤ a := hx
    have t := go_sound (G := ⟨⟨.nil, [], []⟩, [], []⟩) qmix qNG known_nil (fs_none rfl) (ls_none rfl) 100 (.code ⟨36, none⟩ (lp Tryd.prog 13 0) [] (ofE ([0, 1, 7, 8, 9].zip (le13 s a x))) ⟨0, ofM ([].zip []), []⟩ (cutK [0, 1, 7, 8, 9] [] (rN [0, 1, 7, 8, 9] [] (le13 s a) (fun _ => []) 0 (fun x => (x : Int) ≤ a) (fun x => a.toNat - x) k x))) ?_
    · exact t
    rw [show Go.Q.go Tryd.prog ⟨⟨.nil, [], []⟩, [], []⟩ 100 (.code ⟨36, none⟩ (lp Tryd.prog 13 0) [] (ofE ([0, 1, 7, 8, 9].zip (le13 s a x))) ⟨0, ofM ([].zip []), []⟩ (cutK [0, 1, 7, 8, 9] [] (rN [0, 1, 7, 8, 9] [] (le13 s a) (fun _ => []) 0 (fun x => (x : Int) ≤ a) (fun x => a.toNat - x) k x))) = _ from w13_loop s a (fs s x).1 (fs s x).2 x _]
    have b := fs_le s x
    have step : fs s (x + 1) = if (s.getD x 0).toNat = 10 then ((fs s x).1 + 1, x + 1) else fs s x := rfl
    simp only [imin, imax, decide_eq_true_eq, decide_eq_false_iff_not, Int.toNat_natCast]
    refine ⟨trivial, fun h => ⟨by omega, trivial, fun h2 => ⟨by omega, by omega, by omega, ?_⟩, fun h2 => ⟨by omega, ?_⟩⟩, fun h => ?_⟩
    · have h2 : (s.getD x 0).toNat = 10 := by exact_mod_cast h2
      rw [if_pos h2] at step
      refine ⟨Nat.le_refl _, x + 1, by push_cast; omega, (by show a.toNat - (x + 1) < a.toNat - x; omega), ?_, trivial⟩
      simp only [fitV, le13, vle, step]
      push_cast; simp
    · have h2 : ¬ (s.getD x 0).toNat = 10 := by exact_mod_cast h2
      rw [if_neg h2] at step
      refine ⟨Nat.le_refl _, x + 1, by push_cast; omega, (by show a.toNat - (x + 1) < a.toNat - x; omega), ?_, trivial⟩
      simp only [fitV, le13, vle, step]
      push_cast; simp
    · have e2 : x = a.toNat := by omega
      refine ⟨le13 s a a.toNat, [], Nat.le_refl _, rfl, rfl, rfl, ?_, trivial, hk⟩
      rw [← e2]
      exact ⟨vle_refl _, vle_refl _, vle_refl _, vle_refl _, vle_refl _, trivial⟩
  · exact h.elim
theorem rwhere_run (s : List UInt8) (a : Int) (hs : s.length ≤ 20000) : TaskOk Tryd.prog ⟨⟨.nil, [], []⟩, [], [(36006, lp Tryd.prog 13 0, s13)]⟩ (.call 13 [.sstr s, .sint .i64 a] nomem fun e _ => retT (whereR s a) e) := by
  refine go_sound qmix qNG known_nil (fs_none rfl) (ls_one rfl s13_ok) 100 _ ?_
  rw [f13_eq]
  refine ⟨trivial, fun h1 => ?_, fun h1 => ⟨trivial, trivial, fun h2 => ?_, fun h2 => ?_⟩⟩
  · replace h1 := of_decide_eq_true h1
    have e : whereF s a = (0, 0, 1) := by unfold whereF; rw [if_neg (by omega), if_pos (by omega)]
    simp only [retT, whereR, e, vles, vle]; simp
  · replace h1 := of_decide_eq_false h1
    replace h2 := of_decide_eq_true h2
    have e : whereF s a = (0, 0, 1) := by unfold whereF; rw [if_neg (by omega), if_pos (by omega)]
    simp only [retT, whereR, e, vles, vle]; simp
  · replace h1 := of_decide_eq_false h1
    replace h2 := of_decide_eq_false h2
    have e : whereF s a = (((lc s a.toNat).1 : Int), ((lc s a.toNat).2 : Int), (0 : Int)) := by unfold whereF; rw [if_neg (by omega), if_neg (by omega)]
    have b := fs_le s a.toNat
    refine ⟨rfl, s, a, hs, by omega, by omega, ⟨rfl, ⟨rfl, rfl⟩, ⟨rfl, rfl⟩, ⟨rfl, rfl⟩, ⟨rfl, rfl⟩, trivial⟩, ⟨?_, ?_⟩, ⟨?_, ?_⟩, ?_⟩ <;> (try (rw [imin])) <;> (try (rw [imax])) <;> (try omega)
    simp only [retT, whereR, e, vles, vle, lc_fs]
    refine ⟨⟨trivial, trivial⟩, ⟨trivial, ?_⟩, ⟨trivial, rfl⟩, trivial⟩
    omega
end
end Go.Proofs.YtekioipmhhcbhaaDoor
namespace Go.Proofs.YtekioipmhhcbhaaDoor
open Go Go.Z Go.Q Go.W6
open Go.Y hiding KE KK KR go Task go_sound
noncomputable section
structure I12 where
  a : Nat
  n : Nat
def le12 (s : List UInt8) (line col : Int) (x : I12) : List V := [.sstr s, .sint .i64 line, .sint .i64 col, .sint .i64 0, .sint .i64 0, .sint .i64 x.a, .sint .i64 ((x.n : Int) + 1)]
def P12 (s : List UInt8) (line : Int) (x : I12) : Prop := lineAt s x.n = some x.a ∧ x.n ≤ x.a ∧ ((x.n : Int) = 0 ∨ (x.n : Int) + 1 ≤ line)
theorem indexB_some {l : List UInt8} {i : Nat} (h : idxB 10 l 0 = some i) : indexB l (UInt8.ofNat 10) = (i : Int) := by
  unfold indexB; rw [show (UInt8.ofNat 10) = 10 from rfl, h]; rfl
theorem indexB_none {l : List UInt8} (h : idxB 10 l 0 = none) : indexB l (UInt8.ofNat 10) = -1 := by
  unfold indexB; rw [show (UInt8.ofNat 10) = 10 from rfl, h]
theorem leave12 {s : List UInt8} {line col : Int} {k : KK} {x : I12} {r e : Int} {v w : V} (hk : ∀ a n : Int, k .ret [] (ofE ([0,1,2,6,7,8,9].zip [.sstr s, .sint .i64 line, .sint .i64 col, .sint .i64 (offF s line col).1, .sint .i64 (offF s line col).2, .sint .i64 a, .sint .i64 n])) ⟨0, ofM ([].zip []), []⟩)
    (hr : offF s line col = (r, e)) (hv : vle v (.sint .i64 r)) (hw : vle w (.sint .i64 e)) (y z : Int) :
    rN [0,1,2,6,7,8,9] [] (le12 s line col) (fun _ => []) 0 (P12 s line) (fun x => s.length - x.a) k x .ret [some (.sstr s), some (.sint .i64 line), some (.sint .i64 col), some v, some w, some (.sint .i64 y), some (.sint .i64 z)] 0 [] := by
  have := hk y z
  rw [hr] at this
  exact ⟨[.sstr s, .sint .i64 line, .sint .i64 col, .sint .i64 r, .sint .i64 e, .sint .i64 y, .sint .i64 z], [], Nat.le_refl _, rfl, rfl, rfl, ⟨vle_refl _, vle_refl _, vle_refl _, hv, hw, vle_refl _, vle_refl _, trivial⟩, trivial, this⟩
theorem next12 {s : List UInt8} {line col : Int} {k : KK} {x : I12} {i : Nat} (hx : P12 s line x) (hi : idxB 10 (s.drop x.a) 0 = some i) (hl : (x.n : Int) + 1 < line) {v w : V} (hv : vle v (.sint .i64 0)) (hw : vle w (.sint .i64 0)) {y z : Int} (hy : y = x.a + (i + 1)) (hz : z = (x.n : Int) + 1 + 1) :
    rN [0,1,2,6,7,8,9] [] (le12 s line col) (fun _ => []) 0 (P12 s line) (fun x => s.length - x.a) k x .normal [some (.sstr s), some (.sint .i64 line), some (.sint .i64 col), some v, some w, some (.sint .i64 y), some (.sint .i64 z)] 0 [] := by
  obtain ⟨h1, h2, h3⟩ := hx
  have hlt := (idx_line hi).1
  refine ⟨Nat.le_refl _, ⟨x.a + i + 1, x.n + 1⟩, ⟨?_, ?_, .inr ?_⟩, ?_, ⟨vle_refl _, vle_refl _, vle_refl _, hv, hw, ⟨rfl, ?_⟩, ⟨rfl, ?_⟩, trivial⟩, trivial⟩
  · show lineAt s (x.n + 1) = _
    rw [lineAt, h1]; simp only [hi]
  · show x.n + 1 ≤ x.a + i + 1; omega
  · show ((x.n + 1 : Nat) : Int) + 1 ≤ line; omega
  · show s.length - (x.a + i + 1) < s.length - x.a; omega
  · show y = ((x.a + i + 1 : Nat) : Int); omega
  · show z = ((x.n + 1 : Nat) : Int) + 1; omega
theorem s12_ok {gf gl} : ∀ fi ds env hp k, s12 fi ds env hp k → TaskOk Tryd.prog ⟨⟨.nil, [], []⟩, gf, gl⟩ (.code fi (.loop (lp Tryd.prog 12 0)) ds env hp k) := by
  intro fi ds env hp k h
  unfold s12 at h
  split at h
  · rename_i h1 h2 h3 h4
    obtain ⟨s, line, col, g1, g4, hk⟩ := h
    obtain ⟨nt, ro⟩ := fi
    obtain ⟨hn, ht, hro⟩ := hp
    replace h1 := Nat.eq_of_beq_eq_true h1
    replace h4 := Nat.eq_of_beq_eq_true h4
    dsimp only at h1 h2 h3 h4
    subst h1 h2 h3 h4
    refine loop_cut [0, 1, 2, 6, 7, 8, 9] [] (le12 s line col) (fun _ => []) (P12 s line) (fun x => s.length - x.a) ⟨0, 0⟩ ⟨rfl, Nat.le_refl _, .inl rfl⟩ rfl rfl rfl (fun x => rfl) (fun x => rfl) g4 trivial ?_
    intro x hx
    have t := go_sound (G := ⟨⟨.nil, [], []⟩, [], []⟩) qmix qNG known_nil (fs_none rfl) (ls_none rfl) 100 (.code ⟨55, none⟩ (lp Tryd.prog 12 0) [] (ofE ([0, 1, 2, 6, 7, 8, 9].zip (le12 s line col x))) ⟨0, ofM ([].zip []), []⟩ (cutK [0, 1, 2, 6, 7, 8, 9] [] (rN [0, 1, 2, 6, 7, 8, 9] [] (le12 s line col) (fun _ => []) 0 (P12 s line) (fun x => s.length - x.a) k x))) ?_
    · exact t
    rw [show Go.Q.go Tryd.prog ⟨⟨.nil, [], []⟩, [], []⟩ 100 (.code ⟨55, none⟩ (lp Tryd.prog 12 0) [] (ofE ([0, 1, 2, 6, 7, 8, 9].zip (le12 s line col x))) ⟨0, ofM ([].zip []), []⟩ (cutK [0, 1, 2, 6, 7, 8, 9] [] (rN [0, 1, 2, 6, 7, 8, 9] [] (le12 s line col) (fun _ => []) 0 (P12 s line) (fun x => s.length - x.a) k x))) = _ from w12_loop s line col x.a ((x.n : Int) + 1) _]
    obtain ⟨p1, p2, p3⟩ := hx
    have hle := lineAt_le p1
    have v0 : vle (.int .i64 (.ofNat 0)) (.sint .i64 0) := ⟨rfl, rfl⟩
    have v5 : vle (.int .i64 (.ofNat 5)) (.sint .i64 5) := ⟨rfl, rfl⟩
    have v0' : vle (.sint .i64 (.ofNat 0)) (.sint .i64 0) := ⟨rfl, rfl⟩
    simp only [imin, imax, decide_eq_true_eq, decide_eq_false_iff_not, Int.toNat_natCast]
    cases hi : idxB 10 (s.drop x.a) 0 with
    | none =>
      have hL : longAt s x.a = s.length - x.a := by unfold longAt; rw [hi]
      rw [indexB_none hi]
      refine ⟨by omega, trivial, fun _ => ⟨trivial, by omega, trivial, fun h1 => ⟨trivial, fun h2 => ⟨by omega, trivial, fun h3 => ⟨by omega, by omega, ?_⟩, fun h3 => ?_⟩, fun h2 => ?_⟩, fun h1 => ?_⟩, fun h => absurd h (by omega)⟩
      · exact leave12 hk (off_hit p1 h1 h2 (by rw [hL]; omega)) (vle_refl _) v0 _ _
      · exact leave12 hk (off_miss p1 h1 (by rw [hL]; omega)) v0 v5 _ _
      · exact leave12 hk (off_miss p1 h1 (by omega)) v0 v5 _ _
      · rcases p3 with p3 | p3
        · rcases Int.lt_or_le line 1 with hl | hl
          · exact leave12 hk (off_low (.inl hl)) v0 v5 _ _
          · exact leave12 hk (off_past p1 (by omega) hi) v0 v5 _ _
        · exact leave12 hk (off_past p1 (by omega) hi) v0 v5 _ _
    | some i =>
      have hL : longAt s x.a = i := by unfold longAt; rw [hi]
      have hlt := (idx_line hi).1
      rw [indexB_some hi]
      refine ⟨by omega, trivial, fun h => absurd h (by omega), fun _ => ⟨trivial, fun h1 => ⟨trivial, fun h2 => ⟨by omega, trivial, fun h3 => ⟨by omega, by omega, ?_⟩, fun h3 => ⟨trivial, fun h4 => ?_, fun h4 => absurd h4 (by omega)⟩⟩, fun h2 => ⟨trivial, fun h4 => ?_, fun h4 => absurd h4 (by omega)⟩⟩, fun h1 => ⟨trivial, fun h4 => ?_, fun h4 => ⟨by omega, by omega, by omega, ?_⟩⟩⟩⟩
      · exact leave12 hk (off_hit p1 h1 h2 (by rw [hL]; omega)) (vle_refl _) v0 _ _
      · exact leave12 hk (off_miss p1 h1 (by rw [hL]; omega)) v0 v5 _ _
      · exact leave12 hk (off_miss p1 h1 (by omega)) v0 v5 _ _
      · exact leave12 hk (off_low (.inl (by omega))) v0 v5 _ _
      · exact next12 ⟨p1, p2, p3⟩ hi (by omega) v0' v0' rfl rfl
  · exact h.elim
theorem offset_run (s : List UInt8) (line col : Int) : TaskOk Tryd.prog ⟨⟨.nil, [], []⟩, [], [(55006, lp Tryd.prog 12 0, s12)]⟩ (.call 12 [.sstr s, .sint .i64 line, .sint .i64 col] nomem fun e _ => retT (offsetR s line col) e) := by
  refine go_sound qmix qNG known_nil (fs_none rfl) (ls_one rfl s12_ok) 100 _ ?_
  rw [f12_eq]
  refine ⟨trivial, trivial, fun h => ?_, fun h => ⟨rfl, s, line, col, ?_, ⟨rfl, ⟨rfl, rfl⟩, ⟨rfl, rfl⟩, ⟨rfl, rfl⟩, ⟨rfl, rfl⟩, ⟨rfl, rfl⟩, ⟨rfl, rfl⟩, trivial⟩, fun a n => ?_⟩⟩
  · replace h := of_decide_eq_true h
    have e : offsetF s line col = (0, 3) := by unfold offsetF; rw [if_pos (by omega)]
    simp only [retT, offsetR, e, vles, vle]; simp
  · replace h := of_decide_eq_false h
    omega
  · replace h := of_decide_eq_false h
    have e : offsetF s line col = offF s line col := by unfold offsetF; rw [if_neg (by omega)]
    simp only [retT, offsetR, e, vles, vle]; simp
structure I14 where
  n : Nat
  first : Nat
  i : Nat
theorem s14a_ok {gf gl} : ∀ fi ds env hp k, s14a fi ds env hp k → TaskOk Tryd.prog ⟨⟨.nil, [], []⟩, gf, gl⟩ (.code fi (.loop (lp Tryd.prog 14 0)) ds env hp k) := by
  intro fi ds env hp k h
  unfold s14a at h
  split at h
  · rename_i h1 h2 h3 h4
    obtain ⟨s, line, col, g1, g4, hk⟩ := h
    obtain ⟨nt, ro⟩ := fi
    obtain ⟨hn, ht, hro⟩ := hp
    replace h1 := Nat.eq_of_beq_eq_true h1
    replace h4 := Nat.eq_of_beq_eq_true h4
    dsimp only at h1 h2 h3 h4
    subst h1 h2 h3 h4
    refine loop_cut [0, 1, 2, 8, 9, 10] [] (fun x : I14 => le14 s line col x.n x.first x.i) (fun _ => []) (fun x => X14 s line x.n x.first x.i) (fun x => s.length - x.i) ⟨0, 0, 0⟩ ⟨rfl, Nat.le_refl _, Nat.zero_le _, Nat.le_refl _, fun j a b => absurd b (by simp), .inl rfl⟩ rfl rfl rfl (fun x => rfl) (fun x => rfl) g4 trivial ?_
    intro x hx
    have t := go_sound (G := ⟨⟨.nil, [], []⟩, [], []⟩) qmix qNG known_nil (fs_none rfl) (ls_none rfl) 100 (.code ⟨61, none⟩ (lp Tryd.prog 14 0) [] (ofE ([0, 1, 2, 8, 9, 10].zip (le14 s line col x.n x.first x.i))) ⟨0, ofM ([].zip []), []⟩ (cutK [0, 1, 2, 8, 9, 10] [] (rN [0, 1, 2, 8, 9, 10] [] (fun x : I14 => le14 s line col x.n x.first x.i) (fun _ => []) 0 (fun x => X14 s line x.n x.first x.i) (fun x => s.length - x.i) k x))) ?_
    · exact t
    rw [show Go.Q.go Tryd.prog ⟨⟨.nil, [], []⟩, [], []⟩ 100 (.code ⟨61, none⟩ (lp Tryd.prog 14 0) [] (ofE ([0, 1, 2, 8, 9, 10].zip (le14 s line col x.n x.first x.i))) ⟨0, ofM ([].zip []), []⟩ (cutK [0, 1, 2, 8, 9, 10] [] (rN [0, 1, 2, 8, 9, 10] [] (fun x : I14 => le14 s line col x.n x.first x.i) (fun _ => []) 0 (fun x => X14 s line x.n x.first x.i) (fun x => s.length - x.i) k x))) = _ from w14_loop s line col ((x.n : Int) + 1) x.first x.i _]
    obtain ⟨p1, p2, p3, p4, p5, p6⟩ := hx
    simp only [imin, imax, decide_eq_true_eq, decide_eq_false_iff_not, Int.toNat_natCast]
    have out : (x.i = s.length ∨ line ≤ (x.n : Int) + 1) → rN [0, 1, 2, 8, 9, 10] [] (fun x : I14 => le14 s line col x.n x.first x.i) (fun _ => []) 0 (fun x => X14 s line x.n x.first x.i) (fun x => s.length - x.i) k x (.exit 0) [some (.sstr s), some (.sint .i64 line), some (.sint .i64 col), some (.sint .i64 ((x.n : Int) + 1)), some (.sint .i64 x.first), some (.sint .i64 x.i)] 0 [] := fun h =>
      ⟨le14 s line col x.n x.first x.i, [], Nat.le_refl _, rfl, rfl, rfl, ⟨vle_refl _, vle_refl _, vle_refl _, vle_refl _, vle_refl _, vle_refl _, trivial⟩, trivial, hk _ _ _ ⟨p1, p2, p3, p4, p5, p6⟩ h⟩
    refine ⟨trivial, trivial, fun h1 => ⟨trivial, fun h2 => ⟨by omega, trivial, fun h3 => ⟨by omega, by omega, by omega, ?_⟩, fun h3 => ⟨by omega, ?_⟩⟩, fun h2 => ?_⟩, fun h1 => ?_⟩
    · have h3 : (s.getD x.i 0).toNat = 10 := by exact_mod_cast h3
      have hi := idx_found p2 (by omega) h3 p5
      refine ⟨Nat.le_refl _, ⟨x.n + 1, x.i + 1, x.i + 1⟩, ⟨?_, Nat.le_refl _, by show x.i + 1 ≤ s.length; omega, by show x.n + 1 ≤ x.i + 1; omega, fun j a b => absurd b (by simp at a ⊢; omega), .inr (by show ((x.n + 1 : Nat) : Int) + 1 ≤ line; omega)⟩, by show s.length - (x.i + 1) < s.length - x.i; omega, ?_, trivial⟩
      · show lineAt s (x.n + 1) = some (x.i + 1)
        rw [lineAt, p1]; simp only [hi]; congr 1; omega
      · simp only [fitV, le14, vle]
        push_cast; simp
    · have h3 : ¬ (s.getD x.i 0).toNat = 10 := by exact_mod_cast h3
      refine ⟨Nat.le_refl _, ⟨x.n, x.first, x.i + 1⟩, ⟨p1, by show x.first ≤ x.i + 1; omega, by show x.i + 1 ≤ s.length; omega, by show x.n ≤ x.i + 1; omega, fun j a b => ?_, p6⟩, by show s.length - (x.i + 1) < s.length - x.i; omega, ?_, trivial⟩
      · rcases Nat.lt_or_ge j x.i with hj | hj
        · exact p5 j a hj
        · have : j = x.i := by simp at b; omega
          rw [this]; exact h3
      · simp only [fitV, le14, vle]
        push_cast; simp
    · exact out (.inr (by omega))
    · exact out (.inl (by omega))
  · exact h.elim
theorem s14b_ok {gf gl} : ∀ fi ds env hp k, s14b fi ds env hp k → TaskOk Tryd.prog ⟨⟨.nil, [], []⟩, gf, gl⟩ (.code fi (.loop (lp Tryd.prog 14 1)) ds env hp k) := by
  intro fi ds env hp k h
  unfold s14b at h
  split at h
  · rename_i h1 h2 h3 h4
    obtain ⟨s, line, col, n, first, g1, g2, g4, hk⟩ := h
    obtain ⟨nt, ro⟩ := fi
    obtain ⟨hn, ht, hro⟩ := hp
    replace h1 := Nat.eq_of_beq_eq_true h1
    replace h4 := Nat.eq_of_beq_eq_true h4
    dsimp only at h1 h2 h3 h4
    subst h1 h2 h3 h4
    refine loop_cut [0, 1, 2, 8, 9, 11] [] (fun x : Nat => le14 s line col n first x) (fun _ => []) (fun x => Y14 s first x) (fun x => s.length - x) first ⟨Nat.le_refl _, g2, fun j a b => absurd b (by omega)⟩ rfl rfl rfl (fun x => rfl) (fun x => rfl) g4 trivial ?_
    intro x hx
    have t := go_sound (G := ⟨⟨.nil, [], []⟩, [], []⟩) qmix qNG known_nil (fs_none rfl) (ls_none rfl) 100 (.code ⟨61, none⟩ (lp Tryd.prog 14 1) [] (ofE ([0, 1, 2, 8, 9, 11].zip (le14 s line col n first x))) ⟨0, ofM ([].zip []), []⟩ (cutK [0, 1, 2, 8, 9, 11] [] (rN [0, 1, 2, 8, 9, 11] [] (fun x : Nat => le14 s line col n first x) (fun _ => []) 0 (fun x => Y14 s first x) (fun x => s.length - x) k x))) ?_
    · exact t
    rw [show Go.Q.go Tryd.prog ⟨⟨.nil, [], []⟩, [], []⟩ 100 (.code ⟨61, none⟩ (lp Tryd.prog 14 1) [] (ofE ([0, 1, 2, 8, 9, 11].zip (le14 s line col n first x))) ⟨0, ofM ([].zip []), []⟩ (cutK [0, 1, 2, 8, 9, 11] [] (rN [0, 1, 2, 8, 9, 11] [] (fun x : Nat => le14 s line col n first x) (fun _ => []) 0 (fun x => Y14 s first x) (fun x => s.length - x) k x))) = _ from w14_loop2 s line col ((n : Int) + 1) first x _]
    obtain ⟨p1, p2, p3⟩ := hx
    simp only [imin, imax, decide_eq_true_eq, decide_eq_false_iff_not, Int.toNat_natCast, Bool.not_eq_true', Bool.not_eq_false']
    have out : (x = s.length ∨ (s.getD x 0).toNat = 10) → rN [0, 1, 2, 8, 9, 11] [] (fun x : Nat => le14 s line col n first x) (fun _ => []) 0 (fun x => Y14 s first x) (fun x => s.length - x) k x (.exit 2) [some (.sstr s), some (.sint .i64 line), some (.sint .i64 col), some (.sint .i64 ((n : Int) + 1)), some (.sint .i64 first), some (.sint .i64 x)] 0 [] := fun h =>
      ⟨le14 s line col n first x, [], Nat.le_refl _, rfl, rfl, rfl, ⟨vle_refl _, vle_refl _, vle_refl _, vle_refl _, vle_refl _, vle_refl _, trivial⟩, trivial, hk _ ⟨p1, p2, p3⟩ h⟩
    refine ⟨trivial, trivial, fun h1 => ⟨by omega, trivial, fun h3 => ⟨by omega, ?_⟩, fun h3 => ?_⟩, fun h1 => ?_⟩
    · have h3 : ¬ (s.getD x 0).toNat = 10 := by exact_mod_cast h3
      refine ⟨Nat.le_refl _, x + 1, ⟨by omega, by omega, fun j a b => ?_⟩, by show s.length - (x + 1) < s.length - x; omega, ?_, trivial⟩
      · rcases Nat.lt_or_ge j x with hj | hj
        · exact p3 j a hj
        · have : j = x := by omega
          rw [this]; exact h3
      · simp only [fitV, le14, vle]
        push_cast; simp
    · exact out (.inr (by exact_mod_cast h3))
    · exact out (.inl (by omega))
  · exact h.elim
theorem roffset_run (s : List UInt8) (line col : Int) (hs : s.length ≤ 20000) : TaskOk Tryd.prog ⟨⟨.nil, [], []⟩, [], [(61004, lp Tryd.prog 14 0, s14a), (61012, lp Tryd.prog 14 1, s14b)]⟩ (.call 14 [.sstr s, .sint .i64 line, .sint .i64 col] nomem fun e _ => retT (offsetR s line col) e) := by
  refine go_sound qmix qNG known_nil (fs_none rfl) (ls_two rfl s14a_ok s14b_ok) 100 _ ?_
  rw [f14_eq]
  have eo : offsetF s line col = offF s line col := by unfold offsetF; rw [if_neg (by omega)]
  have done : ∀ {v w : V} {r e : Int}, offF s line col = (r, e) → vle v (.sint .i64 r) → vle w (.sint .i64 e) → retT (offsetR s line col) (.ret (.tup [v, w])) := by
    intro v w r e h hv hw
    simp only [retT, offsetR, eo, h]
    exact ⟨hv, hw, trivial⟩
  have v0 : vle (.int .i64 (.ofNat 0)) (.sint .i64 0) := ⟨rfl, rfl⟩
  have v5 : vle (.int .i64 (.ofNat 5)) (.sint .i64 5) := ⟨rfl, rfl⟩
  refine ⟨rfl, s, line, col, hs, ⟨rfl, ⟨rfl, rfl⟩, ⟨rfl, rfl⟩, ⟨rfl, rfl⟩, ⟨rfl, rfl⟩, ⟨rfl, rfl⟩, trivial⟩, fun n first i hX hend => ⟨trivial, fun h1 => ?_, fun h1 => ⟨trivial, fun h2 => ?_, fun h2 => ⟨rfl, s, line, col, n, first, hs, ?_, ⟨rfl, ⟨rfl, rfl⟩, ⟨rfl, rfl⟩, ⟨rfl, rfl⟩, ⟨rfl, rfl⟩, ⟨rfl, rfl⟩, trivial⟩, fun last hY hl => ?_⟩⟩⟩⟩
  · obtain ⟨p1, p2, p3, p4, p5, p6⟩ := hX
    simp only [Bool.not_eq_true', decide_eq_false_iff_not] at h1
    refine done ?_ v0 v5
    rcases hend with hi | hi
    · rcases Int.lt_or_le ((n : Int) + 1) line with hl | hl
      · exact off_past p1 hl (idx_gone fun x a b => p5 x a (by omega))
      · exact off_low (.inl (by omega))
    · exact off_low (.inl (by omega))
  · replace h2 := of_decide_eq_true h2
    exact done (off_low (.inr h2)) v0 v5
  · obtain ⟨p1, p2, p3, p4, p5, p6⟩ := hX
    omega
  · obtain ⟨p1, p2, p3, p4, p5, p6⟩ := hX
    obtain ⟨q1, q2, q3⟩ := hY
    simp only [Bool.not_eq_false', decide_eq_true_eq] at h1
    replace h2 := of_decide_eq_false h2
    have hL : longAt s first = last - first := by
      unfold longAt
      rcases hl with hl | hl
      · rw [idx_gone fun x a b => q3 x a (by omega)]
        show s.length - first = last - first
        rw [hl]
      · rcases Nat.lt_or_ge last s.length with hlt | hge
        · rw [idx_found q1 hlt hl q3]
        · rw [idx_gone fun x a b => q3 x a (by omega)]
          show s.length - first = last - first
          omega
    simp only [imin, imax, decide_eq_true_eq, decide_eq_false_iff_not]
    refine ⟨by omega, by omega, trivial, fun h3 => ?_, fun h3 => ⟨by omega, by omega, ?_⟩⟩
    · exact done (off_miss p1 h1 (by rw [hL]; omega)) v0 v5
    · exact done (off_hit p1 h1 (by omega) (by rw [hL]; omega)) (vle_refl _) v0
end
end Go.Proofs.YtekioipmhhcbhaaDoor
namespace Go.Proofs.YtekioipmhhcbhaaDoor
open Go Go.Z Go.Q Go.W6
open Go.Y hiding KE KK KR go Task go_sound
noncomputable section
def sumW : List V → Mem → KE → Prop := fun args hp k => match args with | [.sstr s, .sint .i64 a] => k (.ret (.tup (whereR s a))) hp | _ => False
def sumRW : List V → Mem → KE → Prop := fun args hp k => match args with | [.sstr s, .sint .i64 a] => s.length ≤ 20000 ∧ k (.ret (.tup (whereR s a))) hp | _ => False
def sumO : List V → Mem → KE → Prop := fun args hp k => match args with | [.sstr s, .sint .i64 l, .sint .i64 c] => k (.ret (.tup (offsetR s l c))) hp | _ => False
def sumRO : List V → Mem → KE → Prop := fun args hp k => match args with | [.sstr s, .sint .i64 l, .sint .i64 c] => s.length ≤ 20000 ∧ k (.ret (.tup (offsetR s l c))) hp | _ => False
def G3 : GQ := ⟨⟨varG 0, kn9, [(0, spaceV)]⟩, [(11, sumW), (12, sumO), (13, sumRW), (14, sumRO)], []⟩
theorem f3_eq (s : List UInt8) (at_ line col : Int) (ty : Nat) (K : E → Prop) : Go.Q.go Tryd.prog G3 200 (.call 3 [.sstr s, .sint .i64 at_, .sint .i64 line, .sint .i64 col] (varM spaceV ty) fun e _ => K e) =
  (
    True ∧
      True ∧
        (decide ((↑(List.length s) : Int) ≤ (6000 : Int)) = true →
            True ∧
              True ∧
                (decide ((20000 : Int) < (↑(List.length s) : Int)) = true →
                    True ∧
                      (decide (Prod.snd (Prod.snd (whereF s at_)) = (3 : Int)) = true →
                          True ∧
                            (decide (Prod.snd (offsetF s line col) = (3 : Int)) = true → K (E.ret (V.bool true))) ∧
                              (decide (Prod.snd (offsetF s line col) = (3 : Int)) = false → K (E.ret (V.bool false)))) ∧
                        (decide (Prod.snd (Prod.snd (whereF s at_)) = (3 : Int)) = false → K (E.ret (V.bool false)))) ∧
                  (decide ((20000 : Int) < (↑(List.length s) : Int)) = false →
                    List.length s ≤ (20000 : Nat) ∧
                      List.length s ≤ (20000 : Nat) ∧
                        True ∧
                          (decide (Prod.fst (whereF s at_) = Prod.fst (whereF s at_)) = true →
                              True ∧
                                (decide (Prod.fst (Prod.snd (whereF s at_)) = Prod.fst (Prod.snd (whereF s at_))) = true →
                                    True ∧
                                      (decide (Prod.snd (Prod.snd (whereF s at_)) = Prod.snd (Prod.snd (whereF s at_))) =
                                            true →
                                          True ∧
                                            (decide (Prod.fst (offsetF s line col) = Prod.fst (offsetF s line col)) =
                                                  true →
                                                True ∧
                                                  (decide
                                                          (Prod.snd (offsetF s line col) =
                                                            Prod.snd (offsetF s line col)) =
                                                        true →
                                                      K (E.ret (V.bool true))) ∧
                                                    (decide
                                                          (Prod.snd (offsetF s line col) =
                                                            Prod.snd (offsetF s line col)) =
                                                        false →
                                                      K (E.ret (V.bool false)))) ∧
                                              (decide (Prod.fst (offsetF s line col) = Prod.fst (offsetF s line col)) =
                                                  false →
                                                K (E.ret (V.bool false)))) ∧
                                        (decide
                                              (Prod.snd (Prod.snd (whereF s at_)) = Prod.snd (Prod.snd (whereF s at_))) =
                                            false →
                                          K (E.ret (V.bool false)))) ∧
                                  (decide (Prod.fst (Prod.snd (whereF s at_)) = Prod.fst (Prod.snd (whereF s at_))) =
                                      false →
                                    K (E.ret (V.bool false)))) ∧
                            (decide (Prod.fst (whereF s at_) = Prod.fst (whereF s at_)) = false →
                              K (E.ret (V.bool false))))) ∧
          (decide ((↑(List.length s) : Int) ≤ (6000 : Int)) = false →
            True ∧
              True ∧
                (decide ((20000 : Int) < (↑(List.length s) : Int)) = true →
                    True ∧
                      True ∧
                        (decide ((20000 : Int) < (↑(List.length s) : Int)) = true →
                            True ∧
                              (decide (Prod.snd (Prod.snd (whereF s at_)) = (3 : Int)) = true →
                                  True ∧
                                    (decide (Prod.snd (offsetF s line col) = (3 : Int)) = true →
                                        K (E.ret (V.bool true))) ∧
                                      (decide (Prod.snd (offsetF s line col) = (3 : Int)) = false →
                                        K (E.ret (V.bool false)))) ∧
                                (decide (Prod.snd (Prod.snd (whereF s at_)) = (3 : Int)) = false →
                                  K (E.ret (V.bool false)))) ∧
                          (decide ((20000 : Int) < (↑(List.length s) : Int)) = false →
                            List.length s ≤ (20000 : Nat) ∧
                              List.length s ≤ (20000 : Nat) ∧
                                True ∧
                                  (decide (Prod.fst (whereF s at_) = Prod.fst (whereF s at_)) = true →
                                      True ∧
                                        (decide
                                                (Prod.fst (Prod.snd (whereF s at_)) =
                                                  Prod.fst (Prod.snd (whereF s at_))) =
                                              true →
                                            True ∧
                                              (decide
                                                      (Prod.snd (Prod.snd (whereF s at_)) =
                                                        Prod.snd (Prod.snd (whereF s at_))) =
                                                    true →
                                                  True ∧
                                                    (decide
                                                            (Prod.fst (offsetF s line col) =
                                                              Prod.fst (offsetF s line col)) =
                                                          true →
                                                        True ∧
                                                          (decide
                                                                  (Prod.snd (offsetF s line col) =
                                                                    Prod.snd (offsetF s line col)) =
                                                                true →
                                                              K (E.ret (V.bool true))) ∧
                                                            (decide
                                                                  (Prod.snd (offsetF s line col) =
                                                                    Prod.snd (offsetF s line col)) =
                                                                false →
                                                              K (E.ret (V.bool false)))) ∧
                                                      (decide
                                                            (Prod.fst (offsetF s line col) =
                                                              Prod.fst (offsetF s line col)) =
                                                          false →
                                                        K (E.ret (V.bool false)))) ∧
                                                (decide
                                                      (Prod.snd (Prod.snd (whereF s at_)) =
                                                        Prod.snd (Prod.snd (whereF s at_))) =
                                                    false →
                                                  K (E.ret (V.bool false)))) ∧
                                          (decide
                                                (Prod.fst (Prod.snd (whereF s at_)) =
                                                  Prod.fst (Prod.snd (whereF s at_))) =
                                              false →
                                            K (E.ret (V.bool false)))) ∧
                                    (decide (Prod.fst (whereF s at_) = Prod.fst (whereF s at_)) = false →
                                      K (E.ret (V.bool false))))) ∧
                  (decide ((20000 : Int) < (↑(List.length s) : Int)) = false → K (E.ret (V.bool true))))) := by kernel_rfl
theorem fs3_ok : FsOk Tryd.prog G3 := by
  intro f s hl args hp k h
  simp only [G3, lookF] at hl
  split at hl
  · rename_i hb
    obtain rfl := Nat.eq_of_beq_eq_true hb
    cases hl
    unfold sumW at h
    split at h
    · exact sum_of (where_run _ _) rfl rfl rfl h
    · exact h.elim
  split at hl
  · rename_i hb
    obtain rfl := Nat.eq_of_beq_eq_true hb
    cases hl
    unfold sumO at h
    split at h
    · exact sum_of (offset_run _ _ _) rfl rfl rfl h
    · exact h.elim
  split at hl
  · rename_i hb
    obtain rfl := Nat.eq_of_beq_eq_true hb
    cases hl
    unfold sumRW at h
    split at h
    · exact sum_of (rwhere_run _ _ h.1) rfl rfl rfl h.2
    · exact h.elim
  split at hl
  · rename_i hb
    obtain rfl := Nat.eq_of_beq_eq_true hb
    cases hl
    unfold sumRO at h
    split at h
    · exact sum_of (roffset_run _ _ _ h.1) rfl rfl rfl h.2
    · exact h.elim
  cases hl
theorem places_run (s : List UInt8) (a line col : Int) (ty : Nat) : TaskOk Tryd.prog G3 (.call 3 [.sstr s, .sint .i64 a, .sint .i64 line, .sint .i64 col] (varM spaceV ty) fun e _ => e = .ret (.bool true)) := by
  refine go_sound qmix qNG known9 fs3_ok (ls_none rfl) 200 _ ?_
  rw [f3_eq]
  have w3 : 20000 < s.length → (whereF s a).2.2 = 3 := fun h => by unfold whereF; rw [if_pos h]
  have o3 : 20000 < s.length → (offsetF s line col).2 = 3 := fun h => by unfold offsetF; rw [if_pos h]
  simp only [decide_eq_true_eq, decide_eq_false_iff_not]
  repeat' first | exact trivial | (intro h) | apply And.intro
  all_goals first
    | rfl
    | omega
    | (exfalso; rename_i h1 h2; exact h2 (w3 (by omega)))
    | (exfalso; rename_i h1 h2; exact h2 (o3 (by omega)))
    | contradiction
    | (exfalso; simp_all; done)
    | (exfalso; simp_all; omega)
end
end Go.Proofs.YtekioipmhhcbhaaDoor
