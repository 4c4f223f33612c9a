/- The scanner of chapter 6, told over lists of bytes: no program in sight. -/
import Derived.Test.YtekioipmhhcbhaaDoorKp
import Derived.Lib.Case
import Derived.Lib.TrimByte
set_option linter.unusedVariables false
set_option linter.unusedSimpArgs false
namespace Go.W6
open Go.Z
def letB (b : UInt8) : Bool := (65 <= b.toNat && b.toNat <= 90) || (97 <= b.toNat && b.toNat <= 122)
def digB (b : UInt8) : Bool := 48 <= b.toNat && b.toNat <= 57
def restB (b : UInt8) : Bool := letB b || digB b || b.toNat == 95
def plainB (b : UInt8) : Bool := b.toNat == 10 || (32 <= b.toNat && b.toNat <= 126)
def skipL : Bool -> List UInt8 -> Nat -> Except Nat Nat
 | _, [], p => .ok p
 | false, c :: l, p => if c.toNat = 32 \/ c.toNat = 10 then skipL false l (p + 1) else if c.toNat = 36 then skipL true l (p + 1) else .ok p
 | true, c :: l, p => if c.toNat = 10 then skipL false l (p + 1) else if plainB c then skipL true l (p + 1) else .error p
def noteL : List UInt8 -> Nat -> Except Nat Nat
 | [], p => .ok p
 | c :: l, p => if c.toNat = 10 then .ok p else if plainB c then noteL l (p + 1) else .error p
def noteF (s : List UInt8) (i : Nat) : Except Nat Nat := noteL (s.drop i) i
def skipF (s : List UInt8) (i : Nat) : Except Nat Nat := skipL false (s.drop i) i
def endF (p : UInt8 -> Bool) (s : List UInt8) (i : Nat) : Nat := i + ((s.drop i).takeWhile p).length
def nameF (s : List UInt8) (i : Nat) : Nat := endF restB s i
def digF (s : List UInt8) (i : Nat) : Nat := endF digB s i
def cutF (s : List UInt8) (i j : Nat) : List UInt8 := (s.take j).drop i
def trimF (d : List UInt8) : List UInt8 := if Go.Lib.trimLeftB d 48 = [] then [48] else Go.Lib.trimLeftB d 48
def tailF (d : List UInt8) : List UInt8 := if Go.Lib.trimRightB d 48 = [] then [48] else Go.Lib.trimRightB d 48
def isAt (p : UInt8 -> Bool) (s : List UInt8) (i : Nat) : Bool := match s[i]? with
 | some b => p b
 | none => false
def numF (s : List UInt8) (i : Nat) : Option (Nat × List UInt8 × Nat) :=
 let j := digF s i
 if (isAt (λ b => b.toNat == 46) s j && isAt digB s (j + 1)) = false then
  (if 380 < j - i then none else some (3, trimF (cutF s i j), j))
 else
  let e := digF s (j + 1)
  let behind := cutF s (j + 1) e
  if 380 < (j - i) + (e - (j + 1)) \/ 20 < (tailF behind).length then none
  else some (4, trimF (cutF s i j) ++ [46] ++ tailF behind, e)
def textL : List UInt8 -> Nat -> List UInt8 -> Int -> Option (List UInt8 × Nat × Int)
 | [], _, _, _ => none
 | c :: l, p, acc, bad =>
  if c.toNat = 10 then none
  else if c.toNat = 34 then (match l with
   | d :: l' => if d.toNat = 34 then textL l' (p + 2) (acc ++ [34]) bad else some (acc, p, bad)
   | [] => some (acc, p, bad))
  else textL l (p + 1) (acc ++ [c]) (if plainB c = false /\ bad < 0 then (p : Int) else bad)
def textF (s : List UInt8) (i : Nat) : Except Nat (List UInt8 × Nat × Int) := match textL (s.drop (i + 1)) (i + 1) [] (-1) with
 | none => .error 121
 | some (b, p, bad) => if 1000 < b.length then .error 122 else .ok (b, p + 1, bad)
def keysL : List (List UInt8) := [[97, 98, 115], [97, 110, 100], [97, 114, 98], [97, 115, 115, 101, 114, 116], [99, 104, 97, 114], [99, 97, 115, 101], [99, 111, 110, 115, 116], [99, 111, 110, 116, 105, 110, 117, 101], [100, 101, 99], [100, 105, 118], [100, 111], [100, 111, 109, 97, 105, 110], [101, 108, 115, 101], [101, 108, 115, 101, 105, 102], [101, 110, 100], [101, 110, 100, 109], [101, 120, 105, 115, 116, 115], [101, 120, 112, 111, 114, 116, 115], [102, 97, 105, 108], [102, 105, 120], [102, 111, 114], [102, 111, 114, 97, 108, 108], [102, 114, 111, 109, 101], [102, 114, 111, 109, 98], [102, 114, 111, 109], [105, 102], [105, 109, 112, 108], [105, 110], [105, 110, 99, 108, 117, 100, 101], [105, 110, 99, 115], [105, 110, 118, 101, 114, 115, 101], [105, 115, 111, 109], [108, 101, 115, 115], [108, 101, 115, 115, 102], [108, 111, 111, 112], [109, 97, 99, 114, 111], [109, 97, 120], [109, 105, 110], [109, 111, 100], [109, 111, 100, 117, 108, 101], [110, 101, 119, 97, 116], [110, 111, 116], [110, 111, 116, 101, 120, 105, 115, 116, 115], [110, 111, 116, 105, 110], [110, 112, 111, 119], [111, 102], [111, 107], [111, 109], [111, 114], [111, 116, 104, 101, 114, 119, 105, 115, 101], [112, 111, 119], [112, 114, 105, 110, 116], [112, 114, 111, 99], [112, 114, 111, 103, 114, 97, 109], [113, 117, 105, 116], [114, 97, 110, 103, 101], [114, 100], [114, 101, 97, 100], [114, 101, 116, 117, 114, 110], [114, 119], [115, 116, 111, 112], [115, 116, 114], [115, 117, 98, 115, 101, 116], [115, 117, 99, 99, 101, 101, 100], [116, 104, 101, 110], [116, 111, 115, 101, 116], [116, 111, 116, 117, 112, 108, 101], [116, 114, 117, 101], [102, 97, 108, 115, 101], [116, 121, 112, 101], [117, 110, 116, 105, 108], [117, 115, 101, 115], [118, 97, 114], [119, 104, 101, 110], [119, 104, 105, 108, 101], [119, 105, 116, 104], [119, 114]]
def signsL : List (List UInt8) := [[58, 61], [42, 42], [47, 61], [60, 61], [62, 61], [46, 46], [45, 62], [43], [45], [42], [47], [61], [60], [62], [35], [40], [41], [91], [93], [123], [125], [44], [59], [58], [46], [124], [63], [64]]
def signN (s : List UInt8) (i : Nat) : Nat := if i + 2 <= s.length /\ cutF s i (i + 2) ∈ signsL then 2 else 1
def signB (b : UInt8) : Bool := b.toNat ∈ [35, 40, 41, 42, 43, 44, 45, 46, 47, 58, 59, 60, 61, 62, 63, 64, 91, 93, 123, 124, 125]
structure TokR where
 kind : Nat
 text : List UInt8
 to : Nat
 bad : Int
def tokF (s : List UInt8) (i : Nat) : Except Nat TokR :=
 let c := s.getD i 0
 if letB c then
  let t := Go.Lib.toLowerA (cutF s i (nameF s i))
  if t ∈ keysL then .ok ⟨2, t, nameF s i, -1⟩ else if 24 < t.length then .error 122 else .ok ⟨1, t, nameF s i, -1⟩
 else if digB c then (match numF s i with
  | some (k, t, e) => .ok ⟨k, t, e, -1⟩
  | none => .error 122)
 else if c.toNat = 34 then (match textF s i with
  | .ok (t, e, bad) => .ok ⟨5, t, e, bad⟩
  | .error e => .error e)
 else if signB c then
  (if cutF s i (i + signN s i) ∈ signsL then .ok ⟨6, cutF s i (i + signN s i), i + signN s i, -1⟩ else .error 120)
 else .error 120
structure Tok where
 kind : Nat
 text : List UInt8
 at_ : Nat
 to : Nat
inductive Scn where
 | go (i : Nat) (l : List Tok)
 | done (l : List Tok)
 | err (at_ : Int) (e : Nat)
def stepF (s : List UInt8) (i : Nat) (l : List Tok) : Scn := match skipF s i with
 | .error b => .err b 120
 | .ok j => if s.length <= j then .done l else match tokF s j with
  | .error e => .err j e
  | .ok t => if 6000 <= l.length then .err j 3 else if 0 <= t.bad then .err t.bad 120 else .go t.to (l ++ [⟨t.kind, t.text, j, t.to⟩])
def runF (s : List UInt8) : Nat -> Scn
 | 0 => .go 0 []
 | n + 1 => match runF s n with
  | .go i l => stepF s i l
  | r => r
def scanF (s : List UInt8) : List Tok × Int × Nat := if 20000 < s.length then ([], 0, 3) else match runF s (s.length + 1) with
 | .done l => (l, 0, 0)
 | .err a e => ([], a, e)
 | .go _ _ => ([], 0, 0)
end Go.W6
