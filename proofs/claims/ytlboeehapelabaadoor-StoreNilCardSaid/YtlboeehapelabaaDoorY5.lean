/- Quiet operations: what they yield, and that the real ones yield it. -/
import Derived.Test.YtlboeehapelabaaDoorY4
set_option linter.unusedVariables false
set_option linter.unusedSimpArgs false
namespace Go.Y
open Go.Z
noncomputable section
def natOf : V → Option Nat
  | .int _ (.ofNat m) => some m
  | _ => none
def evN (G : GV) (env : Tr V) (x : Operand) : Option Nat := match evO G env x with | some v => natOf v | none => none
def pr (x : Option V) : Option (V × List Nat) := match x with | some v => some (v, []) | none => none
def qNil : V → Option V
  | .ptr id off => some (.ptr id off)
  | .fn (.func f) a b => some (.fn (.func f) a b)
  | .yld id => some (.yld id)
  | .ifc t v => some (.ifc t v)
  | _ => none
def qField (P : Program) (s : TypeId) (f : Nat) (l : List V) : Option V :=
  match fieldOff2 P s f with
  | some (o, ft) => partV P ft l o
  | none => none
def qIndexAddr (P : Program) (T : TypeId) (x : V) (j : Nat) : Option V :=
  match x with
  | .sl id i off len cap => match P.underlying T with
    | some (.slice e) => match sizeP P e with
      | some k => match Nat.blt j len with | true => some (.ptr id (off + j * k)) | false => none
      | none => none
    | _ => none
  | .ptr id off => match P.underlying T with
    | some (.array m e) => match sizeP P e with
      | some k => match Nat.blt j m with | true => some (.ptr id (off + j * k)) | false => none
      | none => none
    | _ => none
  | _ => none
def qIndex (P : Program) (T : TypeId) (x : V) (j : Nat) : Option V :=
  match x with
  | .str l => match P.underlying T with
    | some .string => match nth l j with | some c => some (.int .u8 (.ofNat c.toNat)) | none => none
    | _ => none
  | .agg l => match P.underlying T with
    | some (.array m e) => match sizeP P e with
      | some k => match Nat.blt j m with | true => partV P e l (j * k) | false => none
      | none => none
    | _ => none
  | _ => none
def qSliceStr (l : List UInt8) (lo hi : Option Nat) : Option V :=
  match lo, hi with
  | some i, some j => match Nat.ble i j, Nat.ble j l.length with | true, true => some (.str ((l.take j).drop i)) | _, _ => none
  | some i, none => match Nat.ble i l.length with | true => some (.str (l.drop i)) | false => none
  | none, some j => match Nat.ble j l.length with | true => some (.str (l.take j)) | false => none
  | none, none => none
/-- cut, where the bounds are known to lie within -/
def cutV (k : Nat) (x : V) (i j : Nat) : Option V :=
  match x with
  | .sl id i0 off len cap => match Nat.ble i j, Nat.ble j len with
    | true, true => match Nat.blt i len with
      | true => some (.sl id (i0 + i) (off + i * k) (j - i) (match cap with | some c => some (c - i) | none => none))
      | false => some .sle
    | _, _ => none
  | .nils => match Nat.beq i 0, Nat.beq j 0 with | true, true => some .nils | _, _ => none
  | .sle => match Nat.beq i 0, Nat.beq j 0 with | true, true => some .sle | _, _ => none
  | _ => none
def lenV : V → Option Nat
  | .sl _ _ _ len _ => some len
  | .nils => some 0
  | .sle => some 0
  | _ => none
def qSliceSl (k : Nat) (x : V) (lo hi : Option Nat) : Option V :=
  match lo, hi with
  | some i, some j => cutV k x i j
  | some i, none => match lenV x with | some n => cutV k x i n | none => none
  | none, some j => cutV k x 0 j
  | none, none => none
def qSliceAr (N k : Nat) (id off : Nat) (lo hi : Option Nat) : Option V :=
  match lo, hi with
  | none, none => some (.sl id 0 off N (some N))
  | some i, some j => match Nat.ble i j, Nat.ble j N, Nat.blt i N with | true, true, true => some (.sl id 0 (off + i * k) (j - i) (some (N - i))) | _, _, _ => none
  | none, some j => match Nat.ble j N with | true => some (.sl id 0 off j (some N)) | false => none
  | some i, none => match Nat.blt i N with | true => some (.sl id 0 (off + i * k) (N - i) (some (N - i))) | false => none
def isSl : V → Bool
  | .sl .. => true | .nils => true | .sle => true | _ => false
def qSlice (P : Program) (T : TypeId) (x : V) (lo hi : Option Nat) : Option V :=
  match P.underlying T with
  | some .string => match x with | .str l => qSliceStr l lo hi | _ => none
  | some (.slice e) => match isSl x, sizeP P e with | true, some k => qSliceSl k x lo hi | _, _ => none
  | some (.array N e) => match x, sizeP P e with | .ptr id off, some k => qSliceAr N k id off lo hi | _, _ => none
  | _ => none
def qUn (op : UnOp) (x : V) : Option V :=
  match op, x with
  | .not, .bool b => some (.bool (!b))
  | .neg, .int k n => some (.int k (wr k (0 - n)))
  | .xor, .int k n => intBin2 .xor k (if k.signed then -1 else k.max) n
  | _, _ => none
def isConst : Operand → Bool
  | .const _ => true
  | _ => false
def qEq (P : Program) (t : TypeId) (x y : Operand) (a b : V) : Option Bool :=
  match bothNil a b with
  | true => match isConst x || isConst y with | true => eqV P 30 t a b | false => none
  | false => match isAggV a && isAggV b with
    | true => match P.eqGuardType P.depth t with | true => none | false => eqV P 30 t a b
    | false => eqV P 30 t a b
def eqable : V → Bool
  | .int .. => false
  | .str .. => false
  | .und => false
  | .tup _ => false
  | .anyI _ => false
  | .anyB => false
  | .anyS => false
  | _ => true
def qBin (P : Program) (op : BinOp) (t : TypeId) (x y : Operand) (a b : V) : Option V :=
  match a, b with
  | .int k m, .int k' n => intBin op k m k' n
  | .str l, .str m => strBin op l m
  | a, b => match eqable a, op with
    | false, op => anyBin op a b
    | true, .eql => match qEq P t x y a b with | some r => some (.bool r) | none => none
    | true, .neq => match qEq P t x y a b with | some r => some (.bool (!r)) | none => none
    | _, _ => none
def qLen (P : Program) (T : TypeId) (x : V) : Option V :=
  match P.underlying T, x with
  | some .string, .str l => some (.int .i64 (.ofNat l.length))
  | some .string, .anyS => some (.anyI .i64)
  | some (.slice _), .sl _ _ _ len _ => some (.int .i64 (.ofNat len))
  | some (.slice _), .nils => some (.int .i64 0)
  | some (.slice _), .sle => some (.int .i64 0)
  | some (.map _ _), .nilm => some (.int .i64 0)
  | _, _ => none
def bytesV : List V → Option (List UInt8)
  | [] => some []
  | .int .u8 (.ofNat n) :: l => match Nat.blt n 256, bytesV l with | true, some r => some (UInt8.ofNat n :: r) | _, _ => none
  | _ :: _ => none
/-- what a slice's elements are -/
def elemsV (hp : Mem) (sz : Nat) (x : V) : Option (List V × List Nat) :=
  match x with
  | .nils => some ([], [])
  | .sle => some ([], [])
  | .sl id i off len cap => match hp.t.get id with
    | some (.cells l ty s) => match takeN (len * sz) (dropN off l) with | some r => some (r, [id]) | none => none
    | _ => none
  | _ => none
def qConv (P : Program) (hp : Mem) (S D : TypeId) (x : V) : Option (V × List Nat) :=
  match P.underlying S with
  | none => none
  | some sd => match P.underlying D with
    | some (.int k') => match x with | .int k n => some (.int k' (wr k' n), []) | .anyI _ => some (.anyI k', []) | _ => none
    | some .string => match x with
      | .str l => some (.str l, [])
      | .anyS => some (.anyS, [])
      | x => match sd with
        | .slice e => match P.underlying e with
          | some (.int .u8) => match elemsV hp 1 x with
            | some (l, rd) => match bytesV l with | some r => some (.str r, rd) | none => none
            | none => none
          | _ => none
        | _ => none
    | _ => none
def zeroV (P : Program) (t : TypeId) : Option V := match zeroP P t with | some z => ofC z | none => none
def isIfc : TypeDesc → Bool
  | .interface _ => true
  | _ => false
def qAssert (P : Program) (A : TypeId) (x : V) (ok : Bool) : Option V :=
  match x with
  | .ifc t v => match P.underlying A with
    | some (.interface want) => match P.info? t with
      | some i => match Instr.missingMethod want i.methods, ok with
        | none, true => some (.tup [.ifc t v, .bool true])
        | none, false => some (.ifc t v)
        | some _, true => match zeroV P A with | some z => some (.tup [z, .bool false]) | none => none
        | some _, false => none
      | none => none
    | some _ => match Nat.beq t A, ok with
      | true, true => some (.tup [v, .bool true])
      | true, false => some v
      | false, true => match zeroV P A with | some z => some (.tup [z, .bool false]) | none => none
      | false, false => none
    | none => none
  | .nili => match P.underlying A, ok with
    | some _, true => match zeroV P A with | some z => some (.tup [z, .bool false]) | none => none
    | _, _ => none
  | _ => none
def keyEq : V → V → Option Bool
  | .int k a, .int k' b => match ikeq k k' with | true => some (eqI a b) | false => none
  | .str a, .str b => some (eqB a b)
  | .bool a, .bool b => some (a == b)
  | _, _ => none
def findV (k : V) : List (V × V × Nat) → Nat → Option (Option (Nat × V))
  | [], _ => some none
  | (k', v, _) :: l, i => match keyEq k k' with
    | some true => some (some (i, v))
    | some false => findV k l (i + 1)
    | none => none
def plainK : TypeDesc → Bool
  | .int _ => true | .string => true | .bool => true | _ => false
def fits : TypeDesc → V → Bool
  | .int _, .int _ _ => true | .string, .str _ => true | .bool, .bool _ => true | _, _ => false
def mapOf (hp : Mem) (x : V) : Option (List (V × V × Nat) × List Nat) :=
  match x with
  | .nilm => some ([], [])
  | .map id => match hp.t.get id with | some (.map es clk) => some (es, [id]) | _ => none
  | _ => none
def qLookup (P : Program) (hp : Mem) (T : TypeId) (x k : V) (ok : Bool) : Option (V × List Nat) :=
  match P.underlying T with
  | some (.map kt et) => match P.underlying kt with
    | some kd => match fits kd k, mapOf hp x with
      | true, some (es, rd) => match findV k es 0 with
        | some (some (_, v)) => some (match ok with | true => .tup [v, .bool true] | false => v, rd)
        | some none => match zeroV P et with | some z => some (match ok with | true => .tup [z, .bool false] | false => z, rd) | none => none
        | none => none
      | _, _ => none
    | none => none
  | _ => none
def qMap (P : Program) (hp : Mem) (T : TypeId) (x : V) : Option (V × List Nat) :=
  match P.underlying T, x with
  | some (.map _ _), .map id => match hp.t.get id with | some (.map es clk) => some (.int .i64 (.ofNat es.length), [id]) | _ => none
  | _, _ => none
def qLoad (P : Program) (hp : Mem) (T : TypeId) (x : V) : Option (V × List Nat) :=
  match x with
  | .ptr id off => match hp.t.get id with
    | some (.cells l ty s) => match partV P T l off with | some v => some (v, [id]) | none => none
    | _ => none
  | _ => none
def qEntry (hp : Mem) (x : V) : Option (V × List Nat) :=
  match x with
  | .ptr id off => match Nat.beq off 0, hp.t.get id with
    | true, some (.iterM (some m) since seen stepped) => match hp.t.get m with
      | some (.map es clk) => match Nat.beq clk stepped, seen.getLast? with
        | true, some st => match es.find? (fun e => Nat.beq e.2.2 st) with
          | some (k, v, _) => some (.tup [k, v], [id, m])
          | none => none
        | _, _ => none
      | _ => none
    | _, _ => none
  | _ => none
def maxV : V → List V → Option V
  | .int k a, .int k' b :: l => maxV (.int k (match ltI a b with | true => b | false => a)) l
  | v, [] => match v with | .int _ _ => some v | _ => none
  | _, _ => none
def minV : V → List V → Option V
  | .int k a, .int k' b :: l => minV (.int k (match ltI b a with | true => b | false => a)) l
  | v, [] => match v with | .int _ _ => some v | _ => none
  | _, _ => none
def optN (G : GV) (env : Tr V) : Option Operand → Option (Option Nat)
  | none => some none
  | some x => match evN G env x with | some n => some (some n) | none => none
def quiet (P : Program) (G : GV) (env : Tr V) (hp : Mem) (op : Op) : Option (V × List Nat) :=
  match op with
  | .move x => pr (evO G env x)
  | .assign x => pr (evO G env x)
  | .pick c a b => match evO G env c with
    | some (.bool true) => pr (evO G env a)
    | some (.bool false) => pr (evO G env b)
    | _ => none
  | .extract x i => match evO G env x with | some (.tup l) => pr (nth l i) | _ => none
  | .nilCheck x => match evO G env x with | some v => pr (qNil v) | none => none
  | .fieldAddr s x f => match evO G env x, fieldOff P s f with
    | some (.ptr id off), some k => some (.ptr id (off + k), [])
    | _, _ => none
  | .field s x f => match evO G env x with | some (.agg l) => pr (qField P s f l) | _ => none
  | .indexAddr t x y => match evO G env x, evN G env y with | some v, some j => pr (qIndexAddr P t v j) | _, _ => none
  | .index t x y => match evO G env x, evN G env y with | some v, some j => pr (qIndex P t v j) | _, _ => none
  | .slice t x lo hi none => match evO G env x, optN G env lo, optN G env hi with | some v, some i, some j => pr (qSlice P t v i j) | _, _, _ => none
  | .sliceToArrayPointer t x => match evO G env x, P.underlying t with
    | some (.sl id i off len cap), some (.array N _) => match Nat.ble N len with | true => some (.ptr id off, []) | false => none
    | _, _ => none
  | .unOp op _ x => match evO G env x with | some v => pr (qUn op v) | none => none
  | .binOp op t x y _ => match evO G env x, evO G env y with | some a, some b => pr (qBin P op t x y a b) | _, _ => none
  | .convert s d x => match evO G env x with | some v => qConv P hp s d v | none => none
  | .makeInterface t x => match evO G env x, P.underlying t with
    | some v, some sd => match isIfc sd with | false => some (.ifc t v, []) | true => none
    | _, _ => none
  | .makeFunc f a b => match mapO (evO G env) a.toList, mapO (evO G env) b.toList with | some xs, some ys => some (.fn f xs ys, []) | _, _ => none
  | .typeAssert x _ t ok => match evO G env x with | some v => pr (qAssert P t v ok) | none => none
  | .lookup t x k ok => match evO G env x, evO G env k with | some m, some kk => qLookup P hp t m kk ok | _, _ => none
  | .load t x => match evO G env x with | some v => qLoad P hp t v | none => none
  | .entry x => match evO G env x with | some v => qEntry hp v | none => none
  | .call c => match c.callee with
    | .builtin .len => match c.args.toList, c.argTypes[0]? with
      | [x], some t => match evO G env x with
        | some v => match qLen P t v with | some r => some (r, []) | none => qMap P hp t v
        | none => none
      | _, _ => none
    | .builtin .max => match mapO (evO G env) c.args.toList with | some (v :: l) => pr (maxV v l) | _ => none
    | .builtin .min => match mapO (evO G env) c.args.toList with | some (v :: l) => pr (minV v l) | _ => none
    | _ => none
  | _ => none
end
end Go.Y
