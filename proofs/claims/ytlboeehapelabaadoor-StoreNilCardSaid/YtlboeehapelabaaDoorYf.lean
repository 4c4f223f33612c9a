/- Loud operations: iterators, delete, copy. -/
import Derived.Test.YtlboeehapelabaaDoorYe
set_option linter.unusedVariables false
set_option linter.unusedSimpArgs false
namespace Go.Y
open Go.Z
noncomputable section
/-- a struct out of its parts -/
def qBuild (P : Program) (G : GV) (env : Tr V) (t : TypeId) (parts : Array (Nat × Operand)) : Option (V × List Nat) :=
  match layout P t with
  | some (pl, zc) => match mapO ofC0 zc, mapO (evO G env) (parts.toList.map (·.2)) with
    | some zv, some vs => match fillV (nth pl) zv ((parts.toList.map (·.1)).zip vs) with
      | some l => some (.agg l, [])
      | none => none
    | _, _ => none
  | none => none
def quietA (P : Program) (G : GV) (env : Tr V) (hp : Mem) (op : Op) : Option (V × List Nat) :=
  match op with
  | .build t parts => qBuild P G env t parts
  | op => quiet P G env hp op
def lRange (P : Program) (G : GV) (env : Tr V) (hp : Mem) (t : TypeId) (x : Operand) : Option (List (V × Mem)) :=
  match P.underlying t, evO G env x with
  | some .string, some (.str s) => one (.ptr hp.n 0) (hp.newS (.iterS s 0))
  | some (.map _ _), some .nilm => one (.ptr hp.n 0) (hp.newS (.iterM none 0 [] 0))
  | some (.map _ _), some (.map id) => match hp.t.get id with
    | some (.map _ clk) => one (.ptr hp.n 0) (hp.newS (.iterM (some id) clk [] clk))
    | _ => none
  | _, _ => none
def memN (l : List Nat) (x : Nat) : Bool := l.any fun y => Nat.beq y x
/-- each candidate of a step over a map -/
def stepsM (hp : Mem) (it m since clk : Nat) (seen : List Nat) : List (V × V × Nat) → Option (List (V × Mem))
  | [] => some []
  | (k, v, b) :: l => match stepsM hp it m since clk seen l, hp.putS it (some (.iterM (some m) since (seen ++ [b]) clk)) with
    | some r, some h => some ((.tup [.bool true, k, v], h) :: r)
    | _, _ => none
def lNext (G : GV) (env : Tr V) (hp : Mem) (x : Operand) (isStr : Bool) : Option (List (V × Mem)) :=
  match evO G env x with
  | some (.ptr it off) => match Nat.beq off 0, hp.t.get it, isStr with
    | true, some (.iterS s pos), true => match Nat.blt pos s.length with
      | true => one (.tup [.bool true, .int .i64 (.ofNat pos), .int .i32 (Utf8.decode (bs s) pos).1]) (hp.putS it (some (.iterS s (pos + (Utf8.decode (bs s) pos).2))))
      | false => some [(.tup [.bool false], hp)]
    | true, some (.iterM none _ _ _), false => some [(.tup [.bool false], hp)]
    | true, some (.iterM (some m) since seen last), false => match hp.t.get m with
      | some (.map es clk) => match seen with
        | [] => stepM es clk m since [] it
        | _ :: _ => match es.all (fun e => Nat.ble last e.2.2) && !es.isEmpty with
          | true => none
          | false => stepM es clk m since seen it
      | _ => none
    | _, _, _ => none
  | _ => none
where stepM (es : List (V × V × Nat)) (clk m since : Nat) (seen : List Nat) (it : Nat) : Option (List (V × Mem)) :=
  match es.filter (fun e => !memN seen e.2.2) with
  | [] => some [(.tup [.bool false], hp)]
  | left => match left.all (fun e => Nat.blt e.2.2 since) with
    | true => stepsM hp it m since clk seen left
    | false => none
def lDelete (P : Program) (G : GV) (env : Tr V) (hp : Mem) (t : TypeId) (x y : Operand) : Option (List (V × Mem)) :=
  match P.underlying t with
  | some (.map kt _) => match P.underlying kt with
    | some kd => match evO G env x, evO G env y with
      | some (.map id), some k => match fits kd k, hp.t.get id with
        | true, some (.map l clk) => match findV k l 0 with
          | some (some (i, _)) => one .und (hp.putS id (some (.map (l.eraseIdx i) clk)))
          | some none => some [(.und, hp)]
          | none => none
        | _, _ => none
      | _, _ => none
    | none => none
  | _ => none
/-- what is copied from -/
def srcOf (hp : Mem) (sz : Nat) (x : V) : Option (List V × Nat) :=
  match x with
  | .str s => match Nat.beq sz 1 with | true => some (strCells s, s.length) | false => none
  | x => match elemsV hp sz x, lenV x with | some (l, _), some n => some (l, n) | _, _ => none
def lCopy (P : Program) (G : GV) (env : Tr V) (hp : Mem) (t : TypeId) (x y : Operand) : Option (List (V × Mem)) :=
  match P.underlying t with
  | some (.slice e) => match sizeP P e, evO G env x, evO G env y with
    | some sz, some (.sl id i off len cap), some b => match hp.t.get id, srcOf hp sz b with
      | some (.cells l ty s), some (src, k) => match takeN (Nat.min k len * sz) src with
        | some new => match allScal new, overV l off new with
          | true, some l' => one (.int .i64 (.ofNat (Nat.min k len))) (hp.putS id (some (.cells l' ty s)))
          | _, _ => none
        | none => none
      | _, _ => none
    | _, _, _ => none
  | _ => none
end
end Go.Y
