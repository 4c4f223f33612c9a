/- The machine: operations, regions, code, calls. -/
import Derived.Test.YtlboeehapelabaaDoorYf
set_option linter.unusedVariables false
set_option linter.unusedSimpArgs false
namespace Go.Y
open Go.Z
noncomputable section
/-- How a piece of code is left. -/
inductive O where
  | normal | exit (id : Nat) | goto (l : Nat) | ret | panic (v : V)
/-- How a call ends. -/
inductive E where
  | ret (v : V) | pan (v : V)
/-- What is deferred: a mark of a range over a function; a call. -/
inductive DV where
  | mark (id : Nat) | call (f : Nat) (args : List V)
structure FI where
  nt : Nat
  ro : Option Nat
abbrev KK := O → List DV → Tr V → Mem → Bool
abbrev KE := E → Mem → Bool
abbrev KR := O → Option V → Tr V → Mem → Bool
inductive Task where
  | code (fi : FI) (c : Code) (ds : List DV) (env : Tr V) (hp : Mem) (k : KK)
  | ops (fi : FI) (arr : Array Oper) (l : List Oper) (ds : List DV) (env : Tr V) (hp : Mem) (k : KK)
  | draw (fi : FI) (arr : Array Oper) (pi : List (Nat × Md)) (ro : List Nat) (ds : List DV) (env : Tr V) (hp : Mem) (k : KK)
  | call (f : Nat) (args : List V) (hp : Mem) (k : KE)
  | leave (fn : Func) (ds : List DV) (mode : Option V) (env : Tr V) (hp : Mem) (k : KE)
  | dcode (nt : Nat) (c : Code) (env : Tr V) (hp : Mem) (rc : Option V) (k : KR)
  | dops (nt : Nat) (arr : Array Oper) (l : List Oper) (env : Tr V) (hp : Mem) (rc : Option V) (k : KR)
def wantsV (ops : Array Oper) (env : Tr V) (o : Oper) : Option Bool :=
  match o.guard with
  | none => some true
  | some (j, b) => match ops[j]? with
    | some oj => match oj.dst with
      | some t => match env.get t with | some (.bool c) => some (c == b) | some .und => some false | _ => none
      | none => none
    | none => none
def dstC (d : Option Nat) (n : Nat) : Bool := match d with | some t => Nat.blt t n | none => true
def putE (d : Option Nat) (v : V) (env : Tr V) : Tr V := match d with | some t => Tr.set 20 env t (some v) | none => env
def allO (k : V → Mem → Bool) : List (V × Mem) → Bool
  | [] => true
  | (v, h) :: l => match k v h with | true => allO k l | false => false
def argE : Nat → List V → Tr V → Tr V
  | _, [], t => t
  | i, v :: l, t => argE (i + 1) l (Tr.set 20 t i (some v))
def resV (P : Program) (env : Tr V) (hp : Mem) : ResultVar → Option V
  | .tmp t => env.get t
  | .cell t T => match env.get t with
    | some (.ptr id off) => match hp.t.get id with | some (.cells l ty s) => partV P T l off | _ => none
    | _ => none
def resultV (P : Program) (fn : Func) (env : Tr V) (hp : Mem) : Option V :=
  match fn.results.toList with
  | [] => some (.tup [])
  | [a] => resV P env hp a
  | l => match mapO (resV P env hp) l with | some vs => some (.tup vs) | none => none
/-- the function behind a method of a value -/
def methodV (P : Program) (t : TypeId) (name : String) : Option Nat :=
  match P.info? t, P.underlying t with
  | some i, some sd => match i.methods.find? (·.name == name) with
    | some m => match m.path.isEmpty, m.func with
      | true, some (f, pr) => match sd, pr with
        | .pointer _, true => some f
        | .pointer _, false => none
        | _, false => some f
        | _, true => none
      | _, _ => none
    | none => none
  | _, _ => none
inductive Step where
  | val (v : V) (rd : List Nat)
  | outs (l : List (V × Mem))
  | call (f : Nat) (args : List V)
  | round (id : Nat) (args : List V)
  | defer (f : Nat) (args : List V)
  | pan (v : V)
  | bad
def ofQ : Option (V × List Nat) → Step
  | some (v, rd) => .val v rd
  | none => .bad
def ofL : Option (List (V × Mem)) → Step
  | some l => .outs l
  | none => .bad
/-- a function that has no body: 'maps.clone' alone -/
def extV (name origin : String) (args : List V) (hp : Mem) : Step := match name == "maps.clone" && origin == "" with
  | true => match args with
    | [.ifc t (.map id)] => match hp.t.get id with
      | some (.map es clk) => ofL (one (.ifc t (.map hp.n)) (hp.newS (.map es clk)))
      | _ => .bad
    | _ => .bad
  | false => .bad
def callF (P : Program) (f : Nat) (args : List V) (hp : Mem) : Step := match P.funcs[f]? with
  | some fn => match fn.body with
    | some _ => .call f args
    | none => extV fn.name fn.origin args hp
  | none => .bad
def callV (P : Program) (hp : Mem) (f : Option V) (xs : Option (List V)) : Step := match f, xs with
  | some (.fn (.func f) a b), some xs => callF P f (a ++ xs ++ b) hp
  | some (.yld id), some xs => .round id xs
  | _, _ => .bad
def deferV (f : Option V) (xs : Option (List V)) : Step := match f, xs with
  | some (.fn (.func f) a b), some xs => .defer f (a ++ xs ++ b)
  | _, _ => .bad
def invokeV (P : Program) (x : Option V) (name : String) (xs : Option (List V)) : Step := match x, xs with
  | some (.ifc t v), some xs => match methodV P t name with | some f => .call f (v :: xs) | none => .bad
  | _, _ => .bad
def appendV (P : Program) (G : GV) (env : Tr V) (hp : Mem) (xs : List Operand) (ts : List TypeId) : Step := match xs, ts with
  | [x, y], [t, xt] => ofL (lAppend P G env hp t xt x y)
  | _, _ => .bad
def two (f : TypeId → Operand → Operand → Option (List (V × Mem))) (xs : List Operand) (ts : List TypeId) : Step := match xs, ts with
  | [x, y], t :: _ => ofL (f t x y)
  | _, _ => .bad
def convV (P : Program) (G : GV) (env : Tr V) (hp : Mem) (s t : TypeId) (x : Operand) : Step := match quiet P G env hp (.convert s t x) with
  | some (v, rd) => .val v rd
  | none => match lConv P G env hp s t x with
    | some l => .outs l
    | none => ofL (lSame P hp s t (evO G env x))
def panicV : Option V → Step
  | some (.ifc t v) => .pan (.ifc t v)
  | _ => .bad
def needD (d : Option Nat) (s : Step) : Step := match d with | some _ => s | none => .bad
def needN (d : Option Nat) (s : Step) : Step := match d with | some _ => .bad | none => s
def stepC (P : Program) (G : GV) (env : Tr V) (hp : Mem) (d : Option Nat) (c : Call) : Step := match c.callee with
  | .builtin .append => needD d (appendV P G env hp c.args.toList c.argTypes.toList)
  | .builtin .copy => two (lCopy P G env hp) c.args.toList c.argTypes.toList
  | .builtin .delete => two (lDelete P G env hp) c.args.toList c.argTypes.toList
  | .builtin b => needD d (ofQ (quiet P G env hp (.call c)))
  | .value f => callV P hp (evO G env f) (mapO (evO G env) c.args.toList)
  | .invoke x name => invokeV P (evO G env x) name (mapO (evO G env) c.args.toList)
def stepD (G : GV) (env : Tr V) (c : Call) : Step := match c.callee with
  | .value f => deferV (evO G env f) (mapO (evO G env) c.args.toList)
  | _ => .bad
def stepV (P : Program) (G : GV) (env : Tr V) (hp : Mem) (d : Option Nat) (op : Op) : Step :=
  match op with
  | .alloc t => needD d (ofL (lAlloc P hp t))
  | .box t x => needD d (ofL (lBox G env hp t x))
  | .store t x y => needN d (ofL (lStore P G env hp t x y))
  | .buildSlice t 0 parts => needD d (ofL (lBuildEmpty P hp t parts))
  | .buildSlice t len parts => needD d (ofL (lBuildSlice P G env hp t len parts))
  | .makeSlice t x y => needD d (ofL (lMakeSlice P G env hp t x y))
  | .makeMap _ res => needD d (ofL (lMakeMap hp res))
  | .mapUpdate t x y z => needN d (ofL (lMapUpdate P G env hp t x y z))
  | .insert t x y z => needN d (ofL (lMapUpdate P G env hp t x y z))
  | .range t x => needD d (ofL (lRange P G env hp t x))
  | .next x s => needD d (ofL (lNext G env hp x s))
  | .convert s t x => needD d (convV P G env hp s t x)
  | .panic x => panicV (evO G env x)
  | .call c => stepC P G env hp d c
  | .defer c => stepD G env c
  | op => needD d (ofQ (quietA P G env hp op))
/-! ### Orders of regions that draw -/
def isLoud (o : Oper) : Bool :=
  match o.op with
  | .alloc _ | .box _ _ | .store _ _ _ | .buildSlice _ _ _ | .makeSlice _ _ _ | .makeMap _ _ | .mapUpdate _ _ _ _ | .insert _ _ _ _ | .range _ _ | .next _ _ | .panic _ => true
  | .call c => match c.callee with
    | .builtin .len => false | .builtin .max => false | .builtin .min => false
    | _ => true
  | _ => false
def isNew (o : Oper) : Bool :=
  match o.op with
  | .alloc _ | .box _ _ | .buildSlice _ _ _ => true
  | _ => false
/-- 0 quiet, 1 loud, 2 new memory alone -/
def kindO (o : Oper) : Nat := match isNew o with | true => 2 | false => match isLoud o with | true => 1 | false => 0
/-- what stands ahead of each, step by step: bits -/
def trs : List Oper → List Nat → List Nat
  | [], _ => []
  | o :: l, seen => -- seen: the earlier ones' bits, the first one first
    let t := o.after.toList.foldl (fun s e => if Region.binds .any e then Nat.lor s (Nat.lor (Nat.shiftLeft 1 e.on) ((nth seen e.on).getD 0)) else s) 0
    t :: trs l (seen ++ [t])
def sub (a b : Nat) : Bool := Nat.beq (Nat.land a b) a
/-- number, kind, bits -/
def findR (loud : Bool) (done : Nat) : List (Nat × Nat × Nat) → Option (Nat × Nat × Nat)
  | [] => none
  | (i, w, t) :: l => match (!Nat.beq w 0) == loud && sub t done with | true => some (i, w, t) | false => findR loud done l
def dropR (i : Nat) : List (Nat × Nat × Nat) → List (Nat × Nat × Nat)
  | [] => []
  | (j, w, t) :: l => match Nat.beq i j with | true => l | false => (j, w, t) :: dropR i l
def ordR : Nat → List (Nat × Nat × Nat) → Nat → List (Nat × Nat × Nat)
  | 0, _, _ => []
  | f + 1, l, done => match findR false done l with
    | some (i, w, t) => (i, w, t) :: ordR f (dropR i l) (Nat.lor done (Nat.shiftLeft 1 i))
    | none => match findR true done l with
      | some (i, w, t) => (i, w, t) :: ordR f (dropR i l) (Nat.lor done (Nat.shiftLeft 1 i))
      | none => []
def nextW : List (Nat × Nat × Nat) → Option Nat
  | [] => none
  | (_, w, t) :: l => match Nat.beq w 1 with | true => some t | false => nextW l
def modes : List (Nat × Nat × Nat) → List (Nat × Md)
  | [] => []
  | (i, 1, _) :: l => (i, .w) :: modes l
  | (i, 2, _) :: l => (i, .n) :: modes l
  | (i, _, _) :: l => (i, match nextW l with | none => .a | some t => match Nat.testBit t i with | true => .a | false => .c) :: modes l
def looksM (arr : Array Oper) (o : Oper) : Nat := (looks arr o).foldl (fun s t => Nat.lor s (Nat.shiftLeft 1 t)) 0
/-- 'seen': what the earlier ones look at -/
def enumR (arr : Array Oper) : Nat → List Oper → List Nat → Nat → List (Nat × Nat × Nat)
  | i, o :: l, t :: ts, seen => (i, (match o.dst with | some d => (match Nat.testBit seen d with | true => 1 | false => kindO o) | none => kindO o), t) :: enumR arr (i + 1) l ts (Nat.lor seen (looksM arr o))
  | _, _, _, _ => []
def piOf (arr : Array Oper) : List (Nat × Md) := modes (ordR arr.size (enumR arr 0 arr.toList (trs arr.toList []) 0) 0)
def Mem.setRo (hp : Mem) (ro : List Nat) : Mem := ⟨hp.n, hp.t, ro⟩
/-! ### Code -/
def seqK (ih : Task → Bool) (fi : FI) (b : Code) (k : KK) : KK := fun o ds env hp => match o with
  | .normal => ih (.code fi b ds env hp k)
  | o => k o ds env hp
def blkK (id : Nat) (k : KK) : KK := fun o ds env hp => match o with
  | .exit i => ifB (Nat.beq i id) (k .normal ds env hp) (k (.exit i) ds env hp)
  | o => k o ds env hp
def goCond (ih : Task → Bool) (fi : FI) (b : Option V) (x y : Code) (ds : List DV) (env : Tr V) (hp : Mem) (k : KK) : Bool := match b with
  | some (.bool true) => ih (.code fi x ds env hp k)
  | some (.bool false) => ih (.code fi y ds env hp k)
  | _ => false
def goRegion (ih : Task → Bool) (fi : FI) (arr : Array Oper) (dr : Bool) (ds : List DV) (env : Tr V) (hp : Mem) (k : KK) : Bool := match dr with
  | false => ih (.ops fi arr arr.toList ds env hp k)
  | true => match regionOk arr (piOf arr) && Region.noSelect arr with
    | true => ih (.draw fi arr (piOf arr) hp.ro ds env hp k)
    | false => false
def setPend (hp : Mem) (l : Nat) (st : LoopState) (pend : Option Code) : Option Mem := match hp.t.get l with
  | some (.loop _ _ env nt ps assign body d) => hp.putS l (some (.loop st pend env nt ps assign body d))
  | _ => none
def notBusy : LoopState → Bool
  | .busy => false
  | _ => true
def pendK (ih : Task → Bool) (fi : FI) (ds : List DV) (env : Tr V) (k : KK) (pend : Option Code) (hp : Mem) : Bool := match pend with
  | none => k .normal ds env hp
  | some c => ih (.code fi c ds env hp k)
/-- behind the function that was ranged over -/
def rangeK (ih : Task → Bool) (fi : FI) (l : Nat) (ds : List DV) (env : Tr V) (k : KK) : KE := fun e hp => match e with
  | .pan v => k (.panic v) ds env hp
  | .ret _ => match hp.t.get l, hp.putS l none with
    | some (.loop st pend _ _ _ _ _ _), some h => ifB (notBusy st) (pendK ih fi ds env k pend h) false
    | _, _ => false
def goRange (ih : Task → Bool) (fi : FI) (g : Option V) (ps : Array Tmp) (assign body : Code) (ds : List DV) (env : Tr V) (hp : Mem) (k : KK) : Bool := match g with
  | some (.fn (.func f) a b) => match fi.ro with
    | none => match hp.newS .defr with
      | some h1 => match h1.newS (.loop .ready none env fi.nt ps assign body hp.n) with
        | some h2 => ih (.call f (a ++ [.yld h1.n] ++ b) h2 (rangeK ih fi h1.n (.mark hp.n :: ds) env k))
        | none => false
      | none => false
    | some l0 => match hp.t.get l0 with
      | some (.loop _ _ _ _ _ _ _ d) => match hp.newS (.loop .ready none env fi.nt ps assign body d) with
        | some h2 => ih (.call f (a ++ [.yld hp.n] ++ b) h2 (rangeK ih fi hp.n ds env k))
        | none => false
      | _ => false
  | _ => false
def goCode (G : GV) (ih : Task → Bool) (fi : FI) (c : Code) (ds : List DV) (env : Tr V) (hp : Mem) (k : KK) : Bool := match c with
  | .skip => k .normal ds env hp
  | .label _ => k .normal ds env hp
  | .ret => k .ret ds env hp
  | .exit id => k (.exit id) ds env hp
  | .seq a b => ih (.code fi a ds env hp (seqK ih fi b k))
  | .cond c a b => goCond ih fi (evO G env c) a b ds env hp k
  | .block id c => ih (.code fi c ds env hp (blkK id k))
  | .loop c => ih (.code fi c ds env hp (seqK ih fi (.loop c) k))
  | .region _ arr dr => goRegion ih fi arr dr ds env hp k
  | .rangeFunc g ps assign body => goRange ih fi (evO G env g) ps assign body ds env hp k
  | _ => false
def retK (ih : Task → Bool) (fi : FI) (arr : Array Oper) (r : List Oper) (d : Option Nat) (ds : List DV) (env : Tr V) (k : KK) : KE := fun e hp => match e with
  | .ret v => ih (.ops fi arr r ds (putE d v env) hp k)
  | .pan v => k (.panic v) ds env hp
def setArgs (nt : Nat) : List Tmp → List V → Tr V → Option (Tr V)
  | [], [], t => some t
  | p :: ps, v :: vs, t => match Nat.blt p nt with | true => setArgs nt ps vs (Tr.set 20 t p (some v)) | false => none
  | _, _, _ => none
/-- how a round is left -/
def endRd (l : Nat) (ke : KE) : KK := fun o ds env hp => match ds with
  | [] => match o with
    | .normal => match setPend hp l .ready none with | some h => ke (.ret (.bool true)) h | none => false
    | .ret => match setPend hp l .done (some .ret) with | some h => ke (.ret (.bool false)) h | none => false
    | .exit i => match setPend hp l .done (some (.exit i)) with | some h => ke (.ret (.bool false)) h | none => false
    | _ => false
  | _ => false
def rdK (ih : Task → Bool) (fi : FI) (l : Nat) (body : Code) (ke : KE) : KK := fun o ds env hp => match o, ds with
  | .normal, [] => match hp.t.get l with
    | some (.loop .ready pend env0 nt ps assign bd d) => match hp.putS l (some (.loop .busy pend env0 nt ps assign bd d)) with
      | some h => ih (.code fi body [] env h (endRd l ke))
      | none => false
    | _ => false
  | _, _ => false
def goRound (ih : Task → Bool) (l : Nat) (args : List V) (hp : Mem) (ke : KE) : Bool := match hp.t.get l with
  | some (.loop _ _ env nt ps assign body _) => match setArgs nt ps.toList args env, small nt with
    | some env', true => ih (.code ⟨nt, some l⟩ assign [] env' hp (rdK ih ⟨nt, some l⟩ l body ke))
    | _, _ => false
  | _ => false
/-- a truth of which nothing is known: both ways -/
def forkB (k : V → Bool) (v : V) : Bool := match v with
  | .anyB => (match k (.bool true) with | true => k (.bool false) | false => false)
  | v => k v
def goStep (ih : Task → Bool) (fi : FI) (arr : Array Oper) (d : Option Nat) (r : List Oper) (ds : List DV) (env : Tr V) (hp : Mem) (k : KK) (s : Step) : Bool := match s with
  | .val v _ => forkB (fun v => ih (.ops fi arr r ds (putE d v env) hp k)) v
  | .outs outs => allO (fun v hp => ih (.ops fi arr r ds (putE d v env) hp k)) outs
  | .call f args => ih (.call f args hp (retK ih fi arr r d ds env k))
  | .round l args => goRound ih l args hp (retK ih fi arr r d ds env k)
  | .defer f args => match fi.ro with
    | none => ih (.ops fi arr r (.call f args :: ds) (putE d .und env) hp k)
    | some _ => false
  | .pan v => k (.panic v) ds env hp
  | .bad => false
def goWant (P : Program) (G : GV) (ih : Task → Bool) (fi : FI) (arr : Array Oper) (o : Oper) (r : List Oper) (ds : List DV) (env : Tr V) (hp : Mem) (k : KK) (w : Option Bool) : Bool := match w with
  | some true => goStep ih fi arr o.dst r ds env hp k (stepV P G env hp o.dst o.op)
  | some false => ih (.ops fi arr r ds (putE o.dst .und env) hp k)
  | none => false
def goOps (P : Program) (G : GV) (ih : Task → Bool) (fi : FI) (arr : Array Oper) (l : List Oper) (ds : List DV) (env : Tr V) (hp : Mem) (k : KK) : Bool := match l with
  | [] => k .normal ds env hp
  | o :: r => match dstC o.dst fi.nt with | true => goWant P G ih fi arr o r ds env hp k (wantsV arr env o) | false => false
def drawK (ih : Task → Bool) (fi : FI) (arr : Array Oper) (pi : List (Nat × Md)) (ro : List Nat) (len : Nat) (k : KK) : KK := fun o ds env hp => match o with
  | .normal => match Nat.beq ds.length len with | true => ih (.draw fi arr pi ro ds env hp k) | false => false
  | .panic v => k (.panic v) ds .nil (hp.setRo ro)
  | _ => false
def goDrawQ (ih : Task → Bool) (fi : FI) (arr : Array Oper) (m : Md) (d : Option Nat) (pi : List (Nat × Md)) (ro : List Nat) (ds : List DV) (env : Tr V) (hp : Mem) (k : KK) (q : Option (V × List Nat)) : Bool := match q, m, d with
  | some (v, _), .a, some d => forkB (fun v => ih (.draw fi arr pi ro ds (Tr.set 20 env d (some v)) hp k)) v
  | some (v, []), .c, some d => forkB (fun v => ih (.draw fi arr pi ro ds (Tr.set 20 env d (some v)) hp k)) v
  | some (v, [id]), .c, some d => forkB (fun v => ih (.draw fi arr pi ro ds (Tr.set 20 env d (some v)) (hp.setRo (id :: hp.ro)) k)) v
  | _, _, _ => false
def goDrawW (P : Program) (G : GV) (ih : Task → Bool) (fi : FI) (arr : Array Oper) (o : Oper) (m : Md) (pi : List (Nat × Md)) (ro : List Nat) (ds : List DV) (env : Tr V) (hp : Mem) (k : KK) (w : Option Bool) : Bool := match w with
  | some true => goDrawQ ih fi arr m o.dst pi ro ds env hp k (quietA P G env hp o.op)
  | some false => ih (.draw fi arr pi ro ds (putE o.dst .und env) hp k)
  | none => false
/-- what lays new memory alone -/
def newV (P : Program) (G : GV) (env : Tr V) (hp : Mem) (op : Op) : Option (List (V × Mem)) := match op with
  | .alloc t => lAlloc P hp t
  | .box t x => lBox G env hp t x
  | .buildSlice t 0 parts => lBuildEmpty P hp t parts
  | .buildSlice t len parts => lBuildSlice P G env hp t len parts
  | _ => none
def goDrawN1 (ih : Task → Bool) (fi : FI) (arr : Array Oper) (d : Option Nat) (pi : List (Nat × Md)) (ro : List Nat) (ds : List DV) (env : Tr V) (k : KK) (q : Option (List (V × Mem))) : Bool := match q with
  | some [(v, h)] => ih (.draw fi arr pi ro ds (putE d v env) h k)
  | _ => false
def goDrawN (P : Program) (G : GV) (ih : Task → Bool) (fi : FI) (arr : Array Oper) (o : Oper) (pi : List (Nat × Md)) (ro : List Nat) (ds : List DV) (env : Tr V) (hp : Mem) (k : KK) (w : Option Bool) : Bool := match w with
  | some true => goDrawN1 ih fi arr o.dst pi ro ds env k (newV P G env hp o.op)
  | some false => ih (.draw fi arr pi ro ds (putE o.dst .und env) hp k)
  | none => false
def isDefer (o : Oper) : Bool := match o.op with | .defer _ => true | _ => false
def goDraw1 (P : Program) (G : GV) (ih : Task → Bool) (fi : FI) (arr : Array Oper) (o : Oper) (m : Md) (pi : List (Nat × Md)) (ro : List Nat) (ds : List DV) (env : Tr V) (hp : Mem) (k : KK) : Bool := match m with
  | .w => ih (.ops fi arr [o] ds env hp (drawK ih fi arr pi ro ds.length k))
  | .n => goDrawN P G ih fi arr o pi ro ds env hp k (wantsV arr env o)
  | .a => goDrawW P G ih fi arr o .a pi ro ds env hp k (wantsV arr env o)
  | .c => goDrawW P G ih fi arr o .c pi ro ds env hp k (wantsV arr env o)
  | .b => false
def goDraw (P : Program) (G : GV) (ih : Task → Bool) (fi : FI) (arr : Array Oper) (pi : List (Nat × Md)) (ro : List Nat) (ds : List DV) (env : Tr V) (hp : Mem) (k : KK) : Bool := match pi with
  | [] => k .normal ds env (hp.setRo ro)
  | (i, m) :: pi => match arr[i]? with
    | some o => match dstC o.dst fi.nt, isDefer o with
      | true, false => goDraw1 P G ih fi arr o m pi ro ds env hp k
      | _, _ => false
    | none => false
/-! ### Calls -/
def endK (ih : Task → Bool) (fn : Func) (k : KE) : KK := fun o ds env hp => match o with
  | .normal => ih (.leave fn ds none env hp k)
  | .ret => ih (.leave fn ds none env hp k)
  | .panic v => ih (.leave fn ds (some v) env hp k)
  | _ => false
def goFn (ih : Task → Bool) (f : Nat) (fn : Option Func) (args : List V) (hp : Mem) (k : KE) : Bool := match fn with
  | some fn => match fn.body, Nat.ble args.length fn.ntmps, small fn.ntmps with
    | some c, true, true => ih (.code ⟨fn.ntmps, none⟩ c [] (argE 0 args .nil) hp (endK ih fn k))
    | _, _, _ => false
  | none => false
def lookK : List (Nat × V) → Nat → Option V
  | [], _ => none
  | (g, v) :: l, f => match Nat.beq g f with | true => some v | false => lookK l f
/-- a function whose result is known is not carried out -/
def goCall (G : GV) (ih : Task → Bool) (f : Nat) (fn : Option Func) (args : List V) (hp : Mem) (k : KE) : Bool := match lookK G.kn f, args with
  | some v, [] => k (.ret v) hp
  | _, args => goFn ih f fn args hp k
/-- behind a deferred call that has returned: what is still panicking -/
def defK (ih : Task → Bool) (fn : Func) (ds : List DV) (env : Tr V) (k : KE) : KR := fun o rc env' hp => match o with
  | .normal => ih (.leave fn ds rc env hp k)
  | .ret => ih (.leave fn ds rc env hp k)
  | _ => false
def goLeave (P : Program) (ih : Task → Bool) (fn : Func) (ds : List DV) (mode : Option V) (env : Tr V) (hp : Mem) (k : KE) : Bool := match ds with
  | [] => match mode with
    | none => match resultV P fn env hp with | some v => k (.ret v) hp | none => false
    | some v => k (.pan v) hp
  | .mark id :: ds => match hp.t.get id, hp.putS id none with
    | some .defr, some h => ih (.leave fn ds mode env h k)
    | _, _ => false
  | .call f args :: ds => match P.funcs[f]? with
    | some fd => match fd.body, fd.results.toList, Nat.ble args.length fd.ntmps, small fd.ntmps with
      | some c, [], true, true => ih (.dcode fd.ntmps c (argE 0 args .nil) hp mode (defK ih fn ds env k))
      | _, _, _, _ => false
    | none => false
def dseqK (ih : Task → Bool) (nt : Nat) (b : Code) (k : KR) : KR := fun o rc env hp => match o with
  | .normal => ih (.dcode nt b env hp rc k)
  | o => k o rc env hp
/-- code that does not recover: what is panicking stays -/
def keepK (rc : Option V) (k : KR) : KK := fun o ds env hp => match ds with
  | [] => k o rc env hp
  | _ => false
def isRecover (o : Oper) : Bool := match o.op with
  | .call c => match c.callee with | .builtin .recover => true | _ => false
  | _ => false
def goDCond (ih : Task → Bool) (nt : Nat) (b : Option V) (x y : Code) (env : Tr V) (hp : Mem) (rc : Option V) (k : KR) : Bool := match b with
  | some (.bool true) => ih (.dcode nt x env hp rc k)
  | some (.bool false) => ih (.dcode nt y env hp rc k)
  | _ => false
def goDCode (G : GV) (ih : Task → Bool) (nt : Nat) (c : Code) (env : Tr V) (hp : Mem) (rc : Option V) (k : KR) : Bool := match c with
  | .seq a b => ih (.dcode nt a env hp rc (dseqK ih nt b k))
  | .cond c a b => goDCond ih nt (evO G env c) a b env hp rc k
  | .region id arr dr => match arr.toList.any isRecover, dr with
    | true, false => ih (.dops nt arr arr.toList env hp rc k)
    | true, true => false
    | false, _ => ih (.code ⟨nt, none⟩ (.region id arr dr) [] env hp (keepK rc k))
  | c => ih (.code ⟨nt, none⟩ c [] env hp (keepK rc k))
def goDOpQ (ih : Task → Bool) (nt : Nat) (arr : Array Oper) (d : Option Nat) (r : List Oper) (env : Tr V) (hp : Mem) (rc : Option V) (k : KR) (q : Option (V × List Nat)) : Bool := match q, d with
  | some (v, _), some d => ih (.dops nt arr r (Tr.set 20 env d (some v)) hp rc k)
  | _, _ => false
def goDOp (P : Program) (G : GV) (ih : Task → Bool) (nt : Nat) (arr : Array Oper) (o : Oper) (r : List Oper) (env : Tr V) (hp : Mem) (rc : Option V) (k : KR) : Bool := match dstC o.dst nt, isRecover o, o.guard with
  | true, true, none => match rc with
    | some v => ih (.dops nt arr r (putE o.dst v env) hp none k)
    | none => ih (.dops nt arr r (putE o.dst .nili env) hp none k)
  | true, false, none => goDOpQ ih nt arr o.dst r env hp rc k (quietA P G env hp o.op)
  | _, _, _ => false
def goDOps (P : Program) (G : GV) (ih : Task → Bool) (nt : Nat) (arr : Array Oper) (l : List Oper) (env : Tr V) (hp : Mem) (rc : Option V) (k : KR) : Bool := match l with
  | [] => k .normal rc env hp
  | o :: r => goDOp P G ih nt arr o r env hp rc k
def goTask (P : Program) (G : GV) (ih : Task → Bool) (t : Task) : Bool := match t with
  | .code fi c ds env hp k => goCode G ih fi c ds env hp k
  | .ops fi arr l ds env hp k => goOps P G ih fi arr l ds env hp k
  | .draw fi arr pi ro ds env hp k => goDraw P G ih fi arr pi ro ds env hp k
  | .call f args hp k => goCall G ih f P.funcs[f]? args hp k
  | .leave fn ds mode env hp k => goLeave P ih fn ds mode env hp k
  | .dcode nt c env hp rc k => goDCode G ih nt c env hp rc k
  | .dops nt arr l env hp rc k => goDOps P G ih nt arr l env hp rc k
def go (P : Program) (G : GV) : Nat → Task → Bool :=
  Nat.rec (fun _ => false) fun _ ih => goTask P G ih
end
end Go.Y
