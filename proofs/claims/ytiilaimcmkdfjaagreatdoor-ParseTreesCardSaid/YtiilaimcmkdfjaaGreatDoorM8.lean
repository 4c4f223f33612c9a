/- The machine over open terms: it answers a proposition. -/
import Derived.Test.YtiilaimcmkdfjaaGreatDoorM7
set_option linter.unusedVariables false
set_option linter.unusedSimpArgs false
set_option linter.unusedSectionVars false
set_option linter.constructorNameAsVariable false
namespace Go.Q
open Go.Z Go.Y
noncomputable section
abbrev KK := O -> List DV -> Tr V -> Mem -> Prop
abbrev KE := E -> Mem -> Prop
abbrev KR := O -> Option V -> Tr V -> Mem -> Prop
structure GQ where
 g : GV
 fs : List (Nat × (List V -> Mem -> KE -> Prop))
 ls : List (Nat × Code × (FI -> List DV -> Tr V -> Mem -> KK -> Prop))
def lookF : List (Nat × (List V -> Mem -> KE -> Prop)) -> Nat -> Option (List V -> Mem -> KE -> Prop)
 | [], _ => none
 | (g, v) :: l, f => match Nat.beq g f with | true => some v | false => lookF l f
def lookL : List (Nat × Code × (FI -> List DV -> Tr V -> Mem -> KK -> Prop)) -> Nat -> Option (Code × (FI -> List DV -> Tr V -> Mem -> KK -> Prop))
 | [], _ => none
 | (g, v) :: l, f => match Nat.beq g f with | true => some v | false => lookL l f
inductive Task where
 | code (fi : FI) (c : Code) (ds : List DV) (env : Tr V) (hp : Mem) (k : KK)
 | ops (fi : FI) (arr : Array Oper) (l : List Oper) (ds : List DV) (env : Tr V) (hp : Mem) (k : KK)
 | draw (fi : FI) (arr : Array Oper) (pi : List (Nat × Md)) (ro : Dr) (ds : List DV) (env : Tr V) (hp : Mem) (k : KK)
 | call (f : Nat) (args : List V) (hp : Mem) (k : KE)
 | leave (fn : Func) (ds : List DV) (mode : Option V) (env : Tr V) (hp : Mem) (k : KE)
 | dcode (nt : Nat) (c : Code) (env : Tr V) (hp : Mem) (rc : Option V) (k : KR)
 | dops (nt : Nat) (arr : Array Oper) (l : List Oper) (env : Tr V) (hp : Mem) (rc : Option V) (k : KR)
def seqK (ih : Task -> Prop) (fi : FI) (b : Code) (k : KK) : KK := λ o ds env hp => match o with
 | .normal => ih (.code fi b ds env hp k)
 | o => k o ds env hp
def scK (k : KK) : KK := λ o ds env hp => match o with
 | .goto _ => False
 | o => k o ds env hp
def blkK (id : Nat) (k : KK) : KK := λ o ds env hp => match o with
 | .exit i => match Nat.beq i id with | true => k .normal ds env hp | false => k (.exit i) ds env hp
 | o => k o ds env hp
def goCond (ih : Task -> Prop) (fi : FI) (b : Option V) (x y : Code) (ds : List DV) (env : Tr V) (hp : Mem) (k : KK) : Prop := match b with
 | some (.bool true) => ih (.code fi x ds env hp k)
 | some (.bool false) => ih (.code fi y ds env hp k)
 | some (.sbool b) => (b = true -> ih (.code fi x ds env hp k)) /\ (b = false -> ih (.code fi y ds env hp k))
 | _ => False
def goRegion (ih : Task -> Prop) (fi : FI) (arr : Array Oper) (dr : Bool) (ds : List DV) (env : Tr V) (hp : Mem) (k : KK) : Prop := match dr with
 | false => ih (.ops fi arr arr.toList ds env hp k)
 | true => match zkT arr (piOf arr) && noSel arr with
  | true => ih (.draw fi arr (piOf arr) ⟨hp.ro, [], []⟩ ds env hp k)
  | false => False
def pendK (ih : Task -> Prop) (fi : FI) (ds : List DV) (env : Tr V) (k : KK) (pend : Option Code) (hp : Mem) : Prop := match pend with
 | none => k .normal ds env hp
 | some c => ih (.code fi c ds env hp k)
def rangeK (ih : Task -> Prop) (fi : FI) (l : Nat) (ds : List DV) (env : Tr V) (k : KK) : KE := λ e hp => match e with
 | .pan v => k (.panic v) ds env hp
 | .ret _ => match hp.t.get l, hp.putS l none with
  | some (.loop st pend _ _ _ _ _ _), some h => match notBusy st with | true => pendK ih fi ds env k pend h | false => False
  | _, _ => False
def goRange (ih : Task -> Prop) (fi : FI) (g : Option V) (ps : Array Tmp) (assign body : Code) (ds : List DV) (env : Tr V) (hp : Mem) (k : KK) : Prop := match g with
 | some (.fn (.func f) a b) => match fi.ro with
  | none => match hp.newS .defr with
   | some h1 => match h1.newS (.loop .ready none env fi.nt ps assign body hp.n) with
    | some h2 => ih (.call f (a ++ [.yld h1.n] ++ b) h2 (rangeK ih fi h1.n (.mark hp.n :: ds) env k))
    | none => False
   | none => False
  | some l0 => match hp.t.get l0 with
   | some (.loop _ _ _ _ _ _ _ d) => match hp.newS (.loop .ready none env fi.nt ps assign body d) with
    | some h2 => ih (.call f (a ++ [.yld hp.n] ++ b) h2 (rangeK ih fi hp.n ds env k))
    | none => False
   | _ => False
 | _ => False
def codeId : Code -> Option Nat
 | .region id _ _ => some id
 | .seq a b => match codeId a with | some i => some i | none => codeId b
 | .cond _ a b => match codeId a with | some i => some i | none => codeId b
 | .block _ c => codeId c
 | .loop c => codeId c
 | _ => none
def goLoop2 (ih : Task -> Prop) (fi : FI) (c : Code) (ds : List DV) (env : Tr V) (hp : Mem) (k : KK) (s : Option (Code × (FI -> List DV -> Tr V -> Mem -> KK -> Prop))) : Prop := match s with
 | some (c0, s) => c = c0 /\ s fi ds env hp k
 | none => ih (.code fi c ds env hp (seqK ih fi (.loop c) k))
def keyL (nt i : Nat) : Nat := Nat.add (Nat.mul nt 1000) i
def goLoop (G : GQ) (ih : Task -> Prop) (fi : FI) (c : Code) (ds : List DV) (env : Tr V) (hp : Mem) (k : KK) : Prop := match codeId c with
 | some i => goLoop2 ih fi c ds env hp k (lookL G.ls (keyL fi.nt i))
 | none => ih (.code fi c ds env hp (seqK ih fi (.loop c) k))
def goCode (G : GQ) (ih : Task -> Prop) (fi : FI) (c : Code) (ds : List DV) (env : Tr V) (hp : Mem) (k : KK) : Prop := match c with
 | .skip => k .normal ds env hp
 | .label _ => k .normal ds env hp
 | .ret => k .ret ds env hp
 | .exit id => k (.exit id) ds env hp
 | .seq a b => ih (.code fi a ds env hp (seqK ih fi b k))
 | .cond c a b => goCond ih fi (evO G.g env c) a b ds env hp k
 | .block id c => ih (.code fi c ds env hp (blkK id k))
 | .scope c => ih (.code fi c ds env hp (scK k))
 | .loop c => goLoop G ih fi c ds env hp k
 | .region _ arr dr => goRegion ih fi arr dr ds env hp k
 | .rangeFunc g ps assign body => goRange ih fi (evO G.g env g) ps assign body ds env hp k
 | _ => False
def retK (ih : Task -> Prop) (fi : FI) (arr : Array Oper) (r : List Oper) (d : Option Nat) (ds : List DV) (env : Tr V) (k : KK) : KE := λ e hp => match e with
 | .ret v => ih (.ops fi arr r ds (putE d v env) hp k)
 | .pan v => k (.panic v) ds env hp
def endRd (l : Nat) (ke : KE) : KK := λ o ds env hp => match ds with
 | [] => match o with
  | .normal => match zxK hp l .ready none with | some h => ke (.ret (.bool true)) h | none => False
  | .ret => match zxK hp l .done (some .ret) with | some h => ke (.ret (.bool false)) h | none => False
  | .exit i => match zxK hp l .done (some (.exit i)) with | some h => ke (.ret (.bool false)) h | none => False
  | _ => False
 | _ => False
def rdK (ih : Task -> Prop) (fi : FI) (l : Nat) (body : Code) (ke : KE) : KK := λ o ds env hp => match o, ds with
 | .normal, [] => match hp.t.get l with
  | some (.loop .ready pend env0 nt ps assign bd d) => match hp.putS l (some (.loop .busy pend env0 nt ps assign bd d)) with
   | some h => ih (.code fi body [] env h (endRd l ke))
   | none => False
  | _ => False
 | _, _ => False
def goRound (ih : Task -> Prop) (l : Nat) (args : List V) (hp : Mem) (ke : KE) : Prop := match hp.t.get l with
 | some (.loop _ _ env nt ps assign body _) => match zjh nt ps.toList args env, small nt with
  | some env', true => ih (.code ⟨nt, some l⟩ assign [] env' hp (rdK ih ⟨nt, some l⟩ l body ke))
  | _, _ => False
 | _ => False
def forkP (k : V -> Prop) (v : V) : Prop := match v with
 | .anyB => k (.bool true) /\ k (.bool false)
 | .sbool b => (b = true -> k (.bool true)) /\ (b = false -> k (.bool false))
 | v => k v
def allP (k : V -> Mem -> Prop) : List (V × Mem) -> Prop
 | [] => True
 | [(v, h)] => k v h
 | (v, h) :: l => k v h /\ allP k l
def goStep (ih : Task -> Prop) (fi : FI) (arr : Array Oper) (d : Option Nat) (r : List Oper) (ds : List DV) (env : Tr V) (hp : Mem) (k : KK) (s : Step) : Prop := match s with
 | .val v _ => forkP (λ v => ih (.ops fi arr r ds (putE d v env) hp k)) v
 | .outs outs => allP (λ v hp => ih (.ops fi arr r ds (putE d v env) hp k)) outs
 | .call f args => ih (.call f args hp (retK ih fi arr r d ds env k))
 | .round l args => goRound ih l args hp (retK ih fi arr r d ds env k)
 | .defer f args => match fi.ro with
  | none => ih (.ops fi arr r (.call f args :: ds) (putE d .und env) hp k)
  | some _ => False
 | .pan v => k (.panic v) ds env hp
 | .bad => False
def goSymQ (ih : Task -> Prop) (fi : FI) (arr : Array Oper) (d : Option Nat) (r : List Oper) (ds : List DV) (env : Tr V) (hp : Mem) (k : KK) (p : Prop) (v : V) : Prop := match d with
 | some d => p /\ forkP (λ v => ih (.ops fi arr r ds (Tr.set 20 env d (some v)) hp k)) v
 | none => False
def goSym (ih : Task -> Prop) (fi : FI) (arr : Array Oper) (d : Option Nat) (r : List Oper) (ds : List DV) (env : Tr V) (hp : Mem) (k : KK) : SymR -> Prop
 | .q p v _ => goSymQ ih fi arr d r ds env hp k p v
 | .l p outs => p /\ allP (λ v hp => ih (.ops fi arr r ds (putE d v env) hp k)) outs
 | .f b x y => (b = true -> goSym ih fi arr d r ds env hp k x) /\ (b = false -> goSym ih fi arr d r ds env hp k y)
 | .bad => False
def goStep2 (P : Program) (G : GQ) (ih : Task -> Prop) (fi : FI) (arr : Array Oper) (o : Oper) (r : List Oper) (ds : List DV) (env : Tr V) (hp : Mem) (k : KK) (s : Step) : Prop := match s with
 | .bad => goSym ih fi arr o.dst r ds env hp k (symD P G.g env hp o.dst o.op)
 | s => goStep ih fi arr o.dst r ds env hp k s
def strApp (P : Program) (op : Op) : Bool := match op with
 | .call c => match c.callee, c.argTypes.toList with
  | .builtin .append, [_, t] => match P.underlying t with | some .string => true | _ => false
  | _, _ => false
 | _ => false
def goStepS (P : Program) (G : GQ) (ih : Task -> Prop) (fi : FI) (arr : Array Oper) (o : Oper) (r : List Oper) (ds : List DV) (env : Tr V) (hp : Mem) (k : KK) (s : SymR) : Prop := match s with
 | .bad => goStep2 P G ih fi arr o r ds env hp k (stepV P G.g env hp o.dst o.op)
 | s => goSym ih fi arr o.dst r ds env hp k s
def goStepW (P : Program) (G : GQ) (ih : Task -> Prop) (fi : FI) (arr : Array Oper) (o : Oper) (r : List Oper) (ds : List DV) (env : Tr V) (hp : Mem) (k : KK) (b : Bool) : Prop := match b with
 | true => goStepS P G ih fi arr o r ds env hp k (symD P G.g env hp o.dst o.op)
 | false => goStep2 P G ih fi arr o r ds env hp k (stepV P G.g env hp o.dst o.op)
def goWant (P : Program) (G : GQ) (ih : Task -> Prop) (fi : FI) (arr : Array Oper) (o : Oper) (r : List Oper) (ds : List DV) (env : Tr V) (hp : Mem) (k : KK) (w : Option Bool) : Prop := match w with
 | some true => goStepW P G ih fi arr o r ds env hp k (strApp P o.op)
 | some false => ih (.ops fi arr r ds (putE o.dst .und env) hp k)
 | none => False
def goOps (P : Program) (G : GQ) (ih : Task -> Prop) (fi : FI) (arr : Array Oper) (l : List Oper) (ds : List DV) (env : Tr V) (hp : Mem) (k : KK) : Prop := match l with
 | [] => k .normal ds env hp
 | o :: r => match dstC o.dst fi.nt with | true => goWant P G ih fi arr o r ds env hp k (wantsV arr env o) | false => False
def drawK (ih : Task -> Prop) (fi : FI) (arr : Array Oper) (pi : List (Nat × Md)) (ro : Dr) (len : Nat) (k : KK) : KK := λ o ds env hp => match o with
 | .normal => match Nat.beq ds.length len with | true => ih (.draw fi arr pi ro ds env hp k) | false => False
 | .panic v => k (.panic v) ds .nil (hp.setRo ro.ro)
 | _ => False
def goDrawQ (ih : Task -> Prop) (fi : FI) (arr : Array Oper) (i : Nat) (m : Md) (d : Option Nat) (pi : List (Nat × Md)) (ro : Dr) (ds : List DV) (env : Tr V) (hp : Mem) (k : KK) (q : Option (V × List Lk)) : Prop := match q, m, d with
 | some (v, _), .a, some d => forkP (λ v => ih (.draw fi arr pi ro ds (Tr.set 20 env d (some v)) hp k)) v
 | some (v, []), .c, some d => forkP (λ v => ih (.draw fi arr pi ro ds (Tr.set 20 env d (some v)) hp k)) v
 | some (v, [id]), .c, some d => forkP (λ v => ih (.draw fi arr pi ⟨ro.ro, (i, id) :: ro.lk, ro.nd⟩ ds (Tr.set 20 env d (some v)) (hp.setRo (id :: hp.ro)) k)) v
 | _, _, _ => False
def goDrawS (ih : Task -> Prop) (fi : FI) (arr : Array Oper) (i : Nat) (m : Md) (d : Option Nat) (pi : List (Nat × Md)) (ro : Dr) (ds : List DV) (env : Tr V) (hp : Mem) (k : KK) : SymR -> Prop
 | .q p v rd => p /\ goDrawQ ih fi arr i m d pi ro ds env hp k (some (v, rd))
 | .f b x y => (b = true -> goDrawS ih fi arr i m d pi ro ds env hp k x) /\ (b = false -> goDrawS ih fi arr i m d pi ro ds env hp k y)
 | _ => False
def goDrawX (P : Program) (G : GQ) (ih : Task -> Prop) (fi : FI) (arr : Array Oper) (i : Nat) (m : Md) (o : Oper) (pi : List (Nat × Md)) (ro : Dr) (ds : List DV) (env : Tr V) (hp : Mem) (k : KK) (q : Option (V × List Lk)) : Prop := match q with
 | some q => goDrawQ ih fi arr i m o.dst pi ro ds env hp k (some q)
 | none => goDrawS ih fi arr i m o.dst pi ro ds env hp k (symD P G.g env hp o.dst o.op)
def goDrawW (P : Program) (G : GQ) (ih : Task -> Prop) (fi : FI) (arr : Array Oper) (o : Oper) (i : Nat) (m : Md) (pi : List (Nat × Md)) (ro : Dr) (ds : List DV) (env : Tr V) (hp : Mem) (k : KK) (w : Option Bool) : Prop := match w with
 | some true => goDrawX P G ih fi arr i m o pi ro ds env hp k (quietA P G.g env hp o.op)
 | some false => ih (.draw fi arr pi ro ds (putE o.dst .und env) hp k)
 | none => False
def goDrawM (ih : Task -> Prop) (fi : FI) (arr : Array Oper) (o : Oper) (pi : List (Nat × Md)) (ro : Dr) (ds : List DV) (env : Tr V) (k : KK) (q : Option (V × Mem)) : Prop := match q with
 | some (v, h) => ih (.draw fi arr pi ro ds (putE o.dst v env) h k)
 | none => False
def goDrawN1 (ih : Task -> Prop) (fi : FI) (arr : Array Oper) (o : Oper) (pi : List (Nat × Md)) (ro : Dr) (ds : List DV) (env : Tr V) (hp : Mem) (k : KK) (q : Option ND) : Prop := match q with
 | some d => goDrawM ih fi arr o pi ro ds env k (instD hp d)
 | none => False
def goDrawN (P : Program) (G : GQ) (ih : Task -> Prop) (fi : FI) (arr : Array Oper) (o : Oper) (pi : List (Nat × Md)) (ro : Dr) (ds : List DV) (env : Tr V) (hp : Mem) (k : KK) (w : Option Bool) : Prop := match w with
 | some true => goDrawN1 ih fi arr o pi ro ds env hp k (newD P G.g env o.op)
 | some false => ih (.draw fi arr pi ro ds (putE o.dst .und env) hp k)
 | none => False
def goDrawL (ih : Task -> Prop) (fi : FI) (arr : Array Oper) (o : Oper) (i : Nat) (pi : List (Nat × Md)) (ro : Dr) (ds : List DV) (env : Tr V) (hp : Mem) (k : KK) : Prop := match zqJ arr (ro.nd.map (·.1)) [i] pi with
 | true => ih (.ops fi arr [o] ds env (hp.setRo (lks ro.lk ro.ro)) (drawK ih fi arr pi ro ds.length k))
 | false => False
def goDrawE (ih : Task -> Prop) (fi : FI) (arr : Array Oper) (o : Oper) (i : Nat) (pi : List (Nat × Md)) (ro : Dr) (ds : List DV) (env : Tr V) (hp : Mem) (k : KK) (gs : Option (List (Nat × ND))) : Prop := match gs with
 | some gs => goDrawL ih fi arr o i pi ⟨ro.ro, still arr i ro.lk, gs ++ ro.nd⟩ ds env hp k
 | none => False
def goDraw1 (P : Program) (G : GQ) (ih : Task -> Prop) (fi : FI) (arr : Array Oper) (o : Oper) (i : Nat) (m : Md) (pi : List (Nat × Md)) (ro : Dr) (ds : List DV) (env : Tr V) (hp : Mem) (k : KK) : Prop := match m with
 | .w => goDrawE ih fi arr o i pi ro ds env hp k (evD P G.g arr fi.nt env (ro.nd.map (·.1)) ((i, .w) :: pi) pi)
 | .n => match zqJ arr (ro.nd.map (·.1)) [i] pi with
  | true => goDrawN P G ih fi arr o pi ro ds env hp k (wantsV arr env o)
  | false => False
 | .m => match lookN ro.nd i, zqJ arr (ro.nd.map (·.1)) [i] pi with
  | some d, true => goDrawM ih fi arr o pi ro ds env k (instD hp d)
  | _, _ => False
 | .a => goDrawW P G ih fi arr o i .a pi ro ds env hp k (wantsV arr env o)
 | .c => goDrawW P G ih fi arr o i .c pi ro ds env hp k (wantsV arr env o)
 | .b => False
def goDraw (P : Program) (G : GQ) (ih : Task -> Prop) (fi : FI) (arr : Array Oper) (pi : List (Nat × Md)) (ro : Dr) (ds : List DV) (env : Tr V) (hp : Mem) (k : KK) : Prop := match pi with
 | [] => k .normal ds env (hp.setRo ro.ro)
 | (i, m) :: pi => match arr[i]? with
  | some o => match dstC o.dst fi.nt, zjM o with
   | true, false => goDraw1 P G ih fi arr o i m pi ro ds env hp k
   | _, _ => False
  | none => False
def endK (ih : Task -> Prop) (fn : Func) (k : KE) : KK := λ o ds env hp => match o with
 | .normal => ih (.leave fn ds none env hp k)
 | .ret => ih (.leave fn ds none env hp k)
 | .panic v => ih (.leave fn ds (some v) env hp k)
 | _ => False
def goFn (ih : Task -> Prop) (f : Nat) (fn : Option Func) (args : List V) (hp : Mem) (k : KE) : Prop := match fn with
 | some fn => match fn.body, Nat.ble args.length fn.ntmps, small fn.ntmps with
  | some c, true, true => ih (.code ⟨fn.ntmps, none⟩ c [] (argE 0 args .nil) hp (endK ih fn k))
  | _, _, _ => False
 | none => False
def goCall (G : GQ) (ih : Task -> Prop) (f : Nat) (fn : Option Func) (args : List V) (hp : Mem) (k : KE) : Prop := match lookF G.fs f with
 | some s => s args hp k
 | none => match knGet G.g f args hp with
  | some (.val v) => k (.ret v) hp
  | some (.map es clk) => match hp.newS (.map es clk) with | some h => k (.ret (.map hp.n)) h | none => False
  | none => goFn ih f fn args hp k
def defK (ih : Task -> Prop) (fn : Func) (ds : List DV) (env : Tr V) (k : KE) : KR := λ o rc env' hp => match o with
 | .normal => ih (.leave fn ds rc env hp k)
 | .ret => ih (.leave fn ds rc env hp k)
 | _ => False
def goLeave (P : Program) (ih : Task -> Prop) (fn : Func) (ds : List DV) (mode : Option V) (env : Tr V) (hp : Mem) (k : KE) : Prop := match ds with
 | [] => match mode with
  | none => match resultV P fn env hp with | some v => k (.ret v) hp | none => False
  | some v => k (.pan v) hp
 | .mark id :: ds => match hp.t.get id, hp.putS id none with
  | some .defr, some h => ih (.leave fn ds mode env h k)
  | _, _ => False
 | .call f args :: ds => match P.funcs[f]? with
  | some fd => match fd.body, fd.results.toList, Nat.ble args.length fd.ntmps, small fd.ntmps with
   | some c, [], true, true => ih (.dcode fd.ntmps c (argE 0 args .nil) hp mode (defK ih fn ds env k))
   | _, _, _, _ => False
  | none => False
def dseqK (ih : Task -> Prop) (nt : Nat) (b : Code) (k : KR) : KR := λ o rc env hp => match o with
 | .normal => ih (.dcode nt b env hp rc k)
 | o => k o rc env hp
def keepK (rc : Option V) (k : KR) : KK := λ o ds env hp => match ds with
 | [] => k o rc env hp
 | _ => False
def goDCond (ih : Task -> Prop) (nt : Nat) (b : Option V) (x y : Code) (env : Tr V) (hp : Mem) (rc : Option V) (k : KR) : Prop := match b with
 | some (.bool true) => ih (.dcode nt x env hp rc k)
 | some (.bool false) => ih (.dcode nt y env hp rc k)
 | _ => False
def goDCode (G : GQ) (ih : Task -> Prop) (nt : Nat) (c : Code) (env : Tr V) (hp : Mem) (rc : Option V) (k : KR) : Prop := match c with
 | .seq a b => ih (.dcode nt a env hp rc (dseqK ih nt b k))
 | .cond c a b => goDCond ih nt (evO G.g env c) a b env hp rc k
 | .region id arr dr => match arr.toList.any zxQ, dr with
  | true, false => ih (.dops nt arr arr.toList env hp rc k)
  | true, true => False
  | false, _ => ih (.code ⟨nt, none⟩ (.region id arr dr) [] env hp (keepK rc k))
 | c => ih (.code ⟨nt, none⟩ c [] env hp (keepK rc k))
def goDOpQ (ih : Task -> Prop) (nt : Nat) (arr : Array Oper) (d : Option Nat) (r : List Oper) (env : Tr V) (hp : Mem) (rc : Option V) (k : KR) (q : Option (V × List Lk)) : Prop := match q, d with
 | some (v, _), some d => ih (.dops nt arr r (Tr.set 20 env d (some v)) hp rc k)
 | _, _ => False
def goDOp (P : Program) (G : GQ) (ih : Task -> Prop) (nt : Nat) (arr : Array Oper) (o : Oper) (r : List Oper) (env : Tr V) (hp : Mem) (rc : Option V) (k : KR) : Prop := match dstC o.dst nt, zxQ o, o.guard with
 | true, true, none => match rc with
  | some v => ih (.dops nt arr r (putE o.dst v env) hp none k)
  | none => ih (.dops nt arr r (putE o.dst .nili env) hp none k)
 | true, false, none => goDOpQ ih nt arr o.dst r env hp rc k (quietA P G.g env hp o.op)
 | _, _, _ => False
def goDOps (P : Program) (G : GQ) (ih : Task -> Prop) (nt : Nat) (arr : Array Oper) (l : List Oper) (env : Tr V) (hp : Mem) (rc : Option V) (k : KR) : Prop := match l with
 | [] => k .normal rc env hp
 | o :: r => goDOp P G ih nt arr o r env hp rc k
def goTask (P : Program) (G : GQ) (ih : Task -> Prop) (t : Task) : Prop := match t with
 | .code fi c ds env hp k => goCode G ih fi c ds env hp k
 | .ops fi arr l ds env hp k => goOps P G ih fi arr l ds env hp k
 | .draw fi arr pi ro ds env hp k => goDraw P G ih fi arr pi ro ds env hp k
 | .call f args hp k => goCall G ih f P.funcs[f]? args hp k
 | .leave fn ds mode env hp k => goLeave P ih fn ds mode env hp k
 | .dcode nt c env hp rc k => goDCode G ih nt c env hp rc k
 | .dops nt arr l env hp rc k => goDOps P G ih nt arr l env hp rc k
def go (P : Program) (G : GQ) : Nat -> Task -> Prop :=
 Nat.rec (λ _ => False) λ _ ih => goTask P G ih
end
end Go.Q
namespace Go.Q
open Go.Z Go.Y
noncomputable section
def KRel (P : Program) (k : KK) (ρ0 : Rho) (hp0 : Mem) (W0 : RW) (dv0 : List DV) (ds0 : List Deferred) (K : Kont) : Prop :=
 ∀ o dv env hp ρ W ds L out, Nx ρ0 hp0 W0 ρ hp W -> RE ρ env L -> DExt P ρ dv0 ds0 dv ds -> OutRel ρ o out -> k o dv env hp -> K out ds L (spl hp.n W)
theorem KRel.at {P : Program} {k : KK} {ρ0 ρ1 : Rho} {hp0 hp1 : Mem} {W0 W1 : RW} {dv0 dv1 : List DV} {ds0 ds1 : List Deferred} {K : Kont} (h : KRel P k ρ0 hp0 W0 dv0 ds0 K) (nx : Nx ρ0 hp0 W0 ρ1 hp1 W1) (dx : DExt P ρ1 dv0 ds0 dv1 ds1) : KRel P k ρ1 hp1 W1 dv1 ds1 K :=
 λ o dv env hp ρ W ds L out n1 hE d1 ho hk => h o dv env hp ρ W ds L out (nx.trans n1) hE ((dx.mono n1.le).trans d1) ho hk
def KERel (k : KE) (ρ0 : Rho) (hp0 : Mem) (W0 : RW) (Post : Ending -> List SP -> Prop) : Prop :=
 ∀ e hp ρ W end_, Nx ρ0 hp0 W0 ρ hp W -> EndRel ρ e end_ -> k e hp -> Post end_ (spl hp.n W)
theorem KERel.at {k : KE} {ρ0 ρ1 : Rho} {hp0 hp1 : Mem} {W0 W1 : RW} {Post : Ending -> List SP -> Prop} (h : KERel k ρ0 hp0 W0 Post) (nx : Nx ρ0 hp0 W0 ρ1 hp1 W1) : KERel k ρ1 hp1 W1 Post :=
 λ e hp ρ W en n1 hen hk => h e hp ρ W en (nx.trans n1) hen hk
def KSRel (k : KR) (ρ0 : Rho) (hp0 : Mem) (W0 : RW) (KS : KontS) : Prop :=
 ∀ o rc env hp ρ W u L out, Nx ρ0 hp0 W0 ρ hp W -> RE ρ env L -> MRel ρ rc u -> OutRel ρ o out -> k o rc env hp -> KS out u L (spl hp.n W)
theorem KSRel.at {k : KR} {ρ0 ρ1 : Rho} {hp0 hp1 : Mem} {W0 W1 : RW} {KS : KontS} (h : KSRel k ρ0 hp0 W0 KS) (nx : Nx ρ0 hp0 W0 ρ1 hp1 W1) : KSRel k ρ1 hp1 W1 KS :=
 λ o rc env hp ρ W u L out n1 hE hm ho hk => h o rc env hp ρ W u L out (nx.trans n1) hE hm ho hk
def TaskOk (P : Program) (G : GQ) : Task -> Prop
 | .code fi c dv env hp k => ∀ ρ W ds L K ro, GOk ρ G.g -> HR ρ hp W -> RE ρ env L -> FIok ρ fi ro -> KRel P k ρ hp W dv ds K -> Z.Go P ro fi.nt c ds L (spl hp.n W) K
 | .ops fi arr l dv env hp k => ∀ ρ W ds L K ro, GOk ρ G.g -> HR ρ hp W -> RE ρ env L -> FIok ρ fi ro -> KRel P k ρ hp W dv ds K -> Ops P ro fi.nt arr l ds L (spl hp.n W) K
 | .draw fi arr pi ro0 dv env hp k => ∀ ρ W ds L K ro Gn Hc, GOk ρ G.g -> HR ρ hp W -> RE ρ env L -> FIok ρ fi ro -> hp.ro = lks ro0.lk ro0.ro -> GnRel ρ ro0.nd Gn -> KeptIn ro0.lk W Hc -> KRel P k ρ (hp.setRo ro0.ro) W dv ds K -> RDc P ro fi.nt arr ds Gn Hc [] K pi L (spl hp.n W)
 | .call f args hp k => zqK P f /\ ∀ ρ W us Post, GOk ρ G.g -> HR ρ hp W -> RL ρ args us -> KERel k ρ hp W Post -> Z.Fn P f us (spl hp.n W) Post
 | .leave fn dv mode env hp k => ∀ ρ W ds u Post, GOk ρ G.g -> HR ρ hp W -> DsRel P ρ dv ds -> MRel0 ρ mode u -> KERel k ρ hp W Post -> ∀ Γ F tmps w, RT ρ env tmps -> Hold Γ (spl hp.n W) F w ->
   LeavesInM Fence.wide 0 P fn tmps (λ e w' => ∃ H', Post e H' /\ Hold Γ H' F w') ds u w
 | .dcode nt c env hp rc k => small nt -> ∀ ρ W L u KS, GOk ρ G.g -> HR ρ hp W -> RE ρ env L -> MRel ρ rc u -> KSRel k ρ hp W KS -> GoS P nt c u L (spl hp.n W) KS
 | .dops nt arr l env hp rc k => small nt -> ∀ ρ W L u KS, GOk ρ G.g -> HR ρ hp W -> RE ρ env L -> MRel ρ rc u -> KSRel k ρ hp W KS -> OpsS P nt arr l u L (spl hp.n W) KS
section
variable {P : Program} {G : GQ} {ih : Task -> Prop} {fi : FI} {arr : Array Oper} {r : List Oper} {dd : Option Nat} {dv : List DV} {env : Tr V} {hp : Mem} {k : KK}
 {ρ : Rho} {W : RW} {ds : List Deferred} {L : Lo} {K : Kont} {ro : Option Nat}
theorem rest_ok (IH : ∀ t, ih t -> TaskOk P G t) (hd : dstC dd fi.nt = true) (hG : GOk ρ G.g) (hE : RE ρ env L) (hF : FIok ρ fi ro) (hk : KRel P k ρ hp W dv ds K)
  {v : V} {hp' : Mem} (h : ih (.ops fi arr r dv (putE dd v env) hp' k)) {ρ' : Rho} {W' : RW} {u : Value} (nx : Nx ρ hp W ρ' hp' W') (hv : R ρ' v u) : Ops P ro fi.nt arr r ds (putL dd u L) (spl hp'.n W') K :=
 IH _ h ρ' W' ds _ K ro (hG.mono nx.le) nx.hr ((hE.mono nx.le).putE hd hF.1 hv) (hF.mono nx.le) (hk.at nx .refl)
theorem retK_rel (IH : ∀ t, ih t -> TaskOk P G t) (hd : dstC dd fi.nt = true) (hG : GOk ρ G.g) (hE : RE ρ env L) (hF : FIok ρ fi ro) (hk : KRel P k ρ hp W dv ds K) :
  KERel (retK ih fi arr r dd dv env k) ρ hp W (After P ro fi.nt arr r dd ds L [] K) := by
 intro e hp' ρ' W' en nx hen hk'
 cases e with
 | ret v =>
  cases en with
  | returned u =>
   show Ops P ro fi.nt arr r ds (putL dd u L) (spl hp'.n W' ++ []) K
   rw [List.append_nil]
   exact rest_ok IH hd hG hE hF hk hk' nx hen
  | panicked ch => exact hen.elim
  | outgrown => exact hen.elim
 | pan v =>
  cases en with
  | returned u => exact hen.elim
  | panicked ch =>
   show K (.panic ch) ds L (spl hp'.n W' ++ [])
   rw [List.append_nil]
   exact hk (.panic v) _ _ _ _ _ _ _ (.panic ch) nx (hE.mono nx.le) .refl hen hk'
  | outgrown => exact hen.elim
theorem endRd_rel {l b c : Nat} (hl : ρ l = some (b, c)) {ke : KE} {Post : Ending -> List SP -> Prop} (hke : KERel ke ρ hp W Post) {Γ : World} {F : SP} {R' : Ending -> World -> Prop}
  (hR : ∀ u H' w', Post (.returned u) H' -> Hold Γ H' F w' -> R' (.returned u) w') :
  KRel P (endRd l ke) ρ hp W [] [] (λ out ds' L2 H2 => ∀ a2 w2, Hold Γ H2 F w2 -> roundPost P b R' out.exitOf a2 w2) := by
 intro o dv' env' hp' ρ' W' ds' L' out nx hE' dx ho hk a2 w2 hh
 unfold endRd at hk
 have main : ∀ (st : LoopState) (pend : Option Code) (h : Mem), (st = if pend.isNone then .ready else .done) -> zxK hp' l st pend = some h -> ke (.ret (.bool pend.isNone)) h ->
   ∃ v w', (Instr.endRound b pend).run P w2 = .ok v w' /\ R' (.returned v) w' := by
  intro st pend h hst hsp hkk
  obtain ⟨b', c', r', h1, hlt, h2, h3, nx2⟩ := setPend_ok nx.hr hsp
  rw [nx.le _ _ hl] at h2; cases h2
  have hb := hh.block (zqf hlt h1)
  have hh2 := zxZ (o' := .loop { r' with state := st, pending := pend }) hlt h1 hh
  refine ⟨_, _, run_endRound pend hb, ?_⟩
  rw [hst] at hh2 nx2
  refine hR _ _ _ (hke (.ret (.bool pend.isNone)) h ρ' _ (.returned (.bool pend.isNone)) (nx.trans nx2) rfl hkk) ?_
  rw [h3]; exact hh2
 split at hk
 ·cases o with
  | normal =>
   cases out <;> first | exact ho.elim | skip
   dsimp only at hk
   split at hk
   ·rename_i h hsp; exact main _ none h rfl hsp hk
   ·cases hk
  | ret =>
   cases out <;> first | exact ho.elim | skip
   dsimp only at hk
   split at hk
   ·rename_i h hsp; exact main _ (some .ret) h rfl hsp hk
   ·cases hk
  | exit i =>
   cases out <;> first | exact ho.elim | skip
   cases ho
   dsimp only at hk
   split at hk
   ·rename_i h hsp; exact main _ (some (.exit i)) h rfl hsp hk
   ·cases hk
  | goto i => cases hk
  | panic v => cases hk
 ·cases hk
theorem goRound_ok (IH : ∀ t, ih t -> TaskOk P G t) (hG : GOk ρ G.g) (hH : HR ρ hp W) {l b c : Nat} (hl : ρ l = some (b, c)) {args : List V} {us : List Value} (hus : RL ρ args us) {ke : KE} {Post : Ending -> List SP -> Prop} (hke : KERel ke ρ hp W Post)
  (h : goRound ih l args hp ke) (ro : Option Nat) (Γ : World) (F : SP) (w : World) (hh : Hold Γ (spl hp.n W) F w) (R' : Ending -> World -> Prop) (hR : ∀ u H' w', Post (.returned u) H' -> Hold Γ H' F w' -> R' (.returned u) w') :
  ∃ f tmps assign body, (Instr.yield b us.toArray).run P w = .ok (.round b f tmps assign body) w /\ RoundIn (fw ro) 0 P b f tmps assign body w R' := by
 unfold goRound at h
 split at h
 ·rename_i st pend env0 nt ps assign body d hc
  split at h
  ·rename_i env' hsa hsm
   obtain ⟨b', c', fn, ts, db, dc, hW, hl', hts, hRT, hd⟩ := hH.loop hc
   rw [hl] at hl'; cases hl'
   have hb := hh.block (zqf (hH.lt hc) hW)
   obtain ⟨h1, h2, h3⟩ := zku hsm hsa hus hRT hts
   refine ⟨_, _, _, _, run_yield hb (by simp [h3]), ?_⟩
   have efold : (ps.zip us.toArray).foldl (λ tmps (q : Tmp × Value) => tmps.setIfInBounds q.1 q.2) ts = (ps.toList.zip us).foldl (λ tmps q => tmps.setIfInBounds q.1 q.2) ts := by
    rw [<- Array.foldl_toList]
    simp
   have efold' : (ps.zip us.toArray).foldl (λ tmps (t, a) => tmps.setIfInBounds t a) ts = (ps.toList.zip us).foldl (λ tmps q => tmps.setIfInBounds q.1 q.2) ts := efold
   show RoundIn (fw ro) 0 P b fn ((ps.zip us.toArray).foldl (λ tmps (t, a) => tmps.setIfInBounds t a) ts) assign body w R'
   rw [efold']
   generalize (ps.toList.zip us).foldl (λ tmps q => tmps.setIfInBounds q.1 q.2) ts = tmps at h1 h2
   refine roundIn_of_wpIn trivial ?_
   have hFI : FIok ρ ⟨nt, some l⟩ (some b) := ⟨hsm, c, hl⟩
   have t1 := IH _ h ρ W [] (argL 0 tmps.toList) (λ out ds' L1 H1 => out = .normal /\ ∀ a1 w1, Env a1 nt ds' L1 -> Hold Γ H1 F w1 -> ∃ w2, (Instr.beginRound b).run P w1 = .ok () w2 /\ body.wpIn (fw (some b)) 0 P (roundPost P b R') a1 w2) (some b) hG hH h1.re hFI (by
    intro o dv' env1 hp1 ρ1 W1 ds1 L1 out nx hE1 dx ho hk
    unfold rdK at hk
    split at hk
    ·cases out <;> first | exact ho.elim | skip
     refine ⟨rfl, λ a1 w1 he1 hh1 => ?_⟩
     have hds : ds1 = [] := (dx.same rfl).2
     subst hds
     split at hk
     ·rename_i pend1 env01 nt1 ps1 assign1 bd1 d1 hc1
      split at hk
      ·rename_i hp2 hput
       have hro := zqA hput
       obtain ⟨hs2, rfl⟩ := zqB hput
       obtain ⟨b1, c1, fn1, ts1, db1, dc1, hW1, hl1, hts1, hRT1, hd1⟩ := nx.hr.loop hc1
       rw [nx.le _ _ hl] at hl1; cases hl1
       have hb1 := hh1.block (zqf (nx.hr.lt hc1) hW1)
       refine ⟨_, run_beginRound hb1 rfl, ?_⟩
       have hh2 := zxZ (o' := .loop { state := .busy, pending := pend1, fn := fn1, tmps := ts1, params := ps1, assign := assign1, body := bd1, defers := db1 }) (nx.hr.lt hc1) hW1 hh1
       have nx2 : Nx ρ1 hp1 W1 ρ1 (hp1.put l (some (.loop .busy pend1 env01 nt1 ps1 assign1 bd1 d1))) (upd W1 l (some (b, .loop { state := .busy, pending := pend1, fn := fn1, tmps := ts1, params := ps1, assign := assign1, body := bd1, defers := db1 }))) :=
        ⟨Rho.le_refl _, nx.hr.put hs2 ⟨⟨c, nx.le _ _ hl⟩, fn1, ts1, db1, dc1, hts1, hRT1, hd1, rfl⟩, rfl, Stay.put hro⟩
       have t2 := IH _ hk ρ1 _ [] L1 _ (some b) (hG.mono nx.le) nx2.hr hE1 (hFI.mono nx.le) (endRd_rel (nx.le _ _ hl) (hke.at (nx.trans nx2)) hR)
       exact t2 Γ F a1 _ (roundPost P b R') he1 hh2 λ e ds L H a w kk he hh => kk a w hh
      ·cases hk
     ·cases hk
    ·cases hk)
   refine t1 Γ F _ w _ (RT.env h2) hh λ e ds L H a w kk he hh => ?_
   obtain ⟨rfl, kk⟩ := kk
   exact kk a w he hh
  ·cases h
 ·cases h
end
end
end Go.Q
namespace Go.Q
open Go.Z Go.Y
noncomputable section
section
variable {P : Program} {G : GQ} {ih : Task -> Prop} {fi : FI} {arr : Array Oper} {r : List Oper} {dd : Option Nat} {dv : List DV} {env : Tr V} {hp : Mem} {k : KK}
 {ρ : Rho} {W : RW} {ds : List Deferred} {L : Lo} {K : Kont} {ro : Option Nat}
theorem zkf {k : V -> Prop} {v : V} {u : Value} (h : forkP k v) (hv : R ρ v u) : ∃ v', R ρ v' u /\ k v' := by
 unfold forkP at h
 split at h
 ·obtain ⟨b, rfl⟩ := hv
  cases b
  ·exact ⟨.bool false, rfl, h.2⟩
  ·exact ⟨.bool true, rfl, h.1⟩
 ·rename_i b
  cases hv
  cases b
  ·exact ⟨.bool false, rfl, h.2 rfl⟩
  ·exact ⟨.bool true, rfl, h.1 rfl⟩
 ·exact ⟨v, hv, h⟩
theorem allP_mem {k : V -> Mem -> Prop} : ∀ {l : List (V × Mem)}, allP k l -> ∀ q ∈ l, k q.1 q.2
 | [], _, q, h => by cases h
 | [(v, h)], hk, q, hq => by
  cases hq with
  | head => exact hk
  | tail _ hq => cases hq
 | (v, h) :: p :: l, hk, q, hq => by
  cases hq with
  | head => exact hk.1
  | tail _ hq => exact allP_mem hk.2 q hq
theorem goStep_ok (IH : ∀ t, ih t -> TaskOk P G t) {o : Oper} (hd : dstC o.dst fi.nt = true) (hw : wants arr L o = some true) (hG : GOk ρ G.g) (hH : HR ρ hp W) (hE : RE ρ env L) (hF : FIok ρ fi ro) (hk : KRel P k ρ hp W dv ds K)
  {s : Step} (hs : StepOk P fi.nt arr o ρ hp W L s) (h : goStep ih fi arr o.dst r dv env hp k s) : Ops P ro fi.nt arr (o :: r) ds L (spl hp.n W) K := by
 unfold goStep at h
 split at h
 ·rename_i v rd
  obtain ⟨u, hu, hq⟩ := hs ds
  obtain ⟨v', hu', h⟩ := zkf h hu
  exact Ops.q hq (rest_ok IH hd hG hE hF hk h (.refl hH) hu')
 ·rename_i outs
  exact hs ro r ds K λ q hq ρ' W' u le hr hv hro hst => rest_ok IH hd hG hE hF hk (allP_mem h q hq) ⟨le, hr, hro, hst⟩ hv
 ·rename_i f args
  obtain ⟨us, hus, hcall⟩ := hs
  obtain ⟨hc, spec⟩ := IH _ h
  exact hcall ro r ds K _ hc (spec ρ W us _ hG hH hus (retK_rel IH hd hG hE hF hk)) λ e Hc' hp => hp
 ·rename_i l args
  obtain ⟨hnd, b, c, us, hl, hus, hrun⟩ := hs
  refine Ops.round (b := b) hw hnd (zqu hd) λ Γ F a w he hh => ?_
  obtain ⟨f, tmps, assign, body, h1, h2⟩ := goRound_ok IH hG hH hl hus (retK_rel (L := L) (r := r) (arr := arr) (dd := o.dst) IH hd hG hE hF hk) h ro Γ F w hh (λ | .returned v, w' => ∃ H', Hold Γ H' F w' /\ Ops P ro fi.nt arr r ds (putL o.dst v L) H' K | _, _ => False) (λ u H' w' hp hh' => ⟨_, hh', by
   have hp : Ops P ro fi.nt arr r ds (putL o.dst u L) (H' ++ []) K := hp
   rwa [List.append_nil] at hp⟩)
  exact ⟨f, tmps, assign, body, (hrun ds a w he).trans h1, h2⟩
 ·rename_i f args
  obtain ⟨dr, hdr, hrest⟩ := hs
  split at h
  ·rename_i hro
   have hro' : ro = none := by
    have := hF.2
    rw [hro] at this
    cases ro with
    | none => rfl
    | some b => exact this.elim
   subst hro'
   refine hrest r ds K (IH _ h ρ W (dr :: ds) _ K none hG hH (hE.putE hd hF.1 rfl) hF (hk.at (.refl hH) ⟨[.call f args], [dr], rfl, rfl, dr, [], hdr, rfl, rfl⟩))
  ·cases h
 ·rename_i v
  obtain ⟨u, hu, hrest⟩ := hs
  exact hrest ro r ds K (hk (.panic v) _ _ _ _ _ _ _ (.panic _) (.refl hH) hE .refl ⟨u, hu, rfl⟩ h)
 ·cases h
theorem goSym_ok (IH : ∀ t, ih t -> TaskOk P G t) {o : Oper} (hd : dstC o.dst fi.nt = true) (hG : GOk ρ G.g) (hH : HR ρ hp W) (hE : RE ρ env L) (hF : FIok ρ fi ro) (hk : KRel P k ρ hp W dv ds K)
  {s : SymR} (hs : SymOk P fi.nt arr o ρ hp W L s) (h : goSym ih fi arr o.dst r dv env hp k s) : Ops P ro fi.nt arr (o :: r) ds L (spl hp.n W) K := by
 induction s with
 | q p v rd =>
  have h : goSymQ ih fi arr o.dst r dv env hp k p v := h
  unfold goSymQ at h
  split at h
  ·rename_i d hod
   obtain ⟨hp', h⟩ := h
   obtain ⟨hl, hq⟩ := hs hp'
   obtain ⟨u, hu, hqs⟩ := hq ds d hod
   obtain ⟨v', hu', h⟩ := zkf h hu
   have hqs := hqs _ (hl.holds hH) (λ _ => ⟨_, _, λ _ _ e => e, λ x hx => (zxg x).1 hx⟩)
   refine Ops.q hqs (rest_ok IH hd hG hE hF hk ?_ (.refl hH) hu')
   rw [hod]; exact h
  ·exact h.elim
 | l p outs =>
  obtain ⟨hp', h⟩ := h
  exact hs hp' ro r ds K λ q hq ρ' W' u le hr hv hro hst => rest_ok IH hd hG hE hF hk (allP_mem h q hq) ⟨le, hr, hro, hst⟩ hv
 | f b x y ihx ihy =>
  cases b with
  | true => exact ihx (hs.1 rfl) (h.1 rfl)
  | false => exact ihy (hs.2 rfl) (h.2 rfl)
 | bad => exact h.elim
theorem goWant_ok (IH : ∀ t, ih t -> TaskOk P G t) {o : Oper} (hd : dstC o.dst fi.nt = true) (hG : GOk ρ G.g) (hH : HR ρ hp W) (hE : RE ρ env L) (hF : FIok ρ fi ro) (hk : KRel P k ρ hp W dv ds K)
  (h : goWant P G ih fi arr o r dv env hp k (wantsV arr env o)) : Ops P ro fi.nt arr (o :: r) ds L (spl hp.n W) K := by
 unfold goWant at h
 split at h
 ·rename_i hw
  have hw := zqv hE hw
  have hst := step_ok (P := P) hG hE hH hw (zqu hd)
  have two : goStep2 P G ih fi arr o r dv env hp k (stepV P G.g env hp o.dst o.op) -> Ops P ro fi.nt arr (o :: r) ds L (spl hp.n W) K := by
   intro h
   unfold goStep2 at h
   split at h
   ·exact goSym_ok IH hd hG hH hE hF hk (symD_ok hG hE hH hw (zqu hd)) h
   ·exact goStep_ok IH hd hw hG hH hE hF hk hst h
  unfold goStepW at h
  split at h
  ·unfold goStepS at h
   split at h
   ·exact two h
   ·exact goSym_ok IH hd hG hH hE hF hk (symD_ok hG hE hH hw (zqu hd)) h
  ·exact two h
 ·rename_i hw
  exact Ops.off (zqv hE hw) (zqu hd) (rest_ok IH hd hG hE hF hk h (.refl hH) rfl)
 ·cases h
theorem goOps_ok (IH : ∀ t, ih t -> TaskOk P G t) {l : List Oper} (h : goOps P G ih fi arr l dv env hp k) : TaskOk P G (.ops fi arr l dv env hp k) := by
 intro ρ W ds L K ro hG hH hE hF hk
 unfold goOps at h
 split at h
 ·exact Ops.nil (hk .normal _ _ _ _ _ _ _ .normal (.refl hH) hE .refl trivial h)
 ·split at h
  ·rename_i hd
   exact goWant_ok IH hd hG hH hE hF hk h
  ·cases h
theorem goDrawX_ok (hG : GOk ρ G.g) (hH : HR ρ hp W) (hE : RE ρ env L) {i : Nat} {m : Md} {o : Oper} {pi : List (Nat × Md)} {ro0 : Dr} (hd : dstC o.dst fi.nt = true) (hw : wants arr L o = some true) (h : goDrawX P G ih fi arr i m o pi ro0 dv env hp k (quietA P G.g env hp o.op)) :
  ∃ v rd, (∀ d, o.dst = some d -> Lives hp rd /\ QOkX P fi.nt arr o ds L ρ W v rd) /\ goDrawQ ih fi arr i m o.dst pi ro0 dv env hp k (some (v, rd)) := by
 unfold goDrawX at h
 split at h
 ·rename_i qq hq
  obtain ⟨v, rd⟩ := qq
  refine ⟨v, rd, λ d hod => ⟨zjW hq, ?_⟩, h⟩
  obtain ⟨od, oo, oT, opos, oes, og⟩ := o
  dsimp only at hod hq
  subst hod
  exact toX (quietA_ok hG hE hH hw (zqu hd) hq)
 ·have hs := symD_ok (P := P) (W := W) hG hE hH hw (zqu hd)
  generalize symD P G.g env hp o.dst o.op = s at h hs
  induction s with
  | q p v rd => exact ⟨v, rd, λ d hod => ⟨(hs h.1).1, (hs h.1).2 ds d hod⟩, h.2⟩
  | l p outs => exact h.elim
  | f b x y ihx ihy =>
   cases b with
   | true => exact ihx (h.1 rfl) (hs.1 rfl)
   | false => exact ihy (h.2 rfl) (hs.2 rfl)
  | bad => exact h.elim
theorem goDraw_ok (IH : ∀ t, ih t -> TaskOk P G t) {pi : List (Nat × Md)} {ro0 : Dr} (h : goDraw P G ih fi arr pi ro0 dv env hp k) : TaskOk P G (.draw fi arr pi ro0 dv env hp k) := by
 intro ρ W ds L K ro Gn Hc hG hH hE hF hro hgn hkc hk
 have hin : ∀ l ∈ ro0.ro, l ∈ hp.ro := λ l hl => by rw [hro]; exact zjl hl
 unfold goDraw at h
 split at h
 ·refine ⟨L, .refl L, ?_⟩
  rw [List.append_nil]
  exact hk .normal dv env (hp.setRo ro0.ro) _ _ _ _ .normal (.refl (zju hH hin)) hE .refl trivial h
 ·rename_i i m pi
  split at h
  ·rename_i o ho
   split at h
   ·rename_i hd hdef
    have hnd : ∀ c, o.op ≠ .defer c := by
     intro c hc
     unfold zjM at hdef
     rw [hc] at hdef
     cases hdef
    -- on to the rest
    have next : ∀ {v : V} {hp' : Mem} {env' : Tr V} {L' : Lo} {Hc' : List (Nat × Z.Told)} {ρ' : Rho} {W' : RW}, ih (.draw fi arr pi ro0 dv env' hp' k) -> Nx ρ hp W ρ' hp' W' -> RE ρ' env' L' -> KeptIn ro0.lk W' Hc' -> RDc P ro fi.nt arr ds Gn Hc' [] K pi L' (spl hp'.n W') := by
     intro v hp' env' L' Hc' ρ' W' hih nx hE' hkc'
     exact IH _ hih ρ' W' ds L' K ro Gn Hc' (hG.mono nx.le) nx.hr hE' (hF.mono nx.le) (nx.ro.trans hro) (hgn.mono nx.le) hkc' (hk.at (draw_nx nx hin) .refl)
    unfold goDraw1 at h
    split at h
    ·-- loud
     unfold goDrawE at h
     split at h
     rotate_left
     ·exact h.elim
     rename_i gs hgs
     have hev := evD_ok (ds := ds) hG hE hgs
     have hgn1 : GnRel ρ (gs ++ ro0.nd) (gs.map (λ (x : Nat × ND) => ((x.1, gdOf ρ x.2) : Nat × Gd)) ++ Gn) := hgn.app
     have hids := hgn1.ids
     unfold goDrawL at h
     split at h
     rotate_left
     ·exact h.elim
     rename_i hbn
     have hsub : ∀ l ∈ lks (still arr i ro0.lk) ro0.ro, l ∈ hp.ro := λ l hl => by rw [hro]; exact lks_sub (λ x hx => (List.mem_filter.1 hx).1) l hl
     have hkc1 := hkc.still arr i
     have t1 := IH _ h ρ W ds L (Kw ds [] K λ L' Hw' => Kept (still arr i Hc) Hw' /\ RDc P ro fi.nt arr ds (gs.map (λ (x : Nat × ND) => ((x.1, gdOf ρ x.2) : Nat × Gd)) ++ Gn) (still arr i Hc) [] K pi L' Hw') ro hG (zju hH hsub) hE hF (by
      intro out dv' env' hp' ρ' W' ds' L' out' nx hE' dx ho' hk'
      unfold drawK at hk'
      split at hk'
      ·cases out' <;> first | exact ho'.elim | skip
       split at hk'
       ·rename_i hlen
        obtain ⟨rfl, rfl⟩ := dx.same (beq_tt hlen)
        have hkc' := hkc1.stay rfl nx.st (nx.x hH.ext)
        exact ⟨rfl, hkc'.kept nx.hr nx.ro, IH _ hk' ρ' W' _ L' K ro _ _ (hG.mono nx.le) nx.hr hE' (hF.mono nx.le) nx.ro (hgn1.mono nx.le) hkc' (hk.at (zva nx hin (λ l hl => zjl hl)) .refl)⟩
       ·cases hk'
      ·rename_i v
       cases out' <;> first | exact ho'.elim | skip
       show K (.panic _) ds' [] (spl hp'.n W' ++ [])
       rw [List.append_nil]
       exact hk (.panic v) dv' .nil (hp'.setRo ro0.ro) ρ' W' ds' [] (.panic _) (zva nx hin (λ l hl => zjl hl)) (λ t v e => by cases e) dx ho' hk'
      ·cases hk')
     refine ⟨o, gs.map (λ (x : Nat × ND) => ((x.1, gdOf ρ x.2) : Nat × Gd)), ho, λ g hg => ?_, by rw [hids]; exact hbn, hnd, t1⟩
     obtain ⟨x, hx, rfl⟩ := List.mem_map.1 hg
     obtain ⟨h1, og, h2, h3, h4⟩ := hev x hx
     exact ⟨by rw [hgn.ids]; exact h1, og, h2, h3, h4⟩
    ·-- new memory
     split at h
     rotate_left
     ·exact h.elim
     rename_i hbn
     have hbn : zqJ arr (Gn.map (·.1)) [i] pi = true := by rw [hgn.ids]; exact hbn
     unfold goDrawN at h
     split at h
     ·rename_i hw
      have hw := zqv hE hw
      unfold goDrawN1 at h
      split at h
      ·rename_i d hnew
       obtain ⟨_, hst⟩ := newD_step (n := fi.nt) (ds := ds) hG hE hw hnew
       refine ⟨o, ho, hbn, hnd, zqu hd, .inr ⟨hw, λ Γ F a w H he hh => ?_⟩⟩
       obtain ⟨u, w', Hn, h1, h2, h3⟩ := hst Γ F a w H he hh
       refine ⟨u, w', Hn, h1, h2, ?_⟩
       unfold goDrawM at h
       split at h
       ·rename_i vv h' hin'
        obtain ⟨ρ', W', nx, hv, he'⟩ := zkW hH (Rho.le_refl _) h3 hin'
        rw [he']
        exact next (v := vv) h nx ((hE.mono nx.le).putE hd hF.1 hv) (hkc.stay hro nx.st (nx.x hH.ext))
       ·exact h.elim
      ·exact h.elim
     ·rename_i hw
      have hw := zqv hE hw
      exact ⟨o, ho, hbn, hnd, zqu hd, .inl ⟨hw, next (v := .und) h (.refl hH) (hE.putE hd hF.1 rfl) hkc⟩⟩
     ·exact h.elim
    ·-- new memory that may be there already
     split at h
     rotate_left
     ·exact h.elim
     rename_i d hlk hbn
     obtain ⟨ρ0, hle, hgl⟩ := hgn.look hlk
     refine ⟨o, gdOf ρ0 d, ho, hgl, by rw [hgn.ids]; exact hbn, λ u Hn hg => ?_⟩
     unfold goDrawM at h
     split at h
     ·rename_i vv h' hin'
      obtain ⟨ρ', W', nx, hv, he'⟩ := zkW hH hle hg hin'
      rw [he']
      exact next (v := vv) h nx ((hE.mono nx.le).putE hd hF.1 hv) (hkc.stay hro nx.st (nx.x hH.ext))
     ·exact h.elim
    ·-- quiet, ahead of the next loud one
     unfold goDrawW at h
     split at h
     ·rename_i hw
      have hw := zqv hE hw
      obtain ⟨v0, rd0, hqok, h⟩ := goDrawX_ok (ds := ds) hG hH hE hd hw h
      unfold goDrawQ at h
      split at h
      ·rename_i v rd d hq hm hod
       cases hq
       obtain ⟨hlv, u, hu, hqs⟩ := hqok _ hod
       obtain ⟨v', hu, h⟩ := zkf h hu
       refine ⟨o, u, ho, ?_, ?_⟩
       ·rw [List.append_nil]; exact hqs _ (hlv.holds hH) (λ _ => ⟨_, _, λ _ _ e => e, λ x hx => (zxg x).1 hx⟩)
       ·rw [hod]
        exact next (v := .und) h (.refl hH) (RE.putE (d := some d) hE (by rw [<- hod]; exact hd) hF.1 hu) hkc
      ·rename_i hm _; cases hm
      ·rename_i hm _; cases hm
      ·cases h
     ·rename_i hw
      have hw := zqv hE hw
      exact ⟨o, undef, ho, off_q hw (zqu hd), next (v := .und) h (.refl hH) (hE.putE hd hF.1 rfl) hkc⟩
     ·cases h
    ·-- quiet, what stays
     unfold goDrawW at h
     have htru : Eqv (spl hp.n W) (tru :: spl hp.n W) := λ x => ⟨λ y => zkv _ y, λ y => tru_sep _ y⟩
     have hkx : KeptIn ro0.lk W ((i, (λ A => ∃ X, Hp.le W.x X /\ A = extSP X)) :: Hc) := λ A hA => by
      cases hA with
      | head => exact .inr (.inl λ X hX => ⟨X, hX, rfl⟩)
      | tail _ hA => exact hkc A hA
     have hkt : KeptIn ro0.lk W ((i, (· = tru)) :: Hc) := λ A hA => by
      cases hA with
      | head => exact .inl rfl
      | tail _ hA => exact hkc A hA
     split at h
     ·rename_i hw
      have hw := zqv hE hw
      obtain ⟨v0, rd0, hqok, h⟩ := goDrawX_ok (ds := ds) hG hH hE hd hw h
      unfold goDrawQ at h
      split at h
      ·rename_i hm _; cases hm
      ·rename_i v d hq hm hod
       cases hq
       obtain ⟨hlv, u, hu, hqs⟩ := hqok _ hod
       obtain ⟨v', hu, h⟩ := zkf h hu
       refine ⟨o, u, (λ A => ∃ X, Hp.le W.x X /\ A = extSP X), ho, ⟨extSP W.x, splR hp.n W, ⟨_, λ _ _ e => e, rfl⟩, λ x => zxg x⟩, λ A hA => hqs _ (λ id hid => by cases hid) (λ _ => let ⟨X, h1, h2⟩ := hA; ⟨X, [], h1, by rw [h2]; exact .head⟩), ?_⟩
       rw [hod]
       exact next (v := .und) h (.refl hH) (RE.putE (d := some d) hE (by rw [<- hod]; exact hd) hF.1 hu) hkx
      ·rename_i v id d hq hm hod
       cases hq
       obtain ⟨hlv, u, hu, hqs⟩ := hqok _ hod
       obtain ⟨v', hu, h⟩ := zkf h hu
       obtain ⟨ch, hc⟩ := hlv id (by simp)
       obtain ⟨b, ob, hW, _⟩ := hH.rel _ _ hc
       refine ⟨o, u, (λ A => ∃ b o, Same id (W id.1) (some (b, o)) /\ A = pt b o), ho, ⟨pt b ob, _, ⟨b, ob, by rw [hW]; exact .refl, rfl⟩, spl_eqv (hH.lt hc) hW⟩, λ A hA => ?_, ?_⟩
       ·obtain ⟨b', o', hs', rfl⟩ := hA
        refine hqs _ (λ j hj => ?_) (λ h => by cases h)
        simp only [List.mem_singleton] at hj
        subst hj
        exact ⟨b', o', _, hs', .head⟩
       ·rw [hod]
        refine IH _ h ρ W ds _ K ro Gn ((i, λ A => ∃ b o, Same id (W id.1) (some (b, o)) /\ A = pt b o) :: Hc) hG ⟨hH.rel, hH.lim, λ j hj => ?_, hH.ext⟩ (RE.putE (d := some d) hE (by rw [<- hod]; exact hd) hF.1 hu) hF (by show id :: hp.ro = id :: lks ro0.lk ro0.ro; rw [hro]) hgn (λ A hA => ?_) hk
        ·cases hj with
         | head => exact hH.lt hc
         | tail _ hj => exact hH.rol j hj
        ·cases hA with
         | head => exact .inr (.inr ⟨id, .head _, ⟨b, ob, hW⟩, λ b' o' h => ⟨b', o', h, rfl⟩⟩)
         | tail _ hA =>
          rcases hkc A hA with h | h | ⟨j, hj, h⟩
          ·exact .inl h
          ·exact .inr (.inl h)
          ·exact .inr (.inr ⟨j, .tail _ hj, h⟩)
      ·cases h
     ·rename_i hw
      have hw := zqv hE hw
      exact ⟨o, undef, (· = tru), ho, ⟨tru, spl hp.n W, rfl, htru⟩, λ A hA => off_q hw (zqu hd), next (v := .und) h (.refl hH) (hE.putE hd hF.1 rfl) hkt⟩
     ·cases h
    ·cases h
   ·cases h
  ·cases h
end
end
end Go.Q
namespace Go.Q
open Go.Z Go.Y
noncomputable section
section
variable {P : Program} {G : GQ} {ih : Task -> Prop} {fi : FI} {arr : Array Oper} {r : List Oper} {dd : Option Nat} {dv : List DV} {env : Tr V} {hp : Mem} {k : KK}
 {ρ : Rho} {W : RW} {ds : List Deferred} {L : Lo} {K : Kont} {ro : Option Nat}
theorem seqK_rel (IH : ∀ t, ih t -> TaskOk P G t) {b : Code} (hG : GOk ρ G.g) (hF : FIok ρ fi ro) (hk : KRel P k ρ hp W dv ds K) : KRel P (seqK ih fi b k) ρ hp W dv ds (Kont.seq (λ ds L H => Z.Go P ro fi.nt b ds L H K) K) := by
 intro o dv' env' hp' ρ' W' ds' L' out nx hE dx ho hk'
 cases o <;> cases out <;> first | exact ho.elim | skip
 ·exact IH _ hk' ρ' W' ds' L' K ro (hG.mono nx.le) nx.hr hE (hF.mono nx.le) (hk.at nx dx)
 all_goals exact hk _ _ _ _ _ _ _ _ _ nx hE dx ho hk'
theorem scK_rel (hk : KRel P k ρ hp W dv ds K) : KRel P (scK k) ρ hp W dv ds (Kont.scope K) := by
 intro o dv' env' hp' ρ' W' ds' L' out nx hE dx ho hk'
 cases o <;> cases out <;> first | exact ho.elim | skip
 case goto.goto i j => first | (cases hk'; done) | exact hk'.elim
 all_goals exact hk _ _ _ _ _ _ _ _ _ nx hE dx ho hk'
theorem blkK_rel {id : Nat} (hk : KRel P k ρ hp W dv ds K) : KRel P (blkK id k) ρ hp W dv ds (Kont.block id K) := by
 intro o dv' env' hp' ρ' W' ds' L' out nx hE dx ho hk'
 cases o <;> cases out <;> first | exact ho.elim | skip
 case exit.exit i j =>
  cases ho
  show (if i = id then K .normal ds' L' (spl hp'.n W') else K (.exit i) ds' L' (spl hp'.n W'))
  simp only [blkK] at hk'
  split at hk'
  ·rename_i hb
   rw [if_pos (beq_tt hb)]
   exact hk .normal _ _ _ _ _ _ _ .normal nx hE dx trivial hk'
  ·rename_i hb
   rw [if_neg (beq_ff hb)]
   exact hk (.exit i) _ _ _ _ _ _ _ (.exit i) nx hE dx rfl hk'
 all_goals exact hk _ _ _ _ _ _ _ _ _ nx hE dx ho hk'
theorem goRegion_ok (hmix : P.follows .mixedOrders = true) (IH : ∀ t, ih t -> TaskOk P G t) {id : Nat} {dr : Bool} (h : goRegion ih fi arr dr dv env hp k) : TaskOk P G (.code fi (.region id arr dr) dv env hp k) := by
 intro ρ W ds L K ro hG hH hE hF hk
 unfold goRegion at h
 split at h
 ·have h1 : Ops P ro fi.nt arr.toList.toArray arr.toList ds L (spl hp.n W) K := by
   rw [Array.toArray_toList]
   exact IH _ h ρ W ds L K ro hG hH hE hF hk
  have := Go.region (id := id) h1
  rwa [Array.toArray_toList] at this
 ·split at h
  ·rename_i hok
   simp only [Bool.and_eq_true] at hok
   refine Go.draw (piOf arr) hok.1 (noSel_ok hok.2) hmix .all ?_
   exact IH _ h ρ W ds L K ro [] [] hG hH hE hF rfl rfl (λ A hA => by cases hA) hk
  ·cases h
theorem rangeK_rel (IH : ∀ t, ih t -> TaskOk P G t) {ρ2 : Rho} {hp2 : Mem} {W2 : RW} {lid l c : Nat} {dv2 : List DV} {ds2 : List Deferred} {Γ : World} {F : SP} {Q : Exit -> Act -> World -> Prop} {a2 : Act}
  (hG : GOk ρ G.g) (hF : FIok ρ fi ro) (hk : KRel P k ρ hp W dv ds K) (hq : K.le fi.nt Γ F Q) (nx : Nx ρ hp W ρ2 hp2 W2) (hl : ρ2 lid = some (l, c)) (hE : RE ρ2 env L) (dx : DExt P ρ2 dv ds dv2 ds2) (he : Env a2 fi.nt ds2 L) :
  KERel (rangeK ih fi lid dv2 env k) ρ2 hp2 W2 (λ e H' => ∀ w3, Hold Γ H' F w3 -> rangePost (fw ro) 0 P l Q a2 e w3) := by
 intro e hp3 ρ3 W3 en nx3 hen hk3 w3 hh3
 unfold rangeK at hk3
 split at hk3
 ·rename_i v
  cases en <;> first | exact hen.elim | skip
  rename_i ch
  exact hq (.panic ch) _ _ _ a2 w3 (hk (.panic v) _ _ _ _ _ _ _ (.panic ch) (nx.trans nx3) (hE.mono nx3.le) (dx.mono nx3.le) hen hk3) he hh3
 ·cases en <;> first | exact hen.elim | skip
  split at hk3
  ·rename_i st pend env0 nt0 ps0 assign0 body0 d0 h hc hput
   obtain ⟨b, c', fn, ts, db, dc, hW, hb, hts, hRT, hd⟩ := nx3.hr.loop hc
   rw [nx3.le _ _ hl] at hb; cases hb
   have hro := zqA hput
   obtain ⟨hs, rfl⟩ := zqB hput
   split at hk3
   rotate_left
   ·exact hk3.elim
   rename_i hst
   have hbl := hh3.block (zqf (nx3.hr.lt hc) hW)
   have hh4 := zkd (o' := .loop { state := .exhausted, pending := pend, fn := fn, tmps := ts, params := ps0, assign := assign0, body := body0, defers := db }) (nx3.hr.lt hc) hW hh3
   have nx4 : Nx ρ3 hp3 W3 ρ3 (hp3.put lid none) (upd W3 lid none) := ⟨Rho.le_refl _, nx3.hr.kill hs, rfl, Stay.put hro⟩
   refine ⟨pend, _, run_endLoop hbl (notBusy_ok hst), ?_⟩
   have nx5 := nx.trans (nx3.trans nx4)
   cases pend with
   | none => exact hq .normal _ _ _ a2 _ (hk .normal _ _ _ _ _ _ _ .normal nx5 (hE.mono nx3.le) (dx.mono nx3.le) trivial hk3) he hh4
   | some cd => exact IH _ hk3 ρ3 _ ds2 L K ro (hG.mono nx5.le) nx5.hr (hE.mono nx3.le) (hF.mono nx5.le) (hk.at nx5 (dx.mono nx3.le)) Γ F a2 _ Q he hh4 hq
  ·cases hk3
theorem goRange_ok (IH : ∀ t, ih t -> TaskOk P G t) {g : Operand} {ps : Array Tmp} {assign body : Code} (h : goRange ih fi (evO G.g env g) ps assign body dv env hp k) : TaskOk P G (.code fi (.rangeFunc g ps assign body) dv env hp k) := by
 intro ρ W ds L K ro hG hH hE hF hk
 intro Γ F a w Q he hh hq
 unfold goRange at h
 split at h
 ·rename_i f av bv hg
  obtain ⟨gu, hgu, a', b', ha, hb, rfl⟩ := evO_ok hG hE hg
  refine wpIn_rangeFunc λ fn _ => ?_
  -- the call, once the record is laid
  have main : ∀ (l lid : Nat) (mark : List Deferred) (dv2 : List DV) (ρ2 : Rho) (hp2 : Mem) (W2 : RW) (c : Nat) (w2 : World), (Instr.enterLoop fn a.tmps ps assign body ro).run P w = .ok (l, mark) w2 -> Nx ρ hp W ρ2 hp2 W2 -> ρ2 lid = some (l, c) -> DExt P ρ2 dv ds dv2 (mark ++ ds) ->
    Hold Γ (spl hp2.n W2) F w2 -> ih (.call f (av ++ [.yld lid] ++ bv) hp2 (rangeK ih fi lid dv2 env k)) ->
    ∃ (l : Nat) (mark : List Deferred) (w₁ : World) (d : Deferred) (w₁' : World) (f : FuncId) (args : Array Value) (w₂ : World),
     (Instr.enterLoop fn a.tmps ps assign body (fw ro).round).run P w = .ok (l, mark) w₁ /\
     (resolve a.eval (rangeCall g l) 0).run P w₁ = .ok d w₁' /\
     (∀ f', Target.leads P w₁' d.target d.args = some f' -> (fw ro).fn f') /\
     (Go.invoke d.target d.args).run P w₁' = .ok (.enter f args) w₂ /\
     ((fw ro).depth.isSome -> 1 <= 0) /\
     CallsIn (fw ro) (0 - 1) P f args w₂ (rangePost (fw ro) 0 P l Q { a with defers := mark ++ a.defers }) := by
   intro l lid mark dv2 ρ2 hp2 W2 c w2 hent nx hl dx hh2 hcall
   obtain ⟨hcl, spec⟩ := IH _ hcall
   have hus : RL ρ2 (av ++ [.yld lid] ++ bv) (a' ++ [Value.func (.yield l) #[] #[]] ++ b') := ((ha.mono nx.le).append (.cons (show R ρ2 (.yld lid) _ from ⟨l, c, hl, rfl⟩) .nil)).append (hb.mono nx.le)
   have he2 : Env { a with defers := mark ++ a.defers } fi.nt (mark ++ ds) L := ⟨he.size, by simp [he.defs], he.get⟩
   have sp := spec ρ2 W2 _ _ (hG.mono nx.le) nx.hr hus (rangeK_rel (l := l) (c := c) (Γ := Γ) (F := F) (Q := Q) IH hG hF hk hq nx hl (hE.mono nx.le) dx he2)
   refine ⟨l, mark, w2, { target := .fn (.func f) b'.toArray, args := a'.toArray ++ #[Value.func (.yield l) #[] #[]] }, w2, f, (a' ++ [Value.func (.yield l) #[] #[]] ++ b').toArray, w2, hent, ?_, λ _ _ => trivial, ?_, λ h => (by cases h), ?_⟩
   ·simp only [resolve, rangeCall, he.eval hgu, Deferred.ofValue, Sem.run_pure]
    simp [Act.eval]
   ·have := zxI hcl (a'.toArray ++ #[Value.func (.yield l) #[] #[]] ++ b'.toArray) w2
    simp only [Go.invoke]
    rw [this]
    simp
   ·have hc := (callsIn_wide (n := 0)).2 (sp Γ F w2 hh2)
    have hc2 : CallsIn Fence.wide 0 P f (a' ++ [Value.func (.yield l) #[] #[]] ++ b').toArray w2 (rangePost (fw ro) 0 P l Q { a with defers := mark ++ a.defers }) := hc.mono λ e w' ⟨H', p, hh'⟩ => p w' hh'
    exact ⟨trivial, hc2.2⟩
  split at h
  ·rename_i hro
   have hro' : ro = none := by
    have := hF.2
    rw [hro] at this
    cases ro with
    | none => rfl
    | some b => exact this.elim
   subst hro'
   split at h
   ·rename_i h1 hn1
    split at h
    ·rename_i h2 hn2
     obtain ⟨hs1, rfl⟩ := zqw hn1
     obtain ⟨hs2, rfl⟩ := zqw hn2
     obtain ⟨W1, hh1, hr1, hst1⟩ := zxo (ch := .defr) (o := .deferred (some [])) hH hs1 hh ⟨⟨_, zqe⟩, rfl⟩
     have nx1 : Nx ρ hp W (upd ρ hp.n (some (w.heap.size, 0))) (hp.new .defr) W1 := ⟨zqm hH _, hr1, rfl, hst1⟩
     have le2 := zqm hr1 ((({ w with heap := w.heap.push (.deferred (some [])) } : World)).heap.size, 0)
     obtain ⟨W2, hh2, hr2, hst2⟩ := zxo (ch := .loop .ready none env fi.nt ps assign body hp.n) (o := .loop { state := .ready, pending := none, fn := fn, tmps := a.tmps, params := ps, assign := assign, body := body, defers := w.heap.size }) hr1 hs2 hh1
      ⟨⟨_, zqe⟩, fn, a.tmps, w.heap.size, 0, he.size, (hE.rt he).mono (Rho.le_trans nx1.le le2), le2 _ _ zqe, rfl⟩
     have nx2 : Nx (upd ρ hp.n (some (w.heap.size, 0))) (hp.new .defr) W1 _ ((hp.new .defr).new (.loop .ready none env fi.nt ps assign body hp.n)) W2 := ⟨le2, hr2, rfl, hst2⟩
     refine main (w.heap.size + 1) (hp.new .defr).n [{ target := .collected w.heap.size, args := #[] }] (.mark hp.n :: dv) _ _ W2 0 _ (run_enterLoop_outer fn a.tmps ps assign body) (nx1.trans nx2) ?_ ⟨[.mark hp.n], [{ target := .collected w.heap.size, args := #[] }], rfl, rfl, _, [], ⟨w.heap.size, 0, le2 _ _ zqe, rfl⟩, rfl, rfl⟩ hh2 h
     show upd _ _ _ _ = _
     rw [zqe]
     simp
    ·cases h
   ·cases h
  ·rename_i l0 hro
   obtain ⟨b0, hro', c0, hl0⟩ : ∃ b0, ro = some b0 /\ ∃ c0, ρ l0 = some (b0, c0) := by
    have := hF.2
    rw [hro] at this
    cases ro with
    | none => exact this.elim
    | some b => exact ⟨b, rfl, this⟩
   subst hro'
   split at h
   ·rename_i st0 pend0 env0 nt0 ps0 assign0 body0 d0 hc
    split at h
    ·rename_i h2 hn2
     obtain ⟨hs2, rfl⟩ := zqw hn2
     obtain ⟨b1, c1, fn1, ts1, db1, dc1, hW1, hl1, hts1, hRT1, hd1⟩ := hH.loop hc
     rw [hl0] at hl1; cases hl1
     have hb1 := hh.block (zqf (hH.lt hc) hW1)
     have le2 := zqm hH (w.heap.size, 0)
     obtain ⟨W2, hh2, hr2, hst2⟩ := zxo (ch := .loop .ready none env fi.nt ps assign body d0) (o := .loop { state := .ready, pending := none, fn := fn, tmps := a.tmps, params := ps, assign := assign, body := body, defers := db1 }) hH hs2 hh
      ⟨⟨_, zqe⟩, fn, a.tmps, db1, dc1, he.size, (hE.rt he).mono le2, le2 _ _ hd1, rfl⟩
     refine main w.heap.size hp.n [] dv _ _ W2 0 _ ?_ ⟨le2, hr2, rfl, hst2⟩ zqe .refl hh2 h
     unfold Instr.enterLoop
     simp only [Sem.run_bind, run_getLoop hb1, Result.andThen_ok, Sem.run_pure, run_newObj]
    ·cases h
   ·cases h
 ·cases h
theorem goCode_ok (hmix : P.follows .mixedOrders = true) (IH : ∀ t, ih t -> TaskOk P G t) {c : Code} (hnl : ∀ b, c ≠ .loop b) (h : goCode G ih fi c dv env hp k) : TaskOk P G (.code fi c dv env hp k) := by
 unfold goCode at h
 split at h
 ·intro ρ W ds L K ro hG hH hE hF hk
  exact Go.skip (hk .normal _ _ _ _ _ _ _ .normal (.refl hH) hE .refl trivial h)
 ·intro ρ W ds L K ro hG hH hE hF hk
  exact Go.label (hk .normal _ _ _ _ _ _ _ .normal (.refl hH) hE .refl trivial h)
 ·intro ρ W ds L K ro hG hH hE hF hk
  exact Go.ret (hk .ret _ _ _ _ _ _ _ .ret (.refl hH) hE .refl trivial h)
 ·intro ρ W ds L K ro hG hH hE hF hk
  exact Go.exit (hk (.exit _) _ _ _ _ _ _ _ (.exit _) (.refl hH) hE .refl rfl h)
 ·intro ρ W ds L K ro hG hH hE hF hk
  exact Go.seq (IH _ h ρ W ds L _ ro hG hH hE hF (seqK_rel IH hG hF hk))
 ·intro ρ W ds L K ro hG hH hE hF hk
  unfold goCond at h
  split at h
  ·rename_i hc
   obtain ⟨u, h1, h2⟩ := evO_ok hG hE hc
   cases h2
   exact Go.cond_true h1 (IH _ h ρ W ds L K ro hG hH hE hF hk)
  ·rename_i hc
   obtain ⟨u, h1, h2⟩ := evO_ok hG hE hc
   cases h2
   exact Go.cond_false h1 (IH _ h ρ W ds L K ro hG hH hE hF hk)
  ·rename_i b hc
   obtain ⟨u, h1, h2⟩ := evO_ok hG hE hc
   cases h2
   exact Go.cond h1 (λ hb => IH _ (h.1 hb) ρ W ds L K ro hG hH hE hF hk) (λ hb => IH _ (h.2 hb) ρ W ds L K ro hG hH hE hF hk)
  ·cases h
 ·intro ρ W ds L K ro hG hH hE hF hk
  exact Go.block (IH _ h ρ W ds L _ ro hG hH hE hF (blkK_rel hk))
 ·intro ρ W ds L K ro hG hH hE hF hk
  exact Go.scope (IH _ h ρ W ds L _ ro hG hH hE hF (scK_rel hk))
 ·rename_i b; exact absurd rfl (hnl b)
 ·exact goRegion_ok hmix IH h
 ·exact goRange_ok IH h
 ·cases h
end
end
end Go.Q
namespace Go.Q
open Go.Z Go.Y
noncomputable section
section
variable {P : Program} {G : GQ} {ih : Task -> Prop} {fi : FI} {arr : Array Oper} {r : List Oper} {dd : Option Nat} {dv : List DV} {env : Tr V} {hp : Mem} {k : KK}
 {ρ : Rho} {W : RW} {ds : List Deferred} {L : Lo} {K : Kont} {ro : Option Nat}
theorem plain_ok (IH : ∀ t, ih t -> TaskOk P G t) {nt : Nat} {c : Code} {rc : Option V} {kr : KR} (hn : small nt = true) {u : FrameMode} {KS : KontS} (hG : GOk ρ G.g) (hH : HR ρ hp W) (hE : RE ρ env L) (hm : MRel ρ rc u) (hk : KSRel kr ρ hp W KS)
  (h : ih (.code ⟨nt, none⟩ c [] env hp (keepK rc kr))) : GoS P nt c u L (spl hp.n W) KS := by
 intro Γ F a c0 cs w Q he hu hh hq
 have t1 := IH _ h ρ W [] L (λ out ds' L' H' => ds' = [] /\ KS out u L' H') none hG hH hE ⟨hn, trivial⟩ (by
  intro o dv' env' hp' ρ' W' ds' L' out nx hE' dx ho hk'
  unfold keepK at hk'
  split at hk'
  ·have hds : ds' = [] := (dx.same rfl).2
   refine ⟨hds, hk o rc env' hp' ρ' W' u L' out nx hE' ?_ ho hk'⟩
   cases rc with
   | none => exact hm
   | some v => obtain ⟨y, h1, h2⟩ := hm; exact ⟨y, h1.mono nx.le, h2⟩
  ·cases hk')
 refine wpSIn_of_wpIn rfl (t1 Γ F a w _ he hh λ e ds L H a w kk he hh => ?_)
 obtain ⟨rfl, kk⟩ := kk
 have := hq e u L H a w kk he hh
 rwa [zjy hu] at this
theorem dseqK_rel (IH : ∀ t, ih t -> TaskOk P G t) {nt : Nat} {b : Code} {kr : KR} (hn : small nt = true) {KS : KontS} (hG : GOk ρ G.g) (hk : KSRel kr ρ hp W KS) :
  KSRel (dseqK ih nt b kr) ρ hp W (λ out u L H => match out with | .normal => GoS P nt b u L H KS | e => KS e u L H) := by
 intro o rc env' hp' ρ' W' u L' out nx hE hm ho hk'
 cases o <;> cases out <;> first | exact ho.elim | skip
 ·exact IH _ hk' hn ρ' W' L' u KS (hG.mono nx.le) nx.hr hE hm (hk.at nx)
 all_goals exact hk _ rc env' hp' ρ' W' u L' _ nx hE hm ho hk'
theorem goDOps_ok (IH : ∀ t, ih t -> TaskOk P G t) {nt : Nat} {l : List Oper} {rc : Option V} {kr : KR} (h : goDOps P G ih nt arr l env hp rc kr) : TaskOk P G (.dops nt arr l env hp rc kr) := by
 intro hn ρ W L u KS hG hH hE hm hk Γ F a c0 cs w Q is he hu hh hq his
 unfold goDOps at h
 split at h
 ·have : is = [] := by simpa using his
  subst this
  have := hq .normal u L _ a w (hk .normal rc env hp ρ W u L .normal (.refl hH) hE hm trivial h) he hh
  rwa [zjy hu] at this
 ·rename_i o r
  obtain ⟨i, is', rfl, hi, his'⟩ := zkO his
  unfold goDOp at h
  have hwan : o.guard = none -> Region.wanted o (yielded arr a.tmps) := by
   intro hg
   unfold Region.wanted
   rw [hg]
  simp only [wpOpsSIn, hi]
  refine ⟨λ _ _ => trivial, ?_⟩
  split at h
  ·rename_i hd hrec hg
   rw [if_pos (hwan hg)]
   obtain ⟨xs, ts, hop⟩ := zkR hrec
   have hrun : (execOp a.eval o).run P w = .ok .recover w := by
    simp [execOp, hop, resolve, Go.invoke, builtin]
   rw [hrun]
   split at h
   ·rename_i v
    obtain ⟨y, hy, rfl⟩ := hm
    have hrd : recoverD (c0 :: cs) = some (y, { c0 with mode := .panicking [{ v := y, recovered := true }] } :: cs) := by
     simp only [recoverD, hu]
    simp only [hrd]
    refine IH _ h hn ρ W _ (.panicking [{ v := y, recovered := true }]) KS hG hH (hE.putE hd hn hy) (.inr ⟨y, rfl⟩) hk Γ F _ { c0 with mode := .panicking [{ v := y, recovered := true }] } cs w Q is' (he.putO y (zqu hd)) rfl hh (λ e2 u2 L2 H2 a2 w2 k2 he2 hh2 => hq e2 u2 L2 H2 a2 w2 k2 he2 hh2) his'
   ·have hrd : recoverD (c0 :: cs) = none := by
     rcases hm with rfl | ⟨y, rfl⟩
     ·simp only [recoverD, hu]
     ·simp only [recoverD, hu]
    simp only [hrd]
    exact IH _ h hn ρ W _ u KS hG hH (hE.putE hd hn rfl) hm hk Γ F _ c0 cs w Q is' (he.putO .nilIface (zqu hd)) hu hh hq his'
  ·rename_i hd hrec hg
   rw [if_pos (hwan hg)]
   unfold goDOpQ at h
   split at h
   ·rename_i v rd d hqv hod
    have hw : wants arr L o = some true := by unfold wants; rw [hg]
    obtain ⟨u1, hu1, hq1⟩ : ∃ u1, R ρ v u1 /\ QStep P nt arr o [] L (spl hp.n W) u1 := by
     obtain ⟨od, oo, oT, opos, oes, og⟩ := o
     dsimp only at hod hqv
     subst hod
     exact zxN hG hE hH hw (zqu hd) hqv
    obtain ⟨_, ⟨hw2, _⟩ | ⟨_, hnd, hrun⟩⟩ := hq1
    ·rw [hw] at hw2; cases hw2
    ·obtain ⟨w', hr, hh'⟩ := hrun Γ F a w he hh
     simp only [hr]
     have hE' : RE ρ (Tr.set 20 env d (some v)) (putL o.dst u1 L) := by
      have := RE.putE (d := o.dst) hE hd hn hu1
      rw [hod] at this ⊢
      exact this
     exact IH _ h hn ρ W _ u KS hG hH hE' hm hk Γ F _ c0 cs w' Q is' (he.putO u1 (zqu hd)) hu hh' hq his'
   ·cases h
  ·cases h
theorem goDCode_ok (hmix : P.follows .mixedOrders = true) (IH : ∀ t, ih t -> TaskOk P G t) {nt : Nat} {c : Code} {rc : Option V} {kr : KR} (h : goDCode G ih nt c env hp rc kr) : TaskOk P G (.dcode nt c env hp rc kr) := by
 intro hn ρ W L u KS hG hH hE hm hk
 unfold goDCode at h
 split at h
 ·exact GoS.seq (IH _ h hn ρ W L u _ hG hH hE hm (dseqK_rel IH hn hG hk))
 ·unfold goDCond at h
  split at h
  ·rename_i hc
   obtain ⟨uc, h1, h2⟩ := evO_ok hG hE hc
   cases h2
   intro Γ F a c0 cs w Q he hu hh hq
   exact wpSIn_cond (he.eval h1) (IH _ h hn ρ W L u KS hG hH hE hm hk Γ F a c0 cs w Q he hu hh hq)
  ·rename_i hc
   obtain ⟨uc, h1, h2⟩ := evO_ok hG hE hc
   cases h2
   intro Γ F a c0 cs w Q he hu hh hq
   exact wpSIn_cond (he.eval h1) (IH _ h hn ρ W L u KS hG hH hE hm hk Γ F a c0 cs w Q he hu hh hq)
  ·cases h
 ·rename_i id arr2 dr
  split at h
  ·intro Γ F a c0 cs w Q he hu hh hq
   refine wpSIn_region (IH _ h hn ρ W L u KS hG hH hE hm hk Γ F a c0 cs w Q _ he hu hh hq ?_)
   have := range_map arr2.toList
   simpa using this
  ·cases h
  ·exact plain_ok IH hn hG hH hE hm hk h
 ·exact plain_ok IH hn hG hH hE hm hk h
theorem goLeave_ok (IH : ∀ t, ih t -> TaskOk P G t) (hNG : ∀ (f : Nat) (fn : Func), P.funcs[f]? = some fn -> (fn.name == "runtime.NumGoroutine") = false) {fn : Func} {mode : Option V} {ke : KE} (h : goLeave P ih fn dv mode env hp ke) : TaskOk P G (.leave fn dv mode env hp ke) := by
 intro ρ W ds u Post hG hH hds hm hk Γ F tmps w hT hh
 unfold goLeave at h
 split at h
 ·rw [show ds = [] from hds]
  split at h
  ·rw [show u = .returning from hm]
   split at h
   ·rename_i v hv
    obtain ⟨x, h1, h2⟩ := results_ok hH hT hv
    exact ⟨x, h2 Γ F w hh, _, hk (.ret v) hp ρ W (.returned x) (.refl hH) h1 h, hh⟩
   ·cases h
  ·rename_i v
   obtain ⟨y, hy, rfl⟩ := hm
   exact ⟨_, hk (.pan v) hp ρ W (.panicked _) (.refl hH) ⟨y, hy, rfl⟩ h, hh⟩
 ·rename_i id dv
  obtain ⟨d, ds', ⟨b, c, hb, htar⟩, hrest, rfl⟩ := hds
  split at h
  ·rename_i hp' hc hput
   have hro := zqA hput
   obtain ⟨hs, rfl⟩ := zqB hput
   obtain ⟨b', o, hW, ⟨c', hb'⟩, rfl⟩ := hH.rel _ _ hc
   rw [hb] at hb'; cases hb'
   have hbl := hh.block (zqf (hH.lt hc) hW)
   have nx : Nx ρ hp W ρ (hp.put id none) (upd W id none) := ⟨Rho.le_refl _, hH.kill hs, rfl, Stay.put hro⟩
   refine ⟨hm.run, .inl ⟨b, _, htar, run_takeDeferred hbl, ?_⟩⟩
   exact IH _ h ρ _ ds' u Post hG nx.hr hrest hm (hk.at nx) Γ F tmps _ hT (zkd (hH.lt hc) hW hh)
  ·cases h
 ·rename_i f args dv
  obtain ⟨d, ds', ⟨fv, cap, us, htar, hus, hinv⟩, hrest, rfl⟩ := hds
  split at h
  ·rename_i fd hf
   split at h
   ·rename_i c hb hres hlen hsm
    have hc : zqK P f := ⟨fd, hf, by rw [hb]; rfl, hNG f fd hf⟩
    refine ⟨hm.run, .inr ⟨λ h => (by cases h), fv, cap, f, us.toArray, htar, hinv hc w, λ _ _ => trivial, ?_⟩⟩
    refine callsDIn_of_wpSIn hf hb trivial λ c0 cs hu => ?_
    have hlen' : us.length <= fd.ntmps := by rw [hus.length]; exact Nat.le_of_ble_eq_true hlen
    have t1 := IH _ h hsm ρ W (argL 0 us) u (λ e u' L' H' => (e = .normal \/ e = .ret) /\ ∀ w', Hold Γ H' F w' -> LeavesInM Fence.wide 0 P fn tmps (λ e w' => ∃ H', Post e H' /\ Hold Γ H' F w') ds' (settle u') w') hG hH (argE_ok hus hsm hlen) hm.rel (by
     intro o rc env' hp' ρ' W' u' L' out nx hE' hm' ho hk'
     unfold defK at hk'
     have hT' : RT ρ' env tmps := hT.mono nx.le
     split at hk'
     ·cases out <;> first | exact ho.elim | skip
      exact ⟨.inl rfl, λ w' hh' => IH _ hk' ρ' W' ds' (settle u') Post (hG.mono nx.le) nx.hr (hrest.mono nx.le) (zjV hm') (hk.at nx) Γ F tmps w' hT' hh'⟩
     ·cases out <;> first | exact ho.elim | skip
      exact ⟨.inr rfl, λ w' hh' => IH _ hk' ρ' W' ds' (settle u') Post (hG.mono nx.le) nx.hr (hrest.mono nx.le) (zjV hm') (hk.at nx) Γ F tmps w' hT' hh'⟩
     ·cases hk')
    refine t1 Γ F _ c0 cs w _ (zkk us fd.ntmps hlen') hu hh λ e u' L' H' a' w' kk he' hh' => ?_
    have hr0 : (results fd a'.tmps).run P w' = .ok (.tuple #[]) w' := by
     have : fd.results = #[] := by apply Array.ext'; simpa using hres
     simp [results, this]
    obtain ⟨he, kk⟩ := kk
    rcases he with rfl | rfl
    ·exact ⟨he'.defs, u', rfl, _, hr0, kk w' hh'⟩
    ·exact ⟨he'.defs, u', rfl, _, hr0, kk w' hh'⟩
   ·cases h
  ·cases h
theorem goFn_ok (IH : ∀ t, ih t -> TaskOk P G t) (hNG : ∀ (f : Nat) (fn : Func), P.funcs[f]? = some fn -> (fn.name == "runtime.NumGoroutine") = false) {f : Nat} {args : List V} {ke : KE} (h : goFn ih f P.funcs[f]? args hp ke) : TaskOk P G (.call f args hp ke) := by
 unfold goFn at h
 split at h
 ·rename_i fn hf
  split at h
  ·rename_i c hb hlen hsm
   refine ⟨⟨fn, hf, by rw [hb]; rfl, hNG f fn hf⟩, λ ρ W us Post hG hH hus hk Γ F w hh => ?_⟩
   refine (callsIn_wide (n := 0)).1 (callsIn_of_wp_marks hf hb trivial ?_)
   have hlen' : us.length <= fn.ntmps := by rw [hus.length]; exact Nat.le_of_ble_eq_true hlen
   have t1 := IH _ h ρ W [] (argL 0 us) (λ out ds' L' H' => ∀ a' w', Env a' fn.ntmps ds' L' -> Hold Γ H' F w' -> bodyPostM Fence.wide 0 P fn (λ e w' => ∃ H', Post e H' /\ Hold Γ H' F w') out.exitOf a' w') none hG hH (argE_ok hus hsm hlen) ⟨hsm, trivial⟩ (by
    intro o dv' env' hp' ρ' W' ds' L' out nx hE' dx ho hk' a' w' he' hh'
    unfold endK at hk'
    split at hk'
    ·cases out <;> first | exact ho.elim | skip
     show LeavesInM _ _ _ _ _ _ a'.defers .returning w'
     rw [he'.defs]
     exact IH _ hk' ρ' W' ds' .returning Post (hG.mono nx.le) nx.hr dx.base rfl (hk.at nx) Γ F a'.tmps w' (hE'.rt he') hh'
    ·cases out <;> first | exact ho.elim | skip
     show LeavesInM _ _ _ _ _ _ a'.defers .returning w'
     rw [he'.defs]
     exact IH _ hk' ρ' W' ds' .returning Post (hG.mono nx.le) nx.hr dx.base rfl (hk.at nx) Γ F a'.tmps w' (hE'.rt he') hh'
    ·cases out <;> first | exact ho.elim | skip
     rename_i ch
     show LeavesInM _ _ _ _ _ _ a'.defers (.panicking ch) w'
     rw [he'.defs]
     obtain ⟨y, hy, rfl⟩ := ho
     exact IH _ hk' ρ' W' ds' _ Post (hG.mono nx.le) nx.hr dx.base ⟨y, hy, rfl⟩ (hk.at nx) Γ F a'.tmps w' (hE'.rt he') hh'
    ·cases hk')
   exact t1 Γ F _ w _ (zkk us fn.ntmps hlen') hh λ e ds L H a w kk he hh => kk a w he hh
  ·cases h
 ·cases h
def FsOk (P : Program) (G : GQ) : Prop := ∀ f s, lookF G.fs f = some s -> ∀ args hp k, s args hp k -> TaskOk P G (.call f args hp k)
def LsOk (P : Program) (G : GQ) : Prop := ∀ i c0 s, lookL G.ls i = some (c0, s) -> ∀ fi ds env hp k, s fi ds env hp k -> TaskOk P G (.code fi (.loop c0) ds env hp k)
theorem goCall_ok (IH : ∀ t, ih t -> TaskOk P G t) (hNG : ∀ (f : Nat) (fn : Func), P.funcs[f]? = some fn -> (fn.name == "runtime.NumGoroutine") = false) (hKN : KnOk P G.g) (hFS : FsOk P G) {f : Nat} {args : List V} {ke : KE} (h : goCall G ih f P.funcs[f]? args hp ke) : TaskOk P G (.call f args hp ke) := by
 unfold goCall at h
 split at h
 ·rename_i s hs
  exact hFS f s hs args hp ke h
 ·split at h
  ·rename_i v hr
   obtain ⟨hc, spec⟩ := kn_ok hKN hr
   refine ⟨hc, λ ρ W us Post hG hH hus hk => spec ρ W us Post hG hH hus (λ v' hv en hen => ?_) (λ es clk he => by cases he)⟩
   cases hv
   exact hk (.ret v) hp ρ W en (.refl hH) hen h
  ·rename_i es clk hr
   obtain ⟨hc, spec⟩ := kn_ok hKN hr
   refine ⟨hc, λ ρ W us Post hG hH hus hk => spec ρ W us Post hG hH hus (λ v' hv => by cases hv) (λ es' clk' he b es2 hes hnew => ?_)⟩
   cases he
   split at h
   ·rename_i hp' hn
    obtain ⟨W', nx, s⟩ := hnew hp' hn
    refine ⟨_, hk (.ret (.map hp.n)) hp' _ W' (.returned (.map (some b))) nx ⟨b, 0, zqe, rfl⟩ h, s⟩
   ·exact h.elim
  ·exact goFn_ok IH hNG h
structure LS where
 f : Nat
 dv : List DV
 env : Tr V
 hp : Mem
 ρ : Rho
 W : RW
 ds : List Deferred
 L : Lo
theorem goLoop_ok {f : Nat} (IH : ∀ j, j <= f -> ∀ t, go P G j t -> TaskOk P G t) {c : Code} (hno : ∀ (ih : Task -> Prop) ds env hp k, goLoop G ih fi c ds env hp k = ih (.code fi c ds env hp (seqK ih fi (.loop c) k))) (h : go P G f (.code fi c dv env hp (seqK (go P G f) fi (.loop c) k))) : TaskOk P G (.code fi (.loop c) dv env hp k) := by
 intro ρ W ds L K ro hG hH hE hF hk
 refine Go.loopD (α := LS) LS.ds LS.L (λ x => spl x.hp.n x.W) (λ x => x.f <= f /\ go P G x.f (.code fi c x.dv x.env x.hp (seqK (go P G x.f) fi (.loop c) k)) /\ Nx ρ hp W x.ρ x.hp x.W /\ RE x.ρ x.env x.L /\ DExt P x.ρ dv ds x.dv x.ds) LS.f
  ⟨f, dv, env, hp, ρ, W, ds, L⟩ ⟨Nat.le_refl _, h, .refl hH, hE, .refl⟩ ?_
 rintro ⟨j, dv1, env1, hp1, ρ1, W1, ds1, L1⟩ ⟨hj, hgo, nx, hE1, dx⟩
 simp only at hj hgo nx hE1 dx ⊢
 refine IH j hj _ hgo ρ1 W1 ds1 L1 _ ro (hG.mono nx.le) nx.hr hE1 (hF.mono nx.le) ?_
 intro o dv2 env2 hp2 ρ2 W2 ds2 L2 out nx2 hE2 dx2 ho hk2
 cases o <;> cases out <;> first | exact ho.elim | skip
 ·cases j with
  | zero => cases hk2
  | succ i =>
   have hk2 : goLoop G (go P G i) fi c dv2 env2 hp2 k := hk2
   rw [hno] at hk2
   exact ⟨⟨i, dv2, env2, hp2, ρ2, W2, ds2, L2⟩, ⟨by show i <= f; omega, hk2, nx.trans nx2, hE2, (dx.mono nx2.le).trans dx2⟩, by show i < i + 1; omega, rfl, rfl, rfl⟩
 all_goals exact hk _ _ _ _ _ _ _ _ _ (nx.trans nx2) hE2 ((dx.mono nx2.le).trans dx2) ho hk2
theorem go_sound (hmix : P.follows .mixedOrders = true) (hNG : ∀ (f : Nat) (fn : Func), P.funcs[f]? = some fn -> (fn.name == "runtime.NumGoroutine") = false) (hKN : KnOk P G.g) (hFS : FsOk P G) (hLS : LsOk P G) : ∀ (f : Nat) (t : Task), go P G f t -> TaskOk P G t := by
 intro f
 induction f using Nat.strongRecOn with
 | _ f ih =>
  intro t h
  cases f with
  | zero => cases h
  | succ f =>
   have IH : ∀ j, j <= f -> ∀ t, go P G j t -> TaskOk P G t := λ j hj => ih j (by omega)
   have h : goTask P G (go P G f) t := h
   cases t with
   | code fi c ds env hp k =>
    by_cases hl : ∃ b, c = .loop b
    ·obtain ⟨b, rfl⟩ := hl
     have h : goLoop G (go P G f) fi b ds env hp k := h
     unfold goLoop at h
     split at h
     ·unfold goLoop2 at h
      split at h
      ·rename_i c0 s hs
       obtain ⟨rfl, h⟩ := h
       exact hLS _ _ _ hs fi ds env hp k h
      ·rename_i hc _ hs
       exact goLoop_ok IH (λ ih ds env hp k => by unfold goLoop; rw [hc]; simp only [goLoop2, hs]) h
     ·rename_i hc
      exact goLoop_ok IH (λ ih ds env hp k => by unfold goLoop; rw [hc]) h
    ·exact goCode_ok hmix (IH f (Nat.le_refl _)) (λ b hb => hl ⟨b, hb⟩) h
   | ops fi arr l ds env hp k => exact goOps_ok (IH f (Nat.le_refl _)) h
   | draw fi arr pi ro ds env hp k => exact goDraw_ok (IH f (Nat.le_refl _)) h
   | call f' args hp k => exact goCall_ok (IH f (Nat.le_refl _)) hNG hKN hFS h
   | leave fn ds mode env hp k => exact goLeave_ok (IH f (Nat.le_refl _)) hNG h
   | dcode nt c env hp rc k => exact goDCode_ok hmix (IH f (Nat.le_refl _)) h
   | dops nt arr l env hp rc k => exact goDOps_ok (IH f (Nat.le_refl _)) h
end
end
end Go.Q
namespace Go.Q
open Go.Z Go.Y
noncomputable section
def vle : V -> V -> Prop
 | .int k n, .sint k' m => k = k' /\ n = m
 | .sint k n, .sint k' m => k = k' /\ n = m
 | .str l, .sstr m => l = m
 | .sstr l, .sstr m => l = m
 | .bool b, .sbool c => b = c
 | .sbool b, .sbool c => b = c
 | .sl id i off len none, .ssl id' i' len' sz => id = id' /\ i = i' /\ off = i * sz /\ len = len'
 | .nils, .ssl id i len sz => len = 0
 | v, w => v = w
def vles : List V -> List V -> Prop
 | [], [] => True
 | v :: l, w :: m => vle v w /\ vles l m
 | _, _ => False
theorem zqa (v : V) : vle v v := by
 cases v <;> first | rfl | exact ⟨rfl, rfl⟩ | (rename_i cap; cases cap <;> rfl)
theorem zxp : ∀ l : List V, vles l l
 | [] => trivial
 | v :: l => ⟨zqa v, zxp l⟩
theorem vle_ok {ρ : Rho} {v w : V} {u : Value} (h : vle v w) (hv : R ρ v u) : R ρ w u := by
 unfold vle at h
 split at h
 ·obtain ⟨rfl, rfl⟩ := h; exact hv
 ·obtain ⟨rfl, rfl⟩ := h; exact hv
 ·subst h; exact hv
 ·subst h; exact hv
 ·subst h; exact hv
 ·subst h; exact hv
 ·obtain ⟨rfl, rfl, rfl, rfl⟩ := h
  obtain ⟨b, c, e, h1, h2⟩ := hv
  exact .inr ⟨b, c, e, h1, h2⟩
 ·exact .inl ⟨h, hv⟩
 ·subst h; exact hv
theorem zxS {ρ : Rho} : ∀ {l m : List V} {us : List Value}, vles l m -> RL ρ l us -> RL ρ m us
 | [], [], _, _, h => h
 | v :: l, w :: m, us, h, hl => by obtain ⟨u, us', h1, h2, rfl⟩ := hl; exact .cons (vle_ok h.1 h1) (zxS h.2 h2)
 | [], _ :: _, _, h, _ => h.elim
 | _ :: _, [], _, h, _ => h.elim
def trSub (env env' : Tr V) : Prop := ∀ t v, env'.get t = some v -> env.get t = some v
def chle : Chunk -> Chunk -> Prop
 | .loop st p env nt ps a b d, .loop st' p' env' nt' ps' a' b' d' => (st = st' /\ p = p' /\ nt = nt' /\ ps = ps' /\ a = a' /\ b = b' /\ d = d') /\ trSub env env'
 | .cells l ty sz, .cells m ty' sz' => ty = ty' /\ sz = sz' /\ vles l m
 | .cellsH l ty sz, .cellsH m ty' sz' => ty = ty' /\ sz = sz' /\ vles l m
 | .cells l ty sz, .rows m sh ty' => ty = ty' /\ sz = sh.length /\ (∀ r ∈ m, shR sh r) /\ vles l m.flatten
 | .rows l sh ty, .rowsO m sh' ty' => l = m /\ sh = sh' /\ ty = ty'
 | .cells l ty sz, .rowsO m sh ty' => m = [] \/ (ty = ty' /\ sz = sh.length /\ (∀ r ∈ m, shR sh r) /\ vles l m.flatten)
 | .cells l ty sz, .byt m ty' => ty = ty' /\ sz = 1 /\ vles l (m.map λ c => .sint .u8 c.toNat)
 | a, b => a = b
theorem byt_R {ρ : Rho} : ∀ {m : List UInt8} {us : List Value}, RL ρ (m.map λ c => V.sint .u8 c.toNat) us -> us = byV m
 | [], us, h => h
 | c :: m, us, h => by
  obtain ⟨u, us', h1, h2, rfl⟩ := h
  rw [byt_R h2]
  have : u = .int .u8 c.toNat := h1
  subst this; rfl
theorem zkH {ρ : Rho} {id b : Nat} {o : Obj} {a c : Chunk} (h : chle a c) (hv : CRel ρ id a b o) : CRel ρ id c b o := by
 unfold chle at h
 split at h
 ·obtain ⟨⟨rfl, rfl, rfl, rfl, rfl, rfl, rfl⟩, h⟩ := h
  obtain ⟨h1, fn, ts, db, dc, h2, h3, h4⟩ := hv
  exact ⟨h1, fn, ts, db, dc, h2, λ t v e => h3 t v (h t v e), h4⟩
 ·obtain ⟨rfl, rfl, h⟩ := h
  obtain ⟨c, rl, junk, fr, h1, h2, h3⟩ := hv
  exact ⟨c, rl, junk, fr, h1, zxS h h2, h3⟩
 ·obtain ⟨rfl, rfl, h⟩ := h
  obtain ⟨c, base, pre, rl, junk, fr, h1, h2, h3⟩ := hv
  exact ⟨c, base, pre, rl, junk, fr, h1, zxS h h2, h3⟩
 ·obtain ⟨rfl, rfl, h, h'⟩ := h
  obtain ⟨c, rl, junk, fr, h1, h2, h3⟩ := hv
  exact ⟨c, rl, junk, fr, h1, zxS h' h2, h, h3⟩
 ·obtain ⟨rfl, rfl, rfl⟩ := h
  exact ⟨CRel.at hv, .inr hv⟩
 ·refine ⟨CRel.at hv, ?_⟩
  rcases h with rfl | ⟨rfl, rfl, h, h'⟩
  ·exact .inl rfl
  ·obtain ⟨c, rl, junk, fr, h1, h2, h3⟩ := hv
   exact .inr ⟨c, rl, junk, fr, h1, zxS h' h2, h, h3⟩
 ·obtain ⟨rfl, rfl, h⟩ := h
  obtain ⟨c, rl, junk, fr, h1, h2, rfl, h4, h5⟩ := hv
  cases byt_R (zxS h h2)
  exact ⟨c, junk, fr, h1, rfl, h4, h5⟩
 ·subst h; exact hv
mutual
def vin (n : Nat) : V -> Bool
 | .ptr id _ => Nat.blt id n
 | .sl id _ _ _ _ => Nat.blt id n
 | .map id => Nat.blt id n
 | .yld id => Nat.blt id n
 | .ssl id _ _ _ => Nat.blt id n
 | .sptr id _ _ _ => Nat.blt id n
 | .ptrh id _ => Nat.blt id n
 | .slh id _ _ _ => Nat.blt id n
 | .fn _ a b => match vins n a with | true => vins n b | false => false
 | .ifc _ v => vin n v
 | .agg l => vins n l
 | .tup l => vins n l
 | _ => true
def vins (n : Nat) : List V -> Bool
 | [] => true
 | v :: l => match vin n v with | true => vins n l | false => false
end
def cutR (ρ : Rho) (n : Nat) : Rho := ⟨λ id => match Nat.blt id n with | true => ρ id | false => none, ρ.x⟩
theorem zqG {ρ : Rho} {n id : Nat} (h : Nat.blt id n = true) : cutR ρ n id = ρ id := by simp only [cutR, h]
theorem zjN {ρ : Rho} {n id : Nat} (h : n <= id) : cutR ρ n id = none := by
 have : Nat.blt id n = false := by
  cases hb : Nat.blt id n with
  | false => rfl
  | true => have := blt_tt hb; omega
 simp only [cutR, this]
mutual
theorem vin_ok {ρ : Rho} {n : Nat} : ∀ {v : V} {u : Value}, vin n v = true -> R ρ v u -> R (cutR ρ n) v u
 | .bool _, _, _, h | .int _ _, _, _, h | .str _, _, _, h | .und, _, _, h | .sle, _, _, h | .nilp, _, _, h | .nils, _, _, h | .nilm, _, _, h | .nilf, _, _, h | .nili, _, _, h | .anyI _, _, _, h | .anyB, _, _, h | .anyS, _, _, h | .sint _ _, _, _, h | .sbool _, _, _, h | .sstr _, _, _, h | .xs _ _, _, _, h | .xp _ _ _ _, _, _, h => h
 | .ptr id off, u, hn, h => by obtain ⟨b, c, e, h⟩ := h; exact ⟨b, c, by rw [zqG hn]; exact e, h⟩
 | .sl .., u, hn, h => by obtain ⟨b, c, e, h⟩ := h; exact ⟨b, c, by rw [zqG hn]; exact e, h⟩
 | .map id, u, hn, h => by obtain ⟨b, c, e, h⟩ := h; exact ⟨b, c, by rw [zqG hn]; exact e, h⟩
 | .yld id, u, hn, h => by obtain ⟨b, c, e, h⟩ := h; exact ⟨b, c, by rw [zqG hn]; exact e, h⟩
 | .sptr id i f sz, u, hn, h => by obtain ⟨b, c, e, h⟩ := h; exact ⟨b, c, by rw [zqG hn]; exact e, h⟩
 | .ptrh id off, u, hn, h => by obtain ⟨b, c, base, e, h⟩ := h; exact ⟨b, c, base, by rw [zqG hn]; exact e, h⟩
 | .slh id i off len, u, hn, h => by obtain ⟨b, c, base, e, h⟩ := h; exact ⟨b, c, base, by rw [zqG hn]; exact e, h⟩
 | .ssl id i len sz, u, hn, h => by
  rcases h with h | ⟨b, c, e, h⟩
  ·exact .inl h
  ·exact .inr ⟨b, c, by rw [zqG hn]; exact e, h⟩
 | .fn f a b, u, hn, h => by
  obtain ⟨a', b', h1, h2, h⟩ := h
  simp only [vin] at hn
  split at hn
  ·rename_i hn1
   exact ⟨a', b', zjd hn1 h1, zjd hn h2, h⟩
  ·cases hn
 | .ifc t v, u, hn, h => by obtain ⟨u', h1, h⟩ := h; exact ⟨u', vin_ok hn h1, h⟩
 | .agg l, u, hn, h => by obtain ⟨l', h1, h⟩ := h; exact ⟨l', zjd hn h1, h⟩
 | .tup l, u, hn, h => by obtain ⟨l', h1, h⟩ := h; exact ⟨l', zjd hn h1, h⟩
theorem zjd {ρ : Rho} {n : Nat} : ∀ {l : List V} {us : List Value}, vins n l = true -> RL ρ l us -> RL (cutR ρ n) l us
 | [], _, _, h => h
 | v :: l, us, hn, h => by
  obtain ⟨u, us', h1, h2, rfl⟩ := h
  simp only [vins] at hn
  split at hn
  ·rename_i hn1
   exact .cons (vin_ok hn1 h1) (zjd hn h2)
  ·cases hn
end
def chin (n : Nat) : Chunk -> Bool
 | .cells l _ _ => vins n l
 | .byt _ _ => true
 | .iterS _ _ => true
 | .defr => true
 | _ => false
theorem chin_ok {ρ : Rho} {n id b : Nat} {o : Obj} {ch : Chunk} (hid : Nat.blt id n = true) (h : chin n ch = true) (hc : CRel ρ id ch b o) : CRel (cutR ρ n) id ch b o := by
 cases ch with
 | cells l ty sz => obtain ⟨c, rl, junk, fr, h1, h2, h3⟩ := hc; exact ⟨c, rl, junk, fr, by rw [zqG hid]; exact h1, zjd h h2, h3⟩
 | byt l ty => obtain ⟨c, junk, fr, h1, h3⟩ := hc; exact ⟨c, junk, fr, by rw [zqG hid]; exact h1, h3⟩
 | iterS l pos => obtain ⟨⟨c, h1⟩, h2⟩ := hc; exact ⟨⟨c, by rw [zqG hid]; exact h1⟩, h2⟩
 | defr => obtain ⟨⟨c, h1⟩, h2⟩ := hc; exact ⟨⟨c, by rw [zqG hid]; exact h1⟩, h2⟩
 | _ => cases h
def ofE : List (Nat × V) -> Tr V
 | [] => .nil
 | (t, v) :: l => Tr.set 20 (ofE l) t (some v)
def ofM : List (Nat × Chunk) -> Tr Chunk
 | [] => .nil
 | (t, v) :: l => Tr.set 20 (ofM l) t (some v)
theorem spl_down {W : RW} {m : Nat} : ∀ {n : Nat}, m <= n -> ∀ x, sep (spl n W) x -> sep (spl m W) x
  | 0, h, x, hx => by have : m = 0 := by omega
                      subst this; exact hx
  | n + 1, h, x, hx => by
    by_cases e : m = n + 1
    · subst e; exact hx
    · exact spl_down (by omega) x (zkr hx)
theorem Go.loopE {P : Program} {ro : Option Nat} {K : Kont} {n : Nat} {ds : List Deferred} {α : Type} {c : Code} (Lx : α -> Lo) (Hx : α -> List SP) (φ : α -> Prop) (μ : α -> Nat) (x0 : α) (h0 : φ x0)
  (round : ∀ x, φ x -> Z.Go P ro n c ds (Lx x) (Hx x) (Kont.seq (λ ds' L' H' => ds' = ds /\ ∃ x', φ x' /\ μ x' < μ x /\ L' = Lx x' /\ ∀ h, sep H' h -> sep (Hx x') h) K)) : Z.Go P ro n (.loop c) ds (Lx x0) (Hx x0) K := by
 intro Γ F a w Q he hh hq
 refine zkL (P := P) (λ x a w => φ x /\ Env a n ds (Lx x) /\ Hold Γ (Hx x) F w) μ x0 ⟨h0, he, hh⟩ ?_
 rintro x a w ⟨hx, he, hh⟩
 refine round x hx Γ F a w _ he hh ?_
 intro e ds' L' H' a' w' k he' hh'
 cases e with
 | normal =>
  obtain ⟨rfl, x', hx', hlt, rfl, hw⟩ := k
  exact ⟨x', ⟨hx', he', hh'.weaken hw⟩, hlt⟩
 | exit i => exact hq (.exit i) _ _ _ _ _ k he' hh'
 | goto i => exact hq (.goto i) _ _ _ _ _ k he' hh'
 | ret => exact hq .ret _ _ _ _ _ k he' hh'
 | panic c => exact hq (.panic c) _ _ _ _ _ k he' hh'
structure LSt (α : Type) where
 x : α
 ρ : Rho
 W : RW
 L : Lo
theorem splR_x {f : Nat -> Option (Nat × Obj)} {X Y : Hp} : ∀ n, splR n ⟨f, X⟩ = splR n ⟨f, Y⟩
 | 0 => rfl
 | n + 1 => by
  show optSP (f n) :: splR n ⟨f, X⟩ = optSP (f n) :: splR n ⟨f, Y⟩
  rw [splR_x n]
theorem _root_.Go.Y.EndRel.mono {ρ ρ' : Rho} (le : ρ.le ρ') {e : E} {en : Ending} (h : EndRel ρ e en) : EndRel ρ' e en := by
 cases e with
 | ret v =>
  cases en with
  | returned u => exact Go.Y.R.mono le (show R ρ v u from h)
  | panicked ch => exact h.elim
  | outgrown => exact h.elim
 | pan v =>
  cases en with
  | panicked ch => obtain ⟨u, h1, h2⟩ := h; exact ⟨u, h1.mono le, h2⟩
  | returned u => exact h.elim
  | outgrown => exact h.elim
theorem _root_.Go.Y.HR.grow {ρ : Rho} {hp : Mem} {W : RW} (h : HR ρ hp W) {X : Hp} (le : Hp.le ρ.x X) : HR ⟨ρ.f, X⟩ hp ⟨W.f, X⟩ := by
 have hl : ρ.le ⟨ρ.f, X⟩ := ⟨λ _ _ e => e, le⟩
 refine ⟨λ id ch e => ?_, h.lim, h.rol, rfl⟩
 obtain ⟨b, o, h1, h2⟩ := h.rel id ch e
 exact ⟨b, o, h1, h2.mono hl⟩
theorem fn_ofX {P : Program} {G : GQ} {f : Nat} {args : List V} {us : List Value} {k : KE} {Post : Hp -> Ending -> Prop} {X : Hp} (h : TaskOk P G (.call f args nomem k)) (hg : G.g.t = .nil) (hus : RL (norhoX X) args us)
  (hk : ∀ e hp en ρ W X2, HR ρ hp W -> EndRel ρ e en -> k e hp -> Hp.le ρ.x X2 -> (∀ id b o, id < hp.n -> W id = some (b, o) -> X2 b = some o) -> Post X2 en) :
  zqK P f /\ Z.Fn P f us [extSP X] (λ e H' => ∃ X2, Hp.le X X2 /\ Post X2 e /\ ∀ x, sep H' x -> sep [extSP X2] x) := by
 obtain ⟨hc, spec⟩ := h
 refine ⟨hc, ?_⟩
 have s1 := spec (norhoX X) (noW X) us (λ e H' => ∃ ev hp ρ W, Hp.le X W.x /\ HR ρ hp W /\ EndRel ρ ev e /\ k ev hp /\ H' = spl hp.n W) (λ g id e => by unfold GV.get at e; rw [hg] at e; cases e) { rel := λ id ch e => (by cases e), lim := λ _ _ => rfl, rol := λ id hid => (by cases hid), ext := rfl } hus
  (λ e hp ρ W en nx hen hk' => ⟨e, hp, ρ, W, nx.x rfl, nx.hr, hen, hk', rfl⟩)
 intro Γ F w hh
 refine (callsIn_wide (n := 0)).1 (((callsIn_wide (n := 0)).2 (s1 Γ F w hh)).mono λ e w' ⟨H1, ⟨ev, hp, ρ, W, hX, hH, hen, hkk, hH1⟩, hh'⟩ => ?_)
 subst hH1
 obtain ⟨h1, h2, d, e2, ha, hb⟩ := hh'.heap
 have hle : Hp.le W.x h2 := by
  obtain ⟨x, y, d2, rfl, hx, _⟩ := zkt h2 hb
  intro b o e
  simp [Hp.un, hx b o e]
 have hpc : ∀ id b o, id < hp.n -> W id = some (b, o) -> h2 b = some o := λ id b o hid hW => by
  obtain ⟨x, y, d2, rfl, hx, _⟩ := zqf hid hW h2 hb
  have hx : x = _ := hx
  rw [hx]
  simp [Hp.un]
 refine ⟨[extSP h2], ⟨h2, λ b o e => hle b o (hX b o e), hk ev hp e ρ W h2 hH hen hkk (by rw [<- hH.ext]; exact hle) hpc, λ x hx => hx⟩, hh'.os, hh'.tape, hh'.output, h1, h2, d, e2, ha, ?_⟩
 exact ⟨h2, Hp.nil, Hp.disj_nil _, (Hp.un_nil _).symm, λ b o e => e, trivial⟩
theorem call_ofX {P : Program} {G : GQ} {f : Nat} {args : List V} {hp : Mem} {k : KE} (h : zqK P f /\ ∀ ρ us, RL ρ args us -> ∃ Post : Hp -> Ending -> Prop, Z.Fn P f us [extSP ρ.x] (λ e H' => ∃ X2, Hp.le ρ.x X2 /\ Post X2 e /\ ∀ x, sep H' x -> sep [extSP X2] x) /\ ∀ X2 en, Hp.le ρ.x X2 -> Post X2 en -> ∃ e, EndRel ⟨ρ.f, X2⟩ e en /\ k e hp) : TaskOk P G (.call f args hp k) := by
 refine ⟨h.1, λ ρ W us Post hG hH hus hk => ?_⟩
 obtain ⟨Post0, spec, hp0⟩ := h.2 ρ us hus
 rw [<- hH.ext] at spec
 refine Fn_down (Fn.weak (zks (R := splR hp.n W) spec) λ x hx => (zxg x).1 hx) λ e H' hh => ?_
 obtain ⟨H1, ⟨X2, hle, hpo, hb⟩, rfl⟩ := hh
 have hle' : Hp.le ρ.x X2 := by rw [<- hH.ext]; exact hle
 obtain ⟨ev, hev, hkk⟩ := hp0 X2 e hle' hpo
 refine ⟨spl hp.n ⟨W.f, X2⟩, hk ev hp ⟨ρ.f, X2⟩ ⟨W.f, X2⟩ e ⟨⟨λ _ _ e => e, hle'⟩, hH.grow hle', rfl, λ _ _ => .refl⟩ hev hkk, λ x hx => (zxg x).2 ?_⟩
 rw [zqD] at hx ⊢
 refine zqd (λ _ y => hb _ y) (λ _ y => ?_) hx
 rw [splR_x (Y := W.x)]; exact y
theorem sum_gen {P : Program} {G0 G : GQ} {f : Nat} {args args0 : List V} {hp : Mem} {k0 k : KE} (h : TaskOk P G0 (.call f args0 nomem k0)) (hg : G0.g.t = .nil) (hle : vles args args0) (ha : vins 0 args0 = true)
  (hk : ∀ e hp1, k0 e hp1 -> ∃ R, (∀ ρ W X2 en, HR ρ hp1 W -> EndRel ρ e en -> Hp.le ρ.x X2 -> (∀ id b o, id < hp1.n -> W id = some (b, o) -> X2 b = some o) -> EndRel (norhoX X2) (.ret R) en) /\ k (.ret R) hp) : TaskOk P G (.call f args hp k) := by
 have no : ∀ {ρ : Rho}, (cutR ρ 0).le (norhoX ρ.x) := ⟨λ id x e => (by rw [zjN (Nat.zero_le _)] at e; cases e), λ _ _ e => e⟩
 refine call_ofX ⟨h.1, λ ρ us hus => ⟨λ X2 en => ∃ R, EndRel (norhoX X2) (.ret R) en /\ k (.ret R) hp, (fn_ofX h hg ((zjd ha (zxS hle hus)).mono no) λ e hp1 en ρ1 W1 X2 hH hen hk' h1 h2 => ?_).2, λ X2 en hX hpo => ?_⟩⟩
 ·obtain ⟨R, h3, h4⟩ := hk e hp1 hk'
  exact ⟨R, h3 ρ1 W1 X2 en hH hen h1 h2, h4⟩
 ·obtain ⟨R, h3, h4⟩ := hpo
  exact ⟨.ret R, h3.mono (zja λ _ _ e => e), h4⟩
end
end Go.Q
