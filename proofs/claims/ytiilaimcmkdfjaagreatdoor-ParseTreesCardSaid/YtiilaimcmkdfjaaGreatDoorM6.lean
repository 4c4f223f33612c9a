/- One operation of the machine. -/
import Derived.Test.YtiilaimcmkdfjaaGreatDoorM5
import Derived.ProofKit
import Derived.OpenShut
import Derived.Carry
set_option linter.unusedVariables false
set_option linter.unusedSimpArgs false
set_option linter.unusedSectionVars false
set_option linter.constructorNameAsVariable false
namespace Go.Y
open Go.Z
noncomputable section
section
variable {P : Program} {ro : Option Nat} {n : Nat} {ops : Array Oper} {r : List Oper} {ds : List Deferred} {L : Lo} {H H' : List SP} {K : Kont} {ρ : Rho} {W : RW} {G : GV} {env : Tr V} {hp hp' : Mem}
 {d : Nat} {dd : Option Nat} {T T' X Y t xt e sz by_ : TypeId} {p : String} {es : Array Edge} {g : Option (Nat × Bool)} {op : Op} {v : V} {u : Value} {x y z : Operand} {A : Option Addr} {m c : Nat} {cells : List Value} {C : SP}
def StepOk (P : Program) (n : Nat) (ops : Array Oper) (o : Oper) (ρ : Rho) (hp : Mem) (W : RW) (L : Lo) : Step -> Prop
 | .val v _ => ∀ ds, ∃ u, R ρ v u /\ QStep P n ops o ds L (spl hp.n W) u
 | .outs outs => ∀ ro r ds K, Cont P ro n ops r ds L K ρ hp W o.dst outs -> Ops P ro n ops (o :: r) ds L (spl hp.n W) K
 | .call f args => ∃ us, RL ρ args us /\ ∀ ro r ds K Post, zqK P f -> Z.Fn P f us (spl hp.n W) Post -> (∀ e Hc', Post e Hc' -> After P ro n ops r o.dst ds L [] K e Hc') -> Ops P ro n ops (o :: r) ds L (spl hp.n W) K
 | .round l args => (∀ c, o.op ≠ .defer c) /\ ∃ b c us, ρ l = some (b, c) /\ RL ρ args us /\ ∀ ds a w, Env a n ds L -> (execOp a.eval o).run P w = (Instr.yield b us.toArray).run P w
 | .defer f args => ∃ dr, DRel P ρ (.call f args) dr /\ ∀ r ds K, Ops P none n ops r (dr :: ds) (putL o.dst undef L) (spl hp.n W) K -> Ops P none n ops (o :: r) ds L (spl hp.n W) K
 | .pan v => ∃ u, R ρ v u /\ ∀ ro r ds K, K (.panic [{ v := u, recovered := false }]) ds L (spl hp.n W) -> Ops P ro n ops (o :: r) ds L (spl hp.n W) K
 | .bad => True
theorem zqV {o : Oper} {dd : Option Nat} {s : Step} (h : ∀ d, dd = some d -> StepOk P n ops o ρ hp W L s) : StepOk P n ops o ρ hp W L (needD dd s) := by
 cases dd with
 | none => trivial
 | some d => exact h d rfl
theorem needN_ok {o : Oper} {dd : Option Nat} {s : Step} (h : dd = none -> StepOk P n ops o ρ hp W L s) : StepOk P n ops o ρ hp W L (needN dd s) := by
 cases dd with
 | some d => trivial
 | none => exact h rfl
theorem ofL_ok {o : Oper} {q : Option (List (V × Mem))} (h : ∀ outs, q = some outs -> ∀ ro r ds K, Cont P ro n ops r ds L K ρ hp W o.dst outs -> Ops P ro n ops (o :: r) ds L (spl hp.n W) K) : StepOk P n ops o ρ hp W L (ofL q) := by
 cases q with
 | none => trivial
 | some outs => exact h outs rfl
theorem ofQ_ok {o : Oper} {q : Option (V × List Lk)} (h : ∀ v rd, q = some (v, rd) -> ∀ ds, ∃ u, R ρ v u /\ QStep P n ops o ds L (spl hp.n W) u) : StepOk P n ops o ρ hp W L (ofQ q) := by
 cases q with
 | none => trivial
 | some q => obtain ⟨v, rd⟩ := q; exact h v rd rfl
theorem two_ok {o : Oper} {f : TypeId -> Operand -> Operand -> Option (List (V × Mem))} {xs : List Operand} {ts : List TypeId}
  (h : ∀ x y t ts', xs = [x, y] -> ts = t :: ts' -> StepOk P n ops o ρ hp W L (ofL (f t x y))) : StepOk P n ops o ρ hp W L (two f xs ts) := by
 unfold two
 split
 ·exact h _ _ _ _ rfl rfl
 ·trivial
theorem extQ_ok {f : Nat} {fn : Func} {args : List V} {us : List Value} (hf : P.funcs[f]? = some fn) (hb : fn.body = none) (ho : fn.origin = "") (h : extQ fn.name args = some v) (hargs : RL ρ args us) :
  ∃ u, R ρ v u /\ ∀ w, (callFunc f us.toArray).run P w = .ok (.value u) w := by
 unfold extQ at h
 split at h
 ·rename_i hn
  split at h
  ·cases h
   obtain ⟨u, us', h1, h2, rfl⟩ := hargs
   rw [show us' = [] from h2]
   exact ⟨u, h1, λ w => zjr (E := Extern.AbiNoEscape.same) hf hb (by unfold extFn; rw [hn]) ho rfl⟩
  ·cases h
 ·rename_i hn0
  split at h
  ·rename_i hn
   have hE : extFn fn.name = some Extern.BytealgIndexByte.indexByte := by unfold extFn; rw [hn0, hn]
   split at h
   ·cases h
    obtain ⟨u, us', h1, ⟨u2, us2, h2, h3, rfl⟩, rfl⟩ := hargs
    rw [show us2 = [] from h3]
    cases h1; cases h2
    refine ⟨_, rfl, λ w => zjr hf hb hE ho ?_⟩
    rw [run_indexByte_string, firstIdx_bs]; rfl
   ·cases h
    obtain ⟨u, us', h1, ⟨u2, us2, h2, h3, rfl⟩, rfl⟩ := hargs
    rw [show us2 = [] from h3]
    cases h1; cases h2
    refine ⟨_, rfl, λ w => zjr hf hb hE ho ?_⟩
    rw [run_indexByte_string, firstIdx_bs]; rfl
   ·cases h
  ·cases h
theorem extV_ok (hG : GOk ρ G) (hE : RE ρ env L) (hH : HR ρ hp W) {fo : Operand} {xs : Array Operand} {ts : Array TypeId} {f : Nat} {fn : Func} {a b args : List V} (hf : P.funcs[f]? = some fn) (hb : fn.body = none)
  (hw : wants ops L ⟨dd, .call { callee := .value fo, args := xs, argTypes := ts }, T, p, es, g⟩ = some true) (ht : dstOk dd n = true)
  {first cap vs : List Value} (hfo : evalL L fo = some (.func (.func f) first.toArray cap.toArray)) (hxs : evalAll L xs.toList = some vs) (hargs : RL ρ args (first ++ vs ++ cap)) :
  StepOk P n ops ⟨dd, .call { callee := .value fo, args := xs, argTypes := ts }, T, p, es, g⟩ ρ hp W L (extV P fn.name fn.origin fn.resultTypes.toList args hp) := by
 unfold extV
 split
 ·rename_i hn
  simp only [Bool.and_eq_true, beq_iff_eq] at hn
  split
  ·rename_i t id
   split
   ·rename_i l clk hc
    refine ofL_ok λ outs h ro r ds K k => ?_
    refine Ops.of_run hw (by simp) ht (λ Γ F ac w he hh => ?_) k
    obtain ⟨hp', h1, rfl⟩ := one_ok h
    obtain ⟨hs, rfl⟩ := zqw h1
    obtain ⟨u1, us1, ⟨u2, ⟨b0, c0, hr0, rfl⟩, rfl⟩, hnil, heq⟩ := hargs
    rw [show us1 = [] from hnil] at heq
    obtain ⟨b', c', es', hW, hr', hes⟩ := hH.map hc
    rw [hr0] at hr'; cases hr'
    have hbb := hh.block (zqf (hH.lt hc) hW)
    obtain ⟨W', h2, h3, h4⟩ := zxo (ch := .map l clk) (o := .map es'.toArray clk) hH hs hh ⟨⟨_, zqe⟩, es', rfl, hes.mono (zqm hH _)⟩
    refine ⟨_, List.mem_singleton.2 rfl, _, W', .iface t (.map (some w.heap.size)), _, ?_, h2, zqm hH _, h3, ⟨_, ⟨_, _, zqe, rfl⟩, rfl⟩, rfl, h4⟩
    have hm := zqr he hxs
    have e1 : first.toArray ++ vs.toArray ++ cap.toArray = #[Value.iface t (.map (some b0))] := by
     apply Array.ext'; simpa using heq
    have hcl := clone_run hf hb hn.1 hn.2 (t := t) hbb
    simp only [execOp, resolve, he.eval hfo, hm, Deferred.ofValue, Sem.run_bind, Sem.run_pure, Result.andThen_ok, Go.invoke, e1, hcl]
   ·trivial
  ·trivial
 ·split
  ·rename_i ho hn
   rw [beq_iff_eq] at ho hn
   split
   ·rename_i t m hrt
    split
    ·rename_i e hT hm0
     refine ofL_ok λ outs h ro r ds K k => ?_
     refine Ops.of_run hw (by simp) ht (λ Γ F ac w he hh => ?_) k
     obtain ⟨hp', h1, rfl⟩ := one_ok h
     obtain ⟨hs, rfl⟩ := zqw h1
     obtain ⟨u1, us1, h2, hnil, heq⟩ := hargs
     cases h2
     rw [show us1 = [] from hnil] at heq
     have hrt' : fn.resultTypes = #[t] := by apply Array.ext'; simpa using hrt
     obtain ⟨cs, hrun, hle⟩ := mnz_callFunc (w := w) hf hb hn ho hrt' hT (blt_tt hm0)
     have hmm := zqr he hxs
     have e1 : first.toArray ++ vs.toArray ++ cap.toArray = #[Value.int .i64 m] := by
      apply Array.ext'; simpa using heq
     have hh2 : Hold Γ (spl hp.n W) F w.drew.drew := ⟨hh.os, hh.tape, hh.output, hh.heap⟩
     refine ⟨_, List.mem_singleton.2 rfl, upd ρ hp.n (some (w.heap.size, cs.size)), upd W hp.n (some (w.heap.size, .cells cs e)), _, w.drew.drew.alloc (.cells cs e), ?_, (hh2.newb (.cells cs e)).weaken λ x hx => zjf (b := w.heap.size) (o := .cells cs e) x hx, zqm hH _, hH.new hs ?_, ⟨w.heap.size, cs.size, zqe, rfl, by simpa using hle⟩, rfl, Stay.new hH⟩
     ·simp only [execOp, resolve, he.eval hfo, hmm, Deferred.ofValue, Sem.run_bind, Sem.run_pure, Result.andThen_ok, Go.invoke, e1, hrun]
      simp
     ·exact ⟨cs.size, [], cs.toList, (0, 0), zqe, .nil, by simp, by simp, .zero⟩
    ·trivial
   ·trivial
  ·split
   ·rename_i ho _ _ v hq
    rw [beq_iff_eq] at ho
    obtain ⟨u, hu, hrun⟩ := extQ_ok hf hb ho hq hargs
    refine λ ds => ⟨u, hu, ht, .inr ⟨hw, by simp, λ Γ F a w he hh => ⟨w, ?_, hh⟩⟩⟩
    have hm := zqr he hxs
    have e1 : first.toArray ++ vs.toArray ++ cap.toArray = (first ++ vs ++ cap).toArray := by
     apply Array.ext'; simp
    simp only [execOp, resolve, he.eval hfo, hm, Deferred.ofValue, Sem.run_bind, Sem.run_pure, Result.andThen_ok, Go.invoke, e1, hrun]
   ·trivial
  ·trivial
theorem callF_ok (hG : GOk ρ G) (hE : RE ρ env L) (hH : HR ρ hp W) {fo : Operand} {xs : Array Operand} {ts : Array TypeId} {f : Nat} {args : List V}
  (hw : wants ops L ⟨dd, .call { callee := .value fo, args := xs, argTypes := ts }, T, p, es, g⟩ = some true) (ht : dstOk dd n = true)
  {first cap vs : List Value} (hfo : evalL L fo = some (.func (.func f) first.toArray cap.toArray)) (hxs : evalAll L xs.toList = some vs) (hargs : RL ρ args (first ++ vs ++ cap)) :
  StepOk P n ops ⟨dd, .call { callee := .value fo, args := xs, argTypes := ts }, T, p, es, g⟩ ρ hp W L (callF P f args hp) := by
 unfold callF
 split
 ·rename_i fn hf
  split
  ·refine ⟨_, hargs, λ ro r ds K Post hc spec k => ?_⟩
   exact Ops.callv hc hfo hw ht hxs (by simpa using spec) .all k
  ·rename_i hb
   exact extV_ok (a := []) (b := []) hG hE hH hf hb hw ht hfo hxs hargs
 ·trivial
theorem stepC_ok (hG : GOk ρ G) (hE : RE ρ env L) (hH : HR ρ hp W) {cl : Call} (hw : wants ops L ⟨dd, .call cl, T, p, es, g⟩ = some true) (ht : dstOk dd n = true) :
  StepOk P n ops ⟨dd, .call cl, T, p, es, g⟩ ρ hp W L (stepC P G env hp dd cl) := by
 obtain ⟨callee, xs, ts⟩ := cl
 unfold stepC
 cases callee with
 | builtin b =>
  have hq : ∀ s, s = needD dd (ofQ (quiet P G env hp (.call { callee := .builtin b, args := xs, argTypes := ts }))) -> StepOk P n ops ⟨dd, .call { callee := .builtin b, args := xs, argTypes := ts }, T, p, es, g⟩ ρ hp W L s := by
   rintro s rfl
   refine zqV λ d hd => ofQ_ok λ v rd h ds => ?_
   subst hd
   exact zxN hG hE hH hw ht (rd := rd) (by unfold quietA; exact h)
  cases b <;> first | exact hq _ rfl | skip
  ·-- append
   refine zqV λ d hd => ?_
   subst hd
   show StepOk _ _ _ _ _ _ _ _ (appendV P G env hp xs.toList ts.toList)
   unfold appendV
   split
   ·rename_i x y t xt hxs hts
    have e1 : xs = #[x, y] := by apply Array.ext'; simpa using hxs
    have e2 : ts = #[t, xt] := by apply Array.ext'; simpa using hts
    subst e1; subst e2
    split
    ·rename_i l h
     exact λ ro r ds K k => lAppend_ok hG hE hH hw ht h k
    ·exact ofL_ok λ outs h ro r ds K k => lAppendH_ok hG hE hH hw ht h k
   ·trivial
  ·-- copy
   dsimp only
   refine two_ok λ x y t ts' hxs hts => ofL_ok λ outs h ro r ds K k => ?_
   exact lCopy_ok hxs (by have := congrArg (·[0]?) hts; simpa using this) hG hE hH hw ht h k
  ·dsimp only
   refine two_ok λ x y t ts' hxs hts => ofL_ok λ outs h ro r ds K k => ?_
   exact lDelete_ok hxs (by have := congrArg (·[0]?) hts; simpa using this) hG hE hH hw ht h k
  ·refine zqV λ d hd => ofL_ok λ outs h ro r ds K k => ?_
   subst hd
   exact lUStr_ok hG hE hH hw ht h k
 | value f =>
  dsimp only
  unfold callV
  split
  ·rename_i f' a b vs hfo hxs
   obtain ⟨u, h1, a', b', ha, hb, rfl⟩ := evO_ok hG hE hfo
   obtain ⟨us, h2, h3⟩ := zqS hG hE hxs
   exact callF_ok hG hE hH hw ht h1 h2 ((ha.append h3).append hb)
  ·rename_i id vs hfo hxs
   obtain ⟨u, h1, b, c, hr, rfl⟩ := evO_ok hG hE hfo
   obtain ⟨us, h2, h3⟩ := zqS hG hE hxs
   refine ⟨by simp, b, c, us, hr, h3, λ ds a w he => ?_⟩
   have hm := zqr he h2
   simp only [execOp, resolve, he.eval h1, hm, Deferred.ofValue, Sem.run_bind, Sem.run_pure, Result.andThen_ok, Go.invoke]
   simp
  ·trivial
 | invoke x name =>
  dsimp only
  unfold invokeV
  split
  ·rename_i t v vs hx hxs
   split
   ·rename_i f hm
    obtain ⟨u, h1, u', hu, rfl⟩ := evO_ok hG hE hx
    obtain ⟨us, h2, h3⟩ := zqS hG hE hxs
    refine ⟨u' :: us, .cons hu h3, λ ro r ds K Post hc spec k => ?_⟩
    exact Ops.invoke hc hm hw ht h1 h2 spec .all k
   ·trivial
  ·trivial
theorem stepD_ok (hG : GOk ρ G) (hE : RE ρ env L) (hH : HR ρ hp W) {cl : Call} (hw : wants ops L ⟨dd, .defer cl, T, p, es, g⟩ = some true) (ht : dstOk dd n = true) :
  StepOk P n ops ⟨dd, .defer cl, T, p, es, g⟩ ρ hp W L (stepD G env cl) := by
 obtain ⟨callee, xs, ts⟩ := cl
 unfold stepD
 cases callee with
 | builtin b => trivial
 | invoke x name => trivial
 | value f =>
  dsimp only
  unfold deferV
  split
  ·rename_i f' a b vs hfo hxs
   obtain ⟨u, h1, a', b', ha, hb, rfl⟩ := evO_ok hG hE hfo
   obtain ⟨us, h2, h3⟩ := zqS hG hE hxs
   refine ⟨{ target := .fn (.func f') b'.toArray, args := a'.toArray ++ us.toArray }, ⟨_, _, a' ++ us ++ b', rfl, (ha.append h3).append hb, λ hc w => ?_⟩, λ r ds K k => ?_⟩
   ·have := zxI hc (a'.toArray ++ us.toArray ++ b'.toArray) w
    simp only [Go.invoke]
    rw [this]
    simp
   ·refine Ops.deferred (cl := { callee := .value f, args := xs, argTypes := ts }) rfl hw ht (λ Γ F a w he hh => ?_) k
    have hm := zqr he h2
    simp only [resolve, he.eval h1, hm, Deferred.ofValue, Sem.run_pure]
  ·trivial
theorem step_ok (hG : GOk ρ G) (hE : RE ρ env L) (hH : HR ρ hp W) {o : Oper} (hw : wants ops L o = some true) (ht : dstOk o.dst n = true) : StepOk P n ops o ρ hp W L (stepV P G env hp o.dst o.op) := by
 obtain ⟨dd, op, T, p, es, g⟩ := o
 have hq : ∀ s, s = needD dd (ofQ (quietA P G env hp op)) -> StepOk P n ops ⟨dd, op, T, p, es, g⟩ ρ hp W L s := by
  rintro s rfl
  refine zqV λ d hd => ofQ_ok λ v rd h ds => ?_
  subst hd
  exact zxN hG hE hH hw ht h
 cases op <;> first | exact hq _ rfl | skip
 case alloc t => exact zqV λ d hd => ofL_ok λ outs h ro r ds K k => by subst hd; exact lAlloc_ok hH hw ht h k
 case box t x => exact zqV λ d hd => ofL_ok λ outs h ro r ds K k => by subst hd; exact lBox_ok hG hE hH hw ht h k
 case buildSlice t len parts =>
  cases len with
  | zero => exact zqV λ d hd => ofL_ok λ outs h ro r ds K k => by subst hd; exact lBuildEmpty_ok hH hw ht h k
  | succ len => exact zqV λ d hd => ofL_ok λ outs h ro r ds K k => by subst hd; exact lBuildSlice_ok hG hE hH hw ht h k
 case store t x y => exact needN_ok λ hd => ofL_ok λ outs h ro r ds K k => by subst hd; exact lStore_ok hG hE hH hw h k
 case makeSlice t x y => exact zqV λ d hd => ofL_ok λ outs h ro r ds K k => by subst hd; exact lMakeSlice_ok hG hE hH hw ht h k
 case makeMap t res => exact zqV λ d hd => ofL_ok λ outs h ro r ds K k => by subst hd; exact lMakeMap_ok hH hw ht h k
 case mapUpdate t x y z => exact needN_ok λ hd => ofL_ok λ outs h ro r ds K k => by subst hd; exact zkb hG hE hH (.inl rfl) hw h k
 case insert t x y z => exact needN_ok λ hd => ofL_ok λ outs h ro r ds K k => by subst hd; exact zkb hG hE hH (.inr rfl) hw h k
 case range t x => exact zqV λ d hd => ofL_ok λ outs h ro r ds K k => by subst hd; exact lRange_ok hG hE hH hw ht h k
 case next x s => exact zqV λ d hd => ofL_ok λ outs h ro r ds K k => by subst hd; exact lNext_ok hG hE hH hw ht h k
 case convert s t x =>
  refine zqV λ d hd => ?_
  subst hd
  unfold convV
  split
  ·rename_i v rd h
   intro ds
   exact zxN hG hE hH hw ht (rd := rd) (by unfold quietA; exact h)
  ·split
   ·rename_i l h
    exact λ ro r ds K k => lConv_ok hG hE hH hw ht h k
   ·refine ofL_ok λ outs h ro r ds K k => ?_
    exact lSame_ok hH hw ht (λ v hv => evO_ok hG hE hv) h k
 case panic x =>
  show StepOk _ _ _ _ _ _ _ _ (panicV (evO G env x))
  unfold panicV
  split
  ·rename_i t v hx
   obtain ⟨u, h1, u', hu, rfl⟩ := evO_ok hG hE hx
   exact ⟨.iface t u', ⟨u', hu, rfl⟩, λ ro r ds K k => Ops.panic h1 hw k⟩
  ·trivial
 case call cl => exact stepC_ok hG hE hH hw ht
 case defer cl => exact stepD_ok hG hE hH hw ht
end
end
end Go.Y
namespace Go.Y
open Go.Z
noncomputable section
def MRel0 (ρ : Rho) : Option V -> FrameMode -> Prop
 | none, u => u = .returning
 | some v, u => ∃ y, R ρ v y /\ u = .panicking [{ v := y, recovered := false }]
def MRel (ρ : Rho) : Option V -> FrameMode -> Prop
 | none, u => u = .returning \/ ∃ y, u = .panicking [{ v := y, recovered := true }]
 | some v, u => ∃ y, R ρ v y /\ u = .panicking [{ v := y, recovered := false }]
abbrev KontS := Out -> FrameMode -> Lo -> List SP -> Prop
def KontS.le (KS : KontS) (n : Nat) (Γ : World) (F : SP) (c0 : Frame) (cs : List Frame) (Q : Exit -> Act -> List Frame -> World -> Prop) : Prop :=
 ∀ e u L H a w, KS e u L H -> Env a n [] L -> Hold Γ H F w -> Q e.exitOf a ({ c0 with mode := u } :: cs) w
def GoS (P : Program) (n : Nat) (c : Code) (u : FrameMode) (L : Lo) (H : List SP) (KS : KontS) : Prop :=
 ∀ Γ F a c0 cs w Q, Env a n [] L -> c0.mode = u -> Hold Γ H F w -> KS.le n Γ F c0 cs Q -> c.wpSIn Fence.wide 0 P Q a (c0 :: cs) w
def OpsS (P : Program) (n : Nat) (arr : Array Oper) (l : List Oper) (u : FrameMode) (L : Lo) (H : List SP) (KS : KontS) : Prop :=
 ∀ Γ F a c0 cs w Q (is : List Nat), Env a n [] L -> c0.mode = u -> Hold Γ H F w -> KS.le n Γ F c0 cs Q -> is.map (arr[·]?) = l.map some -> wpOpsSIn Fence.wide 0 P arr Q is a (c0 :: cs) w
def KSRel (k : KR) (ρ0 : Rho) (hp0 : Mem) (W0 : RW) (KS : KontS) : Prop :=
 ∀ o rc env hp ρ W u L out, Nx ρ0 hp0 W0 ρ hp W -> RE ρ env L -> MRel ρ rc u -> OutRel ρ o out -> k o rc env hp = true -> KS out u L (spl hp.n W)
theorem KSRel.at {k : KR} {ρ0 ρ1 : Rho} {hp0 hp1 : Mem} {W0 W1 : RW} {KS : KontS} (h : KSRel k ρ0 hp0 W0 KS) (nx : Nx ρ0 hp0 W0 ρ1 hp1 W1) : KSRel k ρ1 hp1 W1 KS :=
 λ o rc env hp ρ W u L out n1 hE hm ho hk => h o rc env hp ρ W u L out (nx.trans n1) hE hm ho hk
def gdOf (ρ : Rho) (d : ND) : Gd := λ v Hn => (d = .off /\ v = undef /\ Hn = []) \/ ∃ b c us ty, NDRel ρ d b c us ty v /\ Hn = [pt b (.cells us.toArray ty)]
def GnRel (ρ : Rho) : List (Nat × ND) -> List (Nat × Gd) -> Prop
 | [], Gn => Gn = []
 | x :: nd, Gn => ∃ ρ0 Gn', Rho.le ρ0 ρ /\ Gn = (x.1, gdOf ρ0 x.2) :: Gn' /\ GnRel ρ nd Gn'
def KeptIn (lk : List (Nat × Lk)) (W : RW) (Hc : List (Nat × Z.Told)) : Prop := ∀ x ∈ Hc, x.2 tru \/ (∀ X, Hp.le W.x X -> x.2 (extSP X)) \/ ∃ l, (x.1, l) ∈ lk /\ (∃ b o, W l.1 = some (b, o)) /\ ∀ b o, Same l (W l.1) (some (b, o)) -> x.2 (pt b o)
def TaskOk (P : Program) (G : GV) : Task -> Prop
 | .code fi c dv env hp k => ∀ ρ W ds L K ro, GOk ρ G -> HR ρ hp W -> RE ρ env L -> FIok ρ fi ro -> KRel P k ρ hp W dv ds K -> Z.Go P ro fi.nt c ds L (spl hp.n W) K
 | .ops fi arr l dv env hp k => ∀ ρ W ds L K ro, GOk ρ G -> HR ρ hp W -> RE ρ env L -> FIok ρ fi ro -> KRel P k ρ hp W dv ds K -> Ops P ro fi.nt arr l ds L (spl hp.n W) K
 | .draw fi arr pi ro0 dv env hp k => ∀ ρ W ds L K ro Gn Hc, GOk ρ G -> HR ρ hp W -> RE ρ env L -> FIok ρ fi ro -> hp.ro = lks ro0.lk ro0.ro -> GnRel ρ ro0.nd Gn -> KeptIn ro0.lk W Hc -> KRel P k ρ (hp.setRo ro0.ro) W dv ds K -> RDc P ro fi.nt arr ds Gn Hc [] K pi L (spl hp.n W)
 | .call f args hp k => zqK P f /\ ∀ ρ W us Post, GOk ρ G -> HR ρ hp W -> RL ρ args us -> KERel k ρ hp W Post -> Z.Fn P f us (spl hp.n W) Post
 | .leave fn dv mode env hp k => ∀ ρ W ds u Post, GOk ρ G -> HR ρ hp W -> DsRel P ρ dv ds -> MRel0 ρ mode u -> KERel k ρ hp W Post -> ∀ Γ F tmps w, RT ρ env tmps -> Hold Γ (spl hp.n W) F w ->
   LeavesInM Fence.wide 0 P fn tmps (λ e w' => ∃ H', Post e H' /\ Hold Γ H' F w') ds u w
 | .dcode nt c env hp rc k => small nt = true -> ∀ ρ W L u KS, GOk ρ G -> HR ρ hp W -> RE ρ env L -> MRel ρ rc u -> KSRel k ρ hp W KS -> GoS P nt c u L (spl hp.n W) KS
 | .dops nt arr l env hp rc k => small nt = true -> ∀ ρ W L u KS, GOk ρ G -> HR ρ hp W -> RE ρ env L -> MRel ρ rc u -> KSRel k ρ hp W KS -> OpsS P nt arr l u L (spl hp.n W) KS
theorem allO_mem {k : V -> Mem -> Bool} : ∀ {l : List (V × Mem)}, allO k l = true -> ∀ q ∈ l, k q.1 q.2 = true
 | [], _, q, h => by cases h
 | (v, h) :: l, hk, q, hq => by
  simp only [allO] at hk
  split at hk
  ·rename_i h1
   cases hq with
   | head => exact h1
   | tail _ hq => exact allO_mem hk q hq
  ·cases hk
theorem lk_argL' : ∀ (vs : List Value) (i t : Nat) (v : Value), vs[t]? = some v -> lk (argL i vs) (i + t) = some v
 | [], _, _, _, e => by cases e
 | u :: vs, i, 0, v, e => by
  simp only [List.getElem?_cons_zero, Option.some.injEq] at e; subst e
  simp [argL, lk]
 | u :: vs, i, t + 1, v, e => by
  simp only [List.getElem?_cons_succ] at e
  have : Nat.beq i (i + (t + 1)) = false := by
   cases h : Nat.beq i (i + (t + 1)) with
   | false => rfl
   | true => have := beq_tt h; omega
  simp only [argL, lk, this]
  have := lk_argL' vs (i + 1) t v e
  rw [show i + 1 + t = i + (t + 1) by omega] at this
  exact this
theorem RT.re {ρ : Rho} {env : Tr V} {ts : Array Value} (h : RT ρ env ts) : RE ρ env (argL 0 ts.toList) := λ t v e => by
 obtain ⟨u, h1, h2⟩ := h t v e
 refine ⟨u, ?_, h2⟩
 have := lk_argL' ts.toList 0 t u (by simpa using h1)
 simpa using this
theorem RT.env {ts : Array Value} {n : Nat} (h : ts.size = n) : Env { tmps := ts, defers := [] } n [] (argL 0 ts.toList) := by
 refine ⟨h, rfl, λ t v e => ?_⟩
 obtain ⟨j, rfl, hj⟩ := lk_argL ts.toList 0 t v e
 simpa using hj
theorem RE.rt {ρ : Rho} {env : Tr V} {L : Lo} {a : Act} {n : Nat} {ds : List Deferred} (h : RE ρ env L) (he : Env a n ds L) : RT ρ env a.tmps := λ t v e => by
 obtain ⟨u, h1, h2⟩ := h t v e
 exact ⟨u, he.get t u h1, h2⟩
theorem zku {ρ : Rho} {nt : Nat} (hs : small nt = true) : ∀ {ps : List Nat} {args : List V} {us : List Value} {env env' : Tr V} {ts : Array Value}, zjh nt ps args env = some env' -> RL ρ args us -> RT ρ env ts -> ts.size = nt ->
  RT ρ env' ((ps.zip us).foldl (λ tmps q => tmps.setIfInBounds q.1 q.2) ts) /\ ((ps.zip us).foldl (λ tmps q => tmps.setIfInBounds q.1 q.2) ts).size = nt /\ us.length = ps.length
 | [], [], us, env, env', ts, h, hl, hT, hn => by
  simp only [zjh, Option.some.injEq] at h
  subst h
  rw [show us = [] from hl]
  exact ⟨hT, hn, rfl⟩
 | [], _ :: _, us, env, env', ts, h, hl, hT, hn => by simp [zjh] at h
 | _ :: _, [], us, env, env', ts, h, hl, hT, hn => by simp [zjh] at h
 | p :: ps, v :: args, us, env, env', ts, h, hl, hT, hn => by
  simp only [zjh] at h
  split at h
  ·rename_i hp
   have hp := blt_tt hp
   obtain ⟨u, us', hu, hus, rfl⟩ := hl
   have hT2 : RT ρ (Tr.set 20 env p (some v)) (ts.setIfInBounds p u) := by
    intro t w e
    have hsm : p + 1 < 2 ^ 20 := by
     have := blt_tt hs
     omega
    rw [Tr.get_set _ _ _ _ _ hsm] at e
    by_cases ht : t = p
    ·subst ht
     simp only [if_true, Option.some.injEq] at e
     subst e
     exact ⟨u, by simp [hn, hp], hu⟩
    ·rw [if_neg ht] at e
     obtain ⟨u', h1, h2⟩ := hT _ _ e
     refine ⟨u', ?_, h2⟩
     rw [Array.getElem?_setIfInBounds_ne (λ h => ht h.symm)]
     exact h1
   obtain ⟨h1, h2, h3⟩ := zku hs h hus hT2 (by simpa using hn)
   exact ⟨h1, h2, by simp [h3]⟩
  ·cases h
section
variable {P : Program} {G : GV} {ih : Task -> Bool} {fi : FI} {arr : Array Oper} {r : List Oper} {dd : Option Nat} {dv : List DV} {env : Tr V} {hp : Mem} {k : KK}
 {ρ : Rho} {W : RW} {ds : List Deferred} {L : Lo} {K : Kont} {ro : Option Nat}
theorem rest_ok (IH : ∀ t, ih t = true -> TaskOk P G t) (hd : dstC dd fi.nt = true) (hG : GOk ρ G) (hE : RE ρ env L) (hF : FIok ρ fi ro) (hk : KRel P k ρ hp W dv ds K)
  {v : V} {hp' : Mem} (h : ih (.ops fi arr r dv (putE dd v env) hp' k) = true) {ρ' : Rho} {W' : RW} {u : Value} (nx : Nx ρ hp W ρ' hp' W') (hv : R ρ' v u) : Ops P ro fi.nt arr r ds (putL dd u L) (spl hp'.n W') K :=
 IH _ h ρ' W' ds _ K ro (hG.mono nx.le) nx.hr ((hE.mono nx.le).putE hd hF.1 hv) (hF.mono nx.le) (hk.at nx .refl)
theorem retK_rel (IH : ∀ t, ih t = true -> TaskOk P G t) (hd : dstC dd fi.nt = true) (hG : GOk ρ G) (hE : RE ρ env L) (hF : FIok ρ fi ro) (hk : KRel P k ρ hp W dv ds K) :
  KERel (retK ih fi arr r dd dv env k) ρ hp W (After P ro fi.nt arr r dd ds L [] K) := by
 intro e hp' ρ' W' en nx hen hk'
 cases e with
 | ret v =>
  cases en with
  | returned u =>
   show Ops P ro fi.nt arr r ds (putL dd u L) (spl hp'.n W' ++ []) K
   rw [List.append_nil]
   exact rest_ok IH hd hG hE hF hk hk' nx hen
  | panicked ch => exact hen.elim
  | outgrown => exact hen.elim
 | pan v =>
  cases en with
  | returned u => exact hen.elim
  | panicked ch =>
   show K (.panic ch) ds L (spl hp'.n W' ++ [])
   rw [List.append_nil]
   exact hk (.panic v) _ _ _ _ _ _ _ (.panic ch) nx (hE.mono nx.le) .refl hen hk'
  | outgrown => exact hen.elim
theorem HR.loop (hH : HR ρ hp W) {l : Nat} {st : LoopState} {pend : Option Code} {env0 : Tr V} {nt : Nat} {ps : Array Tmp} {assign body : Code} {d : Nat} (e : hp.t.get l = some (.loop st pend env0 nt ps assign body d)) :
  ∃ b c fn ts db dc, W l = some (b, .loop { state := st, pending := pend, fn := fn, tmps := ts, params := ps, assign := assign, body := body, defers := db }) /\ ρ l = some (b, c) /\ ts.size = nt /\ RT ρ env0 ts /\ ρ d = some (db, dc) := by
 obtain ⟨b, o, h1, ⟨c, h2⟩, fn, ts, db, dc, h3, h4, h5, rfl⟩ := hH.rel l _ e
 exact ⟨b, c, fn, ts, db, dc, h1, h2, h3, h4, h5⟩
theorem zxZ {Γ : World} {F : SP} {w : World} {b id : Nat} {o o' : Obj} (hlt : id < hp.n) (hW : W id = some (b, o)) (hh : Hold Γ (spl hp.n W) F w) : Hold Γ (spl hp.n (upd W id (some (b, o')))) F (w.putObj b o') := zke hlt hW hh
theorem setPend_ok (hH : HR ρ hp W) {l : Nat} {st : LoopState} {pend : Option Code} {hp' : Mem} (h : zxK hp l st pend = some hp') :
  ∃ b c r, W l = some (b, .loop r) /\ l < hp.n /\ ρ l = some (b, c) /\ hp'.n = hp.n /\ Nx ρ hp W ρ hp' (upd W l (some (b, .loop { r with state := st, pending := pend }))) := by
 unfold zxK at h
 split at h
 ·rename_i hc
  have hro := zqA h
  obtain ⟨hs, rfl⟩ := zqB h
  obtain ⟨b, c, fn, ts, db, dc, h1, h2, h3, h4, h5⟩ := hH.loop hc
  exact ⟨b, c, _, h1, hH.lt hc, h2, rfl, Rho.le_refl _, hH.put hs ⟨⟨c, h2⟩, fn, ts, db, dc, h3, h4, h5, rfl⟩, rfl, Stay.put hro⟩
 ·cases h
theorem endRd_rel {l b c : Nat} (hl : ρ l = some (b, c)) {ke : KE} {Post : Ending -> List SP -> Prop} (hke : KERel ke ρ hp W Post) {Γ : World} {F : SP} {R' : Ending -> World -> Prop}
  (hR : ∀ u H' w', Post (.returned u) H' -> Hold Γ H' F w' -> R' (.returned u) w') :
  KRel P (endRd l ke) ρ hp W [] [] (λ out ds' L2 H2 => ∀ a2 w2, Hold Γ H2 F w2 -> roundPost P b R' out.exitOf a2 w2) := by
 intro o dv' env' hp' ρ' W' ds' L' out nx hE' dx ho hk a2 w2 hh
 unfold endRd at hk
 have main : ∀ (st : LoopState) (pend : Option Code) (h : Mem), (st = if pend.isNone then .ready else .done) -> zxK hp' l st pend = some h -> ke (.ret (.bool pend.isNone)) h = true ->
   ∃ v w', (Instr.endRound b pend).run P w2 = .ok v w' /\ R' (.returned v) w' := by
  intro st pend h hst hsp hkk
  obtain ⟨b', c', r', h1, hlt, h2, h3, nx2⟩ := setPend_ok nx.hr hsp
  rw [nx.le _ _ hl] at h2; cases h2
  have hb := hh.block (zqf hlt h1)
  have hh2 := zxZ (o' := .loop { r' with state := st, pending := pend }) hlt h1 hh
  refine ⟨_, _, run_endRound pend hb, ?_⟩
  rw [hst] at hh2 nx2
  refine hR _ _ _ (hke (.ret (.bool pend.isNone)) h ρ' _ (.returned (.bool pend.isNone)) (nx.trans nx2) rfl hkk) ?_
  rw [h3]; exact hh2
 split at hk
 ·cases o with
  | normal =>
   cases out <;> first | exact ho.elim | skip
   dsimp only at hk
   split at hk
   ·rename_i h hsp; exact main _ none h rfl hsp hk
   ·cases hk
  | ret =>
   cases out <;> first | exact ho.elim | skip
   dsimp only at hk
   split at hk
   ·rename_i h hsp; exact main _ (some .ret) h rfl hsp hk
   ·cases hk
  | exit i =>
   cases out <;> first | exact ho.elim | skip
   cases ho
   dsimp only at hk
   split at hk
   ·rename_i h hsp; exact main _ (some (.exit i)) h rfl hsp hk
   ·cases hk
  | goto i => cases hk
  | panic v => cases hk
 ·cases hk
theorem goRound_ok (IH : ∀ t, ih t = true -> TaskOk P G t) (hG : GOk ρ G) (hH : HR ρ hp W) {l b c : Nat} (hl : ρ l = some (b, c)) {args : List V} {us : List Value} (hus : RL ρ args us) {ke : KE} {Post : Ending -> List SP -> Prop} (hke : KERel ke ρ hp W Post)
  (h : goRound ih l args hp ke = true) (ro : Option Nat) (Γ : World) (F : SP) (w : World) (hh : Hold Γ (spl hp.n W) F w) (R' : Ending -> World -> Prop) (hR : ∀ u H' w', Post (.returned u) H' -> Hold Γ H' F w' -> R' (.returned u) w') :
  ∃ f tmps assign body, (Instr.yield b us.toArray).run P w = .ok (.round b f tmps assign body) w /\ RoundIn (fw ro) 0 P b f tmps assign body w R' := by
 unfold goRound at h
 split at h
 ·rename_i st pend env0 nt ps assign body d hc
  split at h
  ·rename_i env' hsa hsm
   obtain ⟨b', c', fn, ts, db, dc, hW, hl', hts, hRT, hd⟩ := hH.loop hc
   rw [hl] at hl'; cases hl'
   have hb := hh.block (zqf (hH.lt hc) hW)
   obtain ⟨h1, h2, h3⟩ := zku hsm hsa hus hRT hts
   refine ⟨_, _, _, _, run_yield hb (by simp [h3]), ?_⟩
   have efold : (ps.zip us.toArray).foldl (λ tmps (q : Tmp × Value) => tmps.setIfInBounds q.1 q.2) ts = (ps.toList.zip us).foldl (λ tmps q => tmps.setIfInBounds q.1 q.2) ts := by
    rw [<- Array.foldl_toList]
    simp
   have efold' : (ps.zip us.toArray).foldl (λ tmps (t, a) => tmps.setIfInBounds t a) ts = (ps.toList.zip us).foldl (λ tmps q => tmps.setIfInBounds q.1 q.2) ts := efold
   show RoundIn (fw ro) 0 P b fn ((ps.zip us.toArray).foldl (λ tmps (t, a) => tmps.setIfInBounds t a) ts) assign body w R'
   rw [efold']
   generalize (ps.toList.zip us).foldl (λ tmps q => tmps.setIfInBounds q.1 q.2) ts = tmps at h1 h2
   refine roundIn_of_wpIn trivial ?_
   have hFI : FIok ρ ⟨nt, some l⟩ (some b) := ⟨hsm, c, hl⟩
   have t1 := IH _ h ρ W [] (argL 0 tmps.toList) (λ out ds' L1 H1 => out = .normal /\ ∀ a1 w1, Env a1 nt ds' L1 -> Hold Γ H1 F w1 -> ∃ w2, (Instr.beginRound b).run P w1 = .ok () w2 /\ body.wpIn (fw (some b)) 0 P (roundPost P b R') a1 w2) (some b) hG hH h1.re hFI (by
    intro o dv' env1 hp1 ρ1 W1 ds1 L1 out nx hE1 dx ho hk
    unfold rdK at hk
    split at hk
    ·cases out <;> first | exact ho.elim | skip
     refine ⟨rfl, λ a1 w1 he1 hh1 => ?_⟩
     have hds : ds1 = [] := (dx.same rfl).2
     subst hds
     split at hk
     ·rename_i pend1 env01 nt1 ps1 assign1 bd1 d1 hc1
      split at hk
      ·rename_i hp2 hput
       have hro := zqA hput
       obtain ⟨hs2, rfl⟩ := zqB hput
       obtain ⟨b1, c1, fn1, ts1, db1, dc1, hW1, hl1, hts1, hRT1, hd1⟩ := nx.hr.loop hc1
       rw [nx.le _ _ hl] at hl1; cases hl1
       have hb1 := hh1.block (zqf (nx.hr.lt hc1) hW1)
       refine ⟨_, run_beginRound hb1 rfl, ?_⟩
       have hh2 := zxZ (o' := .loop { state := .busy, pending := pend1, fn := fn1, tmps := ts1, params := ps1, assign := assign1, body := bd1, defers := db1 }) (nx.hr.lt hc1) hW1 hh1
       have nx2 : Nx ρ1 hp1 W1 ρ1 (hp1.put l (some (.loop .busy pend1 env01 nt1 ps1 assign1 bd1 d1))) (upd W1 l (some (b, .loop { state := .busy, pending := pend1, fn := fn1, tmps := ts1, params := ps1, assign := assign1, body := bd1, defers := db1 }))) :=
        ⟨Rho.le_refl _, nx.hr.put hs2 ⟨⟨c, nx.le _ _ hl⟩, fn1, ts1, db1, dc1, hts1, hRT1, hd1, rfl⟩, rfl, Stay.put hro⟩
       have t2 := IH _ hk ρ1 _ [] L1 _ (some b) (hG.mono nx.le) nx2.hr hE1 (hFI.mono nx.le) (endRd_rel (nx.le _ _ hl) (hke.at (nx.trans nx2)) hR)
       exact t2 Γ F a1 _ (roundPost P b R') he1 hh2 λ e ds L H a w kk he hh => kk a w hh
      ·cases hk
     ·cases hk
    ·cases hk)
   refine t1 Γ F _ w _ (RT.env h2) hh λ e ds L H a w kk he hh => ?_
   obtain ⟨rfl, kk⟩ := kk
   exact kk a w he hh
  ·cases h
 ·cases h
end
end
end Go.Y
namespace Go.Y
open Go.Z
noncomputable section
section
variable {P : Program} {G : GV} {ih : Task -> Bool} {fi : FI} {arr : Array Oper} {r : List Oper} {dd : Option Nat} {dv : List DV} {env : Tr V} {hp : Mem} {k : KK}
 {ρ : Rho} {W : RW} {ds : List Deferred} {L : Lo} {K : Kont} {ro : Option Nat}
theorem zkY {k : V -> Bool} {v : V} {u : Value} (h : forkB k v = true) (hv : R ρ v u) : ∃ v', R ρ v' u /\ k v' = true := by
 unfold forkB at h
 split at h
 ·obtain ⟨b, rfl⟩ := hv
  split at h
  ·rename_i h1
   cases b
   ·exact ⟨.bool false, rfl, h⟩
   ·exact ⟨.bool true, rfl, h1⟩
  ·cases h
 ·exact ⟨v, hv, h⟩
theorem goStep_ok (IH : ∀ t, ih t = true -> TaskOk P G t) {o : Oper} (hd : dstC o.dst fi.nt = true) (hw : wants arr L o = some true) (hG : GOk ρ G) (hH : HR ρ hp W) (hE : RE ρ env L) (hF : FIok ρ fi ro) (hk : KRel P k ρ hp W dv ds K)
  {s : Step} (hs : StepOk P fi.nt arr o ρ hp W L s) (h : goStep ih fi arr o.dst r dv env hp k s = true) : Ops P ro fi.nt arr (o :: r) ds L (spl hp.n W) K := by
 unfold goStep at h
 split at h
 ·rename_i v rd
  obtain ⟨u, hu, hq⟩ := hs ds
  obtain ⟨v', hu', h⟩ := zkY h hu
  exact Ops.q hq (rest_ok IH hd hG hE hF hk h (.refl hH) hu')
 ·rename_i outs
  exact hs ro r ds K λ q hq ρ' W' u le hr hv hro hst => rest_ok IH hd hG hE hF hk (allO_mem h q hq) ⟨le, hr, hro, hst⟩ hv
 ·rename_i f args
  obtain ⟨us, hus, hcall⟩ := hs
  obtain ⟨hc, spec⟩ := IH _ h
  exact hcall ro r ds K _ hc (spec ρ W us _ hG hH hus (retK_rel IH hd hG hE hF hk)) λ e Hc' hp => hp
 ·rename_i l args
  obtain ⟨hnd, b, c, us, hl, hus, hrun⟩ := hs
  refine Ops.round (b := b) hw hnd (zqu hd) λ Γ F a w he hh => ?_
  obtain ⟨f, tmps, assign, body, h1, h2⟩ := goRound_ok IH hG hH hl hus (retK_rel (L := L) (r := r) (arr := arr) (dd := o.dst) IH hd hG hE hF hk) h ro Γ F w hh (λ | .returned v, w' => ∃ H', Hold Γ H' F w' /\ Ops P ro fi.nt arr r ds (putL o.dst v L) H' K | _, _ => False) (λ u H' w' hp hh' => ⟨_, hh', by
   have hp : Ops P ro fi.nt arr r ds (putL o.dst u L) (H' ++ []) K := hp
   rwa [List.append_nil] at hp⟩)
  exact ⟨f, tmps, assign, body, (hrun ds a w he).trans h1, h2⟩
 ·rename_i f args
  obtain ⟨dr, hdr, hrest⟩ := hs
  split at h
  ·rename_i hro
   have hro' : ro = none := by
    have := hF.2
    rw [hro] at this
    cases ro with
    | none => rfl
    | some b => exact this.elim
   subst hro'
   refine hrest r ds K (IH _ h ρ W (dr :: ds) _ K none hG hH (hE.putE hd hF.1 rfl) hF (hk.at (.refl hH) ⟨[.call f args], [dr], rfl, rfl, dr, [], hdr, rfl, rfl⟩))
  ·cases h
 ·rename_i v
  obtain ⟨u, hu, hrest⟩ := hs
  exact hrest ro r ds K (hk (.panic v) _ _ _ _ _ _ _ (.panic _) (.refl hH) hE .refl ⟨u, hu, rfl⟩ h)
 ·cases h
theorem goWant_ok (IH : ∀ t, ih t = true -> TaskOk P G t) {o : Oper} (hd : dstC o.dst fi.nt = true) (hG : GOk ρ G) (hH : HR ρ hp W) (hE : RE ρ env L) (hF : FIok ρ fi ro) (hk : KRel P k ρ hp W dv ds K)
  (h : goWant P G ih fi arr o r dv env hp k (wantsV arr env o) = true) : Ops P ro fi.nt arr (o :: r) ds L (spl hp.n W) K := by
 unfold goWant at h
 split at h
 ·rename_i hw
  have hw := zqv hE hw
  exact goStep_ok IH hd hw hG hH hE hF hk (step_ok hG hE hH hw (zqu hd)) h
 ·rename_i hw
  exact Ops.off (zqv hE hw) (zqu hd) (rest_ok IH hd hG hE hF hk h (.refl hH) rfl)
 ·cases h
theorem goOps_ok (IH : ∀ t, ih t = true -> TaskOk P G t) {l : List Oper} (h : goOps P G ih fi arr l dv env hp k = true) : TaskOk P G (.ops fi arr l dv env hp k) := by
 intro ρ W ds L K ro hG hH hE hF hk
 unfold goOps at h
 split at h
 ·exact Ops.nil (hk .normal _ _ _ _ _ _ _ .normal (.refl hH) hE .refl trivial h)
 ·split at h
  ·rename_i hd
   exact goWant_ok IH hd hG hH hE hF hk h
  ·cases h
theorem zju {ro0 : List Lk} (hH : HR ρ hp W) (h : ∀ id ∈ ro0, id ∈ hp.ro) : HR ρ (hp.setRo ro0) W := ⟨hH.rel, hH.lim, λ id hid => hH.rol id (h id hid), hH.ext⟩
theorem lks_in {r : List Lk} : ∀ {lk : List (Nat × Lk)} {i : Nat} {l : Lk}, (i, l) ∈ lk -> l ∈ lks lk r
 | [], _, _, h => by cases h
 | x :: lk, i, l, h => by
  cases h with
  | head => exact .head _
  | tail _ h => exact .tail _ (lks_in h)
theorem zjl {r : List Lk} : ∀ {lk : List (Nat × Lk)} {l : Lk}, l ∈ r -> l ∈ lks lk r
 | [], _, h => h
 | _ :: lk, l, h => .tail _ (zjl h)
theorem lks_sub {r : List Lk} {lk lk' : List (Nat × Lk)} (h : ∀ x ∈ lk', x ∈ lk) : ∀ l ∈ lks lk' r, l ∈ lks lk r := by
 induction lk' with
 | nil => exact λ l hl => zjl hl
 | cons x lk' ih =>
  intro l hl
  cases hl with
  | head => exact lks_in (i := x.1) (h x (.head _))
  | tail _ hl => exact ih (λ y hy => h y (.tail _ hy)) l hl
theorem KeptIn.kept {Hc : List (Nat × Z.Told)} {lk : List (Nat × Lk)} {r : List Lk} (hH : HR ρ hp W) (hro : hp.ro = lks lk r) (h : KeptIn lk W Hc) : Kept Hc (spl hp.n W) := λ x hA => by
 rcases h x hA with hp | hp | ⟨l, hid, ⟨b, o, hw⟩, hall⟩
 ·exact ⟨tru, spl _ W, hp, λ x => ⟨λ y => zkv _ y, λ y => tru_sep _ y⟩⟩
 ·exact ⟨extSP W.x, splR _ W, hp _ (λ _ _ e => e), λ x => zxg x⟩
 ·exact ⟨pt b o, _, hall b o (by rw [hw]; exact .refl), spl_eqv (hH.rol l (by rw [hro]; exact lks_in hid)) hw⟩
theorem KeptIn.stay {Hc : List (Nat × Z.Told)} {lk : List (Nat × Lk)} {r : List Lk} {W' : RW} (h : KeptIn lk W Hc) (hro : hp.ro = lks lk r) (hs : Stay hp W W') (hx : Hp.le W.x W'.x) : KeptIn lk W' Hc := λ x hA => by
 rcases h x hA with hp | hp | ⟨l, hid, ⟨b, o, hw⟩, hall⟩
 ·exact .inl hp
 ·exact .inr (.inl λ X hX => hp X λ b o e => hX b o (hx b o e))
 ·have hin := hs l (by rw [hro]; exact lks_in hid)
  obtain ⟨b', o', hw'⟩ := hin.some hw
  exact .inr (.inr ⟨l, hid, ⟨b', o', hw'⟩, λ b2 o2 h2 => hall b2 o2 (hin.trans h2)⟩)
theorem KeptIn.still {Hc : List (Nat × Z.Told)} {lk : List (Nat × Lk)} (h : KeptIn lk W Hc) (arr : Array Oper) (i : Nat) : KeptIn (still arr i lk) W (still arr i Hc) := λ x hA => by
 obtain ⟨h1, h2⟩ := List.mem_filter.1 hA
 rcases h x h1 with hp | hp | ⟨l, hid, hw, hall⟩
 ·exact .inl hp
 ·exact .inr (.inl hp)
 ·exact .inr (.inr ⟨l, List.mem_filter.2 ⟨hid, h2⟩, hw, hall⟩)
theorem draw_nx {ρ' : Rho} {hp' : Mem} {W' : RW} {ro0 : List Lk} (nx : Nx ρ hp W ρ' hp' W') (h : ∀ id ∈ ro0, id ∈ hp.ro) : Nx ρ (hp.setRo ro0) W ρ' (hp'.setRo ro0) W' :=
 ⟨nx.le, zju nx.hr (λ id hid => by rw [nx.ro]; exact h id hid), rfl, λ id hid => nx.st id (h id hid)⟩
theorem zva {ρ' : Rho} {hp' : Mem} {W' : RW} {ro0 ro1 : List Lk} (nx : Nx ρ (hp.setRo ro1) W ρ' hp' W') (hin : ∀ id ∈ ro0, id ∈ hp.ro) (h : ∀ id ∈ ro0, id ∈ ro1) : Nx ρ (hp.setRo ro0) W ρ' (hp'.setRo ro0) W' :=
 ⟨nx.le, zju nx.hr (λ id hid => by rw [nx.ro]; exact h id hid), rfl, λ id hid => nx.st id (h id hid)⟩
theorem GnRel.mono {ρ' : Rho} (le : ρ.le ρ') : ∀ {nd : List (Nat × ND)} {Gn : List (Nat × Gd)}, GnRel ρ nd Gn -> GnRel ρ' nd Gn
 | [], _, h => h
 | x :: nd, Gn, h => by
  obtain ⟨ρ0, Gn', h1, h2, h3⟩ := h
  exact ⟨ρ0, Gn', Rho.le_trans h1 le, h2, h3.mono le⟩
theorem GnRel.ids : ∀ {nd : List (Nat × ND)} {Gn : List (Nat × Gd)}, GnRel ρ nd Gn -> Gn.map (·.1) = nd.map (·.1)
 | [], Gn, h => by rw [show Gn = [] from h]; rfl
 | x :: nd, Gn, h => by
  obtain ⟨ρ0, Gn', h1, rfl, h3⟩ := h
  simp [h3.ids]
theorem GnRel.look {i : Nat} {d : ND} : ∀ {nd : List (Nat × ND)} {Gn : List (Nat × Gd)}, GnRel ρ nd Gn -> lookN nd i = some d -> ∃ ρ0, Rho.le ρ0 ρ /\ gl Gn i = some (gdOf ρ0 d)
 | [], Gn, _, h => by cases h
 | (j, dj) :: nd, Gn, hr, h => by
  obtain ⟨ρ0, Gn', h1, rfl, h3⟩ := hr
  simp only [lookN] at h
  simp only [gl]
  split at h
  ·rename_i e; cases h; rw [if_pos (beq_tt e)]; exact ⟨ρ0, h1, rfl⟩
  ·rename_i e; rw [if_neg (beq_ff e)]; exact h3.look h
theorem GnRel.app {gs : List (Nat × ND)} : ∀ {nd : List (Nat × ND)} {Gn : List (Nat × Gd)}, GnRel ρ nd Gn -> GnRel ρ (gs ++ nd) (gs.map (λ (x : Nat × ND) => ((x.1, gdOf ρ x.2) : Nat × Gd)) ++ Gn) := by
 induction gs with
 | nil => exact λ h => h
 | cons x gs ih => exact λ h => ⟨ρ, _, Rho.le_refl ρ, rfl, ih h⟩
theorem NDRel.mono {ρ ρ' : Rho} (le : ρ.le ρ') {d : ND} {b c : Nat} {us : List Value} {ty : Nat} {u : Value} (h : NDRel ρ d b c us ty u) : NDRel ρ' d b c us ty u := by
 cases d with
 | off => exact h
 | ptr l ty' sz => exact ⟨h.1, h.2.1.mono le, h.2.2⟩
 | sl len l ty' sz => exact ⟨h.1, h.2.1.mono le, h.2.2⟩
theorem zkW {ρ0 : Rho} (hH : HR ρ hp W) (le : ρ0.le ρ) {d : ND} {v : Value} {Hn : List SP} {vv : V} {h' : Mem} (hg : gdOf ρ0 d v Hn) (h : instD hp d = some (vv, h')) :
  ∃ ρ' W', Nx ρ hp W ρ' h' W' /\ R ρ' vv v /\ Hn ++ spl hp.n W = spl h'.n W' := by
 have spleq : ∀ b o, [pt b o] ++ spl hp.n W = spl (hp.n + 1) (upd W hp.n (some (b, o))) := by
  intro b o
  simp only [spl, zqe, optSP, List.cons_append, List.nil_append]
  rw [zjT (W' := W) λ j hj => zqo (by omega)]
 cases d with
 | off =>
  cases h
  rcases hg with ⟨_, rfl, rfl⟩ | ⟨_, _, _, _, h, _⟩
  ·exact ⟨ρ, W, .refl hH, rfl, rfl⟩
  ·exact h.elim
 | ptr l ty sz =>
  rcases hg with ⟨h, _⟩ | ⟨b, c, us, ty', hg, rfl⟩
  ·cases h
  obtain ⟨rfl, hl, hlen, rfl⟩ := hg
  simp only [instD] at h
  split at h
  ·rename_i hp' hn
   cases h
   obtain ⟨hs, rfl⟩ := zqw hn
   exact ⟨upd ρ hp.n (some (b, c)), upd W hp.n (some (b, .cells us.toArray ty)), ⟨zqm hH _, hH.new hs ⟨c, us, [], (0, 0), zqe, (hl.mono le).mono (zqm hH _), by simp, by simpa using hlen, .zero⟩, rfl, Stay.new hH⟩, ⟨b, c, zqe, rfl⟩, spleq _ _⟩
  ·cases h
 | sl len l ty sz =>
  rcases hg with ⟨h, _⟩ | ⟨b, c, us, ty', hg, rfl⟩
  ·cases h
  obtain ⟨rfl, hl, hlen, rfl, hlc⟩ := hg
  simp only [instD] at h
  split at h
  ·rename_i hp' hn
   cases h
   obtain ⟨hs, rfl⟩ := zqw hn
   exact ⟨upd ρ hp.n (some (b, c)), upd W hp.n (some (b, .cells us.toArray ty)), ⟨zqm hH _, hH.new hs ⟨c, us, [], (0, 0), zqe, (hl.mono le).mono (zqm hH _), by simp, by simpa using hlen, .zero⟩, rfl, Stay.new hH⟩, ⟨b, c, zqe, rfl, by simpa using hlc⟩, spleq _ _⟩
  ·cases h
theorem newD_step (hG : GOk ρ G) (hE : RE ρ env L) {o : Oper} {d : ND} (hw : wants arr L o = some true) (h : newD P G env o.op = some d) {n : Nat} {ds : List Deferred} : NStep P n arr o ds L (gdOf ρ d) := by
 refine ⟨hw, λ Γ F a w H he hh => ?_⟩
 obtain ⟨us, ty, c, u, h1, h2⟩ := newD_ok (P := P) hG hE h a w he
 exact ⟨u, _, [pt w.heap.size (.cells us.toArray ty)], h1, hh.newb _, .inr ⟨_, _, _, _, h2, rfl⟩⟩
theorem ndW_ok {n : Nat} (hG : GOk ρ G) (hE : RE ρ env L) {o : Oper} {d : ND} (hd : dstC o.dst n = true) (hdef : zjM o = false) (h : ndW P G env o (wantsV arr env o) = some d) {ds : List Deferred} : NSafe P n arr o ds L (gdOf ρ d) := by
 have hnd : ∀ c, o.op ≠ .defer c := by
  intro c hc
  unfold zjM at hdef
  rw [hc] at hdef
  cases hdef
 unfold ndW at h
 refine ⟨zqu hd, hnd, ?_⟩
 split at h
 ·rename_i hw
  exact .inr (newD_step hG hE (zqv hE hw) h)
 ·rename_i hw
  cases h
  exact .inl ⟨zqv hE hw, .inl ⟨rfl, rfl, rfl⟩⟩
 ·cases h
theorem evD_ok {n : Nat} (hG : GOk ρ G) (hE : RE ρ env L) {all : List (Nat × Md)} {ds : List Deferred} : ∀ {l : List (Nat × Md)} {ids : List Nat} {gs : List (Nat × ND)}, evD P G arr n env ids all l = some gs ->
  ∀ x ∈ gs, ids.contains x.1 = false /\ ∃ og, arr[x.1]? = some og /\ noPred arr x.1 all = true /\ NSafe P n arr og ds L (gdOf ρ x.2)
 | [], ids, gs, h, x, hx => by cases h; cases hx
 | (j, m) :: l, ids, gs, h, x, hx => by
  have skip : evD P G arr n env ids all l = some gs -> ids.contains x.1 = false /\ ∃ og, arr[x.1]? = some og /\ noPred arr x.1 all = true /\ NSafe P n arr og ds L (gdOf ρ x.2) := λ h => evD_ok hG hE h x hx
  cases m <;> simp only [evD] at h <;> first | exact skip h | skip
  split at h
  ·rename_i h1 h2
   split at h
   ·rename_i o ho
    split at h
    ·rename_i d r hd hdef hnd hr
     cases h
     cases hx with
     | head => exact ⟨h1, o, ho, h2, ndW_ok hG hE hd hdef hnd⟩
     | tail _ hx =>
      obtain ⟨h3, h4⟩ := evD_ok hG hE hr x hx
      refine ⟨?_, h4⟩
      simp only [List.contains_eq_mem, List.mem_cons, decide_eq_false_iff_not, not_or] at h3 ⊢
      exact h3.2
    ·cases h
   ·cases h
  ·exact skip h
theorem off_q {o : Oper} {n : Nat} (hw : wants arr L o = some false) (hd : dstOk o.dst n = true) {H : List SP} : QStep P n arr o ds L H undef := ⟨hd, .inl ⟨hw, rfl⟩⟩
theorem goDraw_ok (IH : ∀ t, ih t = true -> TaskOk P G t) {pi : List (Nat × Md)} {ro0 : Dr} (h : goDraw P G ih fi arr pi ro0 dv env hp k = true) : TaskOk P G (.draw fi arr pi ro0 dv env hp k) := by
 intro ρ W ds L K ro Gn Hc hG hH hE hF hro hgn hkc hk
 have hin : ∀ l ∈ ro0.ro, l ∈ hp.ro := λ l hl => by rw [hro]; exact zjl hl
 unfold goDraw at h
 split at h
 ·refine ⟨L, .refl L, ?_⟩
  rw [List.append_nil]
  exact hk .normal dv env (hp.setRo ro0.ro) _ _ _ _ .normal (.refl (zju hH hin)) hE .refl trivial h
 ·rename_i i m pi
  split at h
  ·rename_i o ho
   split at h
   ·rename_i hd hdef
    have hnd : ∀ c, o.op ≠ .defer c := by
     intro c hc
     unfold zjM at hdef
     rw [hc] at hdef
     cases hdef
    -- on to the rest
    have next : ∀ {v : V} {hp' : Mem} {env' : Tr V} {L' : Lo} {Hc' : List (Nat × Z.Told)} {ρ' : Rho} {W' : RW}, ih (.draw fi arr pi ro0 dv env' hp' k) = true -> Nx ρ hp W ρ' hp' W' -> RE ρ' env' L' -> KeptIn ro0.lk W' Hc' -> RDc P ro fi.nt arr ds Gn Hc' [] K pi L' (spl hp'.n W') := by
     intro v hp' env' L' Hc' ρ' W' hih nx hE' hkc'
     exact IH _ hih ρ' W' ds L' K ro Gn Hc' (hG.mono nx.le) nx.hr hE' (hF.mono nx.le) (nx.ro.trans hro) (hgn.mono nx.le) hkc' (hk.at (draw_nx nx hin) .refl)
    have quietA' : ∀ {d : Nat} {v : V} {rd : List Lk}, o.dst = some d -> wants arr L o = some true -> quietA P G env hp o.op = some (v, rd) -> QOk P fi.nt arr o ds L ρ W v rd := by
     intro d v rd hod hw hq
     obtain ⟨od, oo, oT, opos, oes, og⟩ := o
     dsimp only at hod hq
     subst hod
     exact quietA_ok hG hE hH hw (zqu hd) hq
    unfold goDraw1 at h
    split at h
    ·-- loud
     unfold goDrawE at h
     split at h
     rotate_left
     ·cases h
     rename_i gs hgs
     have hev := evD_ok (ds := ds) hG hE hgs
     have hgn1 : GnRel ρ (gs ++ ro0.nd) (gs.map (λ (x : Nat × ND) => ((x.1, gdOf ρ x.2) : Nat × Gd)) ++ Gn) := hgn.app
     have hids := hgn1.ids
     unfold goDrawL at h
     split at h
     rotate_left
     ·cases h
     rename_i hbn
     have hsub : ∀ l ∈ lks (still arr i ro0.lk) ro0.ro, l ∈ hp.ro := λ l hl => by rw [hro]; exact lks_sub (λ x hx => (List.mem_filter.1 hx).1) l hl
     have hkc1 := hkc.still arr i
     have t1 := IH _ h ρ W ds L (Kw ds [] K λ L' Hw' => Kept (still arr i Hc) Hw' /\ RDc P ro fi.nt arr ds (gs.map (λ (x : Nat × ND) => ((x.1, gdOf ρ x.2) : Nat × Gd)) ++ Gn) (still arr i Hc) [] K pi L' Hw') ro hG (zju hH hsub) hE hF (by
      intro out dv' env' hp' ρ' W' ds' L' out' nx hE' dx ho' hk'
      unfold drawK at hk'
      split at hk'
      ·cases out' <;> first | exact ho'.elim | skip
       split at hk'
       ·rename_i hlen
        obtain ⟨rfl, rfl⟩ := dx.same (beq_tt hlen)
        have hkc' := hkc1.stay rfl nx.st (nx.x hH.ext)
        exact ⟨rfl, hkc'.kept nx.hr nx.ro, IH _ hk' ρ' W' _ L' K ro _ _ (hG.mono nx.le) nx.hr hE' (hF.mono nx.le) nx.ro (hgn1.mono nx.le) hkc' (hk.at (zva nx hin (λ l hl => zjl hl)) .refl)⟩
       ·cases hk'
      ·rename_i v
       cases out' <;> first | exact ho'.elim | skip
       show K (.panic _) ds' [] (spl hp'.n W' ++ [])
       rw [List.append_nil]
       exact hk (.panic v) dv' .nil (hp'.setRo ro0.ro) ρ' W' ds' [] (.panic _) (zva nx hin (λ l hl => zjl hl)) (λ t v e => by cases e) dx ho' hk'
      ·cases hk')
     refine ⟨o, gs.map (λ (x : Nat × ND) => ((x.1, gdOf ρ x.2) : Nat × Gd)), ho, λ g hg => ?_, by rw [hids]; exact hbn, hnd, t1⟩
     obtain ⟨x, hx, rfl⟩ := List.mem_map.1 hg
     obtain ⟨h1, og, h2, h3, h4⟩ := hev x hx
     exact ⟨by rw [hgn.ids]; exact h1, og, h2, h3, h4⟩
    ·-- new memory
     split at h
     rotate_left
     ·cases h
     rename_i hbn
     have hbn : zqJ arr (Gn.map (·.1)) [i] pi = true := by rw [hgn.ids]; exact hbn
     unfold goDrawN at h
     split at h
     ·rename_i hw
      have hw := zqv hE hw
      unfold goDrawN1 at h
      split at h
      ·rename_i d hnew
       obtain ⟨_, hst⟩ := newD_step (n := fi.nt) (ds := ds) hG hE hw hnew
       refine ⟨o, ho, hbn, hnd, zqu hd, .inr ⟨hw, λ Γ F a w H he hh => ?_⟩⟩
       obtain ⟨u, w', Hn, h1, h2, h3⟩ := hst Γ F a w H he hh
       refine ⟨u, w', Hn, h1, h2, ?_⟩
       unfold goDrawM at h
       split at h
       ·rename_i vv h' hin'
        obtain ⟨ρ', W', nx, hv, he'⟩ := zkW hH (Rho.le_refl _) h3 hin'
        rw [he']
        exact next (v := vv) h nx ((hE.mono nx.le).putE hd hF.1 hv) (hkc.stay hro nx.st (nx.x hH.ext))
       ·cases h
      ·cases h
     ·rename_i hw
      have hw := zqv hE hw
      exact ⟨o, ho, hbn, hnd, zqu hd, .inl ⟨hw, next (v := .und) h (.refl hH) (hE.putE hd hF.1 rfl) hkc⟩⟩
     ·cases h
    ·-- new memory that may be there already
     split at h
     rotate_left
     ·cases h
     rename_i d hlk hbn
     obtain ⟨ρ0, hle, hgl⟩ := hgn.look hlk
     refine ⟨o, gdOf ρ0 d, ho, hgl, by rw [hgn.ids]; exact hbn, λ u Hn hg => ?_⟩
     unfold goDrawM at h
     split at h
     ·rename_i vv h' hin'
      obtain ⟨ρ', W', nx, hv, he'⟩ := zkW hH hle hg hin'
      rw [he']
      exact next (v := vv) h nx ((hE.mono nx.le).putE hd hF.1 hv) (hkc.stay hro nx.st (nx.x hH.ext))
     ·cases h
    ·-- quiet, ahead of the next loud one
     unfold goDrawW at h
     split at h
     ·rename_i hw
      have hw := zqv hE hw
      unfold goDrawQ at h
      split at h
      ·rename_i v rd d hq hm hod
       obtain ⟨u, hu, hqs⟩ := quietA' hod hw hq
       obtain ⟨v', hu, h⟩ := zkY h hu
       refine ⟨o, u, ho, ?_, ?_⟩
       ·rw [List.append_nil]; exact hqs _ ((zjW hq).holds hH)
       ·rw [hod]
        exact next (v := v) h (.refl hH) (RE.putE (d := some d) hE (by rw [<- hod]; exact hd) hF.1 hu) hkc
      ·rename_i hm _; cases hm
      ·rename_i hm _; cases hm
      ·cases h
     ·rename_i hw
      have hw := zqv hE hw
      exact ⟨o, undef, ho, off_q hw (zqu hd), next (v := .und) h (.refl hH) (hE.putE hd hF.1 rfl) hkc⟩
     ·cases h
    ·-- quiet, what stays
     unfold goDrawW at h
     have htru : Eqv (spl hp.n W) (tru :: spl hp.n W) := λ x => ⟨λ y => zkv _ y, λ y => tru_sep _ y⟩
     have hkt : KeptIn ro0.lk W ((i, (· = tru)) :: Hc) := λ A hA => by
      cases hA with
      | head => exact .inl rfl
      | tail _ hA => exact hkc A hA
     split at h
     ·rename_i hw
      have hw := zqv hE hw
      unfold goDrawQ at h
      split at h
      ·rename_i hm _; cases hm
      ·rename_i v d hq hm hod
       obtain ⟨u, hu, hqs⟩ := quietA' hod hw hq
       obtain ⟨v', hu, h⟩ := zkY h hu
       refine ⟨o, u, (· = tru), ho, ⟨tru, spl hp.n W, rfl, htru⟩, λ A hA => hqs _ (λ id hid => by cases hid), ?_⟩
       rw [hod]
       exact next (v := v) h (.refl hH) (RE.putE (d := some d) hE (by rw [<- hod]; exact hd) hF.1 hu) hkt
      ·rename_i v id d hq hm hod
       obtain ⟨u, hu, hqs⟩ := quietA' hod hw hq
       obtain ⟨v', hu, h⟩ := zkY h hu
       obtain ⟨ch, hc⟩ := zjW hq id (by simp)
       obtain ⟨b, ob, hW, _⟩ := hH.rel _ _ hc
       refine ⟨o, u, (λ A => ∃ b o, Same id (W id.1) (some (b, o)) /\ A = pt b o), ho, ⟨pt b ob, _, ⟨b, ob, by rw [hW]; exact .refl, rfl⟩, spl_eqv (hH.lt hc) hW⟩, λ A hA => ?_, ?_⟩
       ·obtain ⟨b', o', hs', rfl⟩ := hA
        refine hqs _ (λ j hj => ?_)
        simp only [List.mem_singleton] at hj
        subst hj
        exact ⟨b', o', _, hs', .head⟩
       ·rw [hod]
        refine IH _ h ρ W ds _ K ro Gn ((i, λ A => ∃ b o, Same id (W id.1) (some (b, o)) /\ A = pt b o) :: Hc) hG ⟨hH.rel, hH.lim, λ j hj => ?_, hH.ext⟩ (RE.putE (d := some d) hE (by rw [<- hod]; exact hd) hF.1 hu) hF (by show id :: hp.ro = id :: lks ro0.lk ro0.ro; rw [hro]) hgn (λ A hA => ?_) hk
        ·cases hj with
         | head => exact hH.lt hc
         | tail _ hj => exact hH.rol j hj
        ·cases hA with
         | head => exact .inr (.inr ⟨id, .head _, ⟨b, ob, hW⟩, λ b' o' h => ⟨b', o', h, rfl⟩⟩)
         | tail _ hA =>
          rcases hkc A hA with h | h | ⟨j, hj, h⟩
          ·exact .inl h
          ·exact .inr (.inl h)
          ·exact .inr (.inr ⟨j, .tail _ hj, h⟩)
      ·cases h
     ·rename_i hw
      have hw := zqv hE hw
      exact ⟨o, undef, (· = tru), ho, ⟨tru, spl hp.n W, rfl, htru⟩, λ A hA => off_q hw (zqu hd), next (v := .und) h (.refl hH) (hE.putE hd hF.1 rfl) hkt⟩
     ·cases h
    ·cases h
   ·cases h
  ·cases h
end
end
end Go.Y
namespace Go.Y
open Go.Z
noncomputable section
section
variable {P : Program} {G : GV} {ih : Task -> Bool} {fi : FI} {arr : Array Oper} {r : List Oper} {dd : Option Nat} {dv : List DV} {env : Tr V} {hp : Mem} {k : KK}
 {ρ : Rho} {W : RW} {ds : List Deferred} {L : Lo} {K : Kont} {ro : Option Nat}
theorem Go.loopD {n : Nat} {α : Type} {c : Code} (dx : α -> List Deferred) (Lx : α -> Lo) (Hx : α -> List SP) (φ : α -> Prop) (μ : α -> Nat) (x0 : α) (h0 : φ x0)
  (round : ∀ x, φ x -> Z.Go P ro n c (dx x) (Lx x) (Hx x) (Kont.seq (λ ds' L' H' => ∃ x', φ x' /\ μ x' < μ x /\ ds' = dx x' /\ L' = Lx x' /\ H' = Hx x') K)) : Z.Go P ro n (.loop c) (dx x0) (Lx x0) (Hx x0) K := by
 intro Γ F a w Q he hh hq
 refine zkL (P := P) (λ x a w => φ x /\ Env a n (dx x) (Lx x) /\ Hold Γ (Hx x) F w) μ x0 ⟨h0, he, hh⟩ ?_
 rintro x a w ⟨hx, he, hh⟩
 refine round x hx Γ F a w _ he hh ?_
 intro e ds' L' H' a' w' k he' hh'
 cases e with
 | normal =>
  obtain ⟨x', hx', hlt, rfl, rfl, rfl⟩ := k
  exact ⟨x', ⟨hx', he', hh'⟩, hlt⟩
 | exit i => exact hq (.exit i) _ _ _ _ _ k he' hh'
 | goto i => exact hq (.goto i) _ _ _ _ _ k he' hh'
 | ret => exact hq .ret _ _ _ _ _ k he' hh'
 | panic c => exact hq (.panic c) _ _ _ _ _ k he' hh'
theorem seqK_rel (IH : ∀ t, ih t = true -> TaskOk P G t) {b : Code} (hG : GOk ρ G) (hF : FIok ρ fi ro) (hk : KRel P k ρ hp W dv ds K) : KRel P (seqK ih fi b k) ρ hp W dv ds (Kont.seq (λ ds L H => Z.Go P ro fi.nt b ds L H K) K) := by
 intro o dv' env' hp' ρ' W' ds' L' out nx hE dx ho hk'
 cases o <;> cases out <;> first | exact ho.elim | skip
 ·exact IH _ hk' ρ' W' ds' L' K ro (hG.mono nx.le) nx.hr hE (hF.mono nx.le) (hk.at nx dx)
 all_goals exact hk _ _ _ _ _ _ _ _ _ nx hE dx ho hk'
theorem scK_rel (hk : KRel P k ρ hp W dv ds K) : KRel P (scK k) ρ hp W dv ds (Kont.scope K) := by
 intro o dv' env' hp' ρ' W' ds' L' out nx hE dx ho hk'
 cases o <;> cases out <;> first | exact ho.elim | skip
 case goto.goto i j => first | (cases hk'; done) | exact hk'.elim
 all_goals exact hk _ _ _ _ _ _ _ _ _ nx hE dx ho hk'
theorem blkK_rel {id : Nat} (hk : KRel P k ρ hp W dv ds K) : KRel P (blkK id k) ρ hp W dv ds (Kont.block id K) := by
 intro o dv' env' hp' ρ' W' ds' L' out nx hE dx ho hk'
 cases o <;> cases out <;> first | exact ho.elim | skip
 case exit.exit i j =>
  cases ho
  show (if i = id then K .normal ds' L' (spl hp'.n W') else K (.exit i) ds' L' (spl hp'.n W'))
  simp only [blkK, ifB_nat] at hk'
  split
  ·rename_i hi
   rw [if_pos hi] at hk'
   exact hk .normal _ _ _ _ _ _ _ .normal nx hE dx trivial hk'
  ·rename_i hi
   rw [if_neg hi] at hk'
   exact hk (.exit i) _ _ _ _ _ _ _ (.exit i) nx hE dx rfl hk'
 all_goals exact hk _ _ _ _ _ _ _ _ _ nx hE dx ho hk'
theorem goRegion_ok (hmix : P.follows .mixedOrders = true) (IH : ∀ t, ih t = true -> TaskOk P G t) {id : Nat} {dr : Bool} (h : goRegion ih fi arr dr dv env hp k = true) : TaskOk P G (.code fi (.region id arr dr) dv env hp k) := by
 intro ρ W ds L K ro hG hH hE hF hk
 unfold goRegion at h
 split at h
 ·have h1 : Ops P ro fi.nt arr.toList.toArray arr.toList ds L (spl hp.n W) K := by
   rw [Array.toArray_toList]
   exact IH _ h ρ W ds L K ro hG hH hE hF hk
  have := Go.region (id := id) h1
  rwa [Array.toArray_toList] at this
 ·split at h
  ·rename_i hok
   simp only [Bool.and_eq_true] at hok
   refine Go.draw (piOf arr) hok.1 (noSel_ok hok.2) hmix .all ?_
   exact IH _ h ρ W ds L K ro [] [] hG hH hE hF rfl rfl (λ A hA => by cases hA) hk
  ·cases h
theorem zkd {Γ : World} {F : SP} {w : World} {b id : Nat} {o o' : Obj} (hlt : id < hp.n) (hW : W id = some (b, o)) (hh : Hold Γ (spl hp.n W) F w) : Hold Γ (spl hp.n (upd W id none)) F (w.putObj b o') :=
 (Hold.setObj hh (zqf hlt hW) o').weaken λ x hx => zkr hx
theorem notBusy_ok {st : LoopState} (h : notBusy st = true) : st ≠ .busy := by rintro rfl; cases h
theorem rangeK_rel (IH : ∀ t, ih t = true -> TaskOk P G t) {ρ2 : Rho} {hp2 : Mem} {W2 : RW} {lid l c : Nat} {dv2 : List DV} {ds2 : List Deferred} {Γ : World} {F : SP} {Q : Exit -> Act -> World -> Prop} {a2 : Act}
  (hG : GOk ρ G) (hF : FIok ρ fi ro) (hk : KRel P k ρ hp W dv ds K) (hq : K.le fi.nt Γ F Q) (nx : Nx ρ hp W ρ2 hp2 W2) (hl : ρ2 lid = some (l, c)) (hE : RE ρ2 env L) (dx : DExt P ρ2 dv ds dv2 ds2) (he : Env a2 fi.nt ds2 L) :
  KERel (rangeK ih fi lid dv2 env k) ρ2 hp2 W2 (λ e H' => ∀ w3, Hold Γ H' F w3 -> rangePost (fw ro) 0 P l Q a2 e w3) := by
 intro e hp3 ρ3 W3 en nx3 hen hk3 w3 hh3
 unfold rangeK at hk3
 split at hk3
 ·rename_i v
  cases en <;> first | exact hen.elim | skip
  rename_i ch
  exact hq (.panic ch) _ _ _ a2 w3 (hk (.panic v) _ _ _ _ _ _ _ (.panic ch) (nx.trans nx3) (hE.mono nx3.le) (dx.mono nx3.le) hen hk3) he hh3
 ·cases en <;> first | exact hen.elim | skip
  split at hk3
  ·rename_i st pend env0 nt0 ps0 assign0 body0 d0 h hc hput
   obtain ⟨b, c', fn, ts, db, dc, hW, hb, hts, hRT, hd⟩ := nx3.hr.loop hc
   rw [nx3.le _ _ hl] at hb; cases hb
   have hro := zqA hput
   obtain ⟨hs, rfl⟩ := zqB hput
   have hst : notBusy st = true := by
    cases hb : notBusy st with
    | true => rfl
    | false => rw [hb] at hk3; cases hk3
   rw [hst, ifB_true] at hk3
   have hbl := hh3.block (zqf (nx3.hr.lt hc) hW)
   have hh4 := zkd (o' := .loop { state := .exhausted, pending := pend, fn := fn, tmps := ts, params := ps0, assign := assign0, body := body0, defers := db }) (nx3.hr.lt hc) hW hh3
   have nx4 : Nx ρ3 hp3 W3 ρ3 (hp3.put lid none) (upd W3 lid none) := ⟨Rho.le_refl _, nx3.hr.kill hs, rfl, Stay.put hro⟩
   refine ⟨pend, _, run_endLoop hbl (notBusy_ok hst), ?_⟩
   have nx5 := nx.trans (nx3.trans nx4)
   cases pend with
   | none => exact hq .normal _ _ _ a2 _ (hk .normal _ _ _ _ _ _ _ .normal nx5 (hE.mono nx3.le) (dx.mono nx3.le) trivial hk3) he hh4
   | some cd => exact IH _ hk3 ρ3 _ ds2 L K ro (hG.mono nx5.le) nx5.hr (hE.mono nx3.le) (hF.mono nx5.le) (hk.at nx5 (dx.mono nx3.le)) Γ F a2 _ Q he hh4 hq
  ·cases hk3
theorem goRange_ok (IH : ∀ t, ih t = true -> TaskOk P G t) {g : Operand} {ps : Array Tmp} {assign body : Code} (h : goRange ih fi (evO G env g) ps assign body dv env hp k = true) : TaskOk P G (.code fi (.rangeFunc g ps assign body) dv env hp k) := by
 intro ρ W ds L K ro hG hH hE hF hk
 intro Γ F a w Q he hh hq
 unfold goRange at h
 split at h
 ·rename_i f av bv hg
  obtain ⟨gu, hgu, a', b', ha, hb, rfl⟩ := evO_ok hG hE hg
  refine wpIn_rangeFunc λ fn _ => ?_
  -- the call, once the record is laid
  have main : ∀ (l lid : Nat) (mark : List Deferred) (dv2 : List DV) (ρ2 : Rho) (hp2 : Mem) (W2 : RW) (c : Nat) (w2 : World), (Instr.enterLoop fn a.tmps ps assign body ro).run P w = .ok (l, mark) w2 -> Nx ρ hp W ρ2 hp2 W2 -> ρ2 lid = some (l, c) -> DExt P ρ2 dv ds dv2 (mark ++ ds) ->
    Hold Γ (spl hp2.n W2) F w2 -> ih (.call f (av ++ [.yld lid] ++ bv) hp2 (rangeK ih fi lid dv2 env k)) = true ->
    ∃ (l : Nat) (mark : List Deferred) (w₁ : World) (d : Deferred) (w₁' : World) (f : FuncId) (args : Array Value) (w₂ : World),
     (Instr.enterLoop fn a.tmps ps assign body (fw ro).round).run P w = .ok (l, mark) w₁ /\
     (resolve a.eval (rangeCall g l) 0).run P w₁ = .ok d w₁' /\
     (∀ f', Target.leads P w₁' d.target d.args = some f' -> (fw ro).fn f') /\
     (Go.invoke d.target d.args).run P w₁' = .ok (.enter f args) w₂ /\
     ((fw ro).depth.isSome = true -> 1 <= 0) /\
     CallsIn (fw ro) (0 - 1) P f args w₂ (rangePost (fw ro) 0 P l Q { a with defers := mark ++ a.defers }) := by
   intro l lid mark dv2 ρ2 hp2 W2 c w2 hent nx hl dx hh2 hcall
   obtain ⟨hcl, spec⟩ := IH _ hcall
   have hus : RL ρ2 (av ++ [.yld lid] ++ bv) (a' ++ [Value.func (.yield l) #[] #[]] ++ b') := ((ha.mono nx.le).append (.cons (show R ρ2 (.yld lid) _ from ⟨l, c, hl, rfl⟩) .nil)).append (hb.mono nx.le)
   have he2 : Env { a with defers := mark ++ a.defers } fi.nt (mark ++ ds) L := ⟨he.size, by simp [he.defs], he.get⟩
   have sp := spec ρ2 W2 _ _ (hG.mono nx.le) nx.hr hus (rangeK_rel (l := l) (c := c) (Γ := Γ) (F := F) (Q := Q) IH hG hF hk hq nx hl (hE.mono nx.le) dx he2)
   refine ⟨l, mark, w2, { target := .fn (.func f) b'.toArray, args := a'.toArray ++ #[Value.func (.yield l) #[] #[]] }, w2, f, (a' ++ [Value.func (.yield l) #[] #[]] ++ b').toArray, w2, hent, ?_, λ _ _ => trivial, ?_, λ h => (by cases h), ?_⟩
   ·simp only [resolve, rangeCall, he.eval hgu, Deferred.ofValue, Sem.run_pure]
    simp [Act.eval]
   ·have := zxI hcl (a'.toArray ++ #[Value.func (.yield l) #[] #[]] ++ b'.toArray) w2
    simp only [Go.invoke]
    rw [this]
    simp
   ·have hc := (callsIn_wide (n := 0)).2 (sp Γ F w2 hh2)
    have hc2 : CallsIn Fence.wide 0 P f (a' ++ [Value.func (.yield l) #[] #[]] ++ b').toArray w2 (rangePost (fw ro) 0 P l Q { a with defers := mark ++ a.defers }) := hc.mono λ e w' ⟨H', p, hh'⟩ => p w' hh'
    exact ⟨trivial, hc2.2⟩
  split at h
  ·rename_i hro
   have hro' : ro = none := by
    have := hF.2
    rw [hro] at this
    cases ro with
    | none => rfl
    | some b => exact this.elim
   subst hro'
   split at h
   ·rename_i h1 hn1
    split at h
    ·rename_i h2 hn2
     obtain ⟨hs1, rfl⟩ := zqw hn1
     obtain ⟨hs2, rfl⟩ := zqw hn2
     obtain ⟨W1, hh1, hr1, hst1⟩ := zxo (ch := .defr) (o := .deferred (some [])) hH hs1 hh ⟨⟨_, zqe⟩, rfl⟩
     have nx1 : Nx ρ hp W (upd ρ hp.n (some (w.heap.size, 0))) (hp.new .defr) W1 := ⟨zqm hH _, hr1, rfl, hst1⟩
     have le2 := zqm hr1 ((({ w with heap := w.heap.push (.deferred (some [])) } : World)).heap.size, 0)
     obtain ⟨W2, hh2, hr2, hst2⟩ := zxo (ch := .loop .ready none env fi.nt ps assign body hp.n) (o := .loop { state := .ready, pending := none, fn := fn, tmps := a.tmps, params := ps, assign := assign, body := body, defers := w.heap.size }) hr1 hs2 hh1
      ⟨⟨_, zqe⟩, fn, a.tmps, w.heap.size, 0, he.size, (hE.rt he).mono (Rho.le_trans nx1.le le2), le2 _ _ zqe, rfl⟩
     have nx2 : Nx (upd ρ hp.n (some (w.heap.size, 0))) (hp.new .defr) W1 _ ((hp.new .defr).new (.loop .ready none env fi.nt ps assign body hp.n)) W2 := ⟨le2, hr2, rfl, hst2⟩
     refine main (w.heap.size + 1) (hp.new .defr).n [{ target := .collected w.heap.size, args := #[] }] (.mark hp.n :: dv) _ _ W2 0 _ (run_enterLoop_outer fn a.tmps ps assign body) (nx1.trans nx2) ?_ ⟨[.mark hp.n], [{ target := .collected w.heap.size, args := #[] }], rfl, rfl, _, [], ⟨w.heap.size, 0, le2 _ _ zqe, rfl⟩, rfl, rfl⟩ hh2 h
     show upd _ _ _ _ = _
     rw [zqe]
     simp
    ·cases h
   ·cases h
  ·rename_i l0 hro
   obtain ⟨b0, hro', c0, hl0⟩ : ∃ b0, ro = some b0 /\ ∃ c0, ρ l0 = some (b0, c0) := by
    have := hF.2
    rw [hro] at this
    cases ro with
    | none => exact this.elim
    | some b => exact ⟨b, rfl, this⟩
   subst hro'
   split at h
   ·rename_i st0 pend0 env0 nt0 ps0 assign0 body0 d0 hc
    split at h
    ·rename_i h2 hn2
     obtain ⟨hs2, rfl⟩ := zqw hn2
     obtain ⟨b1, c1, fn1, ts1, db1, dc1, hW1, hl1, hts1, hRT1, hd1⟩ := hH.loop hc
     rw [hl0] at hl1; cases hl1
     have hb1 := hh.block (zqf (hH.lt hc) hW1)
     have le2 := zqm hH (w.heap.size, 0)
     obtain ⟨W2, hh2, hr2, hst2⟩ := zxo (ch := .loop .ready none env fi.nt ps assign body d0) (o := .loop { state := .ready, pending := none, fn := fn, tmps := a.tmps, params := ps, assign := assign, body := body, defers := db1 }) hH hs2 hh
      ⟨⟨_, zqe⟩, fn, a.tmps, db1, dc1, he.size, (hE.rt he).mono le2, le2 _ _ hd1, rfl⟩
     refine main w.heap.size hp.n [] dv _ _ W2 0 _ ?_ ⟨le2, hr2, rfl, hst2⟩ zqe .refl hh2 h
     unfold Instr.enterLoop
     simp only [Sem.run_bind, run_getLoop hb1, Result.andThen_ok, Sem.run_pure, run_newObj]
    ·cases h
   ·cases h
 ·cases h
theorem goCode_ok (hmix : P.follows .mixedOrders = true) (IH : ∀ t, ih t = true -> TaskOk P G t) {c : Code} (hnl : ∀ b, c ≠ .loop b) (h : goCode G ih fi c dv env hp k = true) : TaskOk P G (.code fi c dv env hp k) := by
 unfold goCode at h
 split at h
 ·intro ρ W ds L K ro hG hH hE hF hk
  exact Go.skip (hk .normal _ _ _ _ _ _ _ .normal (.refl hH) hE .refl trivial h)
 ·intro ρ W ds L K ro hG hH hE hF hk
  exact Go.label (hk .normal _ _ _ _ _ _ _ .normal (.refl hH) hE .refl trivial h)
 ·intro ρ W ds L K ro hG hH hE hF hk
  exact Go.ret (hk .ret _ _ _ _ _ _ _ .ret (.refl hH) hE .refl trivial h)
 ·intro ρ W ds L K ro hG hH hE hF hk
  exact Go.exit (hk (.exit _) _ _ _ _ _ _ _ (.exit _) (.refl hH) hE .refl rfl h)
 ·intro ρ W ds L K ro hG hH hE hF hk
  exact Go.seq (IH _ h ρ W ds L _ ro hG hH hE hF (seqK_rel IH hG hF hk))
 ·intro ρ W ds L K ro hG hH hE hF hk
  unfold goCond at h
  split at h
  ·rename_i hc
   obtain ⟨u, h1, h2⟩ := evO_ok hG hE hc
   cases h2
   exact Go.cond_true h1 (IH _ h ρ W ds L K ro hG hH hE hF hk)
  ·rename_i hc
   obtain ⟨u, h1, h2⟩ := evO_ok hG hE hc
   cases h2
   exact Go.cond_false h1 (IH _ h ρ W ds L K ro hG hH hE hF hk)
  ·cases h
 ·intro ρ W ds L K ro hG hH hE hF hk
  exact Go.block (IH _ h ρ W ds L _ ro hG hH hE hF (blkK_rel hk))
 ·intro ρ W ds L K ro hG hH hE hF hk
  exact Go.scope (IH _ h ρ W ds L _ ro hG hH hE hF (scK_rel hk))
 ·rename_i b; exact absurd rfl (hnl b)
 ·exact goRegion_ok hmix IH h
 ·exact goRange_ok IH h
 ·cases h
end
end
end Go.Y
namespace Go.Y
open Go.Z
noncomputable section
section
variable {P : Program} {G : GV} {ih : Task -> Bool} {fi : FI} {arr : Array Oper} {r : List Oper} {dd : Option Nat} {dv : List DV} {env : Tr V} {hp : Mem} {k : KK}
 {ρ : Rho} {W : RW} {ds : List Deferred} {L : Lo} {K : Kont} {ro : Option Nat}
theorem zjy {c0 : Frame} {u : FrameMode} (h : c0.mode = u) : ({ c0 with mode := u } : Frame) = c0 := by subst h; rfl
theorem plain_ok (IH : ∀ t, ih t = true -> TaskOk P G t) {nt : Nat} {c : Code} {rc : Option V} {kr : KR} (hn : small nt = true) {u : FrameMode} {KS : KontS} (hG : GOk ρ G) (hH : HR ρ hp W) (hE : RE ρ env L) (hm : MRel ρ rc u) (hk : KSRel kr ρ hp W KS)
  (h : ih (.code ⟨nt, none⟩ c [] env hp (keepK rc kr)) = true) : GoS P nt c u L (spl hp.n W) KS := by
 intro Γ F a c0 cs w Q he hu hh hq
 have t1 := IH _ h ρ W [] L (λ out ds' L' H' => ds' = [] /\ KS out u L' H') none hG hH hE ⟨hn, trivial⟩ (by
  intro o dv' env' hp' ρ' W' ds' L' out nx hE' dx ho hk'
  unfold keepK at hk'
  split at hk'
  ·have hds : ds' = [] := (dx.same rfl).2
   refine ⟨hds, hk o rc env' hp' ρ' W' u L' out nx hE' ?_ ho hk'⟩
   cases rc with
   | none => exact hm
   | some v => obtain ⟨y, h1, h2⟩ := hm; exact ⟨y, h1.mono nx.le, h2⟩
  ·cases hk')
 refine wpSIn_of_wpIn rfl (t1 Γ F a w _ he hh λ e ds L H a w kk he hh => ?_)
 obtain ⟨rfl, kk⟩ := kk
 have := hq e u L H a w kk he hh
 rwa [zjy hu] at this
theorem dseqK_rel (IH : ∀ t, ih t = true -> TaskOk P G t) {nt : Nat} {b : Code} {kr : KR} (hn : small nt = true) {KS : KontS} (hG : GOk ρ G) (hk : KSRel kr ρ hp W KS) :
  KSRel (dseqK ih nt b kr) ρ hp W (λ out u L H => match out with | .normal => GoS P nt b u L H KS | e => KS e u L H) := by
 intro o rc env' hp' ρ' W' u L' out nx hE hm ho hk'
 cases o <;> cases out <;> first | exact ho.elim | skip
 ·exact IH _ hk' hn ρ' W' L' u KS (hG.mono nx.le) nx.hr hE hm (hk.at nx)
 all_goals exact hk _ rc env' hp' ρ' W' u L' _ nx hE hm ho hk'
theorem GoS.seq {nt : Nat} {x y : Code} {u : FrameMode} {H : List SP} {KS : KontS} (h : GoS P nt x u L H (λ out u L H => match out with | .normal => GoS P nt y u L H KS | e => KS e u L H)) : GoS P nt (.seq x y) u L H KS := by
 intro Γ F a c0 cs w Q he hu hh hq
 refine wpSIn_seq (h Γ F a c0 cs w _ he hu hh λ e u' L' H' a' w' kk he' hh' => ?_)
 cases e with
 | normal =>
  refine kk Γ F a' { c0 with mode := u' } cs w' Q he' rfl hh' λ e2 u2 L2 H2 a2 w2 k2 he2 hh2 => ?_
  exact hq e2 u2 L2 H2 a2 w2 k2 he2 hh2
 | exit i => exact hq (.exit i) u' L' H' a' w' kk he' hh'
 | goto i => exact hq (.goto i) u' L' H' a' w' kk he' hh'
 | ret => exact hq .ret u' L' H' a' w' kk he' hh'
 | panic ch => exact hq (.panic ch) u' L' H' a' w' kk he' hh'
theorem zkR {o : Oper} (h : zxQ o = true) : ∃ xs ts, o.op = .call { callee := .builtin .recover, args := xs, argTypes := ts } := by
 unfold zxQ at h
 split at h
 ·rename_i c hc
  split at h
  ·rename_i hcc
   obtain ⟨cal, xs, ts⟩ := c
   dsimp only at hcc
   subst hcc
   exact ⟨xs, ts, hc⟩
  ·cases h
 ·cases h
theorem zkO {is : List Nat} {o : Oper} {r : List Oper} (e : is.map (arr[·]?) = (o :: r).map some) : ∃ i is', is = i :: is' /\ arr[i]? = some o /\ is'.map (arr[·]?) = r.map some := by
 cases is with
 | nil => simp at e
 | cons i is =>
  simp only [List.map_cons, List.cons.injEq] at e
  exact ⟨i, is, rfl, e.1, e.2⟩
theorem goDOps_ok (IH : ∀ t, ih t = true -> TaskOk P G t) {nt : Nat} {l : List Oper} {rc : Option V} {kr : KR} (h : goDOps P G ih nt arr l env hp rc kr = true) : TaskOk P G (.dops nt arr l env hp rc kr) := by
 intro hn ρ W L u KS hG hH hE hm hk Γ F a c0 cs w Q is he hu hh hq his
 unfold goDOps at h
 split at h
 ·have : is = [] := by simpa using his
  subst this
  have := hq .normal u L _ a w (hk .normal rc env hp ρ W u L .normal (.refl hH) hE hm trivial h) he hh
  rwa [zjy hu] at this
 ·rename_i o r
  obtain ⟨i, is', rfl, hi, his'⟩ := zkO his
  unfold goDOp at h
  have hwan : o.guard = none -> Region.wanted o (yielded arr a.tmps) = true := by
   intro hg
   unfold Region.wanted
   rw [hg]
  simp only [wpOpsSIn, hi]
  refine ⟨λ _ _ => trivial, ?_⟩
  split at h
  ·rename_i hd hrec hg
   rw [if_pos (hwan hg)]
   obtain ⟨xs, ts, hop⟩ := zkR hrec
   have hrun : (execOp a.eval o).run P w = .ok .recover w := by
    simp [execOp, hop, resolve, Go.invoke, builtin]
   rw [hrun]
   split at h
   ·rename_i v
    obtain ⟨y, hy, rfl⟩ := hm
    have hrd : recoverD (c0 :: cs) = some (y, { c0 with mode := .panicking [{ v := y, recovered := true }] } :: cs) := by
     simp only [recoverD, hu]
    simp only [hrd]
    refine IH _ h hn ρ W _ (.panicking [{ v := y, recovered := true }]) KS hG hH (hE.putE hd hn hy) (.inr ⟨y, rfl⟩) hk Γ F _ { c0 with mode := .panicking [{ v := y, recovered := true }] } cs w Q is' (he.putO y (zqu hd)) rfl hh (λ e2 u2 L2 H2 a2 w2 k2 he2 hh2 => hq e2 u2 L2 H2 a2 w2 k2 he2 hh2) his'
   ·have hrd : recoverD (c0 :: cs) = none := by
     rcases hm with rfl | ⟨y, rfl⟩
     ·simp only [recoverD, hu]
     ·simp only [recoverD, hu]
    simp only [hrd]
    exact IH _ h hn ρ W _ u KS hG hH (hE.putE hd hn rfl) hm hk Γ F _ c0 cs w Q is' (he.putO .nilIface (zqu hd)) hu hh hq his'
  ·rename_i hd hrec hg
   rw [if_pos (hwan hg)]
   unfold goDOpQ at h
   split at h
   ·rename_i v rd d hqv hod
    have hw : wants arr L o = some true := by unfold wants; rw [hg]
    obtain ⟨u1, hu1, hq1⟩ : ∃ u1, R ρ v u1 /\ QStep P nt arr o [] L (spl hp.n W) u1 := by
     obtain ⟨od, oo, oT, opos, oes, og⟩ := o
     dsimp only at hod hqv
     subst hod
     exact zxN hG hE hH hw (zqu hd) hqv
    obtain ⟨_, ⟨hw2, _⟩ | ⟨_, hnd, hrun⟩⟩ := hq1
    ·rw [hw] at hw2; cases hw2
    ·obtain ⟨w', hr, hh'⟩ := hrun Γ F a w he hh
     simp only [hr]
     have hE' : RE ρ (Tr.set 20 env d (some v)) (putL o.dst u1 L) := by
      have := RE.putE (d := o.dst) hE hd hn hu1
      rw [hod] at this ⊢
      exact this
     exact IH _ h hn ρ W _ u KS hG hH hE' hm hk Γ F _ c0 cs w' Q is' (he.putO u1 (zqu hd)) hu hh' hq his'
   ·cases h
  ·cases h
theorem goDCode_ok (hmix : P.follows .mixedOrders = true) (IH : ∀ t, ih t = true -> TaskOk P G t) {nt : Nat} {c : Code} {rc : Option V} {kr : KR} (h : goDCode G ih nt c env hp rc kr = true) : TaskOk P G (.dcode nt c env hp rc kr) := by
 intro hn ρ W L u KS hG hH hE hm hk
 unfold goDCode at h
 split at h
 ·exact GoS.seq (IH _ h hn ρ W L u _ hG hH hE hm (dseqK_rel IH hn hG hk))
 ·unfold goDCond at h
  split at h
  ·rename_i hc
   obtain ⟨uc, h1, h2⟩ := evO_ok hG hE hc
   cases h2
   intro Γ F a c0 cs w Q he hu hh hq
   exact wpSIn_cond (he.eval h1) (IH _ h hn ρ W L u KS hG hH hE hm hk Γ F a c0 cs w Q he hu hh hq)
  ·rename_i hc
   obtain ⟨uc, h1, h2⟩ := evO_ok hG hE hc
   cases h2
   intro Γ F a c0 cs w Q he hu hh hq
   exact wpSIn_cond (he.eval h1) (IH _ h hn ρ W L u KS hG hH hE hm hk Γ F a c0 cs w Q he hu hh hq)
  ·cases h
 ·rename_i id arr2 dr
  split at h
  ·intro Γ F a c0 cs w Q he hu hh hq
   refine wpSIn_region (IH _ h hn ρ W L u KS hG hH hE hm hk Γ F a c0 cs w Q _ he hu hh hq ?_)
   have := range_map arr2.toList
   simpa using this
  ·cases h
  ·exact plain_ok IH hn hG hH hE hm hk h
 ·exact plain_ok IH hn hG hH hE hm hk h
theorem zjV {rc : Option V} {u : FrameMode} (h : MRel ρ rc u) : MRel0 ρ rc (settle u) := by
 cases rc with
 | none =>
  rcases h with rfl | ⟨y, rfl⟩
  ·rfl
  ·simp [settle, MRel0]
 | some v =>
  obtain ⟨y, h1, rfl⟩ := h
  exact ⟨y, h1, rfl⟩
theorem MRel0.rel {rc : Option V} {u : FrameMode} (h : MRel0 ρ rc u) : MRel ρ rc u := by
 cases rc with
 | none => exact .inl h
 | some v => exact h
theorem MRel0.run {rc : Option V} {u : FrameMode} (h : MRel0 ρ rc u) : u ≠ .run := by
 cases rc with
 | none => rw [show u = _ from h]; simp
 | some v => obtain ⟨y, _, rfl⟩ := h; simp
theorem argE_get : ∀ (l : List V) (i : Nat) (t : Tr V) (j : Nat), i + l.length + 1 < 2 ^ 20 -> (argE i l t).get j = if i <= j /\ j < i + l.length then l[j - i]? else t.get j
 | [], i, t, j, h => by
  rw [if_neg (by simp only [List.length_nil]; omega)]; rfl
 | v :: l, i, t, j, h => by
  simp only [List.length_cons] at h
  rw [argE, argE_get l (i + 1) _ j (by omega), Tr.get_set _ _ _ _ _ (by omega)]
  by_cases hj : j = i
  ·subst hj
   rw [if_neg (by omega), if_pos rfl, if_pos (by simp)]
   simp
  ·rw [if_neg hj]
   by_cases h2 : i + 1 <= j /\ j < i + 1 + l.length
   ·rw [if_pos h2, if_pos (by simp; omega)]
    rw [show j - i = (j - (i + 1)) + 1 by omega]
    simp
   ·rw [if_neg h2, if_neg (by simp; omega)]
theorem argE_ok {args : List V} {us : List Value} {nt : Nat} (h : RL ρ args us) (hs : small nt = true) (hl : Nat.ble args.length nt = true) : RE ρ (argE 0 args .nil) (argL 0 us) := by
 intro t v e
 have h1 := blt_tt hs
 have h2 := Nat.le_of_ble_eq_true hl
 rw [argE_get args 0 .nil t (by omega)] at e
 split at e
 ·simp only [Nat.sub_zero] at e
  obtain ⟨u, h3, h4⟩ := h.get e
  have := lk_argL' us 0 t u h3
  exact ⟨u, by simpa using this, h4⟩
 ·cases e
theorem goLeave_ok (IH : ∀ t, ih t = true -> TaskOk P G t) (hNG : ∀ (f : Nat) (fn : Func), P.funcs[f]? = some fn -> (fn.name == "runtime.NumGoroutine") = false) {fn : Func} {mode : Option V} {ke : KE} (h : goLeave P ih fn dv mode env hp ke = true) : TaskOk P G (.leave fn dv mode env hp ke) := by
 intro ρ W ds u Post hG hH hds hm hk Γ F tmps w hT hh
 unfold goLeave at h
 split at h
 ·rw [show ds = [] from hds]
  split at h
  ·rw [show u = .returning from hm]
   split at h
   ·rename_i v hv
    obtain ⟨x, h1, h2⟩ := results_ok hH hT hv
    exact ⟨x, h2 Γ F w hh, _, hk (.ret v) hp ρ W (.returned x) (.refl hH) h1 h, hh⟩
   ·cases h
  ·rename_i v
   obtain ⟨y, hy, rfl⟩ := hm
   exact ⟨_, hk (.pan v) hp ρ W (.panicked _) (.refl hH) ⟨y, hy, rfl⟩ h, hh⟩
 ·rename_i id dv
  obtain ⟨d, ds', ⟨b, c, hb, htar⟩, hrest, rfl⟩ := hds
  split at h
  ·rename_i hp' hc hput
   have hro := zqA hput
   obtain ⟨hs, rfl⟩ := zqB hput
   obtain ⟨b', o, hW, ⟨c', hb'⟩, rfl⟩ := hH.rel _ _ hc
   rw [hb] at hb'; cases hb'
   have hbl := hh.block (zqf (hH.lt hc) hW)
   have nx : Nx ρ hp W ρ (hp.put id none) (upd W id none) := ⟨Rho.le_refl _, hH.kill hs, rfl, Stay.put hro⟩
   refine ⟨hm.run, .inl ⟨b, _, htar, run_takeDeferred hbl, ?_⟩⟩
   exact IH _ h ρ _ ds' u Post hG nx.hr hrest hm (hk.at nx) Γ F tmps _ hT (zkd (hH.lt hc) hW hh)
  ·cases h
 ·rename_i f args dv
  obtain ⟨d, ds', ⟨fv, cap, us, htar, hus, hinv⟩, hrest, rfl⟩ := hds
  split at h
  ·rename_i fd hf
   split at h
   ·rename_i c hb hres hlen hsm
    have hc : zqK P f := ⟨fd, hf, by rw [hb]; rfl, hNG f fd hf⟩
    refine ⟨hm.run, .inr ⟨λ h => (by cases h), fv, cap, f, us.toArray, htar, hinv hc w, λ _ _ => trivial, ?_⟩⟩
    refine callsDIn_of_wpSIn hf hb trivial λ c0 cs hu => ?_
    have hlen' : us.length <= fd.ntmps := by rw [hus.length]; exact Nat.le_of_ble_eq_true hlen
    have t1 := IH _ h hsm ρ W (argL 0 us) u (λ e u' L' H' => (e = .normal \/ e = .ret) /\ ∀ w', Hold Γ H' F w' -> LeavesInM Fence.wide 0 P fn tmps (λ e w' => ∃ H', Post e H' /\ Hold Γ H' F w') ds' (settle u') w') hG hH (argE_ok hus hsm hlen) hm.rel (by
     intro o rc env' hp' ρ' W' u' L' out nx hE' hm' ho hk'
     unfold defK at hk'
     have hT' : RT ρ' env tmps := hT.mono nx.le
     split at hk'
     ·cases out <;> first | exact ho.elim | skip
      exact ⟨.inl rfl, λ w' hh' => IH _ hk' ρ' W' ds' (settle u') Post (hG.mono nx.le) nx.hr (hrest.mono nx.le) (zjV hm') (hk.at nx) Γ F tmps w' hT' hh'⟩
     ·cases out <;> first | exact ho.elim | skip
      exact ⟨.inr rfl, λ w' hh' => IH _ hk' ρ' W' ds' (settle u') Post (hG.mono nx.le) nx.hr (hrest.mono nx.le) (zjV hm') (hk.at nx) Γ F tmps w' hT' hh'⟩
     ·cases hk')
    refine t1 Γ F _ c0 cs w _ (zkk us fd.ntmps hlen') hu hh λ e u' L' H' a' w' kk he' hh' => ?_
    have hr0 : (results fd a'.tmps).run P w' = .ok (.tuple #[]) w' := by
     have : fd.results = #[] := by apply Array.ext'; simpa using hres
     simp [results, this]
    obtain ⟨he, kk⟩ := kk
    rcases he with rfl | rfl
    ·exact ⟨he'.defs, u', rfl, _, hr0, kk w' hh'⟩
    ·exact ⟨he'.defs, u', rfl, _, hr0, kk w' hh'⟩
   ·cases h
  ·cases h
theorem goFn_ok (IH : ∀ t, ih t = true -> TaskOk P G t) (hNG : ∀ (f : Nat) (fn : Func), P.funcs[f]? = some fn -> (fn.name == "runtime.NumGoroutine") = false) {f : Nat} {args : List V} {ke : KE} (h : goFn ih f P.funcs[f]? args hp ke = true) : TaskOk P G (.call f args hp ke) := by
 unfold goFn at h
 split at h
 ·rename_i fn hf
  split at h
  ·rename_i c hb hlen hsm
   refine ⟨⟨fn, hf, by rw [hb]; rfl, hNG f fn hf⟩, λ ρ W us Post hG hH hus hk Γ F w hh => ?_⟩
   refine (callsIn_wide (n := 0)).1 (callsIn_of_wp_marks hf hb trivial ?_)
   have hlen' : us.length <= fn.ntmps := by rw [hus.length]; exact Nat.le_of_ble_eq_true hlen
   have t1 := IH _ h ρ W [] (argL 0 us) (λ out ds' L' H' => ∀ a' w', Env a' fn.ntmps ds' L' -> Hold Γ H' F w' -> bodyPostM Fence.wide 0 P fn (λ e w' => ∃ H', Post e H' /\ Hold Γ H' F w') out.exitOf a' w') none hG hH (argE_ok hus hsm hlen) ⟨hsm, trivial⟩ (by
    intro o dv' env' hp' ρ' W' ds' L' out nx hE' dx ho hk' a' w' he' hh'
    unfold endK at hk'
    split at hk'
    ·cases out <;> first | exact ho.elim | skip
     show LeavesInM _ _ _ _ _ _ a'.defers .returning w'
     rw [he'.defs]
     exact IH _ hk' ρ' W' ds' .returning Post (hG.mono nx.le) nx.hr dx.base rfl (hk.at nx) Γ F a'.tmps w' (hE'.rt he') hh'
    ·cases out <;> first | exact ho.elim | skip
     show LeavesInM _ _ _ _ _ _ a'.defers .returning w'
     rw [he'.defs]
     exact IH _ hk' ρ' W' ds' .returning Post (hG.mono nx.le) nx.hr dx.base rfl (hk.at nx) Γ F a'.tmps w' (hE'.rt he') hh'
    ·cases out <;> first | exact ho.elim | skip
     rename_i ch
     show LeavesInM _ _ _ _ _ _ a'.defers (.panicking ch) w'
     rw [he'.defs]
     obtain ⟨y, hy, rfl⟩ := ho
     exact IH _ hk' ρ' W' ds' _ Post (hG.mono nx.le) nx.hr dx.base ⟨y, hy, rfl⟩ (hk.at nx) Γ F a'.tmps w' (hE'.rt he') hh'
    ·cases hk')
   exact t1 Γ F _ w _ (zkk us fn.ntmps hlen') hh λ e ds L H a w kk he hh => kk a w he hh
  ·cases h
 ·cases h
def KPost (ρ : Rho) (hp : Mem) (W : RW) : KRes -> Ending -> List SP -> Prop
 | .val v, e, H' => ∃ u, e = .returned u /\ R ρ v u /\ ∀ x, sep H' x -> sep (spl hp.n W) x
 | .map es clk, e, H' => ∃ b es', e = .returned (.map (some b)) /\ REs ρ es es' /\ ∀ x, sep H' x -> sep (pt b (.map es'.toArray clk) :: spl hp.n W) x
def KnC (P : Program) (G : GV) (f : Nat) (args : List V) (r : KRes) : Prop :=
 zqK P f /\ ∀ ρ W hp us, GOk ρ G -> HR ρ hp W -> knMem hp G.vs = true -> RL ρ args us -> Z.Fn P f us (spl hp.n W) (KPost ρ hp W r)
def KnOk (P : Program) (G : GV) : Prop := ∀ f args r, lookK G.kn f args = some r -> KnC P G f args r
theorem zks {f : Nat} {args : List Value} {H R : List SP} {Post : Ending -> List SP -> Prop} (h : Z.Fn P f args H Post) : Z.Fn P f args (H ++ R) (λ e H' => ∃ H1, Post e H1 /\ H' = H1 ++ R) := by
 intro Γ F w hh
 have h1 := h Γ _ w (hh.inn (Hc := H) (Hr := R) λ x hx => hx)
 refine (callsIn_wide (n := 0)).1 (((callsIn_wide (n := 0)).2 h1).mono λ e w' ⟨H1, p, hh'⟩ => ⟨H1 ++ R, ⟨H1, p, rfl⟩, hh'.out⟩)
theorem Fn_down {f : Nat} {args : List Value} {H : List SP} {Post Post' : Ending -> List SP -> Prop} (h : Z.Fn P f args H Post) (k : ∀ e H', Post e H' -> ∃ H'', Post' e H'' /\ ∀ x, sep H' x -> sep H'' x) : Z.Fn P f args H Post' := by
 intro Γ F w hh
 refine (callsIn_wide (n := 0)).1 (((callsIn_wide (n := 0)).2 (h Γ F w hh)).mono λ e w' ⟨H1, p, hh'⟩ => ?_)
 obtain ⟨H2, p2, s⟩ := k e H1 p
 exact ⟨H2, p2, hh'.weaken s⟩
theorem knGet_ok {f : Nat} {args : List V} {r : KRes} (h : knGet G f args hp = some r) : lookK G.kn f args = some r /\ knMem hp G.vs = true := by
 unfold knGet at h
 split at h
 ·rename_i r' hr
  split at h
  ·rename_i hm; cases h; exact ⟨hr, hm⟩
  ·cases h
 ·cases h
theorem kn_ok (hKN : KnOk P G) {f : Nat} {args : List V} {r : KRes} (hr : knGet G f args hp = some r) :
  zqK P f /\ ∀ ρ W us Post, GOk ρ G -> HR ρ hp W -> RL ρ args us -> (∀ v, r = .val v -> ∀ en, EndRel ρ (.ret v) en -> Post en (spl hp.n W)) ->
   (∀ es clk, r = .map es clk -> ∀ b es', REs ρ es es' -> (∀ h, hp.newS (.map es clk) = some h -> ∃ W', Nx ρ hp W (upd ρ hp.n (some (b, 0))) h W' /\ (∀ x, sep (pt b (.map es'.toArray clk) :: spl hp.n W) x -> sep (spl h.n W') x)) -> ∃ H'', Post (.returned (.map (some b))) H'' /\ ∀ x, sep (pt b (.map es'.toArray clk) :: spl hp.n W) x -> sep H'' x) ->
   Z.Fn P f us (spl hp.n W) Post := by
 obtain ⟨h1, h2⟩ := knGet_ok hr
 obtain ⟨hc, spec⟩ := hKN f args r h1
 refine ⟨hc, λ ρ W us Post hG hH hus hv hm => ?_⟩
 refine Fn_down (spec ρ W hp us hG hH h2 hus) λ e H' hp' => ?_
 cases r with
 | val v =>
  obtain ⟨u, rfl, hu, s⟩ := hp'
  exact ⟨_, hv v rfl (.returned u) hu, s⟩
 | map es clk =>
  obtain ⟨b, es', rfl, hes, s⟩ := hp'
  obtain ⟨H'', p, s2⟩ := hm es clk rfl b es' hes (λ h hn => by
   obtain ⟨hs, rfl⟩ := zqw hn
   exact ⟨upd W hp.n (some (b, .map es'.toArray clk)), ⟨zqm hH _, hH.new hs ⟨⟨0, zqe⟩, es', rfl, hes.mono (zqm hH _)⟩, rfl, Stay.new hH⟩, λ x hx => zjf (b := b) (o := .map es'.toArray clk) x hx⟩)
  exact ⟨H'', p, λ x hx => s2 x (s x hx)⟩
theorem goCall_ok (IH : ∀ t, ih t = true -> TaskOk P G t) (hNG : ∀ (f : Nat) (fn : Func), P.funcs[f]? = some fn -> (fn.name == "runtime.NumGoroutine") = false) (hKN : KnOk P G) {f : Nat} {args : List V} {ke : KE} (h : goCall G ih f P.funcs[f]? args hp ke = true) : TaskOk P G (.call f args hp ke) := by
 unfold goCall at h
 split at h
 ·rename_i v hr
  obtain ⟨hc, spec⟩ := kn_ok hKN hr
  refine ⟨hc, λ ρ W us Post hG hH hus hk => spec ρ W us Post hG hH hus (λ v' hv en hen => ?_) (λ es clk he => by cases he)⟩
  cases hv
  exact hk (.ret v) hp ρ W en (.refl hH) hen h
 ·rename_i es clk hr
  obtain ⟨hc, spec⟩ := kn_ok hKN hr
  refine ⟨hc, λ ρ W us Post hG hH hus hk => spec ρ W us Post hG hH hus (λ v' hv => by cases hv) (λ es' clk' he b es2 hes hnew => ?_)⟩
  cases he
  split at h
  ·rename_i hp' hn
   obtain ⟨W', nx, s⟩ := hnew hp' hn
   refine ⟨_, hk (.ret (.map hp.n)) hp' _ W' (.returned (.map (some b))) nx ⟨b, 0, zqe, rfl⟩ h, s⟩
  ·cases h
 ·exact goFn_ok IH hNG h
structure LS where
 f : Nat
 dv : List DV
 env : Tr V
 hp : Mem
 ρ : Rho
 W : RW
 ds : List Deferred
 L : Lo
theorem goLoop_ok {f : Nat} (IH : ∀ j, j <= f -> ∀ t, go P G j t = true -> TaskOk P G t) {c : Code} (h : go P G f (.code fi c dv env hp (seqK (go P G f) fi (.loop c) k)) = true) : TaskOk P G (.code fi (.loop c) dv env hp k) := by
 intro ρ W ds L K ro hG hH hE hF hk
 refine Go.loopD (α := LS) LS.ds LS.L (λ x => spl x.hp.n x.W) (λ x => x.f <= f /\ go P G x.f (.code fi c x.dv x.env x.hp (seqK (go P G x.f) fi (.loop c) k)) = true /\ Nx ρ hp W x.ρ x.hp x.W /\ RE x.ρ x.env x.L /\ DExt P x.ρ dv ds x.dv x.ds) LS.f
  ⟨f, dv, env, hp, ρ, W, ds, L⟩ ⟨Nat.le_refl _, h, .refl hH, hE, .refl⟩ ?_
 rintro ⟨j, dv1, env1, hp1, ρ1, W1, ds1, L1⟩ ⟨hj, hgo, nx, hE1, dx⟩
 simp only at hj hgo nx hE1 dx ⊢
 refine IH j hj _ hgo ρ1 W1 ds1 L1 _ ro (hG.mono nx.le) nx.hr hE1 (hF.mono nx.le) ?_
 intro o dv2 env2 hp2 ρ2 W2 ds2 L2 out nx2 hE2 dx2 ho hk2
 cases o <;> cases out <;> first | exact ho.elim | skip
 ·cases j with
  | zero => cases hk2
  | succ i =>
   exact ⟨⟨i, dv2, env2, hp2, ρ2, W2, ds2, L2⟩, ⟨by show i <= f; omega, hk2, nx.trans nx2, hE2, (dx.mono nx2.le).trans dx2⟩, by show i < i + 1; omega, rfl, rfl, rfl⟩
 all_goals exact hk _ _ _ _ _ _ _ _ _ (nx.trans nx2) hE2 ((dx.mono nx2.le).trans dx2) ho hk2
theorem go_sound (hmix : P.follows .mixedOrders = true) (hNG : ∀ (f : Nat) (fn : Func), P.funcs[f]? = some fn -> (fn.name == "runtime.NumGoroutine") = false) (hKN : KnOk P G) : ∀ (f : Nat) (t : Task), go P G f t = true -> TaskOk P G t := by
 intro f
 induction f using Nat.strongRecOn with
 | _ f ih =>
  intro t h
  cases f with
  | zero => cases h
  | succ f =>
   have IH : ∀ j, j <= f -> ∀ t, go P G j t = true -> TaskOk P G t := λ j hj => ih j (by omega)
   have h : goTask P G (go P G f) t = true := h
   cases t with
   | code fi c ds env hp k =>
    by_cases hl : ∃ b, c = .loop b
    ·obtain ⟨b, rfl⟩ := hl
     exact goLoop_ok IH h
    ·exact goCode_ok hmix (IH f (Nat.le_refl _)) (λ b hb => hl ⟨b, hb⟩) h
   | ops fi arr l ds env hp k => exact goOps_ok (IH f (Nat.le_refl _)) h
   | draw fi arr pi ro ds env hp k => exact goDraw_ok (IH f (Nat.le_refl _)) h
   | call f' args hp k => exact goCall_ok (IH f (Nat.le_refl _)) hNG hKN h
   | leave fn ds mode env hp k => exact goLeave_ok (IH f (Nat.le_refl _)) hNG h
   | dcode nt c env hp rc k => exact goDCode_ok hmix (IH f (Nat.le_refl _)) h
   | dops nt arr l env hp rc k => exact goDOps_ok (IH f (Nat.le_refl _)) h
end
end
end Go.Y
namespace Go.Y
open Go.Z
noncomputable section
def nomem : Mem := ⟨0, .nil, []⟩
def norhoX (X : Hp) : Rho := ⟨λ _ => none, X⟩
abbrev noW (X : Hp) : RW := ⟨λ _ => none, X⟩
def norho : Rho := norhoX Hp.nil
theorem zja {X : Hp} {ρ : Rho} (h : Hp.le X ρ.x) : (norhoX X).le ρ := ⟨λ id x e => (by cases e), h⟩
theorem norho_le0 {ρ : Rho} : norho.le ρ := zja λ b o e => (by cases e)
instance noExt : Ext := ⟨λ _ => none⟩
theorem sep_noExt {H : List SP} {x : Hp} (h : sep H x) : sep (extSP Hp.nil :: H) x := ⟨Hp.nil, x, λ _ => .inl rfl, (Hp.nil_un _).symm, (λ b o (e : none = some o) => nomatch e), h⟩
theorem extSP_le {X Y : Hp} (le : Hp.le X Y) {h : Hp} (hy : extSP Y h) : extSP X h := λ b o e => hy b o (le b o e)
theorem zkw {X Y : Hp} (le : Hp.le X Y) {x : Hp} (h : sep [extSP Y] x) : sep [extSP X] x := zqd (λ _ y => extSP_le le y) (λ _ y => y) h
section
theorem zqh {P : Program} {t : Tr Nat} {vs : List (Nat × List V)} : KnOk P ⟨t, [], vs⟩ := λ f a v h => by cases h
end
open Go.RowKit
section
open Go.RowKit Go.ChangeShapes
variable {H : Type} {enc : TypeId × Value -> H} {P : Program}
theorem zjO (hl : laidOutB P = true) {W W' : World} (hb : Below W.heap.size W W') : ∀ {ts : List TypeId} {vs : List Value} {ds : List (DataW H)} {ps : List MemPlace}, (ts.all λ t => P.readableRec t && decide (t < P.types.size)) = true ->
  DataW.TrodAll enc P W 0 (λ _ => true) true ts vs ds ps -> (∀ x ∈ ps, x.block < W.heap.size) -> DataW.TrodAll enc P W' 0 (λ b => decide (b < W.heap.size)) true ts vs ds ps
 | [], [], [], ps, _, h, _ => h
 | t :: ts, v :: vs, d :: ds, ps, hr, h, hlt => by
  obtain ⟨p, q, h1, h2, rfl⟩ := h
  simp only [List.all_cons, Bool.and_eq_true, decide_eq_true_eq] at hr
  exact ⟨p, q, Below.trod hl hr.1.1 hr.1.2 h1 hb (λ x hx => hlt x (by simp [hx])), zjO hl hb hr.2 h2 (λ x hx => hlt x (by simp [hx])), rfl⟩
 | [], _ :: _, _, _, _, h, _ => h.elim
 | [], [], _ :: _, _, _, h, _ => h.elim
 | _ :: _, [], _, _, _, h, _ => h.elim
 | _ :: _, _ :: _, [], _, _, h, _ => h.elim
theorem law_post {f : Func} {s : ChangeSpec} {apart fresh handsOn : Bool} {W W' : World} {args : Array Value} {ds gs : List (DataW H)} {before : List MemPlace} {tb : TypeId}
  (hl : laidOutB P = true) (hr : (f.params.toList.all λ t => P.readableRec t && decide (t < P.types.size)) = true) (hres : f.resultTypes = #[tb]) (htb : P.underlying tb = some .bool) (hv : s.vars = [])
  (hW : DataW.Whole enc P f.params.toList s.vars apart W args.toList ds gs before) (hs : s.fn H (ds ++ gs) = { results := [.lit (.bool true)], args := ds }) (hb : Below W.heap.size W W') :
  s.post enc P f apart fresh handsOn false W args (.bool true) W' := by
 have hlt : ∀ x ∈ before, x.block < W.heap.size := λ x hx => by simpa using hW.lt x hx
 have hW' := hW
 obtain ⟨p, q, hA, hV, rfl, _, _⟩ := hW
 rw [hv] at hV
 have hq : q = [] := by
  cases gs with
  | nil => exact hV
  | cons g r => exact absurd hV (by intro h; cases h)
 subst hq
 refine ⟨ds, gs, _, [], p, [], hW', ?_, ?_, ?_, hb.frame _, λ h => by cases h⟩
 ·rw [hs, hres]; exact trodAll_mk1 (shut_bool htb true)
 ·rw [hs]; exact zjO hl hb hr hA (λ x hx => hlt x (by simp [hx]))
 ·rw [hs, hv]; rfl
end
end
end Go.Y
