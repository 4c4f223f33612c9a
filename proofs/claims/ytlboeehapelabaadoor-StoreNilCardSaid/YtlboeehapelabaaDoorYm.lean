/- One operation of the machine. -/
import Derived.Test.YtlboeehapelabaaDoorYl
set_option linter.unusedVariables false
set_option linter.unusedSimpArgs false
namespace Go.Y
open Go.Z
noncomputable section
section
variable {P : Program} {ro : Option Nat} {n : Nat} {ops : Array Oper} {r : List Oper} {ds : List Deferred} {L : Lo} {H H' : List SP} {K : Kont} {ρ : Rho} {W : RW} {G : GV} {env : Tr V} {hp hp' : Mem}
  {d : Nat} {dd : Option Nat} {T T' X Y t xt e sz by_ : TypeId} {p : String} {es : Array Edge} {g : Option (Nat × Bool)} {op : Op} {v : V} {u : Value} {x y z : Operand} {A : Option Addr} {m c : Nat} {cells : List Value} {C : SP}
/-- What a step of the machine says of the real operation. -/
def StepOk (P : Program) (n : Nat) (ops : Array Oper) (o : Oper) (ρ : Rho) (hp : Mem) (W : RW) (L : Lo) : Step → Prop
  | .val v _ => ∀ ds, ∃ u, R ρ v u ∧ QStep P n ops o ds L (spl hp.n W) u
  | .outs outs => ∀ ro r ds K, Cont P ro n ops r ds L K ρ hp W o.dst outs → Ops P ro n ops (o :: r) ds L (spl hp.n W) K
  | .call f args => ∃ us, RL ρ args us ∧ ∀ ro r ds K Post, Callable P f → Z.Fn P f us (spl hp.n W) Post → (∀ e Hc', Post e Hc' → After P ro n ops r o.dst ds L [] K e Hc') → Ops P ro n ops (o :: r) ds L (spl hp.n W) K
  | .round l args => (∀ c, o.op ≠ .defer c) ∧ ∃ b c us, ρ l = some (b, c) ∧ RL ρ args us ∧ ∀ ds a w, Env a n ds L → (execOp a.eval o).run P w = (Instr.yield b us.toArray).run P w
  | .defer f args => ∃ dr, DRel P ρ (.call f args) dr ∧ ∀ r ds K, Ops P none n ops r (dr :: ds) (putL o.dst undef L) (spl hp.n W) K → Ops P none n ops (o :: r) ds L (spl hp.n W) K
  | .pan v => ∃ u, R ρ v u ∧ ∀ ro r ds K, K (.panic [{ v := u, recovered := false }]) ds L (spl hp.n W) → Ops P ro n ops (o :: r) ds L (spl hp.n W) K
  | .bad => True
theorem needD_ok {o : Oper} {dd : Option Nat} {s : Step} (h : ∀ d, dd = some d → StepOk P n ops o ρ hp W L s) : StepOk P n ops o ρ hp W L (needD dd s) := by
  cases dd with
  | none => trivial
  | some d => exact h d rfl
theorem needN_ok {o : Oper} {dd : Option Nat} {s : Step} (h : dd = none → StepOk P n ops o ρ hp W L s) : StepOk P n ops o ρ hp W L (needN dd s) := by
  cases dd with
  | some d => trivial
  | none => exact h rfl
theorem ofL_ok {o : Oper} {q : Option (List (V × Mem))} (h : ∀ outs, q = some outs → ∀ ro r ds K, Cont P ro n ops r ds L K ρ hp W o.dst outs → Ops P ro n ops (o :: r) ds L (spl hp.n W) K) : StepOk P n ops o ρ hp W L (ofL q) := by
  cases q with
  | none => trivial
  | some outs => exact h outs rfl
theorem ofQ_ok {o : Oper} {q : Option (V × List Nat)} (h : ∀ v rd, q = some (v, rd) → ∀ ds, ∃ u, R ρ v u ∧ QStep P n ops o ds L (spl hp.n W) u) : StepOk P n ops o ρ hp W L (ofQ q) := by
  cases q with
  | none => trivial
  | some q => obtain ⟨v, rd⟩ := q; exact h v rd rfl
theorem two_ok {o : Oper} {f : TypeId → Operand → Operand → Option (List (V × Mem))} {xs : List Operand} {ts : List TypeId}
    (h : ∀ x y t ts', xs = [x, y] → ts = t :: ts' → StepOk P n ops o ρ hp W L (ofL (f t x y))) : StepOk P n ops o ρ hp W L (two f xs ts) := by
  unfold two
  split
  · exact h _ _ _ _ rfl rfl
  · trivial
theorem extV_ok (hG : GOk ρ G) (hE : RE ρ env L) (hH : HR ρ hp W) {fo : Operand} {xs : Array Operand} {ts : Array TypeId} {f : Nat} {fn : Func} {a b args : List V} (hf : P.funcs[f]? = some fn) (hb : fn.body = none)
    (hw : wants ops L ⟨dd, .call { callee := .value fo, args := xs, argTypes := ts }, T, p, es, g⟩ = some true) (ht : dstOk dd n = true)
    {first cap vs : List Value} (hfo : evalL L fo = some (.func (.func f) first.toArray cap.toArray)) (hxs : evalAll L xs.toList = some vs) (hargs : RL ρ args (first ++ vs ++ cap)) :
    StepOk P n ops ⟨dd, .call { callee := .value fo, args := xs, argTypes := ts }, T, p, es, g⟩ ρ hp W L (extV fn.name fn.origin args hp) := by
  unfold extV
  split
  · rename_i hn
    simp only [Bool.and_eq_true, beq_iff_eq] at hn
    split
    · rename_i t id
      split
      · rename_i l clk hc
        refine ofL_ok fun outs h ro r ds K k => ?_
        refine Ops.of_run hw (by simp) ht (fun Γ F ac w he hh => ?_) k
        obtain ⟨hp', h1, rfl⟩ := one_ok h
        obtain ⟨hs, rfl⟩ := newS_ok h1
        obtain ⟨u1, us1, ⟨u2, ⟨b0, c0, hr0, rfl⟩, rfl⟩, hnil, heq⟩ := hargs
        rw [show us1 = [] from hnil] at heq
        obtain ⟨b', c', es', hW, hr', hes⟩ := hH.map hc
        rw [hr0] at hr'; cases hr'
        have hbb := hh.block (spl_pick (hH.lt hc) hW)
        obtain ⟨W', h2, h3, h4⟩ := hold_new (ch := .map l clk) (o := .map es'.toArray clk) hH hs hh ⟨⟨_, upd_same⟩, es', rfl, hes.mono (rho_new hH _)⟩
        refine ⟨_, List.mem_singleton.2 rfl, _, W', .iface t (.map (some w.heap.size)), _, ?_, h2, rho_new hH _, h3, ⟨_, ⟨_, _, upd_same, rfl⟩, rfl⟩, rfl, h4⟩
        have hm := evalAll_map he hxs
        have e1 : first.toArray ++ vs.toArray ++ cap.toArray = #[Value.iface t (.map (some b0))] := by
          apply Array.ext'; simpa using heq
        have hcl := clone_run hf hb hn.1 hn.2 (t := t) hbb
        simp only [execOp, resolve, he.eval hfo, hm, Deferred.ofValue, Sem.run_bind, Sem.run_pure, Result.andThen_ok, Go.invoke, e1, hcl]
      · trivial
    · trivial
  · trivial
theorem callF_ok (hG : GOk ρ G) (hE : RE ρ env L) (hH : HR ρ hp W) {fo : Operand} {xs : Array Operand} {ts : Array TypeId} {f : Nat} {args : List V}
    (hw : wants ops L ⟨dd, .call { callee := .value fo, args := xs, argTypes := ts }, T, p, es, g⟩ = some true) (ht : dstOk dd n = true)
    {first cap vs : List Value} (hfo : evalL L fo = some (.func (.func f) first.toArray cap.toArray)) (hxs : evalAll L xs.toList = some vs) (hargs : RL ρ args (first ++ vs ++ cap)) :
    StepOk P n ops ⟨dd, .call { callee := .value fo, args := xs, argTypes := ts }, T, p, es, g⟩ ρ hp W L (callF P f args hp) := by
  unfold callF
  split
  · rename_i fn hf
    split
    · refine ⟨_, hargs, fun ro r ds K Post hc spec k => ?_⟩
      exact Ops.callv hc hfo hw ht hxs (by simpa using spec) .all k
    · rename_i hb
      exact extV_ok (a := []) (b := []) hG hE hH hf hb hw ht hfo hxs hargs
  · trivial
theorem stepC_ok (hG : GOk ρ G) (hE : RE ρ env L) (hH : HR ρ hp W) {cl : Call} (hw : wants ops L ⟨dd, .call cl, T, p, es, g⟩ = some true) (ht : dstOk dd n = true) :
    StepOk P n ops ⟨dd, .call cl, T, p, es, g⟩ ρ hp W L (stepC P G env hp dd cl) := by
  obtain ⟨callee, xs, ts⟩ := cl
  unfold stepC
  cases callee with
  | builtin b =>
    have hq : ∀ s, s = needD dd (ofQ (quiet P G env hp (.call { callee := .builtin b, args := xs, argTypes := ts }))) → StepOk P n ops ⟨dd, .call { callee := .builtin b, args := xs, argTypes := ts }, T, p, es, g⟩ ρ hp W L s := by
      rintro s rfl
      refine needD_ok fun d hd => ofQ_ok fun v rd h ds => ?_
      subst hd
      exact quietA_spl hG hE hH hw ht (rd := rd) (by unfold quietA; exact h)
    cases b <;> first | exact hq _ rfl | skip
    · -- append
      refine needD_ok fun d hd => ?_
      subst hd
      show StepOk _ _ _ _ _ _ _ _ (appendV P G env hp xs.toList ts.toList)
      unfold appendV
      split
      · rename_i x y t xt hxs hts
        refine ofL_ok fun outs h ro r ds K k => ?_
        have e1 : xs = #[x, y] := by apply Array.ext'; simpa using hxs
        have e2 : ts = #[t, xt] := by apply Array.ext'; simpa using hts
        subst e1; subst e2
        exact lAppend_ok hG hE hH hw ht h k
      · trivial
    · -- copy
      dsimp only
      refine two_ok fun x y t ts' hxs hts => ofL_ok fun outs h ro r ds K k => ?_
      exact lCopy_ok hxs (by have := congrArg (·[0]?) hts; simpa using this) hG hE hH hw ht h k
    · dsimp only
      refine two_ok fun x y t ts' hxs hts => ofL_ok fun outs h ro r ds K k => ?_
      exact lDelete_ok hxs (by have := congrArg (·[0]?) hts; simpa using this) hG hE hH hw ht h k
  | value f =>
    dsimp only
    unfold callV
    split
    · rename_i f' a b vs hfo hxs
      obtain ⟨u, h1, a', b', ha, hb, rfl⟩ := evO_ok hG hE hfo
      obtain ⟨us, h2, h3⟩ := evOs_ok hG hE hxs
      exact callF_ok hG hE hH hw ht h1 h2 ((ha.append h3).append hb)
    · rename_i id vs hfo hxs
      obtain ⟨u, h1, b, c, hr, rfl⟩ := evO_ok hG hE hfo
      obtain ⟨us, h2, h3⟩ := evOs_ok hG hE hxs
      refine ⟨by simp, b, c, us, hr, h3, fun ds a w he => ?_⟩
      have hm := evalAll_map he h2
      simp only [execOp, resolve, he.eval h1, hm, Deferred.ofValue, Sem.run_bind, Sem.run_pure, Result.andThen_ok, Go.invoke]
      simp
    · trivial
  | invoke x name =>
    dsimp only
    unfold invokeV
    split
    · rename_i t v vs hx hxs
      split
      · rename_i f hm
        obtain ⟨u, h1, u', hu, rfl⟩ := evO_ok hG hE hx
        obtain ⟨us, h2, h3⟩ := evOs_ok hG hE hxs
        refine ⟨u' :: us, .cons hu h3, fun ro r ds K Post hc spec k => ?_⟩
        exact Ops.invoke hc hm hw ht h1 h2 spec .all k
      · trivial
    · trivial
theorem stepD_ok (hG : GOk ρ G) (hE : RE ρ env L) (hH : HR ρ hp W) {cl : Call} (hw : wants ops L ⟨dd, .defer cl, T, p, es, g⟩ = some true) (ht : dstOk dd n = true) :
    StepOk P n ops ⟨dd, .defer cl, T, p, es, g⟩ ρ hp W L (stepD G env cl) := by
  obtain ⟨callee, xs, ts⟩ := cl
  unfold stepD
  cases callee with
  | builtin b => trivial
  | invoke x name => trivial
  | value f =>
    dsimp only
    unfold deferV
    split
    · rename_i f' a b vs hfo hxs
      obtain ⟨u, h1, a', b', ha, hb, rfl⟩ := evO_ok hG hE hfo
      obtain ⟨us, h2, h3⟩ := evOs_ok hG hE hxs
      refine ⟨{ target := .fn (.func f') b'.toArray, args := a'.toArray ++ us.toArray }, ⟨_, _, a' ++ us ++ b', rfl, (ha.append h3).append hb, fun hc w => ?_⟩, fun r ds K k => ?_⟩
      · have := callFunc_run hc (a'.toArray ++ us.toArray ++ b'.toArray) w
        simp only [Go.invoke]
        rw [this]
        simp
      · refine Ops.deferred (cl := { callee := .value f, args := xs, argTypes := ts }) rfl hw ht (fun Γ F a w he hh => ?_) k
        have hm := evalAll_map he h2
        simp only [resolve, he.eval h1, hm, Deferred.ofValue, Sem.run_pure]
    · trivial
/-- **One operation.** -/
theorem step_ok (hG : GOk ρ G) (hE : RE ρ env L) (hH : HR ρ hp W) {o : Oper} (hw : wants ops L o = some true) (ht : dstOk o.dst n = true) : StepOk P n ops o ρ hp W L (stepV P G env hp o.dst o.op) := by
  obtain ⟨dd, op, T, p, es, g⟩ := o
  have hq : ∀ s, s = needD dd (ofQ (quietA P G env hp op)) → StepOk P n ops ⟨dd, op, T, p, es, g⟩ ρ hp W L s := by
    rintro s rfl
    refine needD_ok fun d hd => ofQ_ok fun v rd h ds => ?_
    subst hd
    exact quietA_spl hG hE hH hw ht h
  cases op <;> first | exact hq _ rfl | skip
  case alloc t => exact needD_ok fun d hd => ofL_ok fun outs h ro r ds K k => by subst hd; exact lAlloc_ok hH hw ht h k
  case box t x => exact needD_ok fun d hd => ofL_ok fun outs h ro r ds K k => by subst hd; exact lBox_ok hG hE hH hw ht h k
  case buildSlice t len parts =>
    cases len with
    | zero => exact needD_ok fun d hd => ofL_ok fun outs h ro r ds K k => by subst hd; exact lBuildEmpty_ok hH hw ht h k
    | succ len => exact needD_ok fun d hd => ofL_ok fun outs h ro r ds K k => by subst hd; exact lBuildSlice_ok hG hE hH hw ht h k
  case store t x y => exact needN_ok fun hd => ofL_ok fun outs h ro r ds K k => by subst hd; exact lStore_ok hG hE hH hw h k
  case makeSlice t x y => exact needD_ok fun d hd => ofL_ok fun outs h ro r ds K k => by subst hd; exact lMakeSlice_ok hG hE hH hw ht h k
  case makeMap t res => exact needD_ok fun d hd => ofL_ok fun outs h ro r ds K k => by subst hd; exact lMakeMap_ok hH hw ht h k
  case mapUpdate t x y z => exact needN_ok fun hd => ofL_ok fun outs h ro r ds K k => by subst hd; exact lMapUpdate_ok hG hE hH (.inl rfl) hw h k
  case insert t x y z => exact needN_ok fun hd => ofL_ok fun outs h ro r ds K k => by subst hd; exact lMapUpdate_ok hG hE hH (.inr rfl) hw h k
  case range t x => exact needD_ok fun d hd => ofL_ok fun outs h ro r ds K k => by subst hd; exact lRange_ok hG hE hH hw ht h k
  case next x s => exact needD_ok fun d hd => ofL_ok fun outs h ro r ds K k => by subst hd; exact lNext_ok hG hE hH hw ht h k
  case convert s t x =>
    refine needD_ok fun d hd => ?_
    subst hd
    unfold convV
    split
    · rename_i v rd h
      intro ds
      exact quietA_spl hG hE hH hw ht (rd := rd) (by unfold quietA; exact h)
    · split
      · rename_i l h
        exact fun ro r ds K k => lConv_ok hG hE hH hw ht h k
      · refine ofL_ok fun outs h ro r ds K k => ?_
        exact lSame_ok hH hw ht (fun v hv => evO_ok hG hE hv) h k
  case panic x =>
    show StepOk _ _ _ _ _ _ _ _ (panicV (evO G env x))
    unfold panicV
    split
    · rename_i t v hx
      obtain ⟨u, h1, u', hu, rfl⟩ := evO_ok hG hE hx
      exact ⟨.iface t u', ⟨u', hu, rfl⟩, fun ro r ds K k => Ops.panic h1 hw k⟩
    · trivial
  case call cl => exact stepC_ok hG hE hH hw ht
  case defer cl => exact stepD_ok hG hE hH hw ht
end
end
end Go.Y
