/- Relations of the machine's states; rules for calls of methods, of the extern, of what is deferred, of rounds. -/
import Derived.Test.YtlboeehapelabaaDoorYj
set_option linter.unusedVariables false
set_option linter.unusedSimpArgs false
namespace Go.Y
open Go.Z
noncomputable section
/-! ### Relations -/
def DRel (P : Program) (ρ : Rho) : DV → Deferred → Prop
  | .mark id, d => ∃ b c, ρ id = some (b, c) ∧ d.target = .collected b
  | .call f vs, d => ∃ fv cap us, d.target = .fn fv cap ∧ RL ρ vs us ∧ (Callable P f → ∀ w, (invoke d.target d.args).run P w = .ok (.enter f us.toArray) w)
def DsRel (P : Program) (ρ : Rho) : List DV → List Deferred → Prop
  | [], ds => ds = []
  | x :: l, ds => ∃ d ds', DRel P ρ x d ∧ DsRel P ρ l ds' ∧ ds = d :: ds'
theorem DRel.mono {P : Program} {ρ ρ' : Rho} (le : ρ.le ρ') {x : DV} {d : Deferred} (h : DRel P ρ x d) : DRel P ρ' x d := by
  cases x with
  | mark id => obtain ⟨b, c, h1, h2⟩ := h; exact ⟨b, c, le _ _ h1, h2⟩
  | call f vs => obtain ⟨fv, cap, us, h1, h2, h3⟩ := h; exact ⟨fv, cap, us, h1, h2.mono le, h3⟩
theorem DsRel.mono {P : Program} {ρ ρ' : Rho} (le : ρ.le ρ') : ∀ {l : List DV} {ds : List Deferred}, DsRel P ρ l ds → DsRel P ρ' l ds
  | [], _, h => h
  | x :: l, ds, h => by obtain ⟨d, ds', h1, h2, h3⟩ := h; exact ⟨d, ds', h1.mono le, DsRel.mono le h2, h3⟩
theorem DsRel.app {P : Program} {ρ : Rho} : ∀ {l l' : List DV} {ds ds' : List Deferred}, DsRel P ρ l ds → DsRel P ρ l' ds' → DsRel P ρ (l ++ l') (ds ++ ds')
  | [], _, _, _, h, h' => by rw [show _ = [] from h]; exact h'
  | x :: l, _, ds, _, h, h' => by obtain ⟨d, ds', h1, h2, rfl⟩ := h; exact ⟨d, _, h1, DsRel.app h2 h', rfl⟩
theorem DsRel.length {P : Program} {ρ : Rho} : ∀ {l : List DV} {ds : List Deferred}, DsRel P ρ l ds → ds.length = l.length
  | [], _, h => by rw [show _ = [] from h]; rfl
  | x :: l, _, h => by obtain ⟨d, ds', h1, h2, rfl⟩ := h; simp [DsRel.length h2]
/-- What has been deferred since. -/
def DExt (P : Program) (ρ : Rho) (dv0 : List DV) (ds0 : List Deferred) (dv : List DV) (ds : List Deferred) : Prop :=
  ∃ a b, dv = a ++ dv0 ∧ ds = b ++ ds0 ∧ DsRel P ρ a b
theorem DExt.refl {P : Program} {ρ : Rho} {dv : List DV} {ds : List Deferred} : DExt P ρ dv ds dv ds := ⟨[], [], rfl, rfl, rfl⟩
theorem DExt.mono {P : Program} {ρ ρ' : Rho} (le : ρ.le ρ') {dv0 dv : List DV} {ds0 ds : List Deferred} (h : DExt P ρ dv0 ds0 dv ds) : DExt P ρ' dv0 ds0 dv ds := by
  obtain ⟨a, b, h1, h2, h3⟩ := h; exact ⟨a, b, h1, h2, h3.mono le⟩
theorem DExt.trans {P : Program} {ρ : Rho} {dv0 dv dv' : List DV} {ds0 ds ds' : List Deferred} (h : DExt P ρ dv0 ds0 dv ds) (h' : DExt P ρ dv ds dv' ds') : DExt P ρ dv0 ds0 dv' ds' := by
  obtain ⟨a, b, rfl, rfl, h3⟩ := h; obtain ⟨a', b', rfl, rfl, h4⟩ := h'
  exact ⟨a' ++ a, b' ++ b, by simp, by simp, h4.app h3⟩
theorem DExt.same {P : Program} {ρ : Rho} {dv0 dv : List DV} {ds0 ds : List Deferred} (h : DExt P ρ dv0 ds0 dv ds) (hl : dv.length = dv0.length) : dv = dv0 ∧ ds = ds0 := by
  obtain ⟨a, b, rfl, rfl, h3⟩ := h
  have ha : a = [] := by cases a with | nil => rfl | cons x a => simp at hl; omega
  subst ha
  rw [show b = [] from h3]
  exact ⟨rfl, rfl⟩
theorem DExt.base {P : Program} {ρ : Rho} {dv : List DV} {ds : List Deferred} (h : DExt P ρ [] [] dv ds) : DsRel P ρ dv ds := by
  obtain ⟨a, b, rfl, rfl, h3⟩ := h; simpa using h3
def OutRel (ρ : Rho) : O → Out → Prop
  | .normal, .normal => True
  | .exit i, .exit j => i = j
  | .goto i, .goto j => i = j
  | .ret, .ret => True
  | .panic v, .panic ch => ∃ u, R ρ v u ∧ ch = [{ v := u, recovered := false }]
  | _, _ => False
def EndRel (ρ : Rho) : E → Ending → Prop
  | .ret v, .returned u => R ρ v u
  | .pan v, .panicked ch => ∃ u, R ρ v u ∧ ch = [{ v := u, recovered := false }]
  | _, _ => False
/-- A later state. -/
structure Nx (ρ0 : Rho) (hp0 : Mem) (W0 : RW) (ρ : Rho) (hp : Mem) (W : RW) : Prop where
  le : ρ0.le ρ
  hr : HR ρ hp W
  ro : hp.ro = hp0.ro
  st : Stay hp0 W0 W
theorem Nx.refl {ρ : Rho} {hp : Mem} {W : RW} (h : HR ρ hp W) : Nx ρ hp W ρ hp W := ⟨Rho.le_refl _, h, rfl, .refl⟩
theorem Stay.trans {hp hp' : Mem} {W W' W'' : RW} (h : Stay hp W W') (h' : Stay hp' W' W'') (hr : hp'.ro = hp.ro) : Stay hp W W'' := fun id hid => (h' id (by rw [hr]; exact hid)).trans (h id hid)
theorem Nx.trans {ρ0 ρ1 ρ2 : Rho} {hp0 hp1 hp2 : Mem} {W0 W1 W2 : RW} (h : Nx ρ0 hp0 W0 ρ1 hp1 W1) (h' : Nx ρ1 hp1 W1 ρ2 hp2 W2) : Nx ρ0 hp0 W0 ρ2 hp2 W2 :=
  ⟨Rho.le_trans h.le h'.le, h'.hr, h'.ro.trans h.ro, h.st.trans h'.st h.ro⟩
def KRel (P : Program) (k : KK) (ρ0 : Rho) (hp0 : Mem) (W0 : RW) (dv0 : List DV) (ds0 : List Deferred) (K : Kont) : Prop :=
  ∀ o dv env hp ρ W ds L out, Nx ρ0 hp0 W0 ρ hp W → RE ρ env L → DExt P ρ dv0 ds0 dv ds → OutRel ρ o out → k o dv env hp = true → K out ds L (spl hp.n W)
theorem KRel.at {P : Program} {k : KK} {ρ0 ρ1 : Rho} {hp0 hp1 : Mem} {W0 W1 : RW} {dv0 dv1 : List DV} {ds0 ds1 : List Deferred} {K : Kont} (h : KRel P k ρ0 hp0 W0 dv0 ds0 K) (nx : Nx ρ0 hp0 W0 ρ1 hp1 W1) (dx : DExt P ρ1 dv0 ds0 dv1 ds1) : KRel P k ρ1 hp1 W1 dv1 ds1 K :=
  fun o dv env hp ρ W ds L out n1 hE d1 ho hk => h o dv env hp ρ W ds L out (nx.trans n1) hE ((dx.mono n1.le).trans d1) ho hk
def KERel (k : KE) (ρ0 : Rho) (hp0 : Mem) (W0 : RW) (Post : Ending → List SP → Prop) : Prop :=
  ∀ e hp ρ W end_, Nx ρ0 hp0 W0 ρ hp W → EndRel ρ e end_ → k e hp = true → Post end_ (spl hp.n W)
theorem KERel.at {k : KE} {ρ0 ρ1 : Rho} {hp0 hp1 : Mem} {W0 W1 : RW} {Post : Ending → List SP → Prop} (h : KERel k ρ0 hp0 W0 Post) (nx : Nx ρ0 hp0 W0 ρ1 hp1 W1) : KERel k ρ1 hp1 W1 Post :=
  fun e hp ρ W en n1 hen hk => h e hp ρ W en (nx.trans n1) hen hk
def FIok (ρ : Rho) (fi : FI) (ro : Option Nat) : Prop := small fi.nt = true ∧ match fi.ro, ro with
  | none, none => True
  | some l, some b => ∃ c, ρ l = some (b, c)
  | _, _ => False
theorem FIok.mono {ρ ρ' : Rho} (le : ρ.le ρ') {fi : FI} {ro : Option Nat} (h : FIok ρ fi ro) : FIok ρ' fi ro := by
  refine ⟨h.1, ?_⟩
  have h2 := h.2
  split at h2
  · trivial
  · obtain ⟨c, h3⟩ := h2; exact ⟨c, le _ _ h3⟩
  · exact h2.elim
theorem dstC_ok {d : Option Nat} {n : Nat} (h : dstC d n = true) : dstOk d n = true := by cases d <;> exact h
theorem RE.putE {ρ : Rho} {env : Tr V} {L : Lo} (h : RE ρ env L) {d : Option Nat} {n : Nat} {v : V} {u : Value} (hd : dstC d n = true) (hn : small n = true) (hv : R ρ v u) : RE ρ (putE d v env) (putL d u L) := by
  cases d with
  | none => exact h
  | some t =>
    refine h.put ?_ hv
    have h1 := blt_tt hd
    have h2 := blt_tt hn
    simp only [small, Nat.blt_eq]
    omega
theorem wantsV_ok {ρ : Rho} {ops : Array Oper} {env : Tr V} {L : Lo} {o : Oper} {b : Bool} (hE : RE ρ env L) (h : wantsV ops env o = some b) : wants ops L o = some b := by
  unfold wantsV at h
  unfold wants
  cases hg : o.guard with
  | none => simp only [hg] at h ⊢; exact h
  | some q =>
    obtain ⟨j, c⟩ := q
    simp only [hg] at h ⊢
    cases hj : ops[j]? with
    | none => simp [hj] at h
    | some oj =>
      simp only [hj] at h
      cases hd : oj.dst with
      | none => simp [hd] at h
      | some t =>
        simp only [hd] at h
        simp only [Option.bind_some, hd]
        cases he : env.get t with
        | none => simp [he] at h
        | some v =>
          simp only [he] at h
          obtain ⟨u, h1, h2⟩ := hE _ _ he
          cases v <;> simp only [Option.some.injEq] at h <;> first | (cases h; done) | skip
          · cases h2; simp only [h1, h]
          · cases h2; simp only [h1, undef, h]
/-! ### Rules -/
section
variable {P : Program} {ro : Option Nat} {n : Nat} {ops : Array Oper} {r : List Oper} {ds : List Deferred} {L : Lo} {H H' : List SP} {K : Kont} {ρ : Rho} {W : RW} {G : GV} {env : Tr V} {hp hp' : Mem}
  {d : Nat} {dd : Option Nat} {T T' X Y t xt e sz by_ : TypeId} {p : String} {es : Array Edge} {g : Option (Nat × Bool)} {op : Op} {v : V} {u : Value} {x y z : Operand} {A : Option Addr} {m c : Nat} {cells : List Value} {C : SP}
theorem Ops.deferred {o : Oper} {cl : Call} (ho : o.op = .defer cl) {dr : Deferred} (hw : wants ops L o = some true) (ht : dstOk o.dst n = true)
    (hrun : ∀ Γ F a w, Env a n ds L → Hold Γ H F w → (resolve a.eval cl o.type).run P w = .ok dr w) (k : Ops P none n ops r (dr :: ds) (putL o.dst undef L) H K) : Ops P none n ops (o :: r) ds L H K := by
  intro Γ F a w Q he hh hq
  simp only [lw, wants_ok he hw, if_true]
  refine ⟨fun _ _ => trivial, ?_⟩
  have h1 : (o.semAt (fw none).round a.eval).run P w = .ok (.defer dr) w := by
    show (Oper.semAt none a.eval o).run P w = _
    rw [Oper.semAt_none]
    simp only [execOp, ho, Sem.run_bind, hrun Γ F a w he hh, Result.andThen_ok, Sem.run_pure]
  rw [h1, Oper.uponIn_defer]
  have he2 : Env { a with defers := dr :: a.defers } n (dr :: ds) L := ⟨he.size, by simp [he.defs], he.get⟩
  exact k Γ F _ w Q (he2.putO undef ht) hh hq
theorem method_run {name : String} {f : Nat} (h : methodV P t name = some f) (v : Value) (w : World) (k : Nat) : (method (k + 1) t v name).run P w = .ok (f, v) w := by
  unfold methodV at h
  split at h
  · rename_i i sd hi hs
    split at h
    · rename_i mm hm
      split at h
      · rename_i f' pr hpth hfn
        have hp0 : mm.path.toList = [] := by simpa using hpth
        have hti : (typeInfo t).run P w = .ok i w := by simp [typeInfo, hi]
        have hmm : i.methods.find? (fun x => x.name == name) = some mm := hm
        have key : (receiverAt t (.val v) pr (if mm.path.isEmpty then some ((name.splitOn ".").getLastD name) else none)).run P w = .ok v w ∧ f' = f := by
          split at h
          · cases h; exact ⟨by simp [receiverAt, underlying, hs, Place.get], rfl⟩
          · cases h
          · rename_i hnp
            cases h
            refine ⟨?_, rfl⟩
            cases sd <;> first | exact absurd rfl (hnp _) | simp [receiverAt, underlying, hs, Place.get]
          · cases h
        obtain ⟨key, rfl⟩ := key
        simp only [method, Sem.run_bind, hti, Result.andThen_ok, hmm, hp0, follow, Sem.run_pure, hfn, key]
      · cases h
    · cases h
  · cases h
theorem callFunc_run {f : Nat} (hc : Callable P f) (args : Array Value) (w : World) : (callFunc f args).run P w = .ok (.enter f args) w := by
  obtain ⟨fn, h1, h2, h3⟩ := hc
  have h3 : ¬ fn.name = "runtime.NumGoroutine" := by simpa using h3
  have h2 : ¬ fn.body = none := by cases h : fn.body <;> simp_all
  simp [callFunc, h1, h2, h3]
theorem Ops.invoke {name : String} {xs : Array Operand} {ts : Array TypeId} {f : Nat} {u : Value} {vs : List Value} {Hc Hr : List SP} {Post : Ending → List SP → Prop} (hc : Callable P f) (hm : methodV P t name = some f)
    (hw : wants ops L ⟨dd, .call { callee := .invoke x name, args := xs, argTypes := ts }, T, p, es, g⟩ = some true) (ht : dstOk dd n = true)
    (hx : evalL L x = some (.iface t u)) (hxs : evalAll L xs.toList = some vs) (spec : Z.Fn P f (u :: vs) Hc Post) (s : Split H Hc Hr)
    (k : ∀ e Hc', Post e Hc' → After P ro n ops r dd ds L Hr K e Hc') : Ops P ro n ops (⟨dd, .call { callee := .invoke x name, args := xs, argTypes := ts }, T, p, es, g⟩ :: r) ds L H K := by
  refine Ops.enter hw (by simp) ht (fun Γ F a w he hh => ?_) spec s k
  have hargs := evalAll_map he hxs
  have e1 : (#[Value.iface t u] ++ vs.toArray).extract 1 (#[Value.iface t u] ++ vs.toArray).size = vs.toArray := by
    apply Array.ext'; simp
  have e2 : (#[Value.iface t u] ++ vs.toArray)[0]? = some (Value.iface t u) := by simp
  have e3 : #[u] ++ vs.toArray = (u :: vs).toArray := by simp
  have hmr := fun w => method_run (P := P) hm u w (P.types.size + 99)
  simp only [execOp, resolve, Sem.run_bind, he.eval hx, hargs, Sem.run_pure, Result.andThen_ok, Go.invoke, e2, e1, callMethod, run_program]
  have : P.types.size + Made.depth = P.types.size + 99 + 1 := rfl
  rw [this]
  simp only [hmr, Result.andThen_ok, e3]
  exact callFunc_run hc _ w
/-- The one extern. -/
theorem clone_find {fn : Func} (h1 : fn.name = "maps.clone") (h2 : fn.origin = "") : Extern.findNext fn = none ∧ Extern.find fn = some Extern.MapsClone.clone := by
  have a1 : Extern.allNextRows.lookup "maps.clone" = none := by kernel_rfl
  have a2 : Extern.allNextRows.lookup "" = none := by kernel_rfl
  have a3 : Extern.allGenericRows.lookup "maps.clone" = none := by kernel_rfl
  have a4 : Extern.allTypedRows.lookup "maps.clone" = none := by kernel_rfl
  have a5 : Extern.allRows.lookup "maps.clone" = some Extern.MapsClone.clone := by kernel_rfl
  constructor
  · simp [Extern.findNext, h1, h2, a1, a2]
  · simp [Extern.find, h1, h2, a3, a4, a5]
theorem clone_run {f : Nat} {fn : Func} (hf : P.funcs[f]? = some fn) (hb : fn.body = none) (h1 : fn.name = "maps.clone") (h2 : fn.origin = "") {b : Nat} {es : Array MapEntry} {clk : Nat} {w : World} (hw : w.heap[b]? = some (.map es clk)) :
    (callFunc f #[.iface t (.map (some b))]).run P w = .ok (.value (.iface t (.map (some w.heap.size)))) { w with heap := w.heap.push (.map es clk) } := by
  obtain ⟨h3, h4⟩ := clone_find h1 h2
  rw [run_callFunc_extern hf (by rw [h1]; decide) (by simp [hb]) h3 h4]
  have e : Extern.MapsClone.clone #[.iface t (.map (some b))] = (getObj b >>= fun o => match o with
      | .map entries clock => (newObj (.map entries clock) >>= fun n => pure (.iface t (.map (some n))))
      | _ => stuck "maps.clone: a map expected") := rfl
  rw [e]
  simp only [Sem.run_bind, getObj_run hw, Result.andThen_ok, run_newObj, Sem.run_pure]
/-- A round of a range over a function. -/
theorem Ops.round {o : Oper} (hw : wants ops L o = some true) (hd : ∀ c, o.op ≠ .defer c) (ht : dstOk o.dst n = true) {b : Nat}
    (h : ∀ Γ F a w, Env a n ds L → Hold Γ H F w → ∃ f tmps assign body, (execOp a.eval o).run P w = .ok (.round b f tmps assign body) w ∧
      RoundIn (fw ro) 0 P b f tmps assign body w fun | .returned v, w' => ∃ H', Hold Γ H' F w' ∧ Ops P ro n ops r ds (putL o.dst v L) H' K | _, _ => False) :
    Ops P ro n ops (o :: r) ds L H K := by
  intro Γ F a w Q he hh hq
  simp only [lw, wants_ok he hw, if_true]
  refine ⟨fun _ _ => trivial, ?_⟩
  obtain ⟨f, tmps, assign, body, hrun, hR⟩ := h Γ F a w he hh
  rw [Oper.semAt_eq _ _ _ hd, hrun, Oper.uponIn_round]
  refine ⟨fun h => (by cases h), hR.mono fun e w' he' => ?_⟩
  cases e with
  | returned v =>
    obtain ⟨H', hh', k⟩ := he'
    exact k Γ F _ w' Q (he.putO v ht) hh' hq
  | panicked ch => exact he'.elim
  | outgrown => exact he'.elim
end
end
end Go.Y
