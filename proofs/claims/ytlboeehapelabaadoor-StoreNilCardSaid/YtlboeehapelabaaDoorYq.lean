/- Deferred calls that recover; leaving; calls; **the machine is sound**. -/
import Derived.Test.YtlboeehapelabaaDoorYp
set_option linter.unusedVariables false
set_option linter.unusedSimpArgs false
namespace Go.Y
open Go.Z
noncomputable section
section
variable {P : Program} {G : GV} {ih : Task → Bool} {fi : FI} {arr : Array Oper} {r : List Oper} {dd : Option Nat} {dv : List DV} {env : Tr V} {hp : Mem} {k : KK}
  {ρ : Rho} {W : RW} {ds : List Deferred} {L : Lo} {K : Kont} {ro : Option Nat}
/-! ### Deferred calls -/
theorem frame_self {c0 : Frame} {u : FrameMode} (h : c0.mode = u) : ({ c0 with mode := u } : Frame) = c0 := by subst h; rfl
/-- code that does not recover -/
theorem plain_ok (IH : ∀ t, ih t = true → TaskOk P G t) {nt : Nat} {c : Code} {rc : Option V} {kr : KR} (hn : small nt = true) {u : FrameMode} {KS : KontS} (hG : GOk ρ G) (hH : HR ρ hp W) (hE : RE ρ env L) (hm : MRel ρ rc u) (hk : KSRel kr ρ hp W KS)
    (h : ih (.code ⟨nt, none⟩ c [] env hp (keepK rc kr)) = true) : GoS P nt c u L (spl hp.n W) KS := by
  intro Γ F a c0 cs w Q he hu hh hq
  have t1 := IH _ h ρ W [] L (fun out ds' L' H' => ds' = [] ∧ KS out u L' H') none hG hH hE ⟨hn, trivial⟩ (by
    intro o dv' env' hp' ρ' W' ds' L' out nx hE' dx ho hk'
    unfold keepK at hk'
    split at hk'
    · have hds : ds' = [] := (dx.same rfl).2
      refine ⟨hds, hk o rc env' hp' ρ' W' u L' out nx hE' ?_ ho hk'⟩
      cases rc with
      | none => exact hm
      | some v => obtain ⟨y, h1, h2⟩ := hm; exact ⟨y, h1.mono nx.le, h2⟩
    · cases hk')
  refine wpSIn_of_wpIn rfl (t1 Γ F a w _ he hh fun e ds L H a w kk he hh => ?_)
  obtain ⟨rfl, kk⟩ := kk
  have := hq e u L H a w kk he hh
  rwa [frame_self hu] at this
theorem dseqK_rel (IH : ∀ t, ih t = true → TaskOk P G t) {nt : Nat} {b : Code} {kr : KR} (hn : small nt = true) {KS : KontS} (hG : GOk ρ G) (hk : KSRel kr ρ hp W KS) :
    KSRel (dseqK ih nt b kr) ρ hp W (fun out u L H => match out with | .normal => GoS P nt b u L H KS | e => KS e u L H) := by
  intro o rc env' hp' ρ' W' u L' out nx hE hm ho hk'
  cases o <;> cases out <;> first | exact ho.elim | skip
  · exact IH _ hk' hn ρ' W' L' u KS (hG.mono nx.le) nx.hr hE hm (hk.at nx)
  all_goals exact hk _ rc env' hp' ρ' W' u L' _ nx hE hm ho hk'
theorem GoS.seq {nt : Nat} {x y : Code} {u : FrameMode} {H : List SP} {KS : KontS} (h : GoS P nt x u L H (fun out u L H => match out with | .normal => GoS P nt y u L H KS | e => KS e u L H)) : GoS P nt (.seq x y) u L H KS := by
  intro Γ F a c0 cs w Q he hu hh hq
  refine wpSIn_seq (h Γ F a c0 cs w _ he hu hh fun e u' L' H' a' w' kk he' hh' => ?_)
  cases e with
  | normal =>
    refine kk Γ F a' { c0 with mode := u' } cs w' Q he' rfl hh' fun e2 u2 L2 H2 a2 w2 k2 he2 hh2 => ?_
    exact hq e2 u2 L2 H2 a2 w2 k2 he2 hh2
  | exit i => exact hq (.exit i) u' L' H' a' w' kk he' hh'
  | goto i => exact hq (.goto i) u' L' H' a' w' kk he' hh'
  | ret => exact hq .ret u' L' H' a' w' kk he' hh'
  | panic ch => exact hq (.panic ch) u' L' H' a' w' kk he' hh'
theorem isRecover_ok {o : Oper} (h : isRecover o = true) : ∃ xs ts, o.op = .call { callee := .builtin .recover, args := xs, argTypes := ts } := by
  unfold isRecover at h
  split at h
  · rename_i c hc
    split at h
    · rename_i hcc
      obtain ⟨cal, xs, ts⟩ := c
      dsimp only at hcc
      subst hcc
      exact ⟨xs, ts, hc⟩
    · cases h
  · cases h
theorem map_cons_inv {is : List Nat} {o : Oper} {r : List Oper} (e : is.map (arr[·]?) = (o :: r).map some) : ∃ i is', is = i :: is' ∧ arr[i]? = some o ∧ is'.map (arr[·]?) = r.map some := by
  cases is with
  | nil => simp at e
  | cons i is =>
    simp only [List.map_cons, List.cons.injEq] at e
    exact ⟨i, is, rfl, e.1, e.2⟩
theorem goDOps_ok (IH : ∀ t, ih t = true → TaskOk P G t) {nt : Nat} {l : List Oper} {rc : Option V} {kr : KR} (h : goDOps P G ih nt arr l env hp rc kr = true) : TaskOk P G (.dops nt arr l env hp rc kr) := by
  intro hn ρ W L u KS hG hH hE hm hk Γ F a c0 cs w Q is he hu hh hq his
  unfold goDOps at h
  split at h
  · have : is = [] := by simpa using his
    subst this
    have := hq .normal u L _ a w (hk .normal rc env hp ρ W u L .normal (.refl hH) hE hm trivial h) he hh
    rwa [frame_self hu] at this
  · rename_i o r
    obtain ⟨i, is', rfl, hi, his'⟩ := map_cons_inv his
    unfold goDOp at h
    have hwan : o.guard = none → Region.wanted o (yielded arr a.tmps) = true := by
      intro hg
      unfold Region.wanted
      rw [hg]
    simp only [wpOpsSIn, hi]
    refine ⟨fun _ _ => trivial, ?_⟩
    split at h
    · rename_i hd hrec hg
      rw [if_pos (hwan hg)]
      obtain ⟨xs, ts, hop⟩ := isRecover_ok hrec
      have hrun : (execOp a.eval o).run P w = .ok .recover w := by
        simp [execOp, hop, resolve, Go.invoke, builtin]
      rw [hrun]
      split at h
      · rename_i v
        obtain ⟨y, hy, rfl⟩ := hm
        have hrd : recoverD (c0 :: cs) = some (y, { c0 with mode := .panicking [{ v := y, recovered := true }] } :: cs) := by
          simp only [recoverD, hu]
        simp only [hrd]
        refine IH _ h hn ρ W _ (.panicking [{ v := y, recovered := true }]) KS hG hH (hE.putE hd hn hy) (.inr ⟨y, rfl⟩) hk Γ F _ { c0 with mode := .panicking [{ v := y, recovered := true }] } cs w Q is' (he.putO y (dstC_ok hd)) rfl hh (fun e2 u2 L2 H2 a2 w2 k2 he2 hh2 => hq e2 u2 L2 H2 a2 w2 k2 he2 hh2) his'
      · have hrd : recoverD (c0 :: cs) = none := by
          rcases hm with rfl | ⟨y, rfl⟩
          · simp only [recoverD, hu]
          · simp only [recoverD, hu]
        simp only [hrd]
        exact IH _ h hn ρ W _ u KS hG hH (hE.putE hd hn rfl) hm hk Γ F _ c0 cs w Q is' (he.putO .nilIface (dstC_ok hd)) hu hh hq his'
    · rename_i hd hrec hg
      rw [if_pos (hwan hg)]
      unfold goDOpQ at h
      split at h
      · rename_i v rd d hqv hod
        have hw : wants arr L o = some true := by unfold wants; rw [hg]
        obtain ⟨u1, hu1, hq1⟩ : ∃ u1, R ρ v u1 ∧ QStep P nt arr o [] L (spl hp.n W) u1 := by
          obtain ⟨od, oo, oT, opos, oes, og⟩ := o
          dsimp only at hod hqv
          subst hod
          exact quietA_spl hG hE hH hw (dstC_ok hd) hqv
        obtain ⟨_, ⟨hw2, _⟩ | ⟨_, hnd, hrun⟩⟩ := hq1
        · rw [hw] at hw2; cases hw2
        · obtain ⟨w', hr, hh'⟩ := hrun Γ F a w he hh
          simp only [hr]
          have hE' : RE ρ (Tr.set 20 env d (some v)) (putL o.dst u1 L) := by
            have := RE.putE (d := o.dst) hE hd hn hu1
            rw [hod] at this ⊢
            exact this
          exact IH _ h hn ρ W _ u KS hG hH hE' hm hk Γ F _ c0 cs w' Q is' (he.putO u1 (dstC_ok hd)) hu hh' hq his'
      · cases h
    · cases h
theorem goDCode_ok (hmix : P.follows .mixedOrders = true) (IH : ∀ t, ih t = true → TaskOk P G t) {nt : Nat} {c : Code} {rc : Option V} {kr : KR} (h : goDCode G ih nt c env hp rc kr = true) : TaskOk P G (.dcode nt c env hp rc kr) := by
  intro hn ρ W L u KS hG hH hE hm hk
  unfold goDCode at h
  split at h
  · exact GoS.seq (IH _ h hn ρ W L u _ hG hH hE hm (dseqK_rel IH hn hG hk))
  · unfold goDCond at h
    split at h
    · rename_i hc
      obtain ⟨uc, h1, h2⟩ := evO_ok hG hE hc
      cases h2
      intro Γ F a c0 cs w Q he hu hh hq
      exact wpSIn_cond (he.eval h1) (IH _ h hn ρ W L u KS hG hH hE hm hk Γ F a c0 cs w Q he hu hh hq)
    · rename_i hc
      obtain ⟨uc, h1, h2⟩ := evO_ok hG hE hc
      cases h2
      intro Γ F a c0 cs w Q he hu hh hq
      exact wpSIn_cond (he.eval h1) (IH _ h hn ρ W L u KS hG hH hE hm hk Γ F a c0 cs w Q he hu hh hq)
    · cases h
  · rename_i id arr2 dr
    split at h
    · intro Γ F a c0 cs w Q he hu hh hq
      refine wpSIn_region (IH _ h hn ρ W L u KS hG hH hE hm hk Γ F a c0 cs w Q _ he hu hh hq ?_)
      have := range_map arr2.toList
      simpa using this
    · cases h
    · exact plain_ok IH hn hG hH hE hm hk h
  · exact plain_ok IH hn hG hH hE hm hk h
/-! ### Leaving -/
theorem settle_ok {rc : Option V} {u : FrameMode} (h : MRel ρ rc u) : MRel0 ρ rc (settle u) := by
  cases rc with
  | none =>
    rcases h with rfl | ⟨y, rfl⟩
    · rfl
    · simp [settle, MRel0]
  | some v =>
    obtain ⟨y, h1, rfl⟩ := h
    exact ⟨y, h1, rfl⟩
theorem MRel0.rel {rc : Option V} {u : FrameMode} (h : MRel0 ρ rc u) : MRel ρ rc u := by
  cases rc with
  | none => exact .inl h
  | some v => exact h
theorem MRel0.run {rc : Option V} {u : FrameMode} (h : MRel0 ρ rc u) : u ≠ .run := by
  cases rc with
  | none => rw [show u = _ from h]; simp
  | some v => obtain ⟨y, _, rfl⟩ := h; simp
theorem argE_get : ∀ (l : List V) (i : Nat) (t : Tr V) (j : Nat), i + l.length + 1 < 2 ^ 20 → (argE i l t).get j = if i ≤ j ∧ j < i + l.length then l[j - i]? else t.get j
  | [], i, t, j, h => by
    rw [if_neg (by simp only [List.length_nil]; omega)]; rfl
  | v :: l, i, t, j, h => by
    simp only [List.length_cons] at h
    rw [argE, argE_get l (i + 1) _ j (by omega), Tr.get_set _ _ _ _ _ (by omega)]
    by_cases hj : j = i
    · subst hj
      rw [if_neg (by omega), if_pos rfl, if_pos (by simp)]
      simp
    · rw [if_neg hj]
      by_cases h2 : i + 1 ≤ j ∧ j < i + 1 + l.length
      · rw [if_pos h2, if_pos (by simp; omega)]
        rw [show j - i = (j - (i + 1)) + 1 by omega]
        simp
      · rw [if_neg h2, if_neg (by simp; omega)]
theorem argE_ok {args : List V} {us : List Value} {nt : Nat} (h : RL ρ args us) (hs : small nt = true) (hl : Nat.ble args.length nt = true) : RE ρ (argE 0 args .nil) (argL 0 us) := by
  intro t v e
  have h1 := blt_tt hs
  have h2 := Nat.le_of_ble_eq_true hl
  rw [argE_get args 0 .nil t (by omega)] at e
  split at e
  · simp only [Nat.sub_zero] at e
    obtain ⟨u, h3, h4⟩ := h.get e
    have := lk_argL' us 0 t u h3
    exact ⟨u, by simpa using this, h4⟩
  · cases e
/-- where a function's body is left -/
theorem goLeave_ok (IH : ∀ t, ih t = true → TaskOk P G t) (hNG : ∀ (f : Nat) (fn : Func), P.funcs[f]? = some fn → (fn.name == "runtime.NumGoroutine") = false) {fn : Func} {mode : Option V} {ke : KE} (h : goLeave P ih fn dv mode env hp ke = true) : TaskOk P G (.leave fn dv mode env hp ke) := by
  intro ρ W ds u Post hG hH hds hm hk Γ F tmps w hT hh
  unfold goLeave at h
  split at h
  · rw [show ds = [] from hds]
    split at h
    · rw [show u = .returning from hm]
      split at h
      · rename_i v hv
        obtain ⟨x, h1, h2⟩ := results_ok hH hT hv
        exact ⟨x, h2 Γ F w hh, _, hk (.ret v) hp ρ W (.returned x) (.refl hH) h1 h, hh⟩
      · cases h
    · rename_i v
      obtain ⟨y, hy, rfl⟩ := hm
      exact ⟨_, hk (.pan v) hp ρ W (.panicked _) (.refl hH) ⟨y, hy, rfl⟩ h, hh⟩
  · rename_i id dv
    obtain ⟨d, ds', ⟨b, c, hb, htar⟩, hrest, rfl⟩ := hds
    split at h
    · rename_i hp' hc hput
      have hro := putS_ro hput
      obtain ⟨hs, rfl⟩ := putS_ok hput
      obtain ⟨b', o, hW, ⟨c', hb'⟩, rfl⟩ := hH.rel _ _ hc
      rw [hb] at hb'; cases hb'
      have hbl := hh.block (spl_pick (hH.lt hc) hW)
      have nx : Nx ρ hp W ρ (hp.put id none) (upd W id none) := ⟨Rho.le_refl _, hH.kill hs, rfl, Stay.put hro⟩
      refine ⟨hm.run, .inl ⟨b, _, htar, run_takeDeferred hbl, ?_⟩⟩
      exact IH _ h ρ _ ds' u Post hG nx.hr hrest hm (hk.at nx) Γ F tmps _ hT (kill_hold (hH.lt hc) hW hh)
    · cases h
  · rename_i f args dv
    obtain ⟨d, ds', ⟨fv, cap, us, htar, hus, hinv⟩, hrest, rfl⟩ := hds
    split at h
    · rename_i fd hf
      split at h
      · rename_i c hb hres hlen hsm
        have hc : Callable P f := ⟨fd, hf, by rw [hb]; rfl, hNG f fd hf⟩
        refine ⟨hm.run, .inr ⟨fun h => (by cases h), fv, cap, f, us.toArray, htar, hinv hc w, fun _ _ => trivial, ?_⟩⟩
        refine callsDIn_of_wpSIn hf hb trivial fun c0 cs hu => ?_
        have hlen' : us.length ≤ fd.ntmps := by rw [hus.length]; exact Nat.le_of_ble_eq_true hlen
        have t1 := IH _ h hsm ρ W (argL 0 us) u (fun e u' L' H' => (e = .normal ∨ e = .ret) ∧ ∀ w', Hold Γ H' F w' → LeavesInM Fence.wide 0 P fn tmps (fun e w' => ∃ H', Post e H' ∧ Hold Γ H' F w') ds' (settle u') w') hG hH (argE_ok hus hsm hlen) hm.rel (by
          intro o rc env' hp' ρ' W' u' L' out nx hE' hm' ho hk'
          unfold defK at hk'
          have hT' : RT ρ' env tmps := hT.mono nx.le
          split at hk'
          · cases out <;> first | exact ho.elim | skip
            exact ⟨.inl rfl, fun w' hh' => IH _ hk' ρ' W' ds' (settle u') Post (hG.mono nx.le) nx.hr (hrest.mono nx.le) (settle_ok hm') (hk.at nx) Γ F tmps w' hT' hh'⟩
          · cases out <;> first | exact ho.elim | skip
            exact ⟨.inr rfl, fun w' hh' => IH _ hk' ρ' W' ds' (settle u') Post (hG.mono nx.le) nx.hr (hrest.mono nx.le) (settle_ok hm') (hk.at nx) Γ F tmps w' hT' hh'⟩
          · cases hk')
        refine t1 Γ F _ c0 cs w _ (env_enter us fd.ntmps hlen') hu hh fun e u' L' H' a' w' kk he' hh' => ?_
        have hr0 : (results fd a'.tmps).run P w' = .ok (.tuple #[]) w' := by
          have : fd.results = #[] := by apply Array.ext'; simpa using hres
          simp [results, this]
        obtain ⟨he, kk⟩ := kk
        rcases he with rfl | rfl
        · exact ⟨he'.defs, u', rfl, _, hr0, kk w' hh'⟩
        · exact ⟨he'.defs, u', rfl, _, hr0, kk w' hh'⟩
      · cases h
    · cases h
theorem goFn_ok (IH : ∀ t, ih t = true → TaskOk P G t) (hNG : ∀ (f : Nat) (fn : Func), P.funcs[f]? = some fn → (fn.name == "runtime.NumGoroutine") = false) {f : Nat} {args : List V} {ke : KE} (h : goFn ih f P.funcs[f]? args hp ke = true) : TaskOk P G (.call f args hp ke) := by
  unfold goFn at h
  split at h
  · rename_i fn hf
    split at h
    · rename_i c hb hlen hsm
      refine ⟨⟨fn, hf, by rw [hb]; rfl, hNG f fn hf⟩, fun ρ W us Post hG hH hus hk Γ F w hh => ?_⟩
      refine (callsIn_wide (n := 0)).1 (callsIn_of_wp_marks hf hb trivial ?_)
      have hlen' : us.length ≤ fn.ntmps := by rw [hus.length]; exact Nat.le_of_ble_eq_true hlen
      have t1 := IH _ h ρ W [] (argL 0 us) (fun out ds' L' H' => ∀ a' w', Env a' fn.ntmps ds' L' → Hold Γ H' F w' → bodyPostM Fence.wide 0 P fn (fun e w' => ∃ H', Post e H' ∧ Hold Γ H' F w') out.exitOf a' w') none hG hH (argE_ok hus hsm hlen) ⟨hsm, trivial⟩ (by
        intro o dv' env' hp' ρ' W' ds' L' out nx hE' dx ho hk' a' w' he' hh'
        unfold endK at hk'
        split at hk'
        · cases out <;> first | exact ho.elim | skip
          show LeavesInM _ _ _ _ _ _ a'.defers .returning w'
          rw [he'.defs]
          exact IH _ hk' ρ' W' ds' .returning Post (hG.mono nx.le) nx.hr dx.base rfl (hk.at nx) Γ F a'.tmps w' (hE'.rt he') hh'
        · cases out <;> first | exact ho.elim | skip
          show LeavesInM _ _ _ _ _ _ a'.defers .returning w'
          rw [he'.defs]
          exact IH _ hk' ρ' W' ds' .returning Post (hG.mono nx.le) nx.hr dx.base rfl (hk.at nx) Γ F a'.tmps w' (hE'.rt he') hh'
        · cases out <;> first | exact ho.elim | skip
          rename_i ch
          show LeavesInM _ _ _ _ _ _ a'.defers (.panicking ch) w'
          rw [he'.defs]
          obtain ⟨y, hy, rfl⟩ := ho
          exact IH _ hk' ρ' W' ds' _ Post (hG.mono nx.le) nx.hr dx.base ⟨y, hy, rfl⟩ (hk.at nx) Γ F a'.tmps w' (hE'.rt he') hh'
        · cases hk')
      exact t1 Γ F _ w _ (env_enter us fn.ntmps hlen') hh fun e ds L H a w kk he hh => kk a w he hh
    · cases h
  · cases h
/-- What is known of functions without arguments. -/
def KnOk (P : Program) (G : GV) : Prop := ∀ f v, lookK G.kn f = some v → Callable P f ∧ Z.Fn P f [] [] (fun e _ => ∃ u, e = .returned u ∧ ∀ ρ, R ρ v u)
theorem Fn_frame {f : Nat} {args : List Value} {H : List SP} {Post : Ending → List SP → Prop} (h : Z.Fn P f args [] Post) : Z.Fn P f args H (fun e H' => ∃ H1, Post e H1 ∧ H' = H) := by
  intro Γ F w hh
  have s : Split H [] H := .nil
  have h1 := h Γ _ w (hh.inn s)
  refine (callsIn_wide (n := 0)).1 (((callsIn_wide (n := 0)).2 h1).mono fun e w' ⟨H1, p, hh'⟩ => ⟨H, ⟨H1, p, rfl⟩, ?_⟩)
  have := hh'.out
  exact this.weaken fun x hx => by
    have := (Eqv.comm H1 H x).1 hx
    exact Split.weak (H := H ++ H1) (Hc := H) (Hr := H1) (fun _ y => y) x this
theorem goCall_ok (IH : ∀ t, ih t = true → TaskOk P G t) (hNG : ∀ (f : Nat) (fn : Func), P.funcs[f]? = some fn → (fn.name == "runtime.NumGoroutine") = false) (hKN : KnOk P G) {f : Nat} {args : List V} {ke : KE} (h : goCall G ih f P.funcs[f]? args hp ke = true) : TaskOk P G (.call f args hp ke) := by
  unfold goCall at h
  split at h
  · rename_i v hlk
    obtain ⟨hc, spec⟩ := hKN f v hlk
    refine ⟨hc, fun ρ W us Post hG hH hus hk => ?_⟩
    rw [show us = [] from hus]
    refine (Fn_frame (H := spl hp.n W) spec).mono fun e H' hp' => ?_
    obtain ⟨H1, ⟨u, rfl, hu⟩, rfl⟩ := hp'
    exact hk (.ret v) hp ρ W (.returned u) (.refl hH) (hu ρ) h
  · exact goFn_ok IH hNG h
/-! ### Loops -/
structure LS where
  f : Nat
  dv : List DV
  env : Tr V
  hp : Mem
  ρ : Rho
  W : RW
  ds : List Deferred
  L : Lo
theorem goLoop_ok {f : Nat} (IH : ∀ j, j ≤ f → ∀ t, go P G j t = true → TaskOk P G t) {c : Code} (h : go P G f (.code fi c dv env hp (seqK (go P G f) fi (.loop c) k)) = true) : TaskOk P G (.code fi (.loop c) dv env hp k) := by
  intro ρ W ds L K ro hG hH hE hF hk
  refine Go.loopD (α := LS) LS.ds LS.L (fun x => spl x.hp.n x.W) (fun x => x.f ≤ f ∧ go P G x.f (.code fi c x.dv x.env x.hp (seqK (go P G x.f) fi (.loop c) k)) = true ∧ Nx ρ hp W x.ρ x.hp x.W ∧ RE x.ρ x.env x.L ∧ DExt P x.ρ dv ds x.dv x.ds) LS.f
    ⟨f, dv, env, hp, ρ, W, ds, L⟩ ⟨Nat.le_refl _, h, .refl hH, hE, .refl⟩ ?_
  rintro ⟨j, dv1, env1, hp1, ρ1, W1, ds1, L1⟩ ⟨hj, hgo, nx, hE1, dx⟩
  simp only at hj hgo nx hE1 dx ⊢
  refine IH j hj _ hgo ρ1 W1 ds1 L1 _ ro (hG.mono nx.le) nx.hr hE1 (hF.mono nx.le) ?_
  intro o dv2 env2 hp2 ρ2 W2 ds2 L2 out nx2 hE2 dx2 ho hk2
  cases o <;> cases out <;> first | exact ho.elim | skip
  · cases j with
    | zero => cases hk2
    | succ i =>
      exact ⟨⟨i, dv2, env2, hp2, ρ2, W2, ds2, L2⟩, ⟨by show i ≤ f; omega, hk2, nx.trans nx2, hE2, (dx.mono nx2.le).trans dx2⟩, by show i < i + 1; omega, rfl, rfl, rfl⟩
  all_goals exact hk _ _ _ _ _ _ _ _ _ (nx.trans nx2) hE2 ((dx.mono nx2.le).trans dx2) ho hk2
/-- **The machine is sound.** -/
theorem go_sound (hmix : P.follows .mixedOrders = true) (hNG : ∀ (f : Nat) (fn : Func), P.funcs[f]? = some fn → (fn.name == "runtime.NumGoroutine") = false) (hKN : KnOk P G) : ∀ (f : Nat) (t : Task), go P G f t = true → TaskOk P G t := by
  intro f
  induction f using Nat.strongRecOn with
  | _ f ih =>
    intro t h
    cases f with
    | zero => cases h
    | succ f =>
      have IH : ∀ j, j ≤ f → ∀ t, go P G j t = true → TaskOk P G t := fun j hj => ih j (by omega)
      have h : goTask P G (go P G f) t = true := h
      cases t with
      | code fi c ds env hp k =>
        by_cases hl : ∃ b, c = .loop b
        · obtain ⟨b, rfl⟩ := hl
          exact goLoop_ok IH h
        · exact goCode_ok hmix (IH f (Nat.le_refl _)) (fun b hb => hl ⟨b, hb⟩) h
      | ops fi arr l ds env hp k => exact goOps_ok (IH f (Nat.le_refl _)) h
      | draw fi arr pi ro ds env hp k => exact goDraw_ok (IH f (Nat.le_refl _)) h
      | call f' args hp k => exact goCall_ok (IH f (Nat.le_refl _)) hNG hKN h
      | leave fn ds mode env hp k => exact goLeave_ok (IH f (Nat.le_refl _)) hNG h
      | dcode nt c env hp rc k => exact goDCode_ok hmix (IH f (Nat.le_refl _)) h
      | dops nt arr l env hp rc k => exact goDOps_ok (IH f (Nat.le_refl _)) h
end
end
end Go.Y
