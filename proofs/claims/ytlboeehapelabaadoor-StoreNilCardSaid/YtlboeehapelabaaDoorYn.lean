/- The tasks' meaning; lists of operations, rounds. -/
import Derived.Test.YtlboeehapelabaaDoorYm
set_option linter.unusedVariables false
set_option linter.unusedSimpArgs false
namespace Go.Y
open Go.Z
noncomputable section
def MRel0 (ρ : Rho) : Option V → FrameMode → Prop
  | none, u => u = .returning
  | some v, u => ∃ y, R ρ v y ∧ u = .panicking [{ v := y, recovered := false }]
def MRel (ρ : Rho) : Option V → FrameMode → Prop
  | none, u => u = .returning ∨ ∃ y, u = .panicking [{ v := y, recovered := true }]
  | some v, u => ∃ y, R ρ v y ∧ u = .panicking [{ v := y, recovered := false }]
abbrev KontS := Out → FrameMode → Lo → List SP → Prop
def KontS.le (KS : KontS) (n : Nat) (Γ : World) (F : SP) (c0 : Frame) (cs : List Frame) (Q : Exit → Act → List Frame → World → Prop) : Prop :=
  ∀ e u L H a w, KS e u L H → Env a n [] L → Hold Γ H F w → Q e.exitOf a ({ c0 with mode := u } :: cs) w
def GoS (P : Program) (n : Nat) (c : Code) (u : FrameMode) (L : Lo) (H : List SP) (KS : KontS) : Prop :=
  ∀ Γ F a c0 cs w Q, Env a n [] L → c0.mode = u → Hold Γ H F w → KS.le n Γ F c0 cs Q → c.wpSIn Fence.wide 0 P Q a (c0 :: cs) w
def OpsS (P : Program) (n : Nat) (arr : Array Oper) (l : List Oper) (u : FrameMode) (L : Lo) (H : List SP) (KS : KontS) : Prop :=
  ∀ Γ F a c0 cs w Q (is : List Nat), Env a n [] L → c0.mode = u → Hold Γ H F w → KS.le n Γ F c0 cs Q → is.map (arr[·]?) = l.map some → wpOpsSIn Fence.wide 0 P arr Q is a (c0 :: cs) w
def KSRel (k : KR) (ρ0 : Rho) (hp0 : Mem) (W0 : RW) (KS : KontS) : Prop :=
  ∀ o rc env hp ρ W u L out, Nx ρ0 hp0 W0 ρ hp W → RE ρ env L → MRel ρ rc u → OutRel ρ o out → k o rc env hp = true → KS out u L (spl hp.n W)
theorem KSRel.at {k : KR} {ρ0 ρ1 : Rho} {hp0 hp1 : Mem} {W0 W1 : RW} {KS : KontS} (h : KSRel k ρ0 hp0 W0 KS) (nx : Nx ρ0 hp0 W0 ρ1 hp1 W1) : KSRel k ρ1 hp1 W1 KS :=
  fun o rc env hp ρ W u L out n1 hE hm ho hk => h o rc env hp ρ W u L out (nx.trans n1) hE hm ho hk
def KeptIn (hp : Mem) (W : RW) (Hc : List SP) : Prop := ∀ A ∈ Hc, A = tru ∨ ∃ id ∈ hp.ro, ∃ b o, W id = some (b, o) ∧ A = pt b o
/-- **What a task that answers 'true' says.** -/
def TaskOk (P : Program) (G : GV) : Task → Prop
  | .code fi c dv env hp k => ∀ ρ W ds L K ro, GOk ρ G → HR ρ hp W → RE ρ env L → FIok ρ fi ro → KRel P k ρ hp W dv ds K → Z.Go P ro fi.nt c ds L (spl hp.n W) K
  | .ops fi arr l dv env hp k => ∀ ρ W ds L K ro, GOk ρ G → HR ρ hp W → RE ρ env L → FIok ρ fi ro → KRel P k ρ hp W dv ds K → Ops P ro fi.nt arr l ds L (spl hp.n W) K
  | .draw fi arr pi ro0 dv env hp k => ∀ ρ W ds L K ro Hc, GOk ρ G → HR ρ hp W → RE ρ env L → FIok ρ fi ro → (∀ id ∈ ro0, id ∈ hp.ro) → KeptIn hp W Hc → KRel P k ρ (hp.setRo ro0) W dv ds K → RDc P ro fi.nt arr ds Hc [] K pi L (spl hp.n W)
  | .call f args hp k => Callable P f ∧ ∀ ρ W us Post, GOk ρ G → HR ρ hp W → RL ρ args us → KERel k ρ hp W Post → Z.Fn P f us (spl hp.n W) Post
  | .leave fn dv mode env hp k => ∀ ρ W ds u Post, GOk ρ G → HR ρ hp W → DsRel P ρ dv ds → MRel0 ρ mode u → KERel k ρ hp W Post → ∀ Γ F tmps w, RT ρ env tmps → Hold Γ (spl hp.n W) F w →
      LeavesInM Fence.wide 0 P fn tmps (fun e w' => ∃ H', Post e H' ∧ Hold Γ H' F w') ds u w
  | .dcode nt c env hp rc k => small nt = true → ∀ ρ W L u KS, GOk ρ G → HR ρ hp W → RE ρ env L → MRel ρ rc u → KSRel k ρ hp W KS → GoS P nt c u L (spl hp.n W) KS
  | .dops nt arr l env hp rc k => small nt = true → ∀ ρ W L u KS, GOk ρ G → HR ρ hp W → RE ρ env L → MRel ρ rc u → KSRel k ρ hp W KS → OpsS P nt arr l u L (spl hp.n W) KS
theorem allO_mem {k : V → Mem → Bool} : ∀ {l : List (V × Mem)}, allO k l = true → ∀ q ∈ l, k q.1 q.2 = true
  | [], _, q, h => by cases h
  | (v, h) :: l, hk, q, hq => by
    simp only [allO] at hk
    split at hk
    · rename_i h1
      cases hq with
      | head => exact h1
      | tail _ hq => exact allO_mem hk q hq
    · cases hk
theorem lk_argL' : ∀ (vs : List Value) (i t : Nat) (v : Value), vs[t]? = some v → lk (argL i vs) (i + t) = some v
  | [], _, _, _, e => by cases e
  | u :: vs, i, 0, v, e => by
    simp only [List.getElem?_cons_zero, Option.some.injEq] at e; subst e
    simp [argL, lk]
  | u :: vs, i, t + 1, v, e => by
    simp only [List.getElem?_cons_succ] at e
    have : Nat.beq i (i + (t + 1)) = false := by
      cases h : Nat.beq i (i + (t + 1)) with
      | false => rfl
      | true => have := beq_tt h; omega
    simp only [argL, lk, this]
    have := lk_argL' vs (i + 1) t v e
    rw [show i + 1 + t = i + (t + 1) by omega] at this
    exact this
theorem RT.re {ρ : Rho} {env : Tr V} {ts : Array Value} (h : RT ρ env ts) : RE ρ env (argL 0 ts.toList) := fun t v e => by
  obtain ⟨u, h1, h2⟩ := h t v e
  refine ⟨u, ?_, h2⟩
  have := lk_argL' ts.toList 0 t u (by simpa using h1)
  simpa using this
theorem RT.env {ts : Array Value} {n : Nat} (h : ts.size = n) : Env { tmps := ts, defers := [] } n [] (argL 0 ts.toList) := by
  refine ⟨h, rfl, fun t v e => ?_⟩
  obtain ⟨j, rfl, hj⟩ := lk_argL ts.toList 0 t v e
  simpa using hj
theorem RE.rt {ρ : Rho} {env : Tr V} {L : Lo} {a : Act} {n : Nat} {ds : List Deferred} (h : RE ρ env L) (he : Env a n ds L) : RT ρ env a.tmps := fun t v e => by
  obtain ⟨u, h1, h2⟩ := h t v e
  exact ⟨u, he.get t u h1, h2⟩
theorem setArgs_ok {ρ : Rho} {nt : Nat} (hs : small nt = true) : ∀ {ps : List Nat} {args : List V} {us : List Value} {env env' : Tr V} {ts : Array Value}, setArgs nt ps args env = some env' → RL ρ args us → RT ρ env ts → ts.size = nt →
    RT ρ env' ((ps.zip us).foldl (fun tmps q => tmps.setIfInBounds q.1 q.2) ts) ∧ ((ps.zip us).foldl (fun tmps q => tmps.setIfInBounds q.1 q.2) ts).size = nt ∧ us.length = ps.length
  | [], [], us, env, env', ts, h, hl, hT, hn => by
    simp only [setArgs, Option.some.injEq] at h
    subst h
    rw [show us = [] from hl]
    exact ⟨hT, hn, rfl⟩
  | [], _ :: _, us, env, env', ts, h, hl, hT, hn => by simp [setArgs] at h
  | _ :: _, [], us, env, env', ts, h, hl, hT, hn => by simp [setArgs] at h
  | p :: ps, v :: args, us, env, env', ts, h, hl, hT, hn => by
    simp only [setArgs] at h
    split at h
    · rename_i hp
      have hp := blt_tt hp
      obtain ⟨u, us', hu, hus, rfl⟩ := hl
      have hT2 : RT ρ (Tr.set 20 env p (some v)) (ts.setIfInBounds p u) := by
        intro t w e
        have hsm : p + 1 < 2 ^ 20 := by
          have := blt_tt hs
          omega
        rw [Tr.get_set _ _ _ _ _ hsm] at e
        by_cases ht : t = p
        · subst ht
          simp only [if_true, Option.some.injEq] at e
          subst e
          exact ⟨u, by simp [hn, hp], hu⟩
        · rw [if_neg ht] at e
          obtain ⟨u', h1, h2⟩ := hT _ _ e
          refine ⟨u', ?_, h2⟩
          rw [Array.getElem?_setIfInBounds_ne (fun h => ht h.symm)]
          exact h1
      obtain ⟨h1, h2, h3⟩ := setArgs_ok hs h hus hT2 (by simpa using hn)
      exact ⟨h1, h2, by simp [h3]⟩
    · cases h
section
variable {P : Program} {G : GV} {ih : Task → Bool} {fi : FI} {arr : Array Oper} {r : List Oper} {dd : Option Nat} {dv : List DV} {env : Tr V} {hp : Mem} {k : KK}
  {ρ : Rho} {W : RW} {ds : List Deferred} {L : Lo} {K : Kont} {ro : Option Nat}
theorem rest_ok (IH : ∀ t, ih t = true → TaskOk P G t) (hd : dstC dd fi.nt = true) (hG : GOk ρ G) (hE : RE ρ env L) (hF : FIok ρ fi ro) (hk : KRel P k ρ hp W dv ds K)
    {v : V} {hp' : Mem} (h : ih (.ops fi arr r dv (putE dd v env) hp' k) = true) {ρ' : Rho} {W' : RW} {u : Value} (nx : Nx ρ hp W ρ' hp' W') (hv : R ρ' v u) : Ops P ro fi.nt arr r ds (putL dd u L) (spl hp'.n W') K :=
  IH _ h ρ' W' ds _ K ro (hG.mono nx.le) nx.hr ((hE.mono nx.le).putE hd hF.1 hv) (hF.mono nx.le) (hk.at nx .refl)
/-- behind a call -/
theorem retK_rel (IH : ∀ t, ih t = true → TaskOk P G t) (hd : dstC dd fi.nt = true) (hG : GOk ρ G) (hE : RE ρ env L) (hF : FIok ρ fi ro) (hk : KRel P k ρ hp W dv ds K) :
    KERel (retK ih fi arr r dd dv env k) ρ hp W (After P ro fi.nt arr r dd ds L [] K) := by
  intro e hp' ρ' W' en nx hen hk'
  cases e with
  | ret v =>
    cases en with
    | returned u =>
      show Ops P ro fi.nt arr r ds (putL dd u L) (spl hp'.n W' ++ []) K
      rw [List.append_nil]
      exact rest_ok IH hd hG hE hF hk hk' nx hen
    | panicked ch => exact hen.elim
    | outgrown => exact hen.elim
  | pan v =>
    cases en with
    | returned u => exact hen.elim
    | panicked ch =>
      show K (.panic ch) ds L (spl hp'.n W' ++ [])
      rw [List.append_nil]
      exact hk (.panic v) _ _ _ _ _ _ _ (.panic ch) nx (hE.mono nx.le) .refl hen hk'
    | outgrown => exact hen.elim
theorem HR.loop (hH : HR ρ hp W) {l : Nat} {st : LoopState} {pend : Option Code} {env0 : Tr V} {nt : Nat} {ps : Array Tmp} {assign body : Code} {d : Nat} (e : hp.t.get l = some (.loop st pend env0 nt ps assign body d)) :
    ∃ b c fn ts db dc, W l = some (b, .loop { state := st, pending := pend, fn := fn, tmps := ts, params := ps, assign := assign, body := body, defers := db }) ∧ ρ l = some (b, c) ∧ ts.size = nt ∧ RT ρ env0 ts ∧ ρ d = some (db, dc) := by
  obtain ⟨b, o, h1, ⟨c, h2⟩, fn, ts, db, dc, h3, h4, h5, rfl⟩ := hH.rel l _ e
  exact ⟨b, c, fn, ts, db, dc, h1, h2, h3, h4, h5⟩
theorem putObj_hold {Γ : World} {F : SP} {w : World} {b id : Nat} {o o' : Obj} (hlt : id < hp.n) (hW : W id = some (b, o)) (hh : Hold Γ (spl hp.n W) F w) : Hold Γ (spl hp.n (upd W id (some (b, o')))) F (w.putObj b o') := hold_put hlt hW hh
theorem setPend_ok (hH : HR ρ hp W) {l : Nat} {st : LoopState} {pend : Option Code} {hp' : Mem} (h : setPend hp l st pend = some hp') :
    ∃ b c r, W l = some (b, .loop r) ∧ l < hp.n ∧ ρ l = some (b, c) ∧ hp'.n = hp.n ∧ Nx ρ hp W ρ hp' (upd W l (some (b, .loop { r with state := st, pending := pend }))) := by
  unfold setPend at h
  split at h
  · rename_i hc
    have hro := putS_ro h
    obtain ⟨hs, rfl⟩ := putS_ok h
    obtain ⟨b, c, fn, ts, db, dc, h1, h2, h3, h4, h5⟩ := hH.loop hc
    exact ⟨b, c, _, h1, hH.lt hc, h2, rfl, Rho.le_refl _, hH.put hs ⟨⟨c, h2⟩, fn, ts, db, dc, h3, h4, h5, rfl⟩, rfl, Stay.put hro⟩
  · cases h
/-- how a round is left -/
theorem endRd_rel {l b c : Nat} (hl : ρ l = some (b, c)) {ke : KE} {Post : Ending → List SP → Prop} (hke : KERel ke ρ hp W Post) {Γ : World} {F : SP} {R' : Ending → World → Prop}
    (hR : ∀ u H' w', Post (.returned u) H' → Hold Γ H' F w' → R' (.returned u) w') :
    KRel P (endRd l ke) ρ hp W [] [] (fun out ds' L2 H2 => ∀ a2 w2, Hold Γ H2 F w2 → roundPost P b R' out.exitOf a2 w2) := by
  intro o dv' env' hp' ρ' W' ds' L' out nx hE' dx ho hk a2 w2 hh
  unfold endRd at hk
  have main : ∀ (st : LoopState) (pend : Option Code) (h : Mem), (st = if pend.isNone then .ready else .done) → setPend hp' l st pend = some h → ke (.ret (.bool pend.isNone)) h = true →
      ∃ v w', (Instr.endRound b pend).run P w2 = .ok v w' ∧ R' (.returned v) w' := by
    intro st pend h hst hsp hkk
    obtain ⟨b', c', r', h1, hlt, h2, h3, nx2⟩ := setPend_ok nx.hr hsp
    rw [nx.le _ _ hl] at h2; cases h2
    have hb := hh.block (spl_pick hlt h1)
    have hh2 := putObj_hold (o' := .loop { r' with state := st, pending := pend }) hlt h1 hh
    refine ⟨_, _, run_endRound pend hb, ?_⟩
    rw [hst] at hh2 nx2
    refine hR _ _ _ (hke (.ret (.bool pend.isNone)) h ρ' _ (.returned (.bool pend.isNone)) (nx.trans nx2) rfl hkk) ?_
    rw [h3]; exact hh2
  split at hk
  · cases o with
    | normal =>
      cases out <;> first | exact ho.elim | skip
      dsimp only at hk
      split at hk
      · rename_i h hsp; exact main _ none h rfl hsp hk
      · cases hk
    | ret =>
      cases out <;> first | exact ho.elim | skip
      dsimp only at hk
      split at hk
      · rename_i h hsp; exact main _ (some .ret) h rfl hsp hk
      · cases hk
    | exit i =>
      cases out <;> first | exact ho.elim | skip
      cases ho
      dsimp only at hk
      split at hk
      · rename_i h hsp; exact main _ (some (.exit i)) h rfl hsp hk
      · cases hk
    | goto i => cases hk
    | panic v => cases hk
  · cases hk
theorem goRound_ok (IH : ∀ t, ih t = true → TaskOk P G t) (hG : GOk ρ G) (hH : HR ρ hp W) {l b c : Nat} (hl : ρ l = some (b, c)) {args : List V} {us : List Value} (hus : RL ρ args us) {ke : KE} {Post : Ending → List SP → Prop} (hke : KERel ke ρ hp W Post)
    (h : goRound ih l args hp ke = true) (ro : Option Nat) (Γ : World) (F : SP) (w : World) (hh : Hold Γ (spl hp.n W) F w) (R' : Ending → World → Prop) (hR : ∀ u H' w', Post (.returned u) H' → Hold Γ H' F w' → R' (.returned u) w') :
    ∃ f tmps assign body, (Instr.yield b us.toArray).run P w = .ok (.round b f tmps assign body) w ∧ RoundIn (fw ro) 0 P b f tmps assign body w R' := by
  unfold goRound at h
  split at h
  · rename_i st pend env0 nt ps assign body d hc
    split at h
    · rename_i env' hsa hsm
      obtain ⟨b', c', fn, ts, db, dc, hW, hl', hts, hRT, hd⟩ := hH.loop hc
      rw [hl] at hl'; cases hl'
      have hb := hh.block (spl_pick (hH.lt hc) hW)
      obtain ⟨h1, h2, h3⟩ := setArgs_ok hsm hsa hus hRT hts
      refine ⟨_, _, _, _, run_yield hb (by simp [h3]), ?_⟩
      have efold : (ps.zip us.toArray).foldl (fun tmps (q : Tmp × Value) => tmps.setIfInBounds q.1 q.2) ts = (ps.toList.zip us).foldl (fun tmps q => tmps.setIfInBounds q.1 q.2) ts := by
        rw [← Array.foldl_toList]
        simp
      have efold' : (ps.zip us.toArray).foldl (fun tmps (t, a) => tmps.setIfInBounds t a) ts = (ps.toList.zip us).foldl (fun tmps q => tmps.setIfInBounds q.1 q.2) ts := efold
      show RoundIn (fw ro) 0 P b fn ((ps.zip us.toArray).foldl (fun tmps (t, a) => tmps.setIfInBounds t a) ts) assign body w R'
      rw [efold']
      generalize (ps.toList.zip us).foldl (fun tmps q => tmps.setIfInBounds q.1 q.2) ts = tmps at h1 h2
      refine roundIn_of_wpIn trivial ?_
      have hFI : FIok ρ ⟨nt, some l⟩ (some b) := ⟨hsm, c, hl⟩
      have t1 := IH _ h ρ W [] (argL 0 tmps.toList) (fun out ds' L1 H1 => out = .normal ∧ ∀ a1 w1, Env a1 nt ds' L1 → Hold Γ H1 F w1 → ∃ w2, (Instr.beginRound b).run P w1 = .ok () w2 ∧ body.wpIn (fw (some b)) 0 P (roundPost P b R') a1 w2) (some b) hG hH h1.re hFI (by
        intro o dv' env1 hp1 ρ1 W1 ds1 L1 out nx hE1 dx ho hk
        unfold rdK at hk
        split at hk
        · cases out <;> first | exact ho.elim | skip
          refine ⟨rfl, fun a1 w1 he1 hh1 => ?_⟩
          have hds : ds1 = [] := (dx.same rfl).2
          subst hds
          split at hk
          · rename_i pend1 env01 nt1 ps1 assign1 bd1 d1 hc1
            split at hk
            · rename_i hp2 hput
              have hro := putS_ro hput
              obtain ⟨hs2, rfl⟩ := putS_ok hput
              obtain ⟨b1, c1, fn1, ts1, db1, dc1, hW1, hl1, hts1, hRT1, hd1⟩ := nx.hr.loop hc1
              rw [nx.le _ _ hl] at hl1; cases hl1
              have hb1 := hh1.block (spl_pick (nx.hr.lt hc1) hW1)
              refine ⟨_, run_beginRound hb1 rfl, ?_⟩
              have hh2 := putObj_hold (o' := .loop { state := .busy, pending := pend1, fn := fn1, tmps := ts1, params := ps1, assign := assign1, body := bd1, defers := db1 }) (nx.hr.lt hc1) hW1 hh1
              have nx2 : Nx ρ1 hp1 W1 ρ1 (hp1.put l (some (.loop .busy pend1 env01 nt1 ps1 assign1 bd1 d1))) (upd W1 l (some (b, .loop { state := .busy, pending := pend1, fn := fn1, tmps := ts1, params := ps1, assign := assign1, body := bd1, defers := db1 }))) :=
                ⟨Rho.le_refl _, nx.hr.put hs2 ⟨⟨c, nx.le _ _ hl⟩, fn1, ts1, db1, dc1, hts1, hRT1, hd1, rfl⟩, rfl, Stay.put hro⟩
              have t2 := IH _ hk ρ1 _ [] L1 _ (some b) (hG.mono nx.le) nx2.hr hE1 (hFI.mono nx.le) (endRd_rel (nx.le _ _ hl) (hke.at (nx.trans nx2)) hR)
              exact t2 Γ F a1 _ (roundPost P b R') he1 hh2 fun e ds L H a w kk he hh => kk a w hh
            · cases hk
          · cases hk
        · cases hk)
      refine t1 Γ F _ w _ (RT.env h2) hh fun e ds L H a w kk he hh => ?_
      obtain ⟨rfl, kk⟩ := kk
      exact kk a w he hh
    · cases h
  · cases h
end
end
end Go.Y
