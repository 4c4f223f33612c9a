/- Code: branches, loops, ranges over functions. -/
import Derived.Test.YtlboeehapelabaaDoorYo
set_option linter.unusedVariables false
set_option linter.unusedSimpArgs false
namespace Go.Y
open Go.Z
noncomputable section
section
variable {P : Program} {G : GV} {ih : Task → Bool} {fi : FI} {arr : Array Oper} {r : List Oper} {dd : Option Nat} {dv : List DV} {env : Tr V} {hp : Mem} {k : KK}
  {ρ : Rho} {W : RW} {ds : List Deferred} {L : Lo} {K : Kont} {ro : Option Nat}
theorem Go.loopD {n : Nat} {α : Type} {c : Code} (dx : α → List Deferred) (Lx : α → Lo) (Hx : α → List SP) (φ : α → Prop) (μ : α → Nat) (x0 : α) (h0 : φ x0)
    (round : ∀ x, φ x → Z.Go P ro n c (dx x) (Lx x) (Hx x) (Kont.seq (fun ds' L' H' => ∃ x', φ x' ∧ μ x' < μ x ∧ ds' = dx x' ∧ L' = Lx x' ∧ H' = Hx x') K)) : Z.Go P ro n (.loop c) (dx x0) (Lx x0) (Hx x0) K := by
  intro Γ F a w Q he hh hq
  refine wpIn_loop_ix (P := P) (fun x a w => φ x ∧ Env a n (dx x) (Lx x) ∧ Hold Γ (Hx x) F w) μ x0 ⟨h0, he, hh⟩ ?_
  rintro x a w ⟨hx, he, hh⟩
  refine round x hx Γ F a w _ he hh ?_
  intro e ds' L' H' a' w' k he' hh'
  cases e with
  | normal =>
    obtain ⟨x', hx', hlt, rfl, rfl, rfl⟩ := k
    exact ⟨x', ⟨hx', he', hh'⟩, hlt⟩
  | exit i => exact hq (.exit i) _ _ _ _ _ k he' hh'
  | goto i => exact hq (.goto i) _ _ _ _ _ k he' hh'
  | ret => exact hq .ret _ _ _ _ _ k he' hh'
  | panic c => exact hq (.panic c) _ _ _ _ _ k he' hh'
theorem seqK_rel (IH : ∀ t, ih t = true → TaskOk P G t) {b : Code} (hG : GOk ρ G) (hF : FIok ρ fi ro) (hk : KRel P k ρ hp W dv ds K) : KRel P (seqK ih fi b k) ρ hp W dv ds (Kont.seq (fun ds L H => Z.Go P ro fi.nt b ds L H K) K) := by
  intro o dv' env' hp' ρ' W' ds' L' out nx hE dx ho hk'
  cases o <;> cases out <;> first | exact ho.elim | skip
  · exact IH _ hk' ρ' W' ds' L' K ro (hG.mono nx.le) nx.hr hE (hF.mono nx.le) (hk.at nx dx)
  all_goals exact hk _ _ _ _ _ _ _ _ _ nx hE dx ho hk'
theorem blkK_rel {id : Nat} (hk : KRel P k ρ hp W dv ds K) : KRel P (blkK id k) ρ hp W dv ds (Kont.block id K) := by
  intro o dv' env' hp' ρ' W' ds' L' out nx hE dx ho hk'
  cases o <;> cases out <;> first | exact ho.elim | skip
  case exit.exit i j =>
    cases ho
    show (if i = id then K .normal ds' L' (spl hp'.n W') else K (.exit i) ds' L' (spl hp'.n W'))
    simp only [blkK, ifB_nat] at hk'
    split
    · rename_i hi
      rw [if_pos hi] at hk'
      exact hk .normal _ _ _ _ _ _ _ .normal nx hE dx trivial hk'
    · rename_i hi
      rw [if_neg hi] at hk'
      exact hk (.exit i) _ _ _ _ _ _ _ (.exit i) nx hE dx rfl hk'
  all_goals exact hk _ _ _ _ _ _ _ _ _ nx hE dx ho hk'
theorem goRegion_ok (hmix : P.follows .mixedOrders = true) (IH : ∀ t, ih t = true → TaskOk P G t) {id : Nat} {dr : Bool} (h : goRegion ih fi arr dr dv env hp k = true) : TaskOk P G (.code fi (.region id arr dr) dv env hp k) := by
  intro ρ W ds L K ro hG hH hE hF hk
  unfold goRegion at h
  split at h
  · have h1 : Ops P ro fi.nt arr.toList.toArray arr.toList ds L (spl hp.n W) K := by
      rw [Array.toArray_toList]
      exact IH _ h ρ W ds L K ro hG hH hE hF hk
    have := Go.region (id := id) h1
    rwa [Array.toArray_toList] at this
  · split at h
    · rename_i hok
      simp only [Bool.and_eq_true] at hok
      refine Go.draw (piOf arr) hok.1 hok.2 hmix .all ?_
      exact IH _ h ρ W ds L K ro [] hG hH hE hF (fun _ h => h) (fun A hA => by cases hA) hk
    · cases h
/-! ### Ranges over functions -/
theorem kill_hold {Γ : World} {F : SP} {w : World} {b id : Nat} {o o' : Obj} (hlt : id < hp.n) (hW : W id = some (b, o)) (hh : Hold Γ (spl hp.n W) F w) : Hold Γ (spl hp.n (upd W id none)) F (w.putObj b o') :=
  (Hold.setObj hh (spl_pick hlt hW) o').weaken fun x hx => Hold_drop hx
theorem notBusy_ok {st : LoopState} (h : notBusy st = true) : st ≠ .busy := by rintro rfl; cases h
theorem rangeK_rel (IH : ∀ t, ih t = true → TaskOk P G t) {ρ2 : Rho} {hp2 : Mem} {W2 : RW} {lid l c : Nat} {dv2 : List DV} {ds2 : List Deferred} {Γ : World} {F : SP} {Q : Exit → Act → World → Prop} {a2 : Act}
    (hG : GOk ρ G) (hF : FIok ρ fi ro) (hk : KRel P k ρ hp W dv ds K) (hq : K.le fi.nt Γ F Q) (nx : Nx ρ hp W ρ2 hp2 W2) (hl : ρ2 lid = some (l, c)) (hE : RE ρ2 env L) (dx : DExt P ρ2 dv ds dv2 ds2) (he : Env a2 fi.nt ds2 L) :
    KERel (rangeK ih fi lid dv2 env k) ρ2 hp2 W2 (fun e H' => ∀ w3, Hold Γ H' F w3 → rangePost (fw ro) 0 P l Q a2 e w3) := by
  intro e hp3 ρ3 W3 en nx3 hen hk3 w3 hh3
  unfold rangeK at hk3
  split at hk3
  · rename_i v
    cases en <;> first | exact hen.elim | skip
    rename_i ch
    exact hq (.panic ch) _ _ _ a2 w3 (hk (.panic v) _ _ _ _ _ _ _ (.panic ch) (nx.trans nx3) (hE.mono nx3.le) (dx.mono nx3.le) hen hk3) he hh3
  · cases en <;> first | exact hen.elim | skip
    split at hk3
    · rename_i st pend env0 nt0 ps0 assign0 body0 d0 h hc hput
      obtain ⟨b, c', fn, ts, db, dc, hW, hb, hts, hRT, hd⟩ := nx3.hr.loop hc
      rw [nx3.le _ _ hl] at hb; cases hb
      have hro := putS_ro hput
      obtain ⟨hs, rfl⟩ := putS_ok hput
      have hst : notBusy st = true := by
        cases hb : notBusy st with
        | true => rfl
        | false => rw [hb] at hk3; cases hk3
      rw [hst, ifB_true] at hk3
      have hbl := hh3.block (spl_pick (nx3.hr.lt hc) hW)
      have hh4 := kill_hold (o' := .loop { state := .exhausted, pending := pend, fn := fn, tmps := ts, params := ps0, assign := assign0, body := body0, defers := db }) (nx3.hr.lt hc) hW hh3
      have nx4 : Nx ρ3 hp3 W3 ρ3 (hp3.put lid none) (upd W3 lid none) := ⟨Rho.le_refl _, nx3.hr.kill hs, rfl, Stay.put hro⟩
      refine ⟨pend, _, run_endLoop hbl (notBusy_ok hst), ?_⟩
      have nx5 := nx.trans (nx3.trans nx4)
      cases pend with
      | none => exact hq .normal _ _ _ a2 _ (hk .normal _ _ _ _ _ _ _ .normal nx5 (hE.mono nx3.le) (dx.mono nx3.le) trivial hk3) he hh4
      | some cd => exact IH _ hk3 ρ3 _ ds2 L K ro (hG.mono nx5.le) nx5.hr (hE.mono nx3.le) (hF.mono nx5.le) (hk.at nx5 (dx.mono nx3.le)) Γ F a2 _ Q he hh4 hq
    · cases hk3
theorem goRange_ok (IH : ∀ t, ih t = true → TaskOk P G t) {g : Operand} {ps : Array Tmp} {assign body : Code} (h : goRange ih fi (evO G env g) ps assign body dv env hp k = true) : TaskOk P G (.code fi (.rangeFunc g ps assign body) dv env hp k) := by
  intro ρ W ds L K ro hG hH hE hF hk
  intro Γ F a w Q he hh hq
  unfold goRange at h
  split at h
  · rename_i f av bv hg
    obtain ⟨gu, hgu, a', b', ha, hb, rfl⟩ := evO_ok hG hE hg
    refine wpIn_rangeFunc fun fn _ => ?_
    -- the call, once the record is laid
    have main : ∀ (l lid : Nat) (mark : List Deferred) (dv2 : List DV) (ρ2 : Rho) (hp2 : Mem) (W2 : RW) (c : Nat) (w2 : World), (Instr.enterLoop fn a.tmps ps assign body ro).run P w = .ok (l, mark) w2 → Nx ρ hp W ρ2 hp2 W2 → ρ2 lid = some (l, c) → DExt P ρ2 dv ds dv2 (mark ++ ds) →
        Hold Γ (spl hp2.n W2) F w2 → ih (.call f (av ++ [.yld lid] ++ bv) hp2 (rangeK ih fi lid dv2 env k)) = true →
        ∃ (l : Nat) (mark : List Deferred) (w₁ : World) (d : Deferred) (w₁' : World) (f : FuncId) (args : Array Value) (w₂ : World),
          (Instr.enterLoop fn a.tmps ps assign body (fw ro).round).run P w = .ok (l, mark) w₁ ∧
          (resolve a.eval (rangeCall g l) 0).run P w₁ = .ok d w₁' ∧
          (∀ f', Target.leads P w₁' d.target d.args = some f' → (fw ro).fn f') ∧
          (Go.invoke d.target d.args).run P w₁' = .ok (.enter f args) w₂ ∧
          ((fw ro).depth.isSome = true → 1 ≤ 0) ∧
          CallsIn (fw ro) (0 - 1) P f args w₂ (rangePost (fw ro) 0 P l Q { a with defers := mark ++ a.defers }) := by
      intro l lid mark dv2 ρ2 hp2 W2 c w2 hent nx hl dx hh2 hcall
      obtain ⟨hcl, spec⟩ := IH _ hcall
      have hus : RL ρ2 (av ++ [.yld lid] ++ bv) (a' ++ [Value.func (.yield l) #[] #[]] ++ b') := ((ha.mono nx.le).append (.cons (show R ρ2 (.yld lid) _ from ⟨l, c, hl, rfl⟩) .nil)).append (hb.mono nx.le)
      have he2 : Env { a with defers := mark ++ a.defers } fi.nt (mark ++ ds) L := ⟨he.size, by simp [he.defs], he.get⟩
      have sp := spec ρ2 W2 _ _ (hG.mono nx.le) nx.hr hus (rangeK_rel (l := l) (c := c) (Γ := Γ) (F := F) (Q := Q) IH hG hF hk hq nx hl (hE.mono nx.le) dx he2)
      refine ⟨l, mark, w2, { target := .fn (.func f) b'.toArray, args := a'.toArray ++ #[Value.func (.yield l) #[] #[]] }, w2, f, (a' ++ [Value.func (.yield l) #[] #[]] ++ b').toArray, w2, hent, ?_, fun _ _ => trivial, ?_, fun h => (by cases h), ?_⟩
      · simp only [resolve, rangeCall, he.eval hgu, Deferred.ofValue, Sem.run_pure]
        simp [Act.eval]
      · have := callFunc_run hcl (a'.toArray ++ #[Value.func (.yield l) #[] #[]] ++ b'.toArray) w2
        simp only [Go.invoke]
        rw [this]
        simp
      · have hc := (callsIn_wide (n := 0)).2 (sp Γ F w2 hh2)
        have hc2 : CallsIn Fence.wide 0 P f (a' ++ [Value.func (.yield l) #[] #[]] ++ b').toArray w2 (rangePost (fw ro) 0 P l Q { a with defers := mark ++ a.defers }) := hc.mono fun e w' ⟨H', p, hh'⟩ => p w' hh'
        exact ⟨trivial, hc2.2⟩
    split at h
    · rename_i hro
      have hro' : ro = none := by
        have := hF.2
        rw [hro] at this
        cases ro with
        | none => rfl
        | some b => exact this.elim
      subst hro'
      split at h
      · rename_i h1 hn1
        split at h
        · rename_i h2 hn2
          obtain ⟨hs1, rfl⟩ := newS_ok hn1
          obtain ⟨hs2, rfl⟩ := newS_ok hn2
          obtain ⟨W1, hh1, hr1, hst1⟩ := hold_new (ch := .defr) (o := .deferred (some [])) hH hs1 hh ⟨⟨_, upd_same⟩, rfl⟩
          have nx1 : Nx ρ hp W (upd ρ hp.n (some (w.heap.size, 0))) (hp.new .defr) W1 := ⟨rho_new hH _, hr1, rfl, hst1⟩
          have le2 := rho_new hr1 ((({ w with heap := w.heap.push (.deferred (some [])) } : World)).heap.size, 0)
          obtain ⟨W2, hh2, hr2, hst2⟩ := hold_new (ch := .loop .ready none env fi.nt ps assign body hp.n) (o := .loop { state := .ready, pending := none, fn := fn, tmps := a.tmps, params := ps, assign := assign, body := body, defers := w.heap.size }) hr1 hs2 hh1
            ⟨⟨_, upd_same⟩, fn, a.tmps, w.heap.size, 0, he.size, (hE.rt he).mono (Rho.le_trans nx1.le le2), le2 _ _ upd_same, rfl⟩
          have nx2 : Nx (upd ρ hp.n (some (w.heap.size, 0))) (hp.new .defr) W1 _ ((hp.new .defr).new (.loop .ready none env fi.nt ps assign body hp.n)) W2 := ⟨le2, hr2, rfl, hst2⟩
          refine main (w.heap.size + 1) (hp.new .defr).n [{ target := .collected w.heap.size, args := #[] }] (.mark hp.n :: dv) _ _ W2 0 _ (run_enterLoop_outer fn a.tmps ps assign body) (nx1.trans nx2) ?_ ⟨[.mark hp.n], [{ target := .collected w.heap.size, args := #[] }], rfl, rfl, _, [], ⟨w.heap.size, 0, le2 _ _ upd_same, rfl⟩, rfl, rfl⟩ hh2 h
          show upd _ _ _ _ = _
          rw [upd_same]
          simp
        · cases h
      · cases h
    · rename_i l0 hro
      obtain ⟨b0, hro', c0, hl0⟩ : ∃ b0, ro = some b0 ∧ ∃ c0, ρ l0 = some (b0, c0) := by
        have := hF.2
        rw [hro] at this
        cases ro with
        | none => exact this.elim
        | some b => exact ⟨b, rfl, this⟩
      subst hro'
      split at h
      · rename_i st0 pend0 env0 nt0 ps0 assign0 body0 d0 hc
        split at h
        · rename_i h2 hn2
          obtain ⟨hs2, rfl⟩ := newS_ok hn2
          obtain ⟨b1, c1, fn1, ts1, db1, dc1, hW1, hl1, hts1, hRT1, hd1⟩ := hH.loop hc
          rw [hl0] at hl1; cases hl1
          have hb1 := hh.block (spl_pick (hH.lt hc) hW1)
          have le2 := rho_new hH (w.heap.size, 0)
          obtain ⟨W2, hh2, hr2, hst2⟩ := hold_new (ch := .loop .ready none env fi.nt ps assign body d0) (o := .loop { state := .ready, pending := none, fn := fn, tmps := a.tmps, params := ps, assign := assign, body := body, defers := db1 }) hH hs2 hh
            ⟨⟨_, upd_same⟩, fn, a.tmps, db1, dc1, he.size, (hE.rt he).mono le2, le2 _ _ hd1, rfl⟩
          refine main w.heap.size hp.n [] dv _ _ W2 0 _ ?_ ⟨le2, hr2, rfl, hst2⟩ upd_same .refl hh2 h
          unfold Instr.enterLoop
          simp only [Sem.run_bind, run_getLoop hb1, Result.andThen_ok, Sem.run_pure, run_newObj]
        · cases h
      · cases h
  · cases h
/-- **Code**, but for loops. -/
theorem goCode_ok (hmix : P.follows .mixedOrders = true) (IH : ∀ t, ih t = true → TaskOk P G t) {c : Code} (hnl : ∀ b, c ≠ .loop b) (h : goCode G ih fi c dv env hp k = true) : TaskOk P G (.code fi c dv env hp k) := by
  unfold goCode at h
  split at h
  · intro ρ W ds L K ro hG hH hE hF hk
    exact Go.skip (hk .normal _ _ _ _ _ _ _ .normal (.refl hH) hE .refl trivial h)
  · intro ρ W ds L K ro hG hH hE hF hk
    exact Go.label (hk .normal _ _ _ _ _ _ _ .normal (.refl hH) hE .refl trivial h)
  · intro ρ W ds L K ro hG hH hE hF hk
    exact Go.ret (hk .ret _ _ _ _ _ _ _ .ret (.refl hH) hE .refl trivial h)
  · intro ρ W ds L K ro hG hH hE hF hk
    exact Go.exit (hk (.exit _) _ _ _ _ _ _ _ (.exit _) (.refl hH) hE .refl rfl h)
  · intro ρ W ds L K ro hG hH hE hF hk
    exact Go.seq (IH _ h ρ W ds L _ ro hG hH hE hF (seqK_rel IH hG hF hk))
  · intro ρ W ds L K ro hG hH hE hF hk
    unfold goCond at h
    split at h
    · rename_i hc
      obtain ⟨u, h1, h2⟩ := evO_ok hG hE hc
      cases h2
      exact Go.cond_true h1 (IH _ h ρ W ds L K ro hG hH hE hF hk)
    · rename_i hc
      obtain ⟨u, h1, h2⟩ := evO_ok hG hE hc
      cases h2
      exact Go.cond_false h1 (IH _ h ρ W ds L K ro hG hH hE hF hk)
    · cases h
  · intro ρ W ds L K ro hG hH hE hF hk
    exact Go.block (IH _ h ρ W ds L _ ro hG hH hE hF (blkK_rel hk))
  · rename_i b; exact absurd rfl (hnl b)
  · exact goRegion_ok hmix IH h
  · exact goRange_ok IH h
  · cases h
end
end
end Go.Y
