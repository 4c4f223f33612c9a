/- Loud operations: maps, iterators, copy. -/
import Derived.Test.YtlboeehapelabaaDoorYd
set_option linter.unusedVariables false
set_option linter.unusedSimpArgs false
namespace Go.Y
open Go.Z
noncomputable section
theorem setObj_run {P : Program} {w : World} {r : Nat} {o o' : Obj} (h : w.heap[r]? = some o) (hn : notCells o = true := by rfl) : (setObj r o').run P w = .ok () { w with heap := w.heap.setIfInBounds r o' } := by
  cases o <;> first | (cases hn; done) | simp [setObj, Sem.run, h]
theorem Hold.setObj {Γ w : World} {H H' : List SP} {F : SP} {b : Nat} {o : Obj} (hh : Hold Γ H F w) (pk : Pick H (pt b o) H') (o' : Obj) : Hold Γ (pt b o' :: H') F { w with heap := w.heap.setIfInBounds b o' } := by
  have hb := hh.block pk
  have hlt : b < w.heap.size := (Array.getElem?_eq_some_iff.1 hb).1
  refine hh.turn pk rfl rfl rfl ?_ fun i hi => ?_
  · simp [hlt]
  · simp only [Array.getElem?_setIfInBounds]
    rw [if_neg (fun h => hi h.symm)]
section
variable {P : Program} {ro : Option Nat} {n : Nat} {ops : Array Oper} {r : List Oper} {ds : List Deferred} {L : Lo} {H H' : List SP} {K : Kont} {ρ : Rho} {W : RW} {G : GV} {env : Tr V} {hp hp' : Mem}
  {d : Nat} {T T' X Y t xt e sz by_ : TypeId} {p : String} {es : Array Edge} {g : Option (Nat × Bool)} {op : Op} {v : V} {u : Value} {x y z : Operand} {A : Option Addr} {m c : Nat} {cells : List Value} {C : SP}
/-- a new object that is no row of cells. -/
theorem obj_new {l : List Oper} {ch : Chunk} {b : Nat} {o : Obj} (hH : HR ρ hp W) (hs : small hp.n = true) (hc : CRel (upd ρ hp.n (some (b, 0))) hp.n ch b o)
    (k : ∀ W', HR (upd ρ hp.n (some (b, 0))) (hp.new ch) W' → Stay hp W W' → Ops P ro n ops l ds L (spl (hp.n + 1) W') K) : Ops P ro n ops l ds L (pt b o :: spl hp.n W) K := by
  refine Ops.weak ?_ (fun x hx => spl_new (b := b) (o := o) x hx)
  exact k _ (hH.new hs hc) (Stay.new hH)
def lMakeMap (hp : Mem) (res : Option Operand) : Option (List (V × Mem)) :=
  match res with
  | none => one (.map hp.n) (hp.newS (.map [] 0))
  | some _ => none
theorem lMakeMap_ok (hH : HR ρ hp W) {res : Option Operand} (hw : wants ops L ⟨some d, .makeMap T' res, T, p, es, g⟩ = some true) (ht : Nat.blt d n = true) {outs : List (V × Mem)} (h : lMakeMap hp res = some outs) (k : Cont P ro n ops r ds L K ρ hp W (some d) outs) :
    Ops P ro n ops (⟨some d, .makeMap T' res, T, p, es, g⟩ :: r) ds L (spl hp.n W) K := by
  unfold lMakeMap at h
  split at h
  · obtain ⟨hp', h1, rfl⟩ := one_ok h
    obtain ⟨hs, rfl⟩ := newS_ok h1
    refine Ops.val hw (by simp) ht fun Γ F a w he hh => ⟨.map (some w.heap.size), { w with heap := w.heap.push (.map #[] 0) }, pt w.heap.size (.map #[] 0) :: spl hp.n W, ?_, hh.newb _, ?_⟩
    · simp only [execOp, Option.map_none, Instr.makeMap, Sem.run_bind, Result.andThen_ok, run_newObj, Sem.run_pure]
    · exact obj_new (ch := .map [] 0) hH hs ⟨⟨0, upd_same⟩, [], rfl, rfl⟩ fun W' hH' hst => k _ (List.mem_singleton.2 rfl) _ W' _ (rho_new hH _) hH' ⟨_, 0, upd_same, rfl⟩ rfl hst
  · cases h
def modV : List (V × V × Nat) → Nat → V → V → List (V × V × Nat)
  | [], _, _, _ => []
  | (_, _, b) :: l, 0, k, v => (k, v, b) :: l
  | e :: l, i + 1, k, v => e :: modV l i k v
theorem REs.mod {k v : V} {uk uv : Value} (hk : R ρ k uk) (hv : R ρ v uv) : ∀ {l : List (V × V × Nat)} {es : List MapEntry} (i : Nat), REs ρ l es → REs ρ (modV l i k v) (es.modify i fun e => { e with key := uk, val := uv })
  | [], es, i, h => by rw [show es = [] from h]; cases i <;> exact rfl
  | (k0, v0, b) :: l, es, 0, h => by obtain ⟨k', v', l', h1, h2, h3, rfl⟩ := h; exact ⟨uk, uv, l', hk, hv, h3, by simp⟩
  | (k0, v0, b) :: l, es, i + 1, h => by obtain ⟨k', v', l', h1, h2, h3, rfl⟩ := h; exact ⟨k', v', _, h1, h2, REs.mod hk hv i h3, by simp⟩
theorem REs.push {k v : V} {uk uv : Value} {b : Nat} (hk : R ρ k uk) (hv : R ρ v uv) : ∀ {l : List (V × V × Nat)} {es : List MapEntry}, REs ρ l es → REs ρ (l ++ [(k, v, b)]) (es ++ [⟨uk, uv, b⟩])
  | [], es, h => by rw [show es = [] from h]; exact ⟨uk, uv, [], hk, hv, rfl, rfl⟩
  | (k0, v0, b0) :: l, es, h => by obtain ⟨k', v', l', h1, h2, h3, rfl⟩ := h; exact ⟨k', v', _, h1, h2, REs.push hk hv h3, rfl⟩
theorem REs.erase : ∀ {l : List (V × V × Nat)} {es : List MapEntry} (i : Nat), REs ρ l es → REs ρ (l.eraseIdx i) (es.eraseIdx i)
  | [], es, i, h => by rw [show es = [] from h]; exact rfl
  | (k0, v0, b) :: l, es, 0, h => by obtain ⟨k', v', l', h1, h2, h3, rfl⟩ := h; exact h3
  | (k0, v0, b) :: l, es, i + 1, h => by obtain ⟨k', v', l', h1, h2, h3, rfl⟩ := h; exact ⟨k', v', _, h1, h2, REs.erase i h3, rfl⟩
theorem sameBits_of {kd : TypeDesc} {a b : Value} (h : Instr.sameNow kd a b = some true) : Instr.sameBits 10000 b a = true := by
  have : ∀ q, Instr.sameBits (q + 1) b a = true := by
    intro q
    unfold Instr.sameNow at h
    split at h
    · split at h
      · rename_i hk; subst hk; simp at h; subst h; simp [Instr.sameBits]
      · cases h
    · rename_i s1 s2
      simp only [Option.some.injEq, beq_toListBytes, beq_iff_eq] at h
      simp [Instr.sameBits, beq_toListBytes, h]
    · simp at h; subst h; simp [Instr.sameBits]
    · cases h
  exact this 9999
theorem findNow_at {kd : TypeDesc} {a : Value} : ∀ {es : List MapEntry} {i j : Nat} {v : Value}, Instr.findNow kd a es i = some (some (j, v)) → i ≤ j ∧ ∃ e, es[j - i]? = some e ∧ Instr.sameNow kd a e.key = some true
  | [], i, j, v, h => by simp [Instr.findNow] at h
  | e :: es, i, j, v, h => by
    simp only [Instr.findNow] at h
    split at h
    · rename_i hs; simp at h; obtain ⟨rfl, rfl⟩ := h; exact ⟨Nat.le_refl _, e, by simp, hs⟩
    · obtain ⟨h1, e', h2, h3⟩ := findNow_at h
      exact ⟨by omega, e', by rw [show j - i = (j - (i + 1)) + 1 by omega]; simpa using h2, h3⟩
    · cases h
def lMapUpdate (P : Program) (G : GV) (env : Tr V) (hp : Mem) (t : TypeId) (x y z : Operand) : Option (List (V × Mem)) :=
  match P.underlying t with
  | some (.map kt _) => match P.underlying kt with
    | some kd => match evO G env x, evO G env y, evO G env z with
      | some (.map id), some k, some v => match fits kd k, hp.t.get id with
        | true, some (.map l clk) => match findV k l 0 with
          | some (some (i, _)) => one .und (hp.putS id (some (.map (modV l i k v) clk)))
          | some none => one .und (hp.putS id (some (.map (l ++ [(k, v, clk)]) (clk + 1))))
          | none => none
        | _, _ => none
      | _, _, _ => none
    | none => none
  | _ => none
theorem lMapUpdate_run (hG : GOk ρ G) (hE : RE ρ env L) (hH : HR ρ hp W) {outs : List (V × Mem)} (h : lMapUpdate P G env hp T' x y z = some outs) :
    ∃ ux uy uz, evalL L x = some ux ∧ evalL L y = some uy ∧ evalL L z = some uz ∧ ∃ id b o o' hp', outs = [(.und, hp')] ∧ id < hp.n ∧ hp'.n = hp.n ∧ hp'.ro = hp.ro ∧ (∀ j ∈ hp.ro, j ≠ id) ∧ W id = some (b, o) ∧ notCells o = true ∧ HR ρ hp' (upd W id (some (b, o'))) ∧
      ∀ w, w.heap[b]? = some o → (Instr.mapUpdate T' ux uy uz).run P w = .ok () { w with heap := w.heap.setIfInBounds b o' } := by
  unfold lMapUpdate at h
  split at h
  · rename_i kt et hT
    split at h
    · rename_i kd hkd
      split at h
      · rename_i id k v hx hy hz
        split at h
        · rename_i l clk hf hc
          obtain ⟨ux, hux, bb, cc, hrr, rfl⟩ := evO_ok hG hE hx
          obtain ⟨uy, huy, hvy⟩ := evO_ok hG hE hy
          obtain ⟨uz, huz, hvz⟩ := evO_ok hG hE hz
          obtain ⟨b, c, es', hW, hr, hes⟩ := hH.map hc
          rw [hr] at hrr; cases hrr
          have hchk := fun w b => fits_ok (P := P) hf hvy w hkd b
          refine ⟨_, uy, uz, hux, huy, huz, id, bb, .map es'.toArray clk, ?_⟩
          split at h
          · rename_i i v0 hfv
            obtain ⟨hp', h1, rfl⟩ := one_ok h
            have hro := putS_ro h1
            obtain ⟨hs, rfl⟩ := putS_ok h1
            obtain ⟨r', hr1, v', hr2, hr3, _⟩ := findV_ok hf hvy hes hfv
            subst hr2
            obtain ⟨_, e, he1, he2⟩ := findNow_at hr1
            have hsb := sameBits_of he2
            refine ⟨.map (es'.modify i fun e => { e with key := uy, val := uz }).toArray clk, _, rfl, hH.lt hc, rfl, rfl, hro, hW, rfl, hH.put (ch := .map (modV l i k v) clk) hs ⟨⟨cc, hr⟩, _, rfl, hes.mod hvy hvz i⟩, fun w hw => ?_⟩
            have hfk := findKey_run (P := P) hkd hr1 w
            simp only [Nat.sub_zero] at he1
            have hk2 : ((es'[i]?.map (·.key)).getD uy) = e.key := by rw [he1]; rfl
            simp only [Instr.mapUpdate, Sem.run_bind, run_underlying hT, Result.andThen_ok, getObj_run hw, hchk, hfk, List.getElem?_toArray, hk2, Instr.keyThatStays, hsb, if_true, Sem.run_pure, setObj_run hw]
            simp
          · rename_i hfv
            obtain ⟨hp', h1, rfl⟩ := one_ok h
            have hro := putS_ro h1
            obtain ⟨hs, rfl⟩ := putS_ok h1
            obtain ⟨r', hr1, hr2⟩ := findV_ok hf hvy hes hfv
            dsimp only at hr2
            subst hr2
            refine ⟨.map (es' ++ [(MapEntry.mk uy uz clk)]).toArray (clk + 1), _, rfl, hH.lt hc, rfl, rfl, hro, hW, rfl, hH.put (ch := .map (l ++ [(k, v, clk)]) (clk + 1)) hs ⟨⟨cc, hr⟩, _, rfl, hes.push hvy hvz⟩, fun w hw => ?_⟩
            have hfk := findKey_run (P := P) hkd hr1 w
            simp only [Instr.mapUpdate, Sem.run_bind, run_underlying hT, Result.andThen_ok, getObj_run hw, hchk, hfk, setObj_run hw]
            simp
          · cases h
        · cases h
      · cases h
    · cases h
  · cases h
theorem lMapUpdate_ok (hG : GOk ρ G) (hE : RE ρ env L) (hH : HR ρ hp W) {o : Op} (ho : o = .mapUpdate T' x y z ∨ o = .insert T' x y z) (hw : wants ops L ⟨none, o, T, p, es, g⟩ = some true) {outs : List (V × Mem)} (h : lMapUpdate P G env hp T' x y z = some outs) (k : Cont P ro n ops r ds L K ρ hp W none outs) :
    Ops P ro n ops (⟨none, o, T, p, es, g⟩ :: r) ds L (spl hp.n W) K := by
  obtain ⟨ux, uy, uz, h1, h2, h3, id, b, ob, ob', hp', rfl, hlt, hn', hro', hro, hW, hnc, hH', hrun⟩ := lMapUpdate_run hG hE hH h
  have hd : ∀ c, o ≠ .defer c := by rcases ho with rfl | rfl <;> simp
  refine Ops.skp hw hd rfl fun Γ F a w he hh => ?_
  have pk := spl_pick hlt hW
  refine ⟨_, _, ?_, Hold.setObj hh pk ob', ?_⟩
  · rcases ho with rfl | rfl <;> simp only [execOp, he.eval h1, he.eval h2, he.eval h3, Sem.run_bind, hrun w (hh.block pk), Result.andThen_ok, Sem.run_pure]
  · refine Ops.weak ?_ (fun x hx => spl_put hlt x hx)
    rw [upd_upd, ← hn']
    exact k _ (List.mem_singleton.2 rfl) ρ _ undef (Rho.le_refl _) hH' rfl hro' (Stay.put hro)
end
end
end Go.Y
