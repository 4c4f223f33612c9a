/- Structs by value, comparisons with nil, zeros appended, interfaces, function values, panics. -/
import Derived.Test.YtlboeehapelabaaDoorZ8
set_option linter.unusedVariables false
set_option linter.unusedSimpArgs false
namespace Go.Z
def fieldOff2 (P : Program) (s : TypeId) (f : Nat) : Option (Nat × TypeId) :=
  match P.underlying s with
  | some (.struct fs) => match fs[f]? with
    | some fl => some (fl.offset, fl.type)
    | none => none
  | _ => none
section
variable {P : Program} {ro : Option Nat} {n : Nat} {ops : Array Oper} {r : List Oper} {ds : List Deferred} {L : Lo} {H H' H2 : List SP} {K : Kont} {C : SP}
  {T T' t xt : TypeId} {p : String} {es : Array Edge} {g : Option (Nat × Bool)} {d e sz by_ b off : Nat} {x y : Operand} {v z : Value} {m c k kc : Nat} {A : Option Addr} {cells : List Value}
theorem places_run (w : World) : ∀ (fs : List Field) (l : List (Nat × Nat)), (fs.mapM fun f => (sizeP P f.type).map fun n => (f.offset, n)) = some l → (fs.mapM (m := Sem) fun f => do Pure.pure (f.offset, ← sizeOf f.type)).run P w = .ok l w := by
  intro fs
  induction fs with
  | nil => intro l h; simp at h; subst h; rfl
  | cons f fs ih =>
    intro l h
    simp only [List.mapM_cons] at h ⊢
    cases hs : sizeP P f.type with
    | none => simp [hs] at h
    | some k =>
      cases hr : (fs.mapM fun f => (sizeP P f.type).map fun n => (f.offset, n)) with
      | none => simp [hs, hr] at h
      | some l' =>
        simp [hs, hr] at h
        subst h
        simp only [Sem.run_bind, sizeOf_run w hs, Result.andThen_ok, Sem.run_pure, ih l' hr]
theorem q_build {parts : Array (Nat × Operand)} {pl : List (Nat × Nat)} {zc : List Value} {pv : List (Nat × Value)} {cs : Array Value} (hl : layout P T' = some (pl, zc))
    (hpv : evalAll L (parts.toList.map (·.2)) = some (pv.map (·.2))) (hpi : parts.toList.map (·.1) = pv.map (·.1)) (hf : Instr.fill (pl.toArray[·]?) zc.toArray pv = some cs)
    (hw : wants ops L ⟨some d, .build T' parts, T, p, es, g⟩ = some true) (ht : Nat.blt d n = true) : QStep P n ops ⟨some d, .build T' parts, T, p, es, g⟩ ds L H (.agg cs) :=
  qpure hw ht (by simp) fun a w he => by
    unfold layout at hl
    split at hl
    · rename_i fs z hu hz
      cases hm : (fs.toList.mapM fun f => (sizeP P f.type).map fun n => (f.offset, n)) with
      | none => rw [hm] at hl; simp at hl
      | some l =>
        rw [hm] at hl
        simp only [Option.map_some, Option.some.injEq, Prod.mk.injEq] at hl
        obtain ⟨rfl, rfl⟩ := hl
        have hp : (parts.map fun (i, x) => (i, a.eval x)).toList = pv := by
          have h3 := he.evalAll hpv
          have : parts.toList.map (fun q => (q.1, a.eval q.2)) = pv := by
            have hl : parts.toList.length = pv.length := by have := congrArg List.length hpi; simpa using this
            apply List.ext_getElem
            · simpa using hl
            · intro i hi1 hi2
              have e1 := congrArg (·[i]?) h3
              have e2 := congrArg (·[i]?) hpi
              simp only [List.length_map, Array.length_toList] at hi1
              simp [hi1, hi2] at e1 e2
              simp only [List.getElem_map, Array.getElem_toList]
              exact Prod.ext e2 e1
          simpa using this
        have hpr := places_run (P := P) w _ _ hm
        simp only [execOp, Instr.build, Sem.run_bind, zeroValue_run w hz, Result.andThen_ok, underlying, run_program, hu, Sem.run_pure, Array.mapM_eq_mapM_toList, Sem.run_map, hpr, hp]
        simp only [Array.toArray_toList] at hf
        rw [hf]
        rfl
    · cases hl
theorem q_field {s ft : TypeId} {f o : Nat} {cs : Array Value} {sd : TypeDesc} (hf : fieldOff2 P s f = some (o, ft)) (hu : P.underlying ft = some sd) (hs : scDesc sd = true) (hx : evalL L x = some (.agg cs)) (hv : cs[o]? = some v)
    (hw : wants ops L ⟨some d, .field s x f, T, p, es, g⟩ = some true) (ht : Nat.blt d n = true) : QStep P n ops ⟨some d, .field s x f, T, p, es, g⟩ ds L H v :=
  qpure hw ht (by simp) fun a w he => by
    unfold fieldOff2 at hf
    split at hf
    · rename_i fs hus
      split at hf
      · rename_i fl hfl
        cases hf
        simp [execOp, he.eval hx, Instr.field, underlying, hus, hfl, part, isAgg_sc w hu hs, asAgg, hv]
      · cases hf
    · cases hf
theorem q_fielda {s ft : TypeId} {f o k : Nat} {cs : Array Value} {vs : Array Value} {sd : TypeDesc} (hf : fieldOff2 P s f = some (o, ft)) (hu : P.underlying ft = some sd) (hs : scDesc sd = false) (hk : sizeP P ft = some k) (hx : evalL L x = some (.agg cs)) (hv : cs.extract o (o + k) = vs)
    (hw : wants ops L ⟨some d, .field s x f, T, p, es, g⟩ = some true) (ht : Nat.blt d n = true) : QStep P n ops ⟨some d, .field s x f, T, p, es, g⟩ ds L H (.agg vs) :=
  qpure hw ht (by simp) fun a w he => by
    unfold fieldOff2 at hf
    split at hf
    · rename_i fs hus
      split at hf
      · rename_i fl hfl
        cases hf
        simp [execOp, he.eval hx, Instr.field, underlying, hus, hfl, part, isAgg_ag w hu hs, asAgg, sizeOf_run w hk, hv]
      · cases hf
    · cases hf

/-! ### Comparisons with nil, of bools -/
variable {X Y E : TypeId} {a1 : Addr} {b1 b2 : Bool}
theorem q_bin_raw {bo : BinOp} {u1 u2 v : Value} (hx : evalL L x = some u1) (hy : evalL L y = some u2) (hg : ∀ w, (eqGuard bo X x y u1 u2).run P w = .ok () w) (hr : ∀ w, (binOp bo X u1 u2).run P w = .ok v w)
    (hw : wants ops L ⟨some d, .binOp bo X x y Y, T, p, es, g⟩ = some true) (ht : Nat.blt d n = true) : QStep P n ops ⟨some d, .binOp bo X x y Y, T, p, es, g⟩ ds L H v :=
  qpure hw ht (by simp) fun A w he => by
    simp only [execOp, he.eval hx, he.eval hy, Sem.run_bind, hg, Result.andThen_ok, hr, Sem.run_pure]
theorem q_ptr_eql (hu : P.underlying X = some (.pointer E)) (hx : evalL L x = some (.pointer (some a1))) (hy : evalL L y = some (.pointer none)) (hw : wants ops L ⟨some d, .binOp .eql X x y Y, T, p, es, g⟩ = some true) (ht : Nat.blt d n = true) : QStep P n ops ⟨some d, .binOp .eql X x y Y, T, p, es, g⟩ ds L H (.bool false) :=
  q_bin_raw hx hy (fun w => by simp [eqGuard]) (fun w => by
    have h1 : ∀ dp, (Op.equalIn (dp + 1) X (.pointer (some a1)) (.pointer none)).run P w = .ok false w := fun dp => by simp [Op.equalIn, underlying, hu]
    have h2 : (Op.equal X (.pointer (some a1)) (.pointer none)).run P w = .ok false w := h1 9999
    have h3 : binOp .eql X (.pointer (some a1)) (.pointer none) = (do Pure.pure (.bool ((← Op.equal X (.pointer (some a1)) (.pointer none))))) := rfl
    rw [h3]; simp only [Sem.run_bind, h2, Result.andThen_ok, Sem.run_pure]) hw ht
theorem q_ptr_eql_nn (hu : P.underlying X = some (.pointer E)) (hx : evalL L x = some (.pointer none)) (hy : evalL L y = some (.pointer none)) (hw : wants ops L ⟨some d, .binOp .eql X x y Y, T, p, es, g⟩ = some true) (ht : Nat.blt d n = true) : QStep P n ops ⟨some d, .binOp .eql X x y Y, T, p, es, g⟩ ds L H (.bool true) :=
  q_bin_raw hx hy (fun w => by simp [eqGuard]) (fun w => by
    have h1 : ∀ dp, (Op.equalIn (dp + 1) X (.pointer none) (.pointer none)).run P w = .ok true w := fun dp => by simp [Op.equalIn, underlying, hu]
    have h2 : (Op.equal X (.pointer none) (.pointer none)).run P w = .ok true w := h1 9999
    have h3 : binOp .eql X (.pointer none) (.pointer none) = (do Pure.pure (.bool ((← Op.equal X (.pointer none) (.pointer none))))) := rfl
    rw [h3]; simp only [Sem.run_bind, h2, Result.andThen_ok, Sem.run_pure]) hw ht
theorem q_ptr_neq (hu : P.underlying X = some (.pointer E)) (hx : evalL L x = some (.pointer (some a1))) (hy : evalL L y = some (.pointer none)) (hw : wants ops L ⟨some d, .binOp .neq X x y Y, T, p, es, g⟩ = some true) (ht : Nat.blt d n = true) : QStep P n ops ⟨some d, .binOp .neq X x y Y, T, p, es, g⟩ ds L H (.bool true) :=
  q_bin_raw hx hy (fun w => by simp [eqGuard]) (fun w => by
    have h1 : ∀ dp, (Op.equalIn (dp + 1) X (.pointer (some a1)) (.pointer none)).run P w = .ok false w := fun dp => by simp [Op.equalIn, underlying, hu]
    have h2 : (Op.equal X (.pointer (some a1)) (.pointer none)).run P w = .ok false w := h1 9999
    have h3 : binOp .neq X (.pointer (some a1)) (.pointer none) = (do Pure.pure (.bool (!(← Op.equal X (.pointer (some a1)) (.pointer none))))) := rfl
    rw [h3]; simp only [Sem.run_bind, h2, Result.andThen_ok, Sem.run_pure, Bool.not_true, Bool.not_false]) hw ht
theorem q_ptr_neq_nn (hu : P.underlying X = some (.pointer E)) (hx : evalL L x = some (.pointer none)) (hy : evalL L y = some (.pointer none)) (hw : wants ops L ⟨some d, .binOp .neq X x y Y, T, p, es, g⟩ = some true) (ht : Nat.blt d n = true) : QStep P n ops ⟨some d, .binOp .neq X x y Y, T, p, es, g⟩ ds L H (.bool false) :=
  q_bin_raw hx hy (fun w => by simp [eqGuard]) (fun w => by
    have h1 : ∀ dp, (Op.equalIn (dp + 1) X (.pointer none) (.pointer none)).run P w = .ok true w := fun dp => by simp [Op.equalIn, underlying, hu]
    have h2 : (Op.equal X (.pointer none) (.pointer none)).run P w = .ok true w := h1 9999
    have h3 : binOp .neq X (.pointer none) (.pointer none) = (do Pure.pure (.bool (!(← Op.equal X (.pointer none) (.pointer none))))) := rfl
    rw [h3]; simp only [Sem.run_bind, h2, Result.andThen_ok, Sem.run_pure, Bool.not_true, Bool.not_false]) hw ht
theorem q_bool_eql (hu : P.underlying X = some .bool) (hx : evalL L x = some (.bool b1)) (hy : evalL L y = some (.bool b2)) (hw : wants ops L ⟨some d, .binOp .eql X x y Y, T, p, es, g⟩ = some true) (ht : Nat.blt d n = true) : QStep P n ops ⟨some d, .binOp .eql X x y Y, T, p, es, g⟩ ds L H (.bool (b1 == b2)) :=
  q_bin_raw hx hy (fun w => by simp [eqGuard]) (fun w => by
    have h1 : ∀ dp, (Op.equalIn (dp + 1) X (.bool b1) (.bool b2)).run P w = .ok (b1 == b2) w := fun dp => by simp [Op.equalIn, underlying, hu]
    have h2 : (Op.equal X (.bool b1) (.bool b2)).run P w = .ok (b1 == b2) w := h1 9999
    have h3 : binOp .eql X (.bool b1) (.bool b2) = (do Pure.pure (.bool ((← Op.equal X (.bool b1) (.bool b2))))) := rfl
    rw [h3]; simp only [Sem.run_bind, h2, Result.andThen_ok, Sem.run_pure]) hw ht
theorem q_bool_neq (hu : P.underlying X = some .bool) (hx : evalL L x = some (.bool b1)) (hy : evalL L y = some (.bool b2)) (hw : wants ops L ⟨some d, .binOp .neq X x y Y, T, p, es, g⟩ = some true) (ht : Nat.blt d n = true) : QStep P n ops ⟨some d, .binOp .neq X x y Y, T, p, es, g⟩ ds L H (.bool (!(b1 == b2))) :=
  q_bin_raw hx hy (fun w => by simp [eqGuard]) (fun w => by
    have h1 : ∀ dp, (Op.equalIn (dp + 1) X (.bool b1) (.bool b2)).run P w = .ok (b1 == b2) w := fun dp => by simp [Op.equalIn, underlying, hu]
    have h2 : (Op.equal X (.bool b1) (.bool b2)).run P w = .ok (b1 == b2) w := h1 9999
    have h3 : binOp .neq X (.bool b1) (.bool b2) = (do Pure.pure (.bool (!(← Op.equal X (.bool b1) (.bool b2))))) := rfl
    rw [h3]; simp only [Sem.run_bind, h2, Result.andThen_ok, Sem.run_pure, Bool.not_true, Bool.not_false]) hw ht
theorem q_iface_eql_n {q : Value} {ms : Array (String × TypeId)} {ct : TypeId} (hu : P.underlying X = some (.interface ms)) (hx : evalL L x = some (.iface ct q)) (hy : evalL L y = some .nilIface) (hw : wants ops L ⟨some d, .binOp .eql X x y Y, T, p, es, g⟩ = some true) (ht : Nat.blt d n = true) : QStep P n ops ⟨some d, .binOp .eql X x y Y, T, p, es, g⟩ ds L H (.bool false) :=
  q_bin_raw hx hy (fun w => by simp [eqGuard]) (fun w => by
    have h1 : ∀ dp, (Op.equalIn (dp + 1) X (.iface ct q) .nilIface).run P w = .ok false w := fun dp => by simp [Op.equalIn, underlying, hu]
    have h2 : (Op.equal X (.iface ct q) .nilIface).run P w = .ok false w := h1 9999
    have h3 : binOp .eql X (.iface ct q) .nilIface = (do Pure.pure (.bool ((← Op.equal X (.iface ct q) .nilIface)))) := rfl
    rw [h3]; simp only [Sem.run_bind, h2, Result.andThen_ok, Sem.run_pure]) hw ht
theorem q_slnil_eql {m c m' c' : Nat} {A : Option Addr} (hu : P.underlying X = some (.slice E)) (hx : evalL L x = some (.slice A m c)) (hy : evalL L y = some (.slice none m' c')) (hw : wants ops L ⟨some d, .binOp .eql X x y Y, T, p, es, g⟩ = some true) (ht : Nat.blt d n = true) : QStep P n ops ⟨some d, .binOp .eql X x y Y, T, p, es, g⟩ ds L H (.bool A.isNone) :=
  q_bin_raw hx hy (fun w => by simp [eqGuard]) (fun w => by
    have h1 : ∀ dp, (Op.equalIn (dp + 1) X (.slice A m c) (.slice none m' c')).run P w = .ok A.isNone w := fun dp => by cases A <;> simp [Op.equalIn, underlying, hu]
    have h2 : (Op.equal X (.slice A m c) (.slice none m' c')).run P w = .ok A.isNone w := h1 9999
    have h3 : binOp .eql X (.slice A m c) (.slice none m' c') = (do Pure.pure (.bool ((← Op.equal X (.slice A m c) (.slice none m' c'))))) := rfl
    rw [h3]; simp only [Sem.run_bind, h2, Result.andThen_ok, Sem.run_pure]) hw ht

/-! ### Interfaces, function values, panics -/
theorem q_makeInterface {sd : TypeDesc} (hu : P.underlying T' = some sd) (hs : (match sd with | .interface _ => true | _ => false) = false) (hx : evalL L x = some v)
    (hw : wants ops L ⟨some d, .makeInterface T' x, T, p, es, g⟩ = some true) (ht : Nat.blt d n = true) : QStep P n ops ⟨some d, .makeInterface T' x, T, p, es, g⟩ ds L H (.iface T' v) :=
  qpure hw ht (by simp) fun a w he => by
    cases sd <;> simp_all [execOp, Instr.makeInterface, he.eval hx, underlying]
theorem q_typeAssert_ok {sd : TypeDesc} {X A' : TypeId} (hu : P.underlying A' = some sd) (hs : (match sd with | .interface _ => true | _ => false) = false) (hx : evalL L x = some (.iface A' v))
    (hw : wants ops L ⟨some d, .typeAssert x X A' true, T, p, es, g⟩ = some true) (ht : Nat.blt d n = true) : QStep P n ops ⟨some d, .typeAssert x X A' true, T, p, es, g⟩ ds L H (.tuple #[v, .bool true]) :=
  qpure hw ht (by simp) fun a w he => by
    cases sd <;> simp_all [execOp, Instr.typeAssert, he.eval hx, underlying]
theorem q_typeAssert_no {sd : TypeDesc} {X A' B' : TypeId} {z : Value} (hu : P.underlying A' = some sd) (hs : (match sd with | .interface _ => true | _ => false) = false) (hz : zeroP P A' = some z) (hx : evalL L x = some (.iface B' v)) (hne : Nat.beq B' A' = false)
    (hw : wants ops L ⟨some d, .typeAssert x X A' true, T, p, es, g⟩ = some true) (ht : Nat.blt d n = true) : QStep P n ops ⟨some d, .typeAssert x X A' true, T, p, es, g⟩ ds L H (.tuple #[z, .bool false]) :=
  qpure hw ht (by simp) fun a w he => by
    have hne' : ¬ B' = A' := fun h => by rw [h, Nat.beq_refl] at hne; cases hne
    cases sd <;> simp_all [execOp, Instr.typeAssert, he.eval hx, underlying, zeroValue_run]
theorem q_makeFunc {fn : Go.Fn} {xs ys : Array Operand} {vs us : List Value} (hx : evalAll L xs.toList = some vs) (hy : evalAll L ys.toList = some us)
    (hw : wants ops L ⟨some d, .makeFunc fn xs ys, T, p, es, g⟩ = some true) (ht : Nat.blt d n = true) : QStep P n ops ⟨some d, .makeFunc fn xs ys, T, p, es, g⟩ ds L H (.func fn vs.toArray us.toArray) :=
  qpure hw ht (by simp) fun a w he => by
    have h1 := he.evalAll hx
    have h2 := he.evalAll hy
    have e1 : xs.map a.eval = vs.toArray := by apply Array.ext'; simpa using h1
    have e2 : ys.map a.eval = us.toArray := by apply Array.ext'; simpa using h2
    simp [execOp, Instr.makeFunc, e1, e2]
theorem Ops.panic {ct : TypeId} {d' : Option Nat} (hx : evalL L x = some (.iface ct v)) (hw : wants ops L ⟨d', .panic x, T, p, es, g⟩ = some true) (k : K (.panic [{ v := .iface ct v, recovered := false }]) ds L H) :
    Ops P ro n ops (⟨d', .panic x, T, p, es, g⟩ :: r) ds L H K := by
  intro Γ F a w Q he hh hq
  simp only [lw, wants_ok he hw, if_true]
  refine ⟨fun _ _ => trivial, ?_⟩
  rw [Oper.semAt_eq _ _ _ (by simp)]
  have : (execOp a.eval ⟨d', .panic x, T, p, es, g⟩).run P w = .halt (.panic (.iface ct v)) w := by simp [execOp, Instr.panic, he.eval hx]
  rw [this]
  exact hq (.panic _) _ _ _ _ _ k he hh
/-- A call of a function value. -/
theorem Ops.callv {dd : Option Nat} {fo : Operand} {f : FuncId} {first cap : Array Value} {xs : Array Operand} {ts : Array TypeId} {vs : List Value} {Hc Hr : List SP} {Post : Ending → List SP → Prop}
    (hc : Callable P f) (hfo : evalL L fo = some (.func (.func f) first cap)) (hw : wants ops L ⟨dd, .call { callee := .value fo, args := xs, argTypes := ts }, T, p, es, g⟩ = some true) (ht : dstOk dd n = true)
    (hx : evalAll L xs.toList = some vs) (spec : Fn P f (first.toList ++ vs ++ cap.toList) Hc Post) (s : Split H Hc Hr)
    (k : ∀ e Hc', Post e Hc' → After P ro n ops r dd ds L Hr K e Hc') : Ops P ro n ops (⟨dd, .call { callee := .value fo, args := xs, argTypes := ts }, T, p, es, g⟩ :: r) ds L H K := by
  obtain ⟨fn, h1, h2, h3⟩ := hc
  refine Ops.enter hw (by simp) ht (fun Γ F a w he hh => ?_) spec s k
  have hargs := he.evalAll hx
  have this : xs.map a.eval = vs.toArray := by apply Array.ext'; simpa using hargs
  have hng' : ¬ fn.name = "runtime.NumGoroutine" := by simpa using h3
  have hb' : ¬ fn.body = none := by cases h : fn.body <;> simp_all
  have e1 : first ++ vs.toArray ++ cap = (first.toList ++ vs ++ cap.toList).toArray := by simp
  simp only [execOp, resolve, Sem.run_bind, he.eval hfo]
  simp [Deferred.ofValue, invoke, callFunc, h1, hb', hng', this]
end
end Go.Z
