/- Quiet operations: maps, interfaces, builtins; all of them together. -/
import Derived.Test.YtiilaimcmkdfjaaGreatDoorM3
set_option linter.unusedVariables false
set_option linter.unusedSimpArgs false
set_option linter.unusedSectionVars false
namespace Go.Y
open Go.Z
noncomputable section
section
variable {P : Program} {n : Nat} {ops : Array Oper} {ds : List Deferred} {L : Lo} {ρ : Rho} {W : RW} {G : GV} {env : Tr V} {hp : Mem}
 {d : Nat} {T T' X Y : TypeId} {p : String} {es : Array Edge} {g : Option (Nat × Bool)} {op : Op} {v : V} {u : Value} {x y z : Operand}
theorem qLen_ok {xs : Array Operand} {ts : Array TypeId} {t : TypeId} (hxs : xs.toList = [x]) (hts : ts[0]? = some t) (hw : wants ops L ⟨some d, .call { callee := .builtin .len, args := xs, argTypes := ts }, T, p, es, g⟩ = some true) (ht : Nat.blt d n = true) {a : V} (hx : evalL L x = some u) (hu : R ρ a u) (h : qLen P t a = some v) :
  QOk P n ops ⟨some d, .call { callee := .builtin .len, args := xs, argTypes := ts }, T, p, es, g⟩ ds L ρ W v [] := by
 have e : xs = #[x] := by cases xs; simp at hxs; simp [hxs]
 subst e
 unfold qLen at h
 split at h
 ·rename_i hT; cases h; cases hu; exact .pure rfl λ H => q_len_s hts hT hx hw ht
 ·rename_i hT; cases h; obtain ⟨l, rfl⟩ := hu; exact .pure ⟨_, rfl⟩ λ H => q_len_s hts hT hx hw ht
 ·rename_i hT; cases h; obtain ⟨b, c, _, rfl, _⟩ := hu; exact .pure rfl λ H => zxX hts hT hx hw ht
 ·rename_i hT; cases h; obtain ⟨b, c, base, _, rfl, _⟩ := hu; exact .pure rfl λ H => zxX hts hT hx hw ht
 ·rename_i hT; cases h; cases hu; exact .pure rfl λ H => zxX hts hT hx hw ht
 ·rename_i hT; cases h; obtain ⟨A, c, rfl⟩ := hu; exact .pure rfl λ H => zxX hts hT hx hw ht
 ·rename_i hT; cases h; cases hu
  exact .run hw ht (by simp) rfl λ a w he => by simp [execOp, resolve, invoke, builtin, Builtin.len_, hts, underlying, hT, he.eval hx, goInt]
 ·cases h
def notCells : Obj -> Bool
 | .cells .. => false
 | _ => true
theorem zqy {w : World} {r : Nat} {o : Obj} (h : w.heap[r]? = some o) (hn : notCells o = true := by rfl) : (getObj r).run P w = .ok o w := by
 cases o <;> first | (cases hn; done) | simp [getObj, Sem.run, h]
theorem REs.length : ∀ {l : List (V × V × Nat)} {es : List MapEntry}, REs ρ l es -> es.length = l.length
 | [], es, h => by rw [show es = [] from h]; rfl
 | (k, v, b) :: l, es, h => by obtain ⟨k', v', l', h1, h2, h3, rfl⟩ := h; simp [REs.length h3]
theorem HR.map (hH : HR ρ hp W) {id clk : Nat} {l : List (V × V × Nat)} (e : hp.t.get id = some (.map l clk)) : ∃ b c es', W id = some (b, .map es'.toArray clk) /\ ρ id = some (b, c) /\ REs ρ l es' := by
 obtain ⟨b, o, h1, ⟨c, h2⟩, es', rfl, h3⟩ := hH.rel id _ e
 exact ⟨b, c, es', h1, h2, h3⟩
theorem qMap_ok (hH : HR ρ hp W) {xs : Array Operand} {ts : Array TypeId} {t : TypeId} (hxs : xs.toList = [x]) (hts : ts[0]? = some t) (hw : wants ops L ⟨some d, .call { callee := .builtin .len, args := xs, argTypes := ts }, T, p, es, g⟩ = some true) (ht : Nat.blt d n = true) {a : V} {rd : List Lk} (hx : evalL L x = some u) (hu : R ρ a u) (h : qMap P hp t a = some (v, rd)) :
  QOk P n ops ⟨some d, .call { callee := .builtin .len, args := xs, argTypes := ts }, T, p, es, g⟩ ds L ρ W v rd := by
 have e : xs = #[x] := by cases xs; simp at hxs; simp [hxs]
 subst e
 unfold qMap at h
 split at h
 ·rename_i hT
  split at h
  ·rename_i l clk hc
   cases h
   obtain ⟨b, c, es', hW, hr, hes⟩ := hH.map hc
   obtain ⟨b', c', hr', rfl⟩ := hu
   rw [hr] at hr'; cases hr'
   refine ⟨_, rfl, λ H hH' => qmk hw ht (by simp) λ Γ F a w he hh => ⟨w, ?_, hh⟩⟩
   obtain ⟨b2, ob, H', e1, pk⟩ := hH' _ (List.mem_singleton.2 rfl)
   have e1 := e1.eq
   dsimp only [wh] at e1
   rw [hW] at e1; cases e1
   have hb := hh.block pk
   simp [execOp, resolve, invoke, builtin, Builtin.len_, hts, underlying, hT, he.eval hx, goInt, zqy hb, hes.length]
  ·cases h
 ·cases h
theorem zqO {t : TypeId} {v : V} (h : zeroV P t = some v) : ∃ z, zeroP P t = some z /\ R ρ v z := by
 unfold zeroV at h
 split at h
 ·rename_i z hz; exact ⟨z, hz, ofC_ok h⟩
 ·cases h
theorem ta_same {A : TypeId} {sd : TypeDesc} {u : Value} (hT : P.underlying A = some sd) (hn : isIfc sd = false) (w : World) (ok : Bool) : (Instr.typeAssert (.iface A u) X A ok).run P w = .ok (if ok then .tuple #[u, .bool true] else u) w := by
 cases sd <;> first | (cases hn; done) | simp [Instr.typeAssert, underlying, hT]
theorem ta_other {A t : TypeId} {sd : TypeDesc} {u z : Value} (hT : P.underlying A = some sd) (hn : isIfc sd = false) (hne : t ≠ A) (hz : zeroP P A = some z) (w : World) : (Instr.typeAssert (.iface t u) X A true).run P w = .ok (.tuple #[z, .bool false]) w := by
 cases sd <;> first | (cases hn; done) | simp [Instr.typeAssert, underlying, hT, hne, zql w hz]
theorem ta_nil {A : TypeId} {sd : TypeDesc} {z : Value} (hT : P.underlying A = some sd) (hz : zeroP P A = some z) (w : World) : (Instr.typeAssert .nilIface X A true).run P w = .ok (.tuple #[z, .bool false]) w := by
 cases sd <;> simp [Instr.typeAssert, underlying, hT, zql w hz]
theorem ta_ifc {A t : TypeId} {want : Array (String × TypeId)} {i : TypeInfo} {u : Value} (hT : P.underlying A = some (.interface want)) (hi : P.info? t = some i) (hm : Instr.missingMethod want i.methods = none) (w : World) (ok : Bool) : (Instr.typeAssert (.iface t u) X A ok).run P w = .ok (if ok then .tuple #[.iface t u, .bool true] else .iface t u) w := by
 simp [Instr.typeAssert, underlying, hT, typeInfo, hi, hm]
theorem ta_lacks {A t : TypeId} {want : Array (String × TypeId)} {i : TypeInfo} {u z : Value} {m : String} (hT : P.underlying A = some (.interface want)) (hi : P.info? t = some i) (hm : Instr.missingMethod want i.methods = some m) (hz : zeroP P A = some z) (w : World) : (Instr.typeAssert (.iface t u) X A true).run P w = .ok (.tuple #[z, .bool false]) w := by
 simp [Instr.typeAssert, underlying, hT, typeInfo, hi, hm, zql w hz]
theorem zjF {ok : Bool} {w : World} {a : Act} {r : Value} (h : (Instr.typeAssert u X T' ok).run P w = .ok r w) (he : a.eval x = u) : (execOp a.eval ⟨some d, .typeAssert x X T' ok, T, p, es, g⟩).run P w = .ok (.value r) w := by
 simp only [execOp, he, Sem.run_bind, h, Result.andThen_ok, Sem.run_pure]
theorem isIfc_no {sd : TypeDesc} (h : ∀ m, sd = .interface m -> False) : isIfc sd = false := by
 cases sd <;> first | rfl | exact absurd rfl (h _)
theorem qAssert_ok {ok : Bool} (hw : wants ops L ⟨some d, .typeAssert x X T' ok, T, p, es, g⟩ = some true) (ht : Nat.blt d n = true) {a : V} (hx : evalL L x = some u) (hu : R ρ a u) (h : qAssert P T' a ok = some v) :
  QOk P n ops ⟨some d, .typeAssert x X T' ok, T, p, es, g⟩ ds L ρ W v [] := by
 unfold qAssert at h
 split at h
 ·rename_i t a'
  have hu' := hu
  obtain ⟨u', hv', rfl⟩ := hu
  split at h
  ·rename_i want hT
   split at h
   ·rename_i i hi
    split at h
    ·rename_i hm; cases h
     exact .run hw ht (by simp) ⟨_, .cons hu' (.cons rfl .nil), rfl⟩ λ a w he => zjF (ta_ifc hT hi hm w true) (he.eval hx)
    ·rename_i hm; cases h
     exact .run hw ht (by simp) hu' λ a w he => zjF (ta_ifc hT hi hm w false) (he.eval hx)
    ·rename_i m hm
     split at h
     ·rename_i z hz
      cases h
      obtain ⟨zr, hzr, hzv⟩ := zqO (ρ := ρ) hz
      exact .run hw ht (by simp) ⟨_, .cons hzv (.cons rfl .nil), rfl⟩ λ a w he => zjF (ta_lacks hT hi hm hzr w) (he.eval hx)
     ·cases h
    ·cases h
   ·cases h
  ·rename_i sd hni hT
   have hni := isIfc_no hni
   split at h
   ·rename_i hq
    have hq := beq_tt hq
    subst hq
    cases h
    exact .run hw ht (by simp) ⟨_, .cons hv' (.cons rfl .nil), rfl⟩ λ a w he => zjF (ta_same hT hni w true) (he.eval hx)
   ·rename_i hq
    have hq := beq_tt hq
    subst hq
    cases h
    exact .run hw ht (by simp) hv' λ a w he => zjF (ta_same hT hni w false) (he.eval hx)
   ·rename_i hq
    have hq := beq_ff hq
    split at h
    ·rename_i z hz
     cases h
     obtain ⟨zr, hzr, hzv⟩ := zqO (ρ := ρ) hz
     exact .run hw ht (by simp) ⟨_, .cons hzv (.cons rfl .nil), rfl⟩ λ a w he => zjF (ta_other hT hni hq hzr w) (he.eval hx)
    ·cases h
   ·cases h
  ·cases h
 ·cases hu
  split at h
  ·rename_i sd hT
   split at h
   ·rename_i z hz
    cases h
    obtain ⟨zr, hzr, hzv⟩ := zqO (ρ := ρ) hz
    exact .run hw ht (by simp) ⟨_, .cons hzv (.cons rfl .nil), rfl⟩ λ a w he => zjF (ta_nil hT hzr w) (he.eval hx)
   ·cases h
  ·cases h
 ·cases h
theorem fits_ok {kd : TypeDesc} {k : V} {u : Value} (h : fits kd k = true) (hu : R ρ k u) (w : World) {kt : TypeId} (hk : P.underlying kt = some kd) (b : Bool) : (Instr.checkKey b 10000 kt u).run P w = .ok () w := by
 unfold fits at h
 have : ∀ d, (Instr.checkKey b (d + 1) kt u).run P w = .ok () w := by
  intro d
  split at h <;> first | (cases h; done) | (cases hu; simp [Instr.checkKey, run_underlying hk])
 exact this 9999
theorem sameNow_ok {kd : TypeDesc} {k k2 : V} {u u2 : Value} {b : Bool} (h : fits kd k = true) (hq : keyEq k k2 = some b) (hu : R ρ k u) (hu2 : R ρ k2 u2) : Instr.sameNow kd u u2 = some b := by
 cases k with
 | int k0 a =>
  cases k2 with
  | int k1 b1 =>
   simp only [keyEq] at hq
   split at hq
   ·rename_i hk
    have hk := zqZ hk
    subst hk
    cases hq; cases hu; cases hu2
    cases kd <;> simp [fits] at h
    simp [Instr.sameNow, eqI_ok]; rfl
   ·cases hq
  | _ => cases hq
 | str l =>
  cases k2 with
  | str l2 =>
   cases hq; cases hu; cases hu2
   cases kd <;> simp [fits] at h
   simp [Instr.sameNow, beq_toListBytes, zko, eqB_ok, beq_dec]
  | _ => cases hq
 | bool a =>
  cases k2 with
  | bool b1 =>
   cases hq; cases hu; cases hu2
   cases kd <;> simp [fits] at h
   rfl
  | _ => cases hq
 | _ => cases hq
theorem zjc {kd : TypeDesc} {k : V} {u : Value} (hf : fits kd k = true) (hu : R ρ k u) : ∀ {l : List (V × V × Nat)} {es : List MapEntry} {i : Nat} {r : Option (Nat × V)}, REs ρ l es -> findV k l i = some r ->
  ∃ r', Instr.findNow kd u es i = some r' /\ match r with | none => r' = none | some (j, v) => ∃ v' , r' = some (j, v') /\ R ρ v v' /\ i <= j /\ ∃ e, l[j - i]? = some e /\ e.2.1 = v
 | [], es, i, r, he, h => by
  simp only [findV, Option.some.injEq] at h; subst h; rw [show es = [] from he]; exact ⟨none, rfl, rfl⟩
 | (k2, v2, b2) :: l, es, i, r, he, h => by
  obtain ⟨k', v', l', h1, h2, h3, rfl⟩ := he
  simp only [findV] at h
  split at h
  ·rename_i hq
   cases h
   exact ⟨some (i, v'), by simp [Instr.findNow, sameNow_ok hf hq hu h1], v', rfl, h2, Nat.le_refl _, (k2, v2, b2), by simp, rfl⟩
  ·rename_i hq
   obtain ⟨r', h4, h5⟩ := zjc hf hu (i := i + 1) h3 h
   refine ⟨r', by simp [Instr.findNow, sameNow_ok hf hq hu h1, h4], ?_⟩
   cases r with
   | none => exact h5
   | some q =>
    obtain ⟨j, v⟩ := q
    obtain ⟨v'', h6, h7, h8, e, h9, h10⟩ := h5
    refine ⟨v'', h6, h7, by omega, e, ?_, h10⟩
    rw [show j - i = (j - (i + 1)) + 1 by omega]; simpa using h9
  ·cases h
theorem zxC {kt : TypeId} {kd : TypeDesc} {u : Value} {es : List MapEntry} {r : Option (Nat × Value)} (hk : P.underlying kt = some kd) (h : Instr.findNow kd u es 0 = some r) (w : World) : (Instr.findKey kt u es).run P w = .ok r w := by
 simp [Instr.findKey, run_underlying hk, h]
theorem mapOf_ok (hH : HR ρ hp W) {a : V} {l : List (V × V × Nat)} {rd : List Lk} (hu : R ρ a u) (h : mapOf hp a = some (l, rd)) :
  (u = .map none /\ l = []) \/ ∃ b clk es', u = .map (some b) /\ REs ρ l es' /\ ∀ H, Holds W H rd -> ∃ H', Pick H (pt b (.map es'.toArray clk)) H' := by
 unfold mapOf at h
 split at h
 ·cases h; cases hu; exact .inl ⟨rfl, rfl⟩
 ·split at h
  ·rename_i l' clk hc
   cases h
   obtain ⟨b, c, es', hW, hr, hes⟩ := hH.map hc
   obtain ⟨b', c', hr', rfl⟩ := hu
   rw [hr] at hr'; cases hr'
   refine .inr ⟨b, clk, es', rfl, hes, λ H hH' => ?_⟩
   obtain ⟨b2, ob, H', e1, pk⟩ := hH' _ (List.mem_singleton.2 rfl)
   have e1 := e1.eq
   dsimp only [wh] at e1
   rw [hW] at e1; cases e1
   exact ⟨H', pk⟩
  ·cases h
 ·cases h
theorem qLookup_ok (hH : HR ρ hp W) {ok : Bool} (hw : wants ops L ⟨some d, .lookup T' x y ok, T, p, es, g⟩ = some true) (ht : Nat.blt d n = true) {a k : V} {uk : Value} {rd : List Lk} (hx : evalL L x = some u) (hu : R ρ a u) (hy : evalL L y = some uk) (hk : R ρ k uk) (h : zjk P hp T' a k ok = some (v, rd)) :
  QOk P n ops ⟨some d, .lookup T' x y ok, T, p, es, g⟩ ds L ρ W v rd := by
 unfold zjk at h
 split at h
 ·rename_i kt et hT
  split at h
  ·rename_i kd hkd
   split at h
   ·rename_i es0 rd0 hf hm
    have hchk := λ w b => fits_ok (P := P) hf hk w hkd b
    -- what the real lookup comes to
    have main : ∀ (es' : List MapEntry) (r : Option (Nat × Value)), REs ρ es0 es' -> Instr.findNow kd uk es' 0 = some r -> ∀ (a : Act) (w : World), Env a n ds L ->
      ((u = .map none /\ es' = []) \/ ∃ b clk, u = .map (some b) /\ w.heap[b]? = some (.map es'.toArray clk)) ->
      ∀ (z : Value), (r = none -> zeroP P et = some z) ->
      (execOp a.eval ⟨some d, .lookup T' x y ok, T, p, es, g⟩).run P w = .ok (.value (match r with
       | some (_, v) => if ok then .tuple #[v, .bool true] else v
       | none => if ok then .tuple #[z, .bool false] else z)) w := by
     intro es' r hes hfn a w he hsrc z hz
     have hfk := zxC (P := P) hkd hfn w
     rcases hsrc with ⟨rfl, rfl⟩ | ⟨b, clk, rfl, hb⟩
     ·cases r with
      | none => cases ok <;> simp [execOp, Instr.lookup, he.eval hx, he.eval hy, underlying, hT, hchk, hfk, zql w (hz rfl)]
      | some q => cases ok <;> simp [execOp, Instr.lookup, he.eval hx, he.eval hy, underlying, hT, hchk, hfk]
     ·cases r with
      | none => cases ok <;> simp [execOp, Instr.lookup, he.eval hx, he.eval hy, underlying, hT, hchk, hfk, zqy hb, zql w (hz rfl)]
      | some q => cases ok <;> simp [execOp, Instr.lookup, he.eval hx, he.eval hy, underlying, hT, hchk, hfk, zqy hb]
    have src := mapOf_ok hH hu hm
    obtain ⟨es', hes, hget⟩ : ∃ es', REs ρ es0 es' /\ ∀ H, Holds W H rd0 -> ∀ Γ F w, Hold Γ H F w -> (u = .map none /\ es' = []) \/ ∃ b clk, u = .map (some b) /\ w.heap[b]? = some (.map es'.toArray clk) := by
     rcases src with ⟨h1, rfl⟩ | ⟨b, clk, es', h1, h2, h3⟩
     ·exact ⟨[], rfl, λ H _ Γ F w _ => .inl ⟨h1, rfl⟩⟩
     ·refine ⟨es', h2, λ H hH' Γ F w hh => .inr ⟨b, clk, h1, ?_⟩⟩
      obtain ⟨H', pk⟩ := h3 H hH'
      exact hh.block pk
    split at h
    ·rename_i j v0 hfv
     obtain ⟨r', hr1, v', hr2, hr3, _⟩ := zjc hf hk hes hfv
     subst hr2
     cases h
     cases ok
     ·exact ⟨v', hr3, λ H hH' => qmk hw ht (by simp) λ Γ F a w he hh => ⟨w, by simpa using main es' _ hes hr1 a w he (hget H hH' Γ F w hh) undef (by simp), hh⟩⟩
     ·exact ⟨.tuple #[v', .bool true], ⟨_, .cons hr3 (.cons rfl .nil), rfl⟩, λ H hH' => qmk hw ht (by simp) λ Γ F a w he hh => ⟨w, by simpa using main es' _ hes hr1 a w he (hget H hH' Γ F w hh) undef (by simp), hh⟩⟩
    ·rename_i hfv
     obtain ⟨r', hr1, hr2⟩ := zjc hf hk hes hfv
     dsimp only at hr2
     subst hr2
     split at h
     ·rename_i z hz
      obtain ⟨zr, hzr, hzv⟩ := zqO (ρ := ρ) hz
      cases h
      cases ok
      ·exact ⟨zr, hzv, λ H hH' => qmk hw ht (by simp) λ Γ F a w he hh => ⟨w, by simpa using main es' _ hes hr1 a w he (hget H hH' Γ F w hh) zr (λ _ => hzr), hh⟩⟩
      ·exact ⟨.tuple #[zr, .bool false], ⟨_, .cons hzv (.cons rfl .nil), rfl⟩, λ H hH' => qmk hw ht (by simp) λ Γ F a w he hh => ⟨w, by simpa using main es' _ hes hr1 a w he (hget H hH' Γ F w hh) zr (λ _ => hzr), hh⟩⟩
     ·cases h
    ·cases h
   ·cases h
  ·cases h
 ·cases h
end
end
end Go.Y
namespace Go.Y
open Go.Z
noncomputable section
section
variable {P : Program} {n : Nat} {ops : Array Oper} {ds : List Deferred} {L : Lo} {ρ : Rho} {W : RW} {G : GV} {env : Tr V} {hp : Mem}
 {d : Nat} {T T' X Y : TypeId} {p : String} {es : Array Edge} {g : Option (Nat × Bool)} {op : Op} {v : V} {u : Value} {x y z : Operand}
theorem HR.iterM (hH : HR ρ hp W) {id since stepped m : Nat} {seen : List Nat} (e : hp.t.get id = some (.iterM (some m) since seen stepped)) :
  ∃ b c mb mc, W id = some (b, .mapIter (some mb) since seen.toArray stepped) /\ ρ id = some (b, c) /\ ρ m = some (mb, mc) := by
 obtain ⟨b, o, h1, ⟨c, h2⟩, m', rfl, mb, mc, h3, rfl⟩ := hH.rel id _ e
 exact ⟨b, c, mb, mc, h1, h2, h3⟩
theorem HR.iterN (hH : HR ρ hp W) {id since stepped : Nat} {seen : List Nat} (e : hp.t.get id = some (.iterM none since seen stepped)) :
  ∃ b c, W id = some (b, .mapIter none since seen.toArray stepped) /\ ρ id = some (b, c) := by
 obtain ⟨b, o, h1, ⟨c, h2⟩, m', rfl, h3⟩ := hH.rel id _ e
 cases h3
 exact ⟨b, c, h1, h2⟩
theorem REs.find {st : Nat} {k v : V} {b : Nat} : ∀ {l : List (V × V × Nat)} {es : List MapEntry}, REs ρ l es -> l.find? (λ e => Nat.beq e.2.2 st) = some (k, v, b) -> ∃ k' v', es.find? (λ e => e.born == st) = some ⟨k', v', b⟩ /\ R ρ k k' /\ R ρ v v'
 | [], es, he, h => by cases h
 | (k2, v2, b2) :: l, es, he, h => by
  obtain ⟨k', v', l', h1, h2, h3, rfl⟩ := he
  simp only [List.find?_cons] at h ⊢
  split at h
  ·rename_i hb
   cases h
   have : b = st := beq_tt hb
   subst this
   exact ⟨k', v', by simp, h1, h2⟩
  ·rename_i hb
   have : ¬ b2 = st := beq_ff hb
   obtain ⟨k'', v'', h4, h5⟩ := REs.find h3 h
   exact ⟨k'', v'', by rw [beq_eq_false_iff_ne.2 this]; exact h4, h5⟩
theorem qEntry_ok (hH : HR ρ hp W) (hw : wants ops L ⟨some d, .entry x, T, p, es, g⟩ = some true) (ht : Nat.blt d n = true) {a : V} {rd : List Lk} (hx : evalL L x = some u) (hu : R ρ a u) (h : qEntry hp a = some (v, rd)) :
  QOk P n ops ⟨some d, .entry x, T, p, es, g⟩ ds L ρ W v rd := by
 unfold qEntry at h
 split at h
 ·rename_i id off
  split at h
  ·rename_i m since seen stepped h0 hc
   have h0 := beq_tt h0
   subst h0
   split at h
   ·rename_i l clk hm
    split at h
    ·rename_i st hclk hst
     have hclk := beq_tt hclk
     subst hclk
     split at h
     ·rename_i k v0 b0 hf
      cases h
      obtain ⟨b, c, mb, mc, hW, hr, hmr⟩ := hH.iterM hc
      obtain ⟨b', c', es', hW', hr', hes⟩ := hH.map hm
      rw [hmr] at hr'; cases hr'
      obtain ⟨bb, cc, hrr, rfl⟩ := hu
      rw [hr] at hrr; cases hrr
      obtain ⟨k', v', h1, h2, h3⟩ := hes.find hf
      refine ⟨.tuple #[k', v'], ⟨_, .cons h2 (.cons h3 .nil), rfl⟩, λ H hH' => qmk hw ht (by simp) λ Γ F a w he hh => ⟨w, ?_, hh⟩⟩
      obtain ⟨b2, ob, H', e1, pk⟩ := hH' (wh id) (by simp)
      have e1 := e1.eq
      dsimp only [wh] at e1
      rw [hW] at e1; cases e1
      obtain ⟨b3, ob3, H3, e3, pk3⟩ := hH' (wh m) (by simp)
      have e3 := e3.eq
      dsimp only [wh] at e3
      rw [hW'] at e3; cases e3
      have hb1 := zqy (P := P) (hh.block pk)
      have hb2 := zqy (P := P) (hh.block pk3)
      have hback : seen.toArray.back? = some st := by simpa using hst
      simp [execOp, Instr.entry, he.eval hx, hb1, hb2, hback, h1]
     ·cases h
    ·cases h
   ·cases h
  ·cases h
 ·cases h
theorem maxV_ok : ∀ {l : List V} {us : List Value} {a : V} {u : Value} {v : V}, maxV a l = some v -> R ρ a u -> RL ρ l us -> ∃ r, R ρ v r /\ ∀ w, (us.foldlM (m := Sem) Builtin.max2 u).run P w = .ok r w
 | [], us, a, u, v, h, ha, hl => by
  rw [show us = [] from hl]
  unfold maxV at h
  split at h
  ·rename_i h1; cases h1
  ·split at h
   ·cases h; exact ⟨u, ha, λ w => rfl⟩
   ·cases h
  ·cases h
 | b :: l, us, a, u, v, h, ha, hl => by
  obtain ⟨u2, us', h1, h2, rfl⟩ := hl
  unfold maxV at h
  split at h
  ·rename_i k a0 k' b0 l' he
   cases he
   cases ha; cases h1
   obtain ⟨r, hr1, hr2⟩ := maxV_ok (u := .int k (if b0 > a0 then b0 else a0)) h (by
    rw [ltI_ok]
    by_cases hlt : a0 < b0
    ·simp [hlt]; exact rfl
    ·simp [hlt]; exact rfl) h2
   exact ⟨r, hr1, λ w => by simp only [List.foldlM_cons, Sem.run_bind, Builtin.max2, Sem.run_pure, Result.andThen_ok, hr2]⟩
  ·rename_i h1; cases h1
  ·cases h
theorem minV_ok : ∀ {l : List V} {us : List Value} {a : V} {u : Value} {v : V}, minV a l = some v -> R ρ a u -> RL ρ l us -> ∃ r, R ρ v r /\ ∀ w, (us.foldlM (m := Sem) Builtin.min2 u).run P w = .ok r w
 | [], us, a, u, v, h, ha, hl => by
  rw [show us = [] from hl]
  unfold minV at h
  split at h
  ·rename_i h1; cases h1
  ·split at h
   ·cases h; exact ⟨u, ha, λ w => rfl⟩
   ·cases h
  ·cases h
 | b :: l, us, a, u, v, h, ha, hl => by
  obtain ⟨u2, us', h1, h2, rfl⟩ := hl
  unfold minV at h
  split at h
  ·rename_i k a0 k' b0 l' he
   cases he
   cases ha; cases h1
   obtain ⟨r, hr1, hr2⟩ := minV_ok (u := .int k (if b0 < a0 then b0 else a0)) h (by
    rw [ltI_ok]
    by_cases hlt : b0 < a0
    ·simp [hlt]; exact rfl
    ·simp [hlt]; exact rfl) h2
   exact ⟨r, hr1, λ w => by simp only [List.foldlM_cons, Sem.run_bind, Builtin.min2, Sem.run_pure, Result.andThen_ok, hr2]⟩
  ·rename_i h1; cases h1
  ·cases h
theorem zqr {a : Act} (he : Env a n ds L) {xs : Array Operand} {vs : List Value} (h : evalAll L xs.toList = some vs) : xs.map a.eval = vs.toArray := by
 have h1 := he.evalAll h
 apply Array.ext'; simpa using h1
theorem q1 {xs : Array Operand} {y : Operand} (h : xs.toList = [y]) : xs = #[y] := by cases xs; simp at h; simp [h]
theorem quiet_ok (hG : GOk ρ G) (hE : RE ρ env L) (hH : HR ρ hp W) (hw : wants ops L ⟨some d, op, T, p, es, g⟩ = some true) (ht : Nat.blt d n = true) {rd : List Lk} (h : quiet P G env hp op = some (v, rd)) :
  QOk P n ops ⟨some d, op, T, p, es, g⟩ ds L ρ W v rd := by
 cases op <;> simp only [quiet] at h
 case move x =>
  obtain ⟨h1, rfl⟩ := pr_ok h
  obtain ⟨u, h2, h3⟩ := evO_ok hG hE h1
  exact .pure h3 λ H => q_move h2 hw ht
 case assign x =>
  obtain ⟨h1, rfl⟩ := pr_ok h
  obtain ⟨u, h2, h3⟩ := evO_ok hG hE h1
  exact .pure h3 λ H => q_assign h2 hw ht
 case pick c a b =>
  split at h
  ·rename_i hc
   obtain ⟨h1, rfl⟩ := pr_ok h
   obtain ⟨u, h2, h3⟩ := evO_ok hG hE h1
   obtain ⟨uc, h4, h5⟩ := evO_ok hG hE hc
   cases h5
   exact .pure h3 λ H => q_pick_t h4 h2 hw ht
  ·rename_i hc
   obtain ⟨h1, rfl⟩ := pr_ok h
   obtain ⟨u, h2, h3⟩ := evO_ok hG hE h1
   obtain ⟨uc, h4, h5⟩ := evO_ok hG hE hc
   cases h5
   exact .pure h3 λ H => q_pick_f h4 h2 hw ht
  ·cases h
 case extract x i =>
  split at h
  ·rename_i l hx
   obtain ⟨h1, rfl⟩ := pr_ok h
   rw [nth_eq] at h1
   obtain ⟨u, h2, l', h4, rfl⟩ := evO_ok hG hE hx
   obtain ⟨u, h5, h6⟩ := h4.get h1
   exact .pure h6 λ H => q_extract h2 (by simpa using h5) hw ht
  ·cases h
 case nilCheck x =>
  split at h
  ·rename_i a hx
   obtain ⟨h1, rfl⟩ := pr_ok h
   obtain ⟨u, h2, h3⟩ := evO_ok hG hE hx
   exact qNil_ok hw ht h2 h3 h1
  ·cases h
 case fieldAddr s x f =>
  split at h
  ·rename_i id off k hx hf
   cases h
   obtain ⟨u, h2, b, c, hr, rfl⟩ := evO_ok hG hE hx
   exact .pure ⟨b, c, hr, rfl⟩ λ H => zxY hf h2 hw ht
  ·rename_i id off k hx hf
   cases h
   obtain ⟨u, h2, b, c, base, hr, rfl⟩ := evO_ok hG hE hx
   exact .pure ⟨b, c, base, hr, by rw [Nat.add_assoc]⟩ λ H => zxY hf h2 hw ht
  ·cases h
 case field s x f =>
  split at h
  ·rename_i l hx
   obtain ⟨h1, rfl⟩ := pr_ok h
   obtain ⟨u, h2, h3⟩ := evO_ok hG hE hx
   exact qField_ok hw ht h2 h3 h1
  ·cases h
 case indexAddr t x y =>
  split at h
  ·rename_i a j hx hy
   obtain ⟨h1, rfl⟩ := pr_ok h
   obtain ⟨u, h2, h3⟩ := evO_ok hG hE hx
   obtain ⟨k, h4⟩ := evN_ok hG hE hy
   exact qIndexAddr_ok hw ht h2 h3 h4 h1
  ·cases h
 case index t x y =>
  split at h
  ·rename_i a j hx hy
   obtain ⟨h1, rfl⟩ := pr_ok h
   obtain ⟨u, h2, h3⟩ := evO_ok hG hE hx
   obtain ⟨k, h4⟩ := evN_ok hG hE hy
   exact qIndex_ok hw ht h2 h3 h4 h1
  ·cases h
 case slice t x lo hi m =>
  cases m with
  | some m => simp at h
  | none =>
   dsimp only at h
   split at h
   ·rename_i a i j hx hlo hhi
    obtain ⟨h1, rfl⟩ := pr_ok h
    obtain ⟨u, h2, h3⟩ := evO_ok hG hE hx
    exact qSlice_ok hw ht h2 h3 (optN_ok hG hE hlo) (optN_ok hG hE hhi) h1
   ·cases h
 case sliceToArrayPointer t x =>
  split at h
  ·rename_i id i off len cap N e hx hT
   split at h
   ·rename_i hN
    cases h
    obtain ⟨u, h2, b, c, hr, rfl, _⟩ := evO_ok hG hE hx
    exact .pure ⟨b, c, hr, rfl⟩ λ H => zkN hT h2 (Nat.le_of_ble_eq_true hN) hw ht
   ·cases h
  ·cases h
 case unOp o t x =>
  split at h
  ·rename_i a hx
   obtain ⟨h1, rfl⟩ := pr_ok h
   obtain ⟨u, h2, h3⟩ := evO_ok hG hE hx
   exact qUn_ok hw ht h2 h3 h1
  ·cases h
 case binOp o t x y t2 =>
  split at h
  ·rename_i a b hx hy
   obtain ⟨h1, rfl⟩ := pr_ok h
   obtain ⟨u, h2, h3⟩ := evO_ok hG hE hx
   obtain ⟨u2, h4, h5⟩ := evO_ok hG hE hy
   exact qBin_ok hw ht h2 h4 h3 h5 h1
  ·cases h
 case convert s t x =>
  split at h
  ·rename_i a hx
   obtain ⟨u, h2, h3⟩ := evO_ok hG hE hx
   exact qConv_ok hH hw ht h2 h3 h
  ·cases h
 case makeInterface t x =>
  split at h
  ·rename_i a sd hx hT
   split at h
   ·rename_i hs
    cases h
    obtain ⟨u, h2, h3⟩ := evO_ok hG hE hx
    exact .pure ⟨u, h3, rfl⟩ λ H => q_makeInterface hT (by cases sd <;> first | rfl | cases hs) h2 hw ht
   ·cases h
  ·cases h
 case makeFunc f a b =>
  split at h
  ·rename_i xs ys ha hb
   cases h
   obtain ⟨us, h2, h3⟩ := zqS hG hE ha
   obtain ⟨ws, h4, h5⟩ := zqS hG hE hb
   exact .pure ⟨us, ws, h3, h5, rfl⟩ λ H => q_makeFunc h2 h4 hw ht
  ·cases h
 case typeAssert x t1 t ok =>
  split at h
  ·rename_i a hx
   obtain ⟨h1, rfl⟩ := pr_ok h
   obtain ⟨u, h2, h3⟩ := evO_ok hG hE hx
   exact qAssert_ok hw ht h2 h3 h1
  ·cases h
 case lookup t x k ok =>
  split at h
  ·rename_i a kk hx hk
   obtain ⟨u, h2, h3⟩ := evO_ok hG hE hx
   obtain ⟨u2, h4, h5⟩ := evO_ok hG hE hk
   exact qLookup_ok hH hw ht h2 h3 h4 h5 h
  ·cases h
 case load t x =>
  split at h
  ·rename_i a hx
   obtain ⟨u, h2, h3⟩ := evO_ok hG hE hx
   exact qLoad_ok hH hw ht h2 h3 h
  ·cases h
 case entry x =>
  split at h
  ·rename_i a hx
   obtain ⟨u, h2, h3⟩ := evO_ok hG hE hx
   exact qEntry_ok hH hw ht h2 h3 h
  ·cases h
 case call c =>
  obtain ⟨cal, xs, ts⟩ := c
  dsimp only at h
  split at h
  ·split at h
   ·rename_i x t hxs hts
    split at h
    ·rename_i a hx
     obtain ⟨u, h2, h3⟩ := evO_ok hG hE hx
     split at h
     ·rename_i r hr
      cases h
      exact qLen_ok hxs hts hw ht h2 h3 hr
     ·exact qMap_ok hH hxs hts hw ht h2 h3 h
    ·cases h
   ·cases h
  ·split at h
   ·rename_i hxs
    cases h
    obtain ⟨us, h2, u, us', h3, h4, rfl⟩ := zqS hG hE hxs
    rw [show us' = [] from h4] at h2
    cases h3
    refine .run hw ht (by simp) rfl λ a w he => ?_
    have hm := zqr he h2
    simp only [execOp, resolve, invoke, builtin, hm, Sem.run_bind, Sem.run_pure, Result.andThen_ok, Lib.run_unsafeSliceData_nil]
   ·rename_i id i off len cap hxs
    split at h
    ·rename_i hl
     cases h
     obtain ⟨us, h2, u, us', h3, h4, rfl⟩ := zqS hG hE hxs
     rw [show us' = [] from h4] at h2
     obtain ⟨b, c, hr, rfl, hlc⟩ := h3
     refine .run hw ht (by simp) ⟨b, c, hr, rfl⟩ λ a w he => ?_
     have hm := zqr he h2
     have hc0 : cap.getD (c - i) ≠ 0 := by have := blt_tt hl; omega
     simp only [execOp, resolve, invoke, builtin, hm, Sem.run_bind, Sem.run_pure, Result.andThen_ok, Lib.run_unsafeSliceData_row w _ _ _ _ _ hc0]
    ·cases h
   ·cases h
  ·split at h
   ·rename_i x t hxs hts
    have e1 := q1 hxs
    subst e1
    split at h
    ·rename_i hx hT
     cases h
     obtain ⟨u, h2, h3⟩ := evO_ok hG hE hx
     cases h3
     exact .run hw ht (by simp) rfl λ a w he => by simp [execOp, resolve, invoke, builtin, Builtin.cap_, hts, underlying, hT, he.eval h2, goInt]
    ·rename_i hx hT
     cases h
     obtain ⟨u, h2, b, c, hr, rfl, hlc⟩ := evO_ok hG hE hx
     exact .run hw ht (by simp) rfl λ a w he => by simp [execOp, resolve, invoke, builtin, Builtin.cap_, hts, underlying, hT, he.eval h2, goInt]
    ·rename_i hx hT
     cases h
     obtain ⟨u, h2, b, c, hr, rfl, hlc⟩ := evO_ok hG hE hx
     exact .run hw ht (by simp) ⟨_, rfl⟩ λ a w he => by simp [execOp, resolve, invoke, builtin, Builtin.cap_, hts, underlying, hT, he.eval h2, goInt]; rfl
    ·cases h
   ·cases h
  ·split at h
   ·rename_i a l hxs
    obtain ⟨h1, rfl⟩ := pr_ok h
    obtain ⟨us, h2, u, us', h3, h4, rfl⟩ := zqS hG hE hxs
    obtain ⟨r, h5, h6⟩ := maxV_ok (P := P) h1 h3 h4
    refine .run hw ht (by simp) h5 λ a w he => ?_
    have hm := zqr he h2
    simp [execOp, resolve, invoke, builtin, Builtin.max_, hm, h6]
   ·cases h
  ·split at h
   ·rename_i a l hxs
    obtain ⟨h1, rfl⟩ := pr_ok h
    obtain ⟨us, h2, u, us', h3, h4, rfl⟩ := zqS hG hE hxs
    obtain ⟨r, h5, h6⟩ := minV_ok (P := P) h1 h3 h4
    refine .run hw ht (by simp) h5 λ a w he => ?_
    have hm := zqr he h2
    simp [execOp, resolve, invoke, builtin, Builtin.min_, hm, h6]
   ·cases h
  ·cases h
 all_goals cases h
end
end
end Go.Y
namespace Go.Y
open Go.Z
noncomputable section
def cellsV : V -> List V
 | .agg l => l
 | v => [v]
theorem zqC {ρ : Rho} {v : V} {u : Value} (h : R ρ v u) : ∃ us, u.cells = us.toArray /\ RL ρ (cellsV v) us := by
 cases v
 case agg l => obtain ⟨l', h1, rfl⟩ := h; exact ⟨l', rfl, h1⟩
 case ssl =>
  refine ⟨[u], ?_, .cons h .nil⟩
  rcases h with ⟨_, rfl⟩ | ⟨_, _, _, rfl, _⟩ <;> rfl
 all_goals
  refine ⟨[u], ?_, .cons h .nil⟩
  first
   | (cases h; rfl)
   | (obtain ⟨_, _, _, _, rfl, _⟩ := h; rfl)
   | (obtain ⟨_, _, _, rfl⟩ := h; rfl)
   | (obtain ⟨_, _, _, rfl, _⟩ := h; rfl)
   | (obtain ⟨_, _, _, _, rfl⟩ := h; rfl)
   | (obtain ⟨_, _, rfl⟩ := h; rfl)
   | (obtain ⟨_, rfl⟩ := h; rfl)
def scalV : V -> Bool
 | .agg _ => false
 | .tup _ => false
 | .und => false
 | _ => true
theorem scalV_ok {ρ : Rho} {v : V} {u : Value} (h : R ρ v u) (hs : scalV v = true) : u.oneCell' = true := by
 cases v
 case agg l => cases hs
 case tup l => cases hs
 case und => cases hs
 case ssl => rcases h with ⟨_, rfl⟩ | ⟨_, _, _, rfl, _⟩ <;> rfl
 all_goals
  first
   | (cases h; rfl)
   | (obtain ⟨_, _, _, _, rfl, _⟩ := h; rfl)
   | (obtain ⟨_, _, _, rfl⟩ := h; rfl)
   | (obtain ⟨_, _, _, rfl, _⟩ := h; rfl)
   | (obtain ⟨_, _, _, _, rfl⟩ := h; rfl)
   | (obtain ⟨_, _, rfl⟩ := h; rfl)
   | (obtain ⟨_, rfl⟩ := h; rfl)
def zxM : List V -> Bool
 | [] => true
 | v :: l => match scalV v with | true => zxM l | false => false
theorem zxe {ρ : Rho} : ∀ {vs : List V} {us : List Value}, RL ρ vs us -> zxM vs = true -> scal us = true
 | [], us, h, _ => by rw [show us = [] from h]; rfl
 | v :: vs, us, h, hs => by
  obtain ⟨u, us', h1, h2, rfl⟩ := h
  simp only [zxM] at hs
  split at hs
  ·rename_i h3
   have := zxe h2 hs
   simp only [scal, List.all_cons, Bool.and_eq_true] at this ⊢
   exact ⟨scalV_ok h1 h3, this⟩
  ·cases hs
def overV (l : List V) (off : Nat) (vs : List V) : Option (List V) :=
 match Nat.ble (off + vs.length) l.length with
 | true => some (l.take off ++ vs ++ l.drop (off + vs.length))
 | false => none
theorem zkV {ρ : Rho} {l r vs : List V} {off : Nat} {rl us : List Value} (h : overV l off vs = some r) (hl : RL ρ l rl) (hv : RL ρ vs us) : RL ρ r (putAt rl off us) /\ off + us.length <= rl.length /\ r.length = l.length := by
 unfold overV at h
 split at h
 ·rename_i hb
  have hb := Nat.le_of_ble_eq_true hb
  cases h
  refine ⟨?_, by rw [hl.length, hv.length]; exact hb, by simp; omega⟩
  unfold putAt
  rw [hv.length]
  exact ((hl.take off).append hv).append (hl.drop _)
 ·cases h
theorem zqR {l vs : List Value} {off : Nat} (h : off + vs.length <= l.length) : (putAt l off vs).length = l.length := by
 simp [putAt]; omega
theorem fold_put : ∀ (vs : List Value) (i off : Nat) (l : List Value), off + i + vs.length <= l.length ->
  ((vs.zipIdx i).foldl (λ (cs : Array Value) (q : Value × Nat) => cs.setIfInBounds (off + q.2) q.1) l.toArray) = (putAt l (off + i) vs).toArray
 | [], i, off, l, _ => by simp [putAt]
 | v :: vs, i, off, l, h => by
  simp only [List.length_cons] at h
  simp only [List.zipIdx_cons, List.foldl_cons]
  have e1 : l.toArray.setIfInBounds (off + i) v = (l.set (off + i) v).toArray := by simp
  rw [e1, fold_put vs (i + 1) off _ (by simp; omega)]
  congr 1
  unfold putAt
  apply List.ext_getElem?
  intro j
  simp only [List.getElem?_append, List.length_append, List.length_take, List.length_set, List.length_cons, List.getElem?_take, List.getElem?_drop, List.getElem?_set]
  have h2 : min (off + (i + 1)) l.length = off + i + 1 := by omega
  have h3 : min (off + i) l.length = off + i := by omega
  simp only [h2, h3]
  rcases Nat.lt_trichotomy j (off + i) with h | h | h
  ·simp [show j < off + i + 1 + vs.length by omega, show j < off + i + 1 by omega, show j < off + (i + 1) by omega, show ¬ off + i = j by omega, show j < off + i + (vs.length + 1) by omega, h]
  ·subst h
   simp [show off + i < off + i + 1 + vs.length by omega, show off + i < off + (i + 1) by omega, show off + i < l.length by omega]
  ·by_cases h4 : j < off + i + 1 + vs.length
   ·simp [h4, show ¬ j < off + i + 1 by omega, show ¬ j < off + i by omega, show j < off + i + (vs.length + 1) by omega]
    rw [show j - (off + i) = (j - (off + i + 1)) + 1 by omega]
    simp
   ·simp [h4, show ¬ j < off + i by omega, show ¬ j < off + i + (vs.length + 1) by omega]
    have h5 : ¬ off + i = off + (i + 1) + vs.length + (j - (off + i + 1 + vs.length)) := by omega
    simp [h5]
    congr 1
    omega
def fillV (place : Nat -> Option (Nat × Nat)) : List V -> List (Nat × V) -> Option (List V)
 | l, [] => some l
 | l, (i, v) :: r => match place i with
  | none => none
  | some (off, size) => match Nat.beq (cellsV v).length size with
   | false => none
   | true => match overV l off (cellsV v) with
    | some l' => fillV place l' r
    | none => none
def RPs (ρ : Rho) : List (Nat × V) -> List (Nat × Value) -> Prop
 | [], us => us = []
 | (i, v) :: r, us => ∃ u us', R ρ v u /\ RPs ρ r us' /\ us = (i, u) :: us'
theorem RPs.zip {ρ : Rho} : ∀ {is : List Nat} {vs : List V} {us : List Value}, RL ρ vs us -> is.length = vs.length -> RPs ρ (is.zip vs) (is.zip us)
 | [], [], us, h, _ => by rw [show us = [] from h]; exact rfl
 | i :: is, v :: vs, us, h, hl => by obtain ⟨u, us', h1, h2, rfl⟩ := h; exact ⟨u, _, h1, RPs.zip h2 (by simpa using hl), rfl⟩
theorem zkZ {ρ : Rho} {place : Nat -> Option (Nat × Nat)} : ∀ {pv : List (Nat × V)} {l r : List V} {rl : List Value} {ru : List (Nat × Value)}, fillV place l pv = some r -> RL ρ l rl -> RPs ρ pv ru ->
  ∃ rr, Instr.fill place rl.toArray ru = some rr.toArray /\ RL ρ r rr /\ r.length = l.length
 | [], l, r, rl, ru, h, hl, hp => by
  simp only [fillV, Option.some.injEq] at h
  subst h
  rw [show ru = [] from hp]
  exact ⟨rl, rfl, hl, rfl⟩
 | (i, v) :: pv, l, r, rl, ru, h, hl, hp => by
  obtain ⟨u, us', h1, h2, rfl⟩ := hp
  simp only [fillV] at h
  split at h
  ·cases h
  ·rename_i off size hpl
   split at h
   ·cases h
   ·rename_i hsz
    have hsz := beq_tt hsz
    split at h
    ·rename_i l' ho
     obtain ⟨cs, hc1, hc2⟩ := zqC h1
     obtain ⟨h3, h4, h5⟩ := zkV ho hl hc2
     obtain ⟨rr, h6, h7, h8⟩ := zkZ h h3 h2
     refine ⟨rr, ?_, h7, by omega⟩
     have hcl : cs.length = size := by rw [hc2.length, hsz]
     simp only [Instr.fill, hpl, hc1]
     have hnot : ¬ ((decide (cs.toArray.size ≠ size) || decide (off + cs.toArray.size > rl.toArray.size)) = true) := by
      simp [hcl]; omega
     rw [if_neg (by simpa using hnot)]
     rw [<- h6]
     congr 1
     have := fold_put cs 0 off rl (by omega)
     rw [Nat.add_zero] at this
     rw [<- this]
     rw [<- Array.foldl_toList]
     simp
    ·cases h
end
end Go.Y
namespace Go.Y
open Go.Z
noncomputable section
def Mem.newS (hp : Mem) (ch : Chunk) : Option Mem := match small hp.n with | true => some (hp.new ch) | false => none
def inN (x : Nat) : List Lk -> Bool
 | [] => false
 | y :: l => match Nat.beq y.1 x with | true => true | false => inN x l
theorem inN_no {x : Nat} : ∀ {l : List Lk}, inN x l = false -> ∀ y ∈ l, y.1 ≠ x
 | [], _, y, h => by cases h
 | z :: l, h, y, hy => by
  simp only [inN] at h
  split at h
  ·cases h
  ·rename_i hz
   cases hy with
   | head => exact beq_ff hz
   | tail _ hy => exact inN_no h y hy
def inR (id off k : Nat) : List Lk -> Bool
 | [] => false
 | y :: l => match Nat.beq y.1 id with
  | false => inR id off k l
  | true => match Nat.beq y.2.2 0, Nat.ble (y.2.1 + y.2.2) off, Nat.ble (off + k) y.2.1 with
   | true, _, _ => true
   | false, false, false => true
   | _, _, _ => inR id off k l
theorem inR_no {id off k : Nat} : ∀ {l : List Lk}, inR id off k l = false -> ∀ y ∈ l, y.1 ≠ id \/ (y.2.2 ≠ 0 /\ (y.2.1 + y.2.2 <= off \/ off + k <= y.2.1))
 | [], _, y, h => by cases h
 | z :: l, h, y, hy => by
  simp only [inR] at h
  split at h
  ·rename_i hz
   cases hy with
   | head => exact .inl (beq_ff hz)
   | tail _ hy => exact inR_no h y hy
  ·rename_i hz
   split at h
   ·cases h
   ·cases h
   ·rename_i h1 h2
    cases hy with
    | tail _ hy => exact inR_no h y hy
    | head =>
     right
     have h0 : z.2.2 ≠ 0 := by
      cases hb : Nat.beq z.2.2 0 with
      | true => exact (h1 hb).elim
      | false => exact beq_ff hb
     refine ⟨h0, ?_⟩
     have hb : Nat.beq z.2.2 0 = false := by
      cases hb : Nat.beq z.2.2 0 with
      | true => exact (h1 hb).elim
      | false => rfl
     cases ha : Nat.ble (z.2.1 + z.2.2) off with
     | true => exact .inl (Nat.le_of_ble_eq_true ha)
     | false =>
      cases hc : Nat.ble (off + k) z.2.1 with
      | true => exact .inr (Nat.le_of_ble_eq_true hc)
      | false => exact (h2 hb ha hc).elim
def Mem.putC (hp : Mem) (id off k : Nat) (ch : Option Chunk) : Option Mem := match small id, inR id off k hp.ro with | true, false => some (hp.put id ch) | _, _ => none
def Mem.putS (hp : Mem) (id : Nat) (ch : Option Chunk) : Option Mem := match small id, inN id hp.ro with | true, false => some (hp.put id ch) | _, _ => none
section
variable {P : Program} {ro : Option Nat} {n : Nat} {ops : Array Oper} {r : List Oper} {ds : List Deferred} {L : Lo} {H H' : List SP} {K : Kont} {ρ : Rho} {W : RW} {G : GV} {env : Tr V} {hp hp' : Mem}
 {d : Nat} {T T' X Y t xt e sz by_ : TypeId} {p : String} {es : Array Edge} {g : Option (Nat × Bool)} {op : Op} {v : V} {u : Value} {x y z : Operand} {A : Option Addr} {m c : Nat} {cells : List Value}
theorem zqw {ch : Chunk} (h : hp.newS ch = some hp') : small hp.n = true /\ hp' = hp.new ch := by
 unfold Mem.newS at h; split at h <;> cases h; rename_i h; exact ⟨h, rfl⟩
theorem zqB {ch : Option Chunk} {id : Nat} (h : hp.putS id ch = some hp') : small id = true /\ hp' = hp.put id ch := by
 unfold Mem.putS at h; split at h
 ·rename_i h1 h2; cases h; exact ⟨h1, rfl⟩
 ·cases h
theorem putC_ok {ch : Option Chunk} {id off k : Nat} (h : hp.putC id off k ch = some hp') : small id = true /\ hp' = hp.put id ch /\ ∀ y ∈ hp.ro, y.1 ≠ id \/ (y.2.2 ≠ 0 /\ (y.2.1 + y.2.2 <= off \/ off + k <= y.2.1)) := by
 unfold Mem.putC at h; split at h
 ·rename_i h1 h2; cases h; exact ⟨h1, rfl, inR_no h2⟩
 ·cases h
theorem zqA {ch : Option Chunk} {id : Nat} (h : hp.putS id ch = some hp') : ∀ l ∈ hp.ro, l.1 ≠ id := by
 unfold Mem.putS at h; split at h
 ·rename_i h1 h2; exact inN_no h2
 ·cases h
def Stay (hp : Mem) (W W' : RW) : Prop := ∀ l ∈ hp.ro, Same l (W l.1) (W' l.1)
theorem Stay.refl {W : RW} : Stay hp W W := λ _ _ => .refl
theorem Stay.put {W : RW} {id : Nat} {x : Option (Nat × Obj)} (h : ∀ l ∈ hp.ro, l.1 ≠ id) : Stay hp W (upd W id x) := λ j hj => by rw [zqo (h j hj)]; exact .refl
theorem Stay.new {W : RW} {x : Option (Nat × Obj)} (hH : HR ρ hp W) : Stay hp W (upd W hp.n x) := λ j hj => by rw [zqo (Nat.ne_of_lt (hH.rol j hj))]; exact .refl
theorem Stay.putc {W : RW} {id off k b ty : Nat} {cs cs' : Array Value} {fr : Nat × Nat} (h : ∀ y ∈ hp.ro, y.1 ≠ id \/ (y.2.2 ≠ 0 /\ (y.2.1 + y.2.2 <= off \/ off + k <= y.2.1))) (hW : W id = some (b, .cells cs ty fr))
  (hcs : ∀ j, (j < off \/ off + k <= j) -> cs'[j]? = cs[j]?) : Stay hp W (upd W id (some (b, .cells cs' ty fr))) := λ l hl => by
 by_cases hi : l.1 = id
 ·rcases h l hl with h | ⟨h0, h⟩
  ·exact absurd hi h
  ·rw [hi, zqe]
   exact .inr ⟨h0, b, cs, cs', ty, fr, hW, rfl, λ j h1 h2 => hcs j (by omega)⟩
 ·rw [zqo hi]; exact .refl
theorem Ops.open_own {l : List Oper} (hne : cells ≠ [] \/ c ≠ 0) (k : ∀ b junk fr, A = some ⟨b, 0, none⟩ -> cells.length = m * sz -> (cells ++ junk).length = c * sz -> m <= c -> FrOk fr (c * sz) -> Ops P ro n ops l ds L (blk b (cells ++ junk) e fr :: H) K) :
  Ops P ro n ops l ds L (Own e sz A m c cells :: H) K := by
 intro Γ F a w Q he hh hq
 obtain ⟨h1, h2, d, eh, ho, r⟩ := hh.pick Pick.head
 rcases ho with ⟨_, _, h3, h4, _⟩ | ⟨b, junk, fr, h3, h4, h5, h6, h7, h8⟩
 ·rcases hne with hne | hne
  ·exact absurd h4 hne
  ·exact absurd h3 hne
 ·exact k b junk fr h3 h4 h5 h6 h7 Γ F a w Q he ⟨hh.os, hh.tape, hh.output, by rw [eh]; exact zqk ⟨h1, h2, d, rfl, h8, r⟩⟩ hq
theorem own_close {l : List Oper} {vs : List V} (hH : HR ρ hp W) (hs : small hp.n = true) (hv : RL ρ vs cells) (hne : cells ≠ [] \/ c ≠ 0)
  (k : ∀ b W' , A = some ⟨b, 0, none⟩ -> m <= c -> HR (upd ρ hp.n (some (b, c))) (hp.new (.cells vs e sz)) W' -> Stay hp W W' -> Ops P ro n ops l ds L (spl (hp.n + 1) W') K) :
  Ops P ro n ops l ds L (Own e sz A m c cells :: spl hp.n W) K := by
 refine Ops.open_own hne λ b junk fr hA h1 h2 h3 h4 => ?_
 refine Ops.weak ?_ (λ x hx => zjf (b := b) (o := .cells (cells ++ junk).toArray e fr) x hx)
 refine k b _ hA h3 (hH.new hs ?_) (Stay.new hH)
 exact ⟨c, cells, junk, fr, zqe, hv.mono (zqm hH _), rfl, h2, by rw [h2]; exact h4⟩
theorem own_of {l : List V} {id ty s len : Nat} (hH : HR ρ hp W) (hc : hp.t.get id = some (.cells l ty s)) (hlen : len * s <= l.length) (hpos : 0 < s) :
  ∃ b c, ρ id = some (b, c) /\ id < hp.n /\ len <= c /\ ∃ rl, RL ρ (l.take (len * s)) rl /\ ∀ x, sep (spl hp.n W) x -> sep (Own ty s (some ⟨b, 0, none⟩) len c rl :: spl hp.n (upd W id none)) x := by
 obtain ⟨b, c, rl, junk, fr, hW, hr, hl, h4, h5⟩ := hH.cells hc
 have hll := hl.length
 have hle : len <= c := by
  have h6 : len * s <= c * s := by
   rw [<- h4]; simp; omega
  exact Nat.le_of_mul_le_mul_right h6 hpos
 refine ⟨b, c, hr, hH.lt hc, hle, rl.take (len * s), hl.take _, λ x hx => ?_⟩
 refine zqd (λ y hy => ?_) (λ _ h => h) (zqf (hH.lt hc) hW x hx)
 refine .inr ⟨b, rl.drop (len * s) ++ junk, fr, rfl, by simp; omega, ?_, hle, by rw [<- h4]; exact h5, ?_⟩
 ·rw [<- h4]; simp; omega
 ·have : rl.take (len * s) ++ (rl.drop (len * s) ++ junk) = rl ++ junk := by rw [<- List.append_assoc, List.take_append_drop]
  rw [this]; exact hy
theorem blk_new {l : List Oper} {vs : List V} {us : List Value} {b ty s c : Nat} (hH : HR ρ hp W) (hs : small hp.n = true) (hv : RL ρ vs us) (hl : us.length = c * s)
  (k : ∀ W', HR (upd ρ hp.n (some (b, c))) (hp.new (.cells vs ty s)) W' -> Stay hp W W' -> Ops P ro n ops l ds L (spl (hp.n + 1) W') K) :
  Ops P ro n ops l ds L (blk b us ty :: spl hp.n W) K := by
 refine Ops.weak ?_ (λ x hx => zjf (b := b) (o := .cells us.toArray ty) x hx)
 refine k _ (hH.new hs ?_) (Stay.new hH)
 exact ⟨c, us, [], (0, 0), zqe, hv.mono (zqm hH _), by simp, by simpa using hl, .zero⟩
def Cont (P : Program) (ro : Option Nat) (n : Nat) (ops : Array Oper) (r : List Oper) (ds : List Deferred) (L : Lo) (K : Kont) (ρ : Rho) (hp : Mem) (W : RW) (dd : Option Nat) (outs : List (V × Mem)) : Prop :=
 ∀ q ∈ outs, ∀ ρ' W' u, ρ.le ρ' -> HR ρ' q.2 W' -> R ρ' q.1 u -> q.2.ro = hp.ro -> Stay hp W W' -> Ops P ro n ops r ds (putL dd u L) (spl q.2.n W') K
def one (v : V) (hp : Option Mem) : Option (List (V × Mem)) := match hp with | some h => some [(v, h)] | none => none
theorem one_ok {q : Option Mem} {outs : List (V × Mem)} (h : one v q = some outs) : ∃ hp', q = some hp' /\ outs = [(v, hp')] := by
 unfold one at h; split at h <;> cases h; exact ⟨_, rfl, rfl⟩
def lAlloc (P : Program) (hp : Mem) (t : TypeId) : Option (List (V × Mem)) :=
 match zeroV P t with
 | some z => one (.ptr hp.n 0) (hp.newS (.cells (cellsV z) t (cellsV z).length))
 | none => none
theorem lAlloc_ok (hH : HR ρ hp W) (hw : wants ops L ⟨some d, .alloc T', T, p, es, g⟩ = some true) (ht : Nat.blt d n = true) {outs : List (V × Mem)} (h : lAlloc P hp T' = some outs) (k : Cont P ro n ops r ds L K ρ hp W (some d) outs) :
  Ops P ro n ops (⟨some d, .alloc T', T, p, es, g⟩ :: r) ds L (spl hp.n W) K := by
 unfold lAlloc at h
 split at h
 ·rename_i z hz
  obtain ⟨hp', h1, rfl⟩ := one_ok h
  obtain ⟨hs, rfl⟩ := zqw h1
  obtain ⟨zr, hzr, hzv⟩ := zqO (ρ := ρ) hz
  obtain ⟨us, hc1, hc2⟩ := zqC hzv
  refine Ops.alloc hzr hw ht λ b => ?_
  rw [hc1, List.toList_toArray]
  exact blk_new (c := 1) hH hs hc2 (by rw [hc2.length]; omega) λ W' hH' hst => k _ (List.mem_singleton.2 rfl) _ W' _ (zqm hH _) hH' ⟨b, 1, zqe, rfl⟩ rfl hst
 ·cases h
def lBox (G : GV) (env : Tr V) (hp : Mem) (t : TypeId) (x : Operand) : Option (List (V × Mem)) :=
 match evO G env x with
 | some v => one (.ptr hp.n 0) (hp.newS (.cells (cellsV v) t (cellsV v).length))
 | none => none
theorem lBox_ok (hG : GOk ρ G) (hE : RE ρ env L) (hH : HR ρ hp W) (hw : wants ops L ⟨some d, .box T' x, T, p, es, g⟩ = some true) (ht : Nat.blt d n = true) {outs : List (V × Mem)} (h : lBox G env hp T' x = some outs) (k : Cont P ro n ops r ds L K ρ hp W (some d) outs) :
  Ops P ro n ops (⟨some d, .box T' x, T, p, es, g⟩ :: r) ds L (spl hp.n W) K := by
 unfold lBox at h
 split at h
 ·rename_i z hz
  obtain ⟨hp', h1, rfl⟩ := one_ok h
  obtain ⟨hs, rfl⟩ := zqw h1
  obtain ⟨zr, hzr, hzv⟩ := evO_ok hG hE hz
  obtain ⟨us, hc1, hc2⟩ := zqC hzv
  refine Ops.box hzr hw ht λ b => ?_
  rw [hc1, List.toList_toArray]
  exact blk_new (c := 1) hH hs hc2 (by rw [hc2.length]; omega) λ W' hH' hst => k _ (List.mem_singleton.2 rfl) _ W' _ (zqm hH _) hH' ⟨b, 1, zqe, rfl⟩ rfl hst
 ·cases h
def lStore (P : Program) (G : GV) (env : Tr V) (hp : Mem) (t : TypeId) (x y : Operand) : Option (List (V × Mem)) :=
 match evO G env x, evO G env y with
 | some (.ptr id off), some v => match hp.t.get id, sizeP P t with
  | some (.cells l ty s), some k => match Nat.beq (cellsV v).length k, zxM (cellsV v), overV l off (cellsV v) with
   | true, true, some l' => one .und (hp.putC id off k (some (.cells l' ty s)))
   | _, _, _ => none
  | _, _ => none
 | _, _ => none
theorem lStore_ok (hG : GOk ρ G) (hE : RE ρ env L) (hH : HR ρ hp W) (hw : wants ops L ⟨none, .store T' x y, T, p, es, g⟩ = some true) {outs : List (V × Mem)} (h : lStore P G env hp T' x y = some outs) (k : Cont P ro n ops r ds L K ρ hp W none outs) :
  Ops P ro n ops (⟨none, .store T' x y, T, p, es, g⟩ :: r) ds L (spl hp.n W) K := by
 unfold lStore at h
 split at h
 ·rename_i id off v hx hy
  split at h
  ·rename_i l ty s kk hc hk
   split at h
   ·rename_i l' hsz hsc ho
    obtain ⟨hp', h1, rfl⟩ := one_ok h
    obtain ⟨hs, rfl, hro⟩ := putC_ok h1
    have hsz := beq_tt hsz
    obtain ⟨b, c, rl, junk, fr, hW, hr, hl, h4, h5⟩ := hH.cells hc
    obtain ⟨ux, hux, b', c', hr', rfl⟩ := evO_ok hG hE hx
    rw [hr] at hr'; cases hr'
    obtain ⟨uy, huy, hvy⟩ := evO_ok hG hE hy
    obtain ⟨us, hc1, hc2⟩ := zqC hvy
    obtain ⟨h6, h7, h8⟩ := zkV ho hl hc2
    have hul : us.length = kk := by rw [hc2.length, hsz]
    refine Ops.storev hk hux huy (by rw [hc1]; simpa using hul) (by rw [hc1]; simpa using zxe hc2 hsc) (zqf (hH.lt hc) hW) (by simp; omega) (λ j hj => h5.2 _ (by simp; omega)) hw ?_
    rw [hc1, List.toList_toArray]
    have e1 : putAt (rl ++ junk) off us = putAt rl off us ++ junk := by
     unfold putAt
     rw [List.take_append_of_le_length (by omega), List.drop_append_of_le_length (by omega)]
     simp
    rw [e1]
    refine Ops.weak ?_ (λ x hx => zxx (hH.lt hc) x hx)
    rw [zxT]
    refine k _ (List.mem_singleton.2 rfl) ρ _ undef (Rho.le_refl _) (hH.put hs ?_) rfl rfl (Stay.putc hro hW λ j hj => ?_)
    rotate_left
    ·simp only [List.getElem?_toArray, List.getElem?_append, zqR h7]
     split
     ·unfold putAt
      simp only [List.getElem?_append, List.length_append, List.length_take, List.getElem?_take, List.getElem?_drop]
      have hle : min off rl.length = off := by omega
      rw [hle]
      rcases hj with hj | hj
      ·simp only [hj, if_true, show j < off + us.length by omega]
      ·simp only [show ¬ j < off by omega, if_false, show ¬ j < off + us.length by omega]
       congr 1; omega
     ·rfl
    refine ⟨c, putAt rl off us, junk, fr, hr, h6, rfl, ?_, ?_⟩
    ·rw [<- h4]; simp [zqR h7]
    ·rw [show (putAt rl off us ++ junk).length = (rl ++ junk).length by simp [zqR h7]]; exact h5
   ·cases h
  ·cases h
 ·cases h
def lUStr (P : Program) (G : GV) (env : Tr V) (hp : Mem) (ts : List TypeId) (xs : List Operand) : Option (List (V × Mem)) :=
 match ts, mapO (evO G env) xs with
 | [pt, _], some [p, .int .i64 (.ofNat 0)] => match p with
  | .nilp => some [(.str [], hp)]
  | .ptr _ _ => some [(.str [], hp)]
  | _ => none
 | [pt, _], some [.ptr id 0, .int .i64 (.ofNat (m + 1))] => match P.underlying pt, hp.t.get id with
  | some (.pointer e), some (.cells l ty 1) => match Nat.beq ty e && Nat.beq (P.cellsOf e) 1 && Nat.blt m 1000000, takeN (m + 1) l with
   | true, some cs => match bytesV cs with
    | some r => one (.str r) (hp.putS id none)
    | none => none
   | _, _ => none
  | _, _ => none
 | _, _ => none
end
end
end Go.Y
namespace Go.Y
open Go.Z
noncomputable section
def flatV (k : Nat) (l : List V) : List V := (List.replicate k l).flatten
theorem zc_flat (z : Value) (hz : 0 < z.cells.size) : ∀ N, ((Array.range (N * z.cells.size)).map (z.cells[· % z.cells.size]!)).toList = (List.replicate N z.cells.toList).flatten := by
 intro N
 have hfl : ∀ (N q : Nat) (h : q < ((List.replicate N z.cells.toList).flatten).length), ((List.replicate N z.cells.toList).flatten)[q] = z.cells[q % z.cells.size]'(Nat.mod_lt _ (by omega)) := by
  intro N
  induction N with
  | zero => intro q h; simp at h
  | succ N ih =>
   intro q h
   simp only [List.replicate_succ, List.flatten_cons] at h ⊢
   by_cases hlt : q < z.cells.size
   ·rw [List.getElem_append_left (by simpa using hlt)]
    simp [Nat.mod_eq_of_lt hlt]
   ·rw [List.getElem_append_right (by simpa using Nat.le_of_not_lt hlt)]
    rw [ih]
    simp only [Array.length_toList]
    congr 1
    rw [Nat.mod_eq_sub_mod (Nat.le_of_not_lt hlt)]
 apply List.ext_getElem
 ·simp
 ·intro q h1 h2
  have hmod : q % z.cells.size < z.cells.size := Nat.mod_lt _ (by omega)
  simp only [Array.toList_map, List.getElem_map, Array.toList_range, List.getElem_range]
  rw [getElem!_pos z.cells _ hmod]
  exact (hfl N q h2).symm
section
variable {P : Program} {ro : Option Nat} {n : Nat} {ops : Array Oper} {r : List Oper} {ds : List Deferred} {L : Lo} {H H' : List SP} {K : Kont} {ρ : Rho} {W : RW} {G : GV} {env : Tr V} {hp hp' : Mem}
 {d : Nat} {T T' X Y t xt e sz by_ : TypeId} {p : String} {es : Array Edge} {g : Option (Nat × Bool)} {op : Op} {v : V} {u : Value} {x y z : Operand} {A : Option Addr} {m c : Nat} {cells : List Value}
theorem RL.flat {l : List V} {us : List Value} (h : RL ρ l us) : ∀ k, RL ρ (flatV k l) ((List.replicate k us).flatten)
 | 0 => .nil
 | k + 1 => by simp only [flatV, List.replicate_succ, List.flatten_cons]; exact h.append (RL.flat h k)
def zjL (P : Program) (G : GV) (env : Tr V) (hp : Mem) (t : TypeId) (len : Nat) (parts : Array (Nat × Operand)) : Option (List (V × Mem)) :=
 match P.underlying t with
 | some (.slice e) => match sizeP P e, zeroV P e, mapO (evO G env) (parts.toList.map (·.2)) with
  | some sz, some z, some vs => match Nat.ble (len * sz) 16777216, Nat.blt 0 (len * sz), Nat.beq (cellsV z).length sz, fillV (λ i => some (i * sz, sz)) (flatV len (cellsV z)) ((parts.toList.map (·.1)).zip vs) with
   | true, true, true, some l => one (.sl hp.n 0 0 len none) (hp.newS (.cells l e sz))
   | _, _, _, _ => none
  | _, _, _ => none
 | _ => none
theorem lBuildSlice_ok (hG : GOk ρ G) (hE : RE ρ env L) (hH : HR ρ hp W) {len : Nat} {parts : Array (Nat × Operand)} (hw : wants ops L ⟨some d, .buildSlice T' len parts, T, p, es, g⟩ = some true) (ht : Nat.blt d n = true) {outs : List (V × Mem)} (h : zjL P G env hp T' len parts = some outs) (k : Cont P ro n ops r ds L K ρ hp W (some d) outs) :
  Ops P ro n ops (⟨some d, .buildSlice T' len parts, T, p, es, g⟩ :: r) ds L (spl hp.n W) K := by
 unfold zjL at h
 split at h
 ·rename_i e hT
  split at h
  ·rename_i sz z vs hsz hz hvs
   split at h
   ·rename_i l h1 h2 h3 hf
    obtain ⟨hp', h4, rfl⟩ := one_ok h
    obtain ⟨hs, rfl⟩ := zqw h4
    obtain ⟨zr, hzr, hzv⟩ := zqO (ρ := ρ) hz
    obtain ⟨zc, hc1, hc2⟩ := zqC hzv
    have h3 := beq_tt h3
    have hzs : zr.cells.size = sz := by rw [hc1]; simp [hc2.length, h3]
    obtain ⟨us, hus, hvu⟩ := zqS hG hE hvs
    have hpos := blt_tt h2
    have hsz0 : 0 < sz := Nat.pos_of_mul_pos_left hpos
    have hul : (parts.toList.map (·.1)).length = us.length := by
     rw [hvu.length]
     have := congrArg (Option.map List.length) hvs
     have hm : ∀ {l : List Operand} {r : List V}, mapO (evO G env) l = some r -> r.length = l.length := by
      intro l
      induction l with
      | nil => intro r h; simp only [mapO, Option.some.injEq] at h; subst h; rfl
      | cons a l ih =>
       intro r h
       simp only [mapO] at h
       split at h
       ·split at h
        ·rename_i y _ ys hys; cases h; simp [ih hys]
        ·cases h
       ·cases h
     rw [hm hvs]; simp
    have hrp := RPs.zip (is := parts.toList.map (·.1)) hvu (by rw [<- hvu.length]; exact hul)
    obtain ⟨rr, h5, h6, h7⟩ := zkZ hf (hc2.flat len) hrp
    have hzl : (zr.cells.toList) = zc := by rw [hc1]
    have hflat := zc_flat zr (by omega) len
    rw [hzs, hzl] at hflat
    have hbase : (Array.range (len * sz)).map (zr.cells[· % zr.cells.size]!) = ((List.replicate len zc).flatten).toArray := by
     rw [hzs, <- hflat]
    have hrl : rr.length = len * sz := by
     rw [h6.length, h7]
     have := (hc2.flat len).length
     rw [<- this]; simp [hc2.length, h3]
    refine Ops.buildSlice hT hsz hzr h1 h2 (pv := (parts.toList.map (·.1)).zip us) (cs := rr.toArray) ?_ ?_ ?_ ?_ hw ht λ b => ?_
    ·rw [hus]; congr 1
     rw [List.map_snd_zip]; omega
    ·rw [List.map_fst_zip]; omega
    ·rw [hbase]; exact h5
    ·simpa using hrl
    ·rw [List.toList_toArray]
     exact blk_new (c := len) hH hs h6 hrl λ W' hH' hst => k _ (List.mem_singleton.2 rfl) _ W' _ (zqm hH _) hH' ⟨b, len, zqe, rfl, by simp⟩ rfl hst
   ·cases h
  ·cases h
 ·cases h
def zjb (P : Program) (hp : Mem) (t : TypeId) (parts : Array (Nat × Operand)) : Option (List (V × Mem)) :=
 match P.underlying t, parts.toList with
 | some (.slice e), [] => match sizeP P e with
  | some sz => one (.sl hp.n 0 0 0 none) (hp.newS (.cells [] e sz))
  | none => none
 | _, _ => none
theorem lBuildEmpty_run {parts : Array (Nat × Operand)} {outs : List (V × Mem)} (h : zjb P hp T' parts = some outs) :
  ∃ e sz, outs = [(.sl hp.n 0 0 0 none, hp.new (.cells [] e sz))] /\ small hp.n = true /\ ∀ (a : Act) (w : World), (execOp a.eval ⟨some d, .buildSlice T' 0 parts, T, p, es, g⟩).run P w = .ok (.value (.slice (some ⟨w.heap.size, 0, none⟩) 0 0)) { w with heap := w.heap.push (.cells #[] e) } := by
 unfold zjb at h
 split at h
 ·rename_i e hT hparts
  split at h
  ·rename_i sz hsz
   obtain ⟨hp', h1, rfl⟩ := one_ok h
   obtain ⟨hs, rfl⟩ := zqw h1
   refine ⟨e, sz, rfl, hs, λ a w => ?_⟩
   have e1 : parts = #[] := by cases parts; simp at hparts; simp [hparts]
   subst e1
   simp [execOp, Instr.buildSlice, underlying, hT, zqg w hsz, Instr.fill, newRow]
   congr 2
   apply Array.ext'
   simp
  ·cases h
 ·cases h
theorem lBuildEmpty_ok (hH : HR ρ hp W) {parts : Array (Nat × Operand)} (hw : wants ops L ⟨some d, .buildSlice T' 0 parts, T, p, es, g⟩ = some true) (ht : Nat.blt d n = true) {outs : List (V × Mem)} (h : zjb P hp T' parts = some outs) (k : Cont P ro n ops r ds L K ρ hp W (some d) outs) :
  Ops P ro n ops (⟨some d, .buildSlice T' 0 parts, T, p, es, g⟩ :: r) ds L (spl hp.n W) K := by
 obtain ⟨e, sz, rfl, hs, hrun⟩ := lBuildEmpty_run (d := d) (T := T) (p := p) (es := es) (g := g) h
 refine Ops.val hw (by simp) ht λ Γ F a w he hh => ⟨_, _, _, hrun a w, hh.newb _, ?_⟩
 exact blk_new (us := []) (c := 0) hH hs RL.nil (by simp) λ W' hH' hst => k _ (List.mem_singleton.2 rfl) _ W' _ (zqm hH _) hH' ⟨_, 0, zqe, rfl, by simp⟩ rfl hst
def zkD (P : Program) (G : GV) (env : Tr V) (hp : Mem) (t : TypeId) (x y : Operand) : Option (List (V × Mem)) :=
 match P.underlying t with
 | some (.slice e) => match sizeP P e, bytesP P e, zeroV P e, evN G env x, evN G env y with
  | some sz, some by_, some z, some i, some j => match Nat.beq (cellsV z).length sz, Nat.ble i j, Nat.ble j 9223372036854775807, Nat.ble (j * by_) 281474976710656, Nat.blt 0 sz, Nat.blt 0 j with
   | true, true, true, true, true, true => one (.sl hp.n 0 0 i none) (hp.newS (.cells (flatV i (cellsV z)) e sz))
   | _, _, _, _, _, _ => none
  | _, _, _, _, _ => none
 | _ => none
theorem lMakeSlice_ok (hG : GOk ρ G) (hE : RE ρ env L) (hH : HR ρ hp W) (hw : wants ops L ⟨some d, .makeSlice T' x y, T, p, es, g⟩ = some true) (ht : Nat.blt d n = true) {outs : List (V × Mem)} (h : zkD P G env hp T' x y = some outs) (k : Cont P ro n ops r ds L K ρ hp W (some d) outs) :
  Ops P ro n ops (⟨some d, .makeSlice T' x y, T, p, es, g⟩ :: r) ds L (spl hp.n W) K := by
 unfold zkD at h
 split at h
 ·rename_i e hT
  split at h
  ·rename_i sz by_ z i j hsz hby hz hi hj
   split at h
   ·rename_i h1 h2 h3 h4 h5 h6
    obtain ⟨hp', h7, rfl⟩ := one_ok h
    obtain ⟨hs, rfl⟩ := zqw h7
    obtain ⟨zr, hzr, hzv⟩ := zqO (ρ := ρ) hz
    obtain ⟨zc, hc1, hc2⟩ := zqC hzv
    obtain ⟨k1, hx⟩ := evN_ok hG hE hi
    obtain ⟨k2, hy⟩ := evN_ok hG hE hj
    have h1 := beq_tt h1
    have h2 := Nat.le_of_ble_eq_true h2
    have h3 := Nat.le_of_ble_eq_true h3
    have h4 := Nat.le_of_ble_eq_true h4
    have h6 := blt_tt h6
    have hzs : zr.cells.size = sz := by rw [hc1]; simp [hc2.length, h1]
    have hzl : (zr.cells.toList) = zc := by rw [hc1]
    refine Ops.make hT hsz hby hzr hzs hx hy (by omega) (by omega) (by omega) (by simpa using h4) h5 hw ht λ A => ?_
    simp only [Int.toNat_natCast, hzl]
    exact own_close hH hs (hc2.flat i) (.inr (by omega)) λ b W' hA hm hH' hst => by
     subst hA
     exact k _ (List.mem_singleton.2 rfl) _ W' _ (zqm hH _) hH' ⟨b, j, zqe, rfl, hm⟩ rfl hst
   ·cases h
  ·cases h
 ·cases h
def dstOf (hp : Mem) (e sz : Nat) (x : V) : Option (List V × Nat × Mem × Option Nat) :=
 match x with
 | .nils => some ([], 0, hp, none)
 | .sl id i off len none => match hp.t.get id with
  | some (.cells l ty s) => match Nat.beq i 0, Nat.beq off 0, Nat.beq ty e, Nat.beq s sz, takeN (len * sz) l with
   | true, true, true, true, some r => match hp.putS id none with | some h => some (r, len, h, some id) | none => none
   | _, _, _, _, _ => none
  | _ => none
 | _ => none
theorem dstOf_ok (hH : HR ρ hp W) (hu : R ρ v u) {r0 : List V} {m0 : Nat} {h0 : Mem} {idk : Option Nat} (h : dstOf hp e sz v = some (r0, m0, h0, idk)) (hsz : 0 < sz) :
  ∃ A c W0 cells, u = .slice A m0 c /\ HR ρ h0 W0 /\ h0.n = hp.n /\ RL ρ r0 cells /\ cells.length = m0 * sz /\ (∀ id, idk ≠ some id -> W0 id = W id) /\ (Stay hp W W0 /\ h0.ro = hp.ro) /\ ∀ x, sep (spl hp.n W) x -> sep (Own e sz A m0 c cells :: spl hp.n W0) x := by
 unfold dstOf at h
 split at h
 ·cases h; cases hu
  exact ⟨none, 0, W, [], rfl, hH, rfl, .nil, by simp, λ _ _ => rfl, ⟨.refl, rfl⟩, λ x hx => sep_nil_own hx⟩
 ·rename_i id i off len
  split at h
  ·rename_i l ty s hc
   split at h
   ·rename_i r h1 h2 h3 h4 h5
    split at h
    ·rename_i h' hput
     cases h
     have hro := zqA hput
     obtain ⟨hs, rfl⟩ := zqB hput
     have h1 := beq_tt h1
     have h2 := beq_tt h2
     have h3 := beq_tt h3
     have h4 := beq_tt h4
     subst h1; subst h2; subst h3; subst h4
     obtain ⟨h6, h7⟩ := zqP h5
     obtain ⟨b, c, hr, hlt, hle, rl, h8, h9⟩ := own_of (len := m0) hH hc (by
      have : (l.take (m0 * s)).length = m0 * s := by rw [<- h6, h7]
      simp only [List.length_take] at this; omega) hsz
     obtain ⟨b', c', hr', rfl, hl⟩ := hu
     rw [hr] at hr'; cases hr'
     rw [<- h6] at h8
     refine ⟨some ⟨b, 0, none⟩, c, upd W id none, rl, by simp, hH.kill hs, rfl, h8, by rw [h8.length, h7], λ j hj => zqo (λ e => hj (by rw [e])), ⟨Stay.put hro, rfl⟩, h9⟩
    ·cases h
   ·cases h
  ·cases h
 ·cases h
end
end
end Go.Y
namespace Go.Y
open Go.Z
noncomputable section
def live (hp : Mem) : List Lk -> Bool
 | [] => true
 | id :: l => match hp.t.get id.1 with | some _ => live hp l | none => false
def zkS (s : List UInt8) : List V := s.map λ c => V.int .u8 (.ofNat c.toNat)
section
variable {P : Program} {ro : Option Nat} {n : Nat} {ops : Array Oper} {r : List Oper} {ds : List Deferred} {L : Lo} {H H' : List SP} {K : Kont} {ρ : Rho} {W : RW} {G : GV} {env : Tr V} {hp hp' : Mem}
 {d : Nat} {T T' X Y t xt e sz by_ : TypeId} {p : String} {es : Array Edge} {g : Option (Nat × Bool)} {op : Op} {v : V} {u : Value} {x y z : Operand} {A : Option Addr} {m c : Nat} {cells : List Value} {C : SP}
theorem zkr {B : SP} {h : Hp} (hx : sep (B :: H) h) : sep H h := by
 obtain ⟨h1, h2, d, rfl, _, h⟩ := hx
 exact sep_up H d h
theorem live_ok : ∀ {rd : List Lk}, live hp rd = true -> ∀ id ∈ rd, ∃ ch, hp.t.get id.1 = some ch
 | [], _, id, hm => by cases hm
 | i :: l, h, id, hm => by
  simp only [live] at h
  split at h
  ·rename_i ch hc
   cases hm with
   | head => exact ⟨ch, hc⟩
   | tail _ hm => exact live_ok h id hm
  ·cases h
theorem zkC (hH : HR ρ hp W) {rd : List Lk} (h : live hp rd = true) {n : Nat} (hn : hp.n <= n) : Holds W (spl n W) rd := λ id hm => by
 obtain ⟨ch, hc⟩ := live_ok h id hm
 obtain ⟨b, o, hw, _⟩ := hH.rel id.1 ch hc
 exact ⟨b, o, _, by rw [hw]; exact .refl, zqf (Nat.lt_of_lt_of_le (hH.lt hc) hn) hw⟩
theorem Holds.tail {rd : List Lk} {B : SP} (h : Holds W H rd) : Holds W (B :: H) rd := λ id hm => let ⟨b, o, H', h1, h2⟩ := h id hm; ⟨b, o, _, h1, .tail h2⟩
theorem zjG (s : List UInt8) : RL ρ (zkS s) (s.map λ c => Value.int .u8 (c.toNat : Int)) := by
 induction s with
 | nil => exact .nil
 | cons a s ih => exact .cons rfl ih
theorem RdA.pre (h : RdA C A cells) (k : Nat) : RdA C A (cells.take k) := λ hp hc => by
 rcases h hp hc with h | ⟨b, off, l, ty, fr, h1, h2, h3⟩
 ·left; simp [h]
 ·right
  refine ⟨b, off, l, ty, fr, h1, h2, ?_⟩
  have : (l.drop off).take (cells.take k).length = ((l.drop off).take cells.length).take k := by
   rw [List.take_take, List.length_take]
  rw [this, h3]
theorem zkq {l : List Oper} {h0 : Mem} {W0 : RW} {vs : List V} {k0 : Nat} {outs : List (V × Mem)} {sz0 : Nat} {dd : Nat} (hH0 : HR ρ h0 W0) (hv : RL ρ vs cells) (hlen : cells.length = k0 * sz0) (hpos : 0 < k0) (hsz : 0 < sz0)
  (h : one (.sl h0.n 0 0 k0 none) (h0.newS (.cells vs e sz0)) = some outs) (hst : Stay hp W W0 /\ h0.ro = hp.ro) (k : Cont P ro n ops r ds L K ρ hp W (some dd) outs) (A : Option Addr) (c : Nat) :
  Ops P ro n ops r ds ((dd, .slice A k0 c) :: L) (Own e sz0 A k0 c cells :: spl h0.n W0) K := by
 obtain ⟨hp', h1, rfl⟩ := one_ok h
 obtain ⟨hs, rfl⟩ := zqw h1
 have hne : cells ≠ [] := by
  rintro rfl
  have : 0 < k0 * sz0 := Nat.mul_pos hpos hsz
  simp at hlen; omega
 exact own_close (l := r) hH0 hs hv (.inl hne) λ b W' hA hm hH' hst' => by
  subst hA
  exact k _ (List.mem_singleton.2 rfl) _ W' _ (zqm hH0 _) hH' ⟨b, c, zqe, rfl, hm⟩ hst.2 (λ j hj => (hst.1 j hj).trans (hst' j (by rw [hst.2]; exact hj)))
theorem lenV_ok {b : V} {B : Option Addr} {len cap kk : Nat} (hlen : lenV b = some kk) (hvy : R ρ b (.slice B len cap)) : len = kk := by
 unfold lenV at hlen
 split at hlen
 ·cases hlen; obtain ⟨_, _, _, he, _⟩ := hvy; cases he; rfl
 ·cases hlen; obtain ⟨_, _, _, _, he, _⟩ := hvy; cases he; rfl
 ·cases hlen; cases hvy; rfl
 ·cases hlen; obtain ⟨_, _, he⟩ := hvy; cases he; rfl
 ·cases hlen
theorem Ops.open_ownO {l : List Oper} (k : ∀ b pre junk fr, A = some ⟨b, pre.length, none⟩ -> cells.length = m * sz -> (cells ++ junk).length = c * sz -> m <= c -> FrOk fr (pre ++ (cells ++ junk)).length -> Ops P ro n ops l ds L (blk b (pre ++ (cells ++ junk)) e fr :: H) K) :
  Ops P ro n ops l ds L (OwnO e sz A m c cells :: H) K := by
 intro Γ F a w Q he hh hq
 obtain ⟨h1, h2, d, eh, ⟨b, pre, junk, fr, h3, h4, h5, h6, h7, h8⟩, r⟩ := hh.pick Pick.head
 exact k b pre junk fr h3 h4 h5 h6 h7 Γ F a w Q he ⟨hh.os, hh.tape, hh.output, by rw [eh]; exact zqk ⟨h1, h2, d, rfl, h8, r⟩⟩ hq
def lAppend (P : Program) (G : GV) (env : Tr V) (hp : Mem) (t xt : TypeId) (x y : Operand) : Option (List (V × Mem)) :=
 match P.underlying t with
 | some (.slice e) => match sizeP P e, bytesP P e, zeroV P e, evO G env x with
  | some sz, some by_, some z, some a => match Nat.blt 0 sz, Nat.blt 0 by_, Nat.beq (cellsV z).length sz, dstOf hp e sz a with
   | true, true, true, some (r0, m, h0, _) => match P.underlying xt, evO G env y with
    | some .string, some (.str s) => match Nat.beq sz 1, Nat.ble ((m + s.length) * by_) 140737488355328, Nat.blt 0 (m + s.length) with
     | true, true, true => one (.sl h0.n 0 0 (m + s.length) none) (h0.newS (.cells (r0 ++ zkS s) e sz))
     | _, _, _ => none
    | some (.slice _), some b => match elemsV h0 sz b, lenV b with
     | some (new, rd), some k => match live h0 rd, zxM new, Nat.ble ((m + k) * by_) 140737488355328, Nat.blt 0 (m + k) with
      | true, true, true, true => one (.sl h0.n 0 0 (m + k) none) (h0.newS (.cells (r0 ++ new) e sz))
      | _, _, _, _ => none
     | _, _ => none
    | some (.int _), some (.int _ (.ofNat k)) => match zxM (cellsV z), Nat.ble ((m + k) * by_) 140737488355328, Nat.blt 0 (m + k) with
     | true, true, true => one (.sl h0.n 0 0 (m + k) none) (h0.newS (.cells (r0 ++ flatV k (cellsV z)) e sz))
     | _, _, _ => none
    | _, _ => none
   | _, _, _, _ => none
  | _, _, _, _ => none
 | _ => none
theorem lAppend_ok (hG : GOk ρ G) (hE : RE ρ env L) (hH : HR ρ hp W) (hw : wants ops L ⟨some d, .call { callee := .builtin .append, args := #[x, y], argTypes := #[t, xt] }, T, p, es, g⟩ = some true) (ht : Nat.blt d n = true) {outs : List (V × Mem)} (h : lAppend P G env hp t xt x y = some outs) (k : Cont P ro n ops r ds L K ρ hp W (some d) outs) :
  Ops P ro n ops (⟨some d, .call { callee := .builtin .append, args := #[x, y], argTypes := #[t, xt] }, T, p, es, g⟩ :: r) ds L (spl hp.n W) K := by
 unfold lAppend at h
 split at h
 ·rename_i e hT
  split at h
  ·rename_i sz by_ z a hsz hby hz hx
   split at h
   ·rename_i r0 m h0 idk hb1 hb2 hb3 hdst
    have hsz0 := blt_tt hb1
    have hb3 := beq_tt hb3
    obtain ⟨zr, hzr, hzv⟩ := zqO (ρ := ρ) hz
    obtain ⟨zc, hc1, hc2⟩ := zqC hzv
    have hzs : zr.cells.size = sz := by rw [hc1]; simp [hc2.length, hb3]
    have hzl : zr.cells.toList = zc := by rw [hc1]
    obtain ⟨ux, hux, hvx⟩ := evO_ok hG hE hx
    obtain ⟨A, c, W0, cells, rfl, hH0, hn0, hr0, hcl, _, hst, hsplit⟩ := dstOf_ok hH hvx hdst hsz0
    refine Ops.weak ?_ hsplit
    rw [<- hn0]
    split at h
    ·rename_i s hxt hy
     split at h
     ·rename_i hs1 hbd hps
      have hs1 := beq_tt hs1
      subst hs1
      obtain ⟨uy, huy, hvy⟩ := evO_ok hG hE hy
      cases hvy
      refine Ops.append_str hT hxt hsz hby hzr hzs hb2 hux huy Pick.head rfl (Nat.le_of_ble_eq_true hbd) hw ht λ A' c' => ?_
      exact zkq (l := r) hH0 (hr0.append (zjG s)) (by simp [hcl]) (blt_tt hps) hsz0 h hst k A' c'
     ·cases h
    ·rename_i e' b hxt hy
     split at h
     ·rename_i new rd kk hel hlen
      split at h
      ·rename_i hlv hsc hbd hps
       obtain ⟨uy, huy, hvy⟩ := evO_ok hG hE hy
       obtain ⟨B, len, cap, nw, rfl, h1, h2, h3, h4⟩ := zjz hH0 hvy hel
       have hlk : len = kk := lenV_ok hlen hvy
       subst hlk
       obtain ⟨C, H2, pk2, hR⟩ := h4 _ (Holds.tail (B := Own e sz A m c cells) (zkC hH0 hlv (Nat.le_refl _)))
       refine Ops.append hT hxt hsz hby hzr hzs hb2 hux huy Pick.head pk2 hR h2 (zxe h1 hsc) (Nat.le_of_ble_eq_true hbd) hw ht λ A' c' => ?_
       exact zkq (l := r) hH0 (hr0.append h1) (by simp [hcl, h2, Nat.add_mul]) (blt_tt hps) hsz0 h hst k A' c'
      ·cases h
     ·cases h
    ·rename_i ki kx kn hxt hy
     split at h
     ·rename_i hsc hbd hps
      obtain ⟨uy, huy, hvy⟩ := evO_ok hG hE hy
      cases hvy
      have := Ops.append_zeros (i := Int.ofNat kn) hT hxt hsz hby hzr hzs hb2 hb1 (by rw [hzl]; exact zxe hc2 hsc) hux huy (by simp) Pick.head (by simpa using Nat.le_of_ble_eq_true hbd) hw ht
       (r := r) (ro := ro) (K := K) (H' := spl h0.n W0) (cells := cells) (λ A' c' => by
        simp only [Int.ofNat_eq_natCast, Int.toNat_natCast, hzl]
        exact zkq (l := r) hH0 (hr0.append (hc2.flat kn)) (by simp [hcl, hc2.length, hb3, Nat.add_mul]) (blt_tt hps) hsz0 h hst k A' c')
      exact this
     ·cases h
    ·cases h
   ·cases h
  ·cases h
 ·cases h
def dstH (hp : Mem) (e sz : Nat) (x : V) : Option (List V × Nat × Mem) :=
 match x with
 | .sl id i off len none => match hp.t.get id with
  | some (.cells l ty s) => match Nat.beq off (i * sz) && Nat.beq ty e && Nat.beq s sz && Nat.blt 0 len, takeN (len * sz) (dropN off l) with
   | true, some r => match hp.putS id none with | some h => some (r, len, h) | none => none
   | _, _ => none
  | _ => none
 | .slh id i off len => match hp.t.get id with
  | some (.cellsH l ty s) => match Nat.beq off (i * sz) && Nat.beq ty e && Nat.beq s sz && Nat.blt 0 len, takeN (len * sz) (dropN off l) with
   | true, some r => match hp.putS id none with | some h => some (r, len, h) | none => none
   | _, _ => none
  | _ => none
 | _ => none
theorem dstH_ok (hH : HR ρ hp W) (hu : R ρ v u) {r0 : List V} {m0 : Nat} {h0 : Mem} (h : dstH hp e sz v = some (r0, m0, h0)) (hsz : 0 < sz) :
  ∃ A c W0 cells, u = .slice A m0 c /\ HR ρ h0 W0 /\ h0.n = hp.n /\ RL ρ r0 cells /\ cells.length = m0 * sz /\ (Stay hp W W0 /\ h0.ro = hp.ro) /\ ∀ x, sep (spl hp.n W) x -> sep (OwnO e sz A m0 c cells :: spl hp.n W0) x := by
 have key : ∀ (id i len c0 b : Nat) (pre rl junk : List Value) (fr : Nat × Nat) (l r0 : List V), W id = some (b, .cells (pre ++ (rl ++ junk)).toArray e fr) -> id < hp.n -> RL ρ l rl -> (rl ++ junk).length = c0 * sz -> FrOk fr (pre ++ (rl ++ junk)).length ->
   len <= c0 - i -> 0 < len -> takeN (len * sz) (dropN (i * sz) l) = some r0 -> ∃ cells, RL ρ r0 cells /\ cells.length = len * sz /\ ∀ x, sep (spl hp.n W) x -> sep (OwnO e sz (some ⟨b, pre.length + i * sz, none⟩) len (c0 - i) cells :: spl hp.n (upd W id none)) x := by
  intro id i len c0 b pre rl junk fr l r0 hW hlt hl h4 h5 hlc hpos hr
  rw [zqX] at hr
  obtain ⟨h6, h7⟩ := zqP hr
  have h3 := RL.take (len * sz) (RL.drop (i * sz) hl)
  rw [<- h6] at h3
  have hlen : ((rl.drop (i * sz)).take (len * sz)).length = len * sz := by rw [h3.length, h7]
  have hps : 0 < len * sz := Nat.mul_pos hpos hsz
  have hle : i * sz + len * sz <= rl.length := by simp only [List.length_take, List.length_drop] at hlen; omega
  have heq : pre ++ (rl ++ junk) = (pre ++ (rl ++ junk).take (i * sz)) ++ (((rl.drop (i * sz)).take (len * sz)) ++ ((rl ++ junk).drop (i * sz)).drop (len * sz)) := by
   rw [<- zqs (b := junk) hle, List.take_append_drop, List.append_assoc, List.take_append_drop]
  refine ⟨_, h3, hlen, λ x hx => ?_⟩
  refine zqd (λ y hy => ?_) (λ _ h => h) (zqf hlt hW x hx)
  refine ⟨b, pre ++ (rl ++ junk).take (i * sz), ((rl ++ junk).drop (i * sz)).drop (len * sz), fr, ?_, hlen, ?_, hlc, by rw [<- heq]; exact h5, by rw [<- heq]; exact hy⟩
  ·have : (List.take (i * sz) (rl ++ junk)).length = i * sz := by rw [List.length_take]; simp; omega
   rw [List.length_append, this]
  ·have h8 : (rl ++ junk).length = rl.length + junk.length := by simp
   simp only [List.length_append, List.length_drop, hlen]
   rw [Nat.sub_mul]
   omega
 unfold dstH at h
 split at h
 ·rename_i id i off len
  split at h
  ·rename_i l ty s hc
   split at h
   ·rename_i r hb hr
    split at h
    ·rename_i h' hput
     cases h
     have hro := zqA hput
     obtain ⟨hs, rfl⟩ := zqB hput
     simp only [Bool.and_eq_true] at hb
     obtain ⟨⟨⟨hb1, hb2⟩, hb3⟩, hb4⟩ := hb
     obtain rfl := beq_tt hb1
     obtain rfl := beq_tt hb2
     obtain rfl := beq_tt hb3
     obtain ⟨b, c, rl, junk, fr, hW, hrr, hl, h4, h5⟩ := hH.cells hc
     obtain ⟨b', c', hr', rfl, hlc⟩ := hu
     rw [hrr] at hr'; cases hr'
     obtain ⟨cells, k1, k2, k3⟩ := key id i m0 c b [] rl junk fr l r0 (by simpa using hW) (hH.lt hc) hl h4 (by simpa using h5) hlc (blt_tt hb4) hr
     exact ⟨some ⟨b, i * s, none⟩, c - i, upd W id none, cells, rfl, hH.kill hs, rfl, k1, k2, ⟨Stay.put hro, rfl⟩, by simpa using k3⟩
    ·cases h
   ·cases h
  ·cases h
 ·rename_i id i off len
  split at h
  ·rename_i l ty s hc
   split at h
   ·rename_i r hb hr
    split at h
    ·rename_i h' hput
     cases h
     have hro := zqA hput
     obtain ⟨hs, rfl⟩ := zqB hput
     simp only [Bool.and_eq_true] at hb
     obtain ⟨⟨⟨hb1, hb2⟩, hb3⟩, hb4⟩ := hb
     obtain rfl := beq_tt hb1
     obtain rfl := beq_tt hb2
     obtain rfl := beq_tt hb3
     obtain ⟨b, c, pre, rl, junk, fr, hW, hrr, hl, h4, h5⟩ := hH.cellsH hc
     obtain ⟨b', c', base', hr', rfl, hlc⟩ := hu
     rw [hrr] at hr'; obtain ⟨rfl, rfl, rfl⟩ := encB_eq hr'
     obtain ⟨cells, k1, k2, k3⟩ := key id i m0 c b pre rl junk fr l r0 hW (hH.lt hc) hl h4 h5 hlc (blt_tt hb4) hr
     exact ⟨some ⟨b, pre.length + i * s, none⟩, c - i, upd W id none, cells, rfl, hH.kill hs, rfl, k1, k2, ⟨Stay.put hro, rfl⟩, k3⟩
    ·cases h
   ·cases h
  ·cases h
 ·cases h
def lAppendH (P : Program) (G : GV) (env : Tr V) (hp : Mem) (t xt : TypeId) (x y : Operand) : Option (List (V × Mem)) :=
 match P.underlying t with
 | some (.slice e) => match sizeP P e, bytesP P e, zeroV P e, evO G env x with
  | some sz, some by_, some z, some a => match Nat.blt 0 sz, Nat.blt 0 by_, Nat.beq (cellsV z).length sz, dstH hp e sz a with
   | true, true, true, some (r0, m, h0) => match P.underlying xt, evO G env y with
    | some (.slice _), some b => match elemsV h0 sz b, lenV b with
     | some (new, rd), some k => match live h0 rd, zxM new, Nat.ble ((m + k) * by_) 140737488355328 with
      | true, true, true => one (.slh h0.n 0 0 (m + k)) (h0.newS (.cellsH (r0 ++ new) e sz))
      | _, _, _ => none
     | _, _ => none
    | _, _ => none
   | _, _, _, _ => none
  | _, _, _, _ => none
 | _ => none
theorem lAppendH_ok (hG : GOk ρ G) (hE : RE ρ env L) (hH : HR ρ hp W) (hw : wants ops L ⟨some d, .call { callee := .builtin .append, args := #[x, y], argTypes := #[t, xt] }, T, p, es, g⟩ = some true) (ht : Nat.blt d n = true) {outs : List (V × Mem)} (h : lAppendH P G env hp t xt x y = some outs) (k : Cont P ro n ops r ds L K ρ hp W (some d) outs) :
  Ops P ro n ops (⟨some d, .call { callee := .builtin .append, args := #[x, y], argTypes := #[t, xt] }, T, p, es, g⟩ :: r) ds L (spl hp.n W) K := by
 unfold lAppendH at h
 split at h
 ·rename_i e hT
  split at h
  ·rename_i sz by_ z a hsz hby hz hx
   split at h
   ·rename_i r0 m h0 hb1 hb2 hb3 hdst
    have hsz0 := blt_tt hb1
    have hb3 := beq_tt hb3
    obtain ⟨zr, hzr, hzv⟩ := zqO (ρ := ρ) hz
    obtain ⟨zc, hc1, hc2⟩ := zqC hzv
    have hzs : zr.cells.size = sz := by rw [hc1]; simp [hc2.length, hb3]
    obtain ⟨ux, hux, hvx⟩ := evO_ok hG hE hx
    obtain ⟨A, c, W0, cells, rfl, hH0, hn0, hr0, hcl, hst, hsplit⟩ := dstH_ok hH hvx hdst hsz0
    refine Ops.weak ?_ hsplit
    rw [<- hn0]
    split at h
    ·rename_i e' b hxt hy
     split at h
     ·rename_i new rd kk hel hlen
      split at h
      ·rename_i hlv hsc hbd
       obtain ⟨uy, huy, hvy⟩ := evO_ok hG hE hy
       obtain ⟨B, len, cap, nw, rfl, h1, h2, h3, h4⟩ := zjz hH0 hvy hel
       have hlk : len = kk := lenV_ok hlen hvy
       subst hlk
       obtain ⟨C, H2, pk2, hR⟩ := h4 _ (Holds.tail (B := OwnO e sz A m c cells) (zkC hH0 hlv (Nat.le_refl _)))
       refine Ops.appendO hT hxt hsz hby hzr hzs hb2 hux huy Pick.head pk2 hR h2 (zxe h1 hsc) (Nat.le_of_ble_eq_true hbd) hw ht λ A' c' => ?_
       obtain ⟨hp', hq1, rfl⟩ := one_ok h
       obtain ⟨hs, rfl⟩ := zqw hq1
       refine Ops.open_ownO λ b' pre junk fr hA' h6 h7 h8 h9 => ?_
       subst hA'
       have hcr : CRel (upd ρ h0.n (some (b', encB pre.length c'))) h0.n (.cellsH (r0 ++ new) e sz) b' (.cells (pre ++ ((cells ++ nw) ++ junk)).toArray e fr) :=
        ⟨c', pre.length, pre, cells ++ nw, junk, fr, zqe, (hr0.append h1).mono (zqm hH0 _), rfl, rfl, h7, h9⟩
       refine Ops.weak ?_ (λ x hx => zjf (b := b') (o := .cells (pre ++ ((cells ++ nw) ++ junk)).toArray e fr) x hx)
       refine k _ (List.mem_singleton.2 rfl) _ _ _ (zqm hH0 _) (hH0.new hs hcr) ⟨b', c', pre.length, zqe, by simp, by simpa using h8⟩ hst.2 (λ j hj => (hst.1 j hj).trans (Stay.new hH0 j (by rw [hst.2]; exact hj)))
      ·cases h
     ·cases h
    ·cases h
   ·cases h
  ·cases h
 ·cases h
def lSame (P : Program) (hp : Mem) (S D : TypeId) (x : Option V) : Option (List (V × Mem)) :=
 match x, P.underlying S, P.underlying D, Nat.beq S D with
 | some (.sl id i off len cap), some (.slice _), some (.slice e), true => match P.underlying e, hp.t.get id with
  | some (.int .u8), some (.cells l ty s) => one (.sl id i off len cap) (hp.putS id (some (.cells l ty s)))
  | _, _ => none
 | _, _, _, _ => none
def lConv (P : Program) (G : GV) (env : Tr V) (hp : Mem) (S D : TypeId) (x : Operand) : Option (List (V × Mem)) :=
 match P.underlying S, P.underlying D, evO G env x with
 | some .string, some (.slice e), some (.str s) => match P.underlying e with
  | some (.int .u8) => match s with
   | [] => some [(.sle, hp)]
   | s => one (.sl hp.n 0 0 s.length none) (hp.newS (.cells (zkS s) e 1))
  | _ => none
 | _, _, _ => none
theorem lConv_ok (hG : GOk ρ G) (hE : RE ρ env L) (hH : HR ρ hp W) (hw : wants ops L ⟨some d, .convert X Y x, T, p, es, g⟩ = some true) (ht : Nat.blt d n = true) {outs : List (V × Mem)} (h : lConv P G env hp X Y x = some outs) (k : Cont P ro n ops r ds L K ρ hp W (some d) outs) :
  Ops P ro n ops (⟨some d, .convert X Y x, T, p, es, g⟩ :: r) ds L (spl hp.n W) K := by
 unfold lConv at h
 split at h
 ·rename_i e s hS hD hx
  obtain ⟨ux, hux, hvx⟩ := evO_ok hG hE hx
  cases hvx
  split at h
  ·rename_i hE'
   split at h
   ·cases h
    refine Ops.conv_sb hS hD hE' hux hw ht λ A c => ?_
    refine Ops.weak ?_ (λ x hx => zkr hx)
    exact k _ (List.mem_singleton.2 rfl) ρ W _ (Rho.le_refl _) hH ⟨A, c, rfl⟩ rfl .refl
   ·rename_i hne
    refine Ops.conv_sb hS hD hE' hux hw ht λ A c => ?_
    have hl : 0 < s.length := by cases s with | nil => exact absurd rfl hne | cons => simp
    exact zkq (l := r) hH (zjG s) (by simp) hl (by omega) h ⟨.refl, rfl⟩ k A c
  ·cases h
 ·cases h
end
end
end Go.Y
namespace Go.Y
open Go.Z
noncomputable section
theorem zxu {P : Program} {w : World} {r : Nat} {o o' : Obj} (h : w.heap[r]? = some o) (hn : notCells o = true := by rfl) : (setObj r o').run P w = .ok () { w with heap := w.heap.setIfInBounds r o' } := by
 cases o <;> first | (cases hn; done) | simp [setObj, Sem.run, h]
theorem Hold.setObj {Γ w : World} {H H' : List SP} {F : SP} {b : Nat} {o : Obj} (hh : Hold Γ H F w) (pk : Pick H (pt b o) H') (o' : Obj) : Hold Γ (pt b o' :: H') F { w with heap := w.heap.setIfInBounds b o' } := by
 have hb := hh.block pk
 have hlt : b < w.heap.size := (Array.getElem?_eq_some_iff.1 hb).1
 refine hh.turn pk rfl rfl rfl ?_ λ i hi => ?_
 ·simp [hlt]
 ·simp only [Array.getElem?_setIfInBounds]
  rw [if_neg (λ h => hi h.symm)]
section
variable {P : Program} {ro : Option Nat} {n : Nat} {ops : Array Oper} {r : List Oper} {ds : List Deferred} {L : Lo} {H H' : List SP} {K : Kont} {ρ : Rho} {W : RW} {G : GV} {env : Tr V} {hp hp' : Mem}
 {d : Nat} {T T' X Y t xt e sz by_ : TypeId} {p : String} {es : Array Edge} {g : Option (Nat × Bool)} {op : Op} {v : V} {u : Value} {x y z : Operand} {A : Option Addr} {m c : Nat} {cells : List Value} {C : SP}
theorem obj_new {l : List Oper} {ch : Chunk} {b : Nat} {o : Obj} (hH : HR ρ hp W) (hs : small hp.n = true) (hc : CRel (upd ρ hp.n (some (b, 0))) hp.n ch b o)
  (k : ∀ W', HR (upd ρ hp.n (some (b, 0))) (hp.new ch) W' -> Stay hp W W' -> Ops P ro n ops l ds L (spl (hp.n + 1) W') K) : Ops P ro n ops l ds L (pt b o :: spl hp.n W) K := by
 refine Ops.weak ?_ (λ x hx => zjf (b := b) (o := o) x hx)
 exact k _ (hH.new hs hc) (Stay.new hH)
def lMakeMap (hp : Mem) (res : Option Operand) : Option (List (V × Mem)) :=
 match res with
 | none => one (.map hp.n) (hp.newS (.map [] 0))
 | some _ => none
theorem lMakeMap_ok (hH : HR ρ hp W) {res : Option Operand} (hw : wants ops L ⟨some d, .makeMap T' res, T, p, es, g⟩ = some true) (ht : Nat.blt d n = true) {outs : List (V × Mem)} (h : lMakeMap hp res = some outs) (k : Cont P ro n ops r ds L K ρ hp W (some d) outs) :
  Ops P ro n ops (⟨some d, .makeMap T' res, T, p, es, g⟩ :: r) ds L (spl hp.n W) K := by
 unfold lMakeMap at h
 split at h
 ·obtain ⟨hp', h1, rfl⟩ := one_ok h
  obtain ⟨hs, rfl⟩ := zqw h1
  refine Ops.val hw (by simp) ht λ Γ F a w he hh => ⟨.map (some w.heap.size), { w with heap := w.heap.push (.map #[] 0) }, pt w.heap.size (.map #[] 0) :: spl hp.n W, ?_, hh.newb _, ?_⟩
  ·simp only [execOp, Option.map_none, Instr.makeMap, Sem.run_bind, Result.andThen_ok, run_newObj, Sem.run_pure]
  ·exact obj_new (ch := .map [] 0) hH hs ⟨⟨0, zqe⟩, [], rfl, rfl⟩ λ W' hH' hst => k _ (List.mem_singleton.2 rfl) _ W' _ (zqm hH _) hH' ⟨_, 0, zqe, rfl⟩ rfl hst
 ·cases h
def modV : List (V × V × Nat) -> Nat -> V -> V -> List (V × V × Nat)
 | [], _, _, _ => []
 | (_, _, b) :: l, 0, k, v => (k, v, b) :: l
 | e :: l, i + 1, k, v => e :: modV l i k v
theorem REs.mod {k v : V} {uk uv : Value} (hk : R ρ k uk) (hv : R ρ v uv) : ∀ {l : List (V × V × Nat)} {es : List MapEntry} (i : Nat), REs ρ l es -> REs ρ (modV l i k v) (es.modify i λ e => { e with key := uk, val := uv })
 | [], es, i, h => by rw [show es = [] from h]; cases i <;> exact rfl
 | (k0, v0, b) :: l, es, 0, h => by obtain ⟨k', v', l', h1, h2, h3, rfl⟩ := h; exact ⟨uk, uv, l', hk, hv, h3, by simp⟩
 | (k0, v0, b) :: l, es, i + 1, h => by obtain ⟨k', v', l', h1, h2, h3, rfl⟩ := h; exact ⟨k', v', _, h1, h2, REs.mod hk hv i h3, by simp⟩
theorem REs.push {k v : V} {uk uv : Value} {b : Nat} (hk : R ρ k uk) (hv : R ρ v uv) : ∀ {l : List (V × V × Nat)} {es : List MapEntry}, REs ρ l es -> REs ρ (l ++ [(k, v, b)]) (es ++ [⟨uk, uv, b⟩])
 | [], es, h => by rw [show es = [] from h]; exact ⟨uk, uv, [], hk, hv, rfl, rfl⟩
 | (k0, v0, b0) :: l, es, h => by obtain ⟨k', v', l', h1, h2, h3, rfl⟩ := h; exact ⟨k', v', _, h1, h2, REs.push hk hv h3, rfl⟩
theorem REs.erase : ∀ {l : List (V × V × Nat)} {es : List MapEntry} (i : Nat), REs ρ l es -> REs ρ (l.eraseIdx i) (es.eraseIdx i)
 | [], es, i, h => by rw [show es = [] from h]; exact rfl
 | (k0, v0, b) :: l, es, 0, h => by obtain ⟨k', v', l', h1, h2, h3, rfl⟩ := h; exact h3
 | (k0, v0, b) :: l, es, i + 1, h => by obtain ⟨k', v', l', h1, h2, h3, rfl⟩ := h; exact ⟨k', v', _, h1, h2, REs.erase i h3, rfl⟩
theorem sameBits_of {kd : TypeDesc} {a b : Value} (h : Instr.sameNow kd a b = some true) : Instr.sameBits 10000 b a = true := by
 have : ∀ q, Instr.sameBits (q + 1) b a = true := by
  intro q
  unfold Instr.sameNow at h
  split at h
  ·split at h
   ·rename_i hk; subst hk; simp at h; subst h; simp [Instr.sameBits]
   ·cases h
  ·rename_i s1 s2
   simp only [Option.some.injEq, beq_toListBytes, beq_iff_eq] at h
   simp [Instr.sameBits, beq_toListBytes, h]
  ·simp at h; subst h; simp [Instr.sameBits]
  ·cases h
 exact this 9999
theorem findNow_at {kd : TypeDesc} {a : Value} : ∀ {es : List MapEntry} {i j : Nat} {v : Value}, Instr.findNow kd a es i = some (some (j, v)) -> i <= j /\ ∃ e, es[j - i]? = some e /\ Instr.sameNow kd a e.key = some true
 | [], i, j, v, h => by simp [Instr.findNow] at h
 | e :: es, i, j, v, h => by
  simp only [Instr.findNow] at h
  split at h
  ·rename_i hs; simp at h; obtain ⟨rfl, rfl⟩ := h; exact ⟨Nat.le_refl _, e, by simp, hs⟩
  ·obtain ⟨h1, e', h2, h3⟩ := findNow_at h
   exact ⟨by omega, e', by rw [show j - i = (j - (i + 1)) + 1 by omega]; simpa using h2, h3⟩
  ·cases h
def zxP (P : Program) (G : GV) (env : Tr V) (hp : Mem) (t : TypeId) (x y z : Operand) : Option (List (V × Mem)) :=
 match P.underlying t with
 | some (.map kt _) => match P.underlying kt with
  | some kd => match evO G env x, evO G env y, evO G env z with
   | some (.map id), some k, some v => match fits kd k, hp.t.get id with
    | true, some (.map l clk) => match findV k l 0 with
     | some (some (i, _)) => one .und (hp.putS id (some (.map (modV l i k v) clk)))
     | some none => one .und (hp.putS id (some (.map (l ++ [(k, v, clk)]) (clk + 1))))
     | none => none
    | _, _ => none
   | _, _, _ => none
  | none => none
 | _ => none
theorem lMapUpdate_run (hG : GOk ρ G) (hE : RE ρ env L) (hH : HR ρ hp W) {outs : List (V × Mem)} (h : zxP P G env hp T' x y z = some outs) :
  ∃ ux uy uz, evalL L x = some ux /\ evalL L y = some uy /\ evalL L z = some uz /\ ∃ id b o o' hp', outs = [(.und, hp')] /\ id < hp.n /\ hp'.n = hp.n /\ hp'.ro = hp.ro /\ (∀ l ∈ hp.ro, l.1 ≠ id) /\ W id = some (b, o) /\ notCells o = true /\ HR ρ hp' (upd W id (some (b, o'))) /\
   ∀ w, w.heap[b]? = some o -> (Instr.mapUpdate T' ux uy uz).run P w = .ok () { w with heap := w.heap.setIfInBounds b o' } := by
 unfold zxP at h
 split at h
 ·rename_i kt et hT
  split at h
  ·rename_i kd hkd
   split at h
   ·rename_i id k v hx hy hz
    split at h
    ·rename_i l clk hf hc
     obtain ⟨ux, hux, bb, cc, hrr, rfl⟩ := evO_ok hG hE hx
     obtain ⟨uy, huy, hvy⟩ := evO_ok hG hE hy
     obtain ⟨uz, huz, hvz⟩ := evO_ok hG hE hz
     obtain ⟨b, c, es', hW, hr, hes⟩ := hH.map hc
     rw [hr] at hrr; cases hrr
     have hchk := λ w b => fits_ok (P := P) hf hvy w hkd b
     refine ⟨_, uy, uz, hux, huy, huz, id, bb, .map es'.toArray clk, ?_⟩
     split at h
     ·rename_i i v0 hfv
      obtain ⟨hp', h1, rfl⟩ := one_ok h
      have hro := zqA h1
      obtain ⟨hs, rfl⟩ := zqB h1
      obtain ⟨r', hr1, v', hr2, hr3, _⟩ := zjc hf hvy hes hfv
      subst hr2
      obtain ⟨_, e, he1, he2⟩ := findNow_at hr1
      have hsb := sameBits_of he2
      refine ⟨.map (es'.modify i λ e => { e with key := uy, val := uz }).toArray clk, _, rfl, hH.lt hc, rfl, rfl, hro, hW, rfl, hH.put (ch := .map (modV l i k v) clk) hs ⟨⟨cc, hr⟩, _, rfl, hes.mod hvy hvz i⟩, λ w hw => ?_⟩
      have hfk := zxC (P := P) hkd hr1 w
      simp only [Nat.sub_zero] at he1
      have hk2 : ((es'[i]?.map (·.key)).getD uy) = e.key := by rw [he1]; rfl
      simp only [Instr.mapUpdate, Sem.run_bind, run_underlying hT, Result.andThen_ok, zqy hw, hchk, hfk, List.getElem?_toArray, hk2, Instr.keyThatStays, hsb, if_true, Sem.run_pure, zxu hw]
      simp
     ·rename_i hfv
      obtain ⟨hp', h1, rfl⟩ := one_ok h
      have hro := zqA h1
      obtain ⟨hs, rfl⟩ := zqB h1
      obtain ⟨r', hr1, hr2⟩ := zjc hf hvy hes hfv
      dsimp only at hr2
      subst hr2
      refine ⟨.map (es' ++ [(MapEntry.mk uy uz clk)]).toArray (clk + 1), _, rfl, hH.lt hc, rfl, rfl, hro, hW, rfl, hH.put (ch := .map (l ++ [(k, v, clk)]) (clk + 1)) hs ⟨⟨cc, hr⟩, _, rfl, hes.push hvy hvz⟩, λ w hw => ?_⟩
      have hfk := zxC (P := P) hkd hr1 w
      simp only [Instr.mapUpdate, Sem.run_bind, run_underlying hT, Result.andThen_ok, zqy hw, hchk, hfk, zxu hw]
      simp
     ·cases h
    ·cases h
   ·cases h
  ·cases h
 ·cases h
theorem zkb (hG : GOk ρ G) (hE : RE ρ env L) (hH : HR ρ hp W) {o : Op} (ho : o = .mapUpdate T' x y z \/ o = .insert T' x y z) (hw : wants ops L ⟨none, o, T, p, es, g⟩ = some true) {outs : List (V × Mem)} (h : zxP P G env hp T' x y z = some outs) (k : Cont P ro n ops r ds L K ρ hp W none outs) :
  Ops P ro n ops (⟨none, o, T, p, es, g⟩ :: r) ds L (spl hp.n W) K := by
 obtain ⟨ux, uy, uz, h1, h2, h3, id, b, ob, ob', hp', rfl, hlt, hn', hro', hro, hW, hnc, hH', hrun⟩ := lMapUpdate_run hG hE hH h
 have hd : ∀ c, o ≠ .defer c := by rcases ho with rfl | rfl <;> simp
 refine Ops.skp hw hd rfl λ Γ F a w he hh => ?_
 have pk := zqf hlt hW
 refine ⟨_, _, ?_, Hold.setObj hh pk ob', ?_⟩
 ·rcases ho with rfl | rfl <;> simp only [execOp, he.eval h1, he.eval h2, he.eval h3, Sem.run_bind, hrun w (hh.block pk), Result.andThen_ok, Sem.run_pure]
 ·refine Ops.weak ?_ (λ x hx => zxx hlt x hx)
  rw [zxT, <- hn']
  exact k _ (List.mem_singleton.2 rfl) ρ _ undef (Rho.le_refl _) hH' rfl hro' (Stay.put hro)
end
end
end Go.Y
namespace Go.Y
open Go.Z
noncomputable section
def qBuild (P : Program) (G : GV) (env : Tr V) (t : TypeId) (parts : Array (Nat × Operand)) : Option (V × List Lk) :=
 match layout P t with
 | some (pl, zc) => match mapO ofC0 zc, mapO (evO G env) (parts.toList.map (·.2)) with
  | some zv, some vs => match fillV (nth pl) zv ((parts.toList.map (·.1)).zip vs) with
   | some l => some (.agg l, [])
   | none => none
  | _, _ => none
 | none => none
def quietA (P : Program) (G : GV) (env : Tr V) (hp : Mem) (op : Op) : Option (V × List Lk) :=
 match op with
 | .build t parts => qBuild P G env t parts
 | op => quiet P G env hp op
def lRange (P : Program) (G : GV) (env : Tr V) (hp : Mem) (t : TypeId) (x : Operand) : Option (List (V × Mem)) :=
 match P.underlying t, evO G env x with
 | some .string, some (.str s) => one (.ptr hp.n 0) (hp.newS (.iterS s 0))
 | some (.map _ _), some .nilm => one (.ptr hp.n 0) (hp.newS (.iterM none 0 [] 0))
 | some (.map _ _), some (.map id) => match hp.t.get id with
  | some (.map _ clk) => one (.ptr hp.n 0) (hp.newS (.iterM (some id) clk [] clk))
  | _ => none
 | _, _ => none
def memN (l : List Nat) (x : Nat) : Bool := l.any λ y => Nat.beq y x
def stepsM (hp : Mem) (it m since clk : Nat) (seen : List Nat) : List (V × V × Nat) -> Option (List (V × Mem))
 | [] => some []
 | (k, v, b) :: l => match stepsM hp it m since clk seen l, hp.putS it (some (.iterM (some m) since (seen ++ [b]) clk)) with
  | some r, some h => some ((.tup [.bool true, k, v], h) :: r)
  | _, _ => none
def lNext (G : GV) (env : Tr V) (hp : Mem) (x : Operand) (isStr : Bool) : Option (List (V × Mem)) :=
 match evO G env x with
 | some (.ptr it off) => match Nat.beq off 0, hp.t.get it, isStr with
  | true, some (.iterS s pos), true => match Nat.blt pos s.length with
   | true => one (.tup [.bool true, .int .i64 (.ofNat pos), .int .i32 (Utf8.decode (bs s) pos).1]) (hp.putS it (some (.iterS s (pos + (Utf8.decode (bs s) pos).2))))
   | false => some [(.tup [.bool false], hp)]
  | true, some (.iterM none _ _ _), false => some [(.tup [.bool false], hp)]
  | true, some (.iterM (some m) since seen last), false => match hp.t.get m with
   | some (.map es clk) => match seen with
    | [] => stepM es clk m since [] it
    | _ :: _ => match es.all (λ e => Nat.ble last e.2.2) && !es.isEmpty with
     | true => none
     | false => stepM es clk m since seen it
   | _ => none
  | _, _, _ => none
 | _ => none
where stepM (es : List (V × V × Nat)) (clk m since : Nat) (seen : List Nat) (it : Nat) : Option (List (V × Mem)) :=
 match es.filter (λ e => !memN seen e.2.2) with
 | [] => some [(.tup [.bool false], hp)]
 | left => match left.all (λ e => Nat.blt e.2.2 since) with
  | true => stepsM hp it m since clk seen left
  | false => none
def lDelete (P : Program) (G : GV) (env : Tr V) (hp : Mem) (t : TypeId) (x y : Operand) : Option (List (V × Mem)) :=
 match P.underlying t with
 | some (.map kt _) => match P.underlying kt with
  | some kd => match evO G env x, evO G env y with
   | some (.map id), some k => match fits kd k, hp.t.get id with
    | true, some (.map l clk) => match findV k l 0 with
     | some (some (i, _)) => one .und (hp.putS id (some (.map (l.eraseIdx i) clk)))
     | some none => some [(.und, hp)]
     | none => none
    | _, _ => none
   | _, _ => none
  | none => none
 | _ => none
def srcOf (hp : Mem) (sz : Nat) (x : V) : Option (List V × Nat) :=
 match x with
 | .str s => match Nat.beq sz 1 with | true => some (zkS s, s.length) | false => none
 | x => match elemsV hp sz x, lenV x with | some (l, _), some n => some (l, n) | _, _ => none
def lCopy (P : Program) (G : GV) (env : Tr V) (hp : Mem) (t : TypeId) (x y : Operand) : Option (List (V × Mem)) :=
 match P.underlying t with
 | some (.slice e) => match sizeP P e, evO G env x, evO G env y with
  | some sz, some (.sl id i off len cap), some b => match hp.t.get id, srcOf hp sz b with
   | some (.cells l ty s), some (src, k) => match takeN (Nat.min k len * sz) src with
    | some new => match zxM new, overV l off new with
     | true, some l' => one (.int .i64 (.ofNat (Nat.min k len))) (hp.putS id (some (.cells l' ty s)))
     | _, _ => none
    | none => none
   | _, _ => none
  | _, _, _ => none
 | _ => none
end
end Go.Y
