/- Quiet operations: maps, interfaces, builtins; all of them together. -/
import Derived.Test.YtlboeehapelabaaDoorY7
set_option linter.unusedVariables false
set_option linter.unusedSimpArgs false
namespace Go.Y
open Go.Z
noncomputable section
section
variable {P : Program} {n : Nat} {ops : Array Oper} {ds : List Deferred} {L : Lo} {ρ : Rho} {W : RW} {G : GV} {env : Tr V} {hp : Mem}
  {d : Nat} {T T' X Y : TypeId} {p : String} {es : Array Edge} {g : Option (Nat × Bool)} {op : Op} {v : V} {u : Value} {x y z : Operand}
theorem qLen_ok {xs : Array Operand} {ts : Array TypeId} {t : TypeId} (hxs : xs.toList = [x]) (hts : ts[0]? = some t) (hw : wants ops L ⟨some d, .call { callee := .builtin .len, args := xs, argTypes := ts }, T, p, es, g⟩ = some true) (ht : Nat.blt d n = true) {a : V} (hx : evalL L x = some u) (hu : R ρ a u) (h : qLen P t a = some v) :
    QOk P n ops ⟨some d, .call { callee := .builtin .len, args := xs, argTypes := ts }, T, p, es, g⟩ ds L ρ W v [] := by
  have e : xs = #[x] := by cases xs; simp at hxs; simp [hxs]
  subst e
  unfold qLen at h
  split at h
  · rename_i hT; cases h; cases hu; exact .pure rfl fun H => q_len_s hts hT hx hw ht
  · rename_i hT; cases h; obtain ⟨l, rfl⟩ := hu; exact .pure ⟨_, rfl⟩ fun H => q_len_s hts hT hx hw ht
  · rename_i hT; cases h; obtain ⟨b, c, _, rfl, _⟩ := hu; exact .pure rfl fun H => q_len_sl hts hT hx hw ht
  · rename_i hT; cases h; cases hu; exact .pure rfl fun H => q_len_sl hts hT hx hw ht
  · rename_i hT; cases h; obtain ⟨A, c, rfl⟩ := hu; exact .pure rfl fun H => q_len_sl hts hT hx hw ht
  · rename_i hT; cases h; cases hu
    exact .run hw ht (by simp) rfl fun a w he => by simp [execOp, resolve, invoke, builtin, Builtin.len_, hts, underlying, hT, he.eval hx, goInt]
  · cases h
def notCells : Obj → Bool
  | .cells .. => false
  | _ => true
theorem getObj_run {w : World} {r : Nat} {o : Obj} (h : w.heap[r]? = some o) (hn : notCells o = true := by rfl) : (getObj r).run P w = .ok o w := by
  cases o <;> first | (cases hn; done) | simp [getObj, Sem.run, h]
theorem REs.length : ∀ {l : List (V × V × Nat)} {es : List MapEntry}, REs ρ l es → es.length = l.length
  | [], es, h => by rw [show es = [] from h]; rfl
  | (k, v, b) :: l, es, h => by obtain ⟨k', v', l', h1, h2, h3, rfl⟩ := h; simp [REs.length h3]
theorem HR.map (hH : HR ρ hp W) {id clk : Nat} {l : List (V × V × Nat)} (e : hp.t.get id = some (.map l clk)) : ∃ b c es', W id = some (b, .map es'.toArray clk) ∧ ρ id = some (b, c) ∧ REs ρ l es' := by
  obtain ⟨b, o, h1, ⟨c, h2⟩, es', rfl, h3⟩ := hH.rel id _ e
  exact ⟨b, c, es', h1, h2, h3⟩
theorem qMap_ok (hH : HR ρ hp W) {xs : Array Operand} {ts : Array TypeId} {t : TypeId} (hxs : xs.toList = [x]) (hts : ts[0]? = some t) (hw : wants ops L ⟨some d, .call { callee := .builtin .len, args := xs, argTypes := ts }, T, p, es, g⟩ = some true) (ht : Nat.blt d n = true) {a : V} {rd : List Nat} (hx : evalL L x = some u) (hu : R ρ a u) (h : qMap P hp t a = some (v, rd)) :
    QOk P n ops ⟨some d, .call { callee := .builtin .len, args := xs, argTypes := ts }, T, p, es, g⟩ ds L ρ W v rd := by
  have e : xs = #[x] := by cases xs; simp at hxs; simp [hxs]
  subst e
  unfold qMap at h
  split at h
  · rename_i hT
    split at h
    · rename_i l clk hc
      cases h
      obtain ⟨b, c, es', hW, hr, hes⟩ := hH.map hc
      obtain ⟨b', c', hr', rfl⟩ := hu
      rw [hr] at hr'; cases hr'
      refine ⟨_, rfl, fun H hH' => qmk hw ht (by simp) fun Γ F a w he hh => ⟨w, ?_, hh⟩⟩
      obtain ⟨b2, ob, H', e1, pk⟩ := hH' _ (List.mem_singleton.2 rfl)
      rw [hW] at e1; cases e1
      have hb := hh.block pk
      simp [execOp, resolve, invoke, builtin, Builtin.len_, hts, underlying, hT, he.eval hx, goInt, getObj_run hb, hes.length]
    · cases h
  · cases h
theorem zeroV_ok {t : TypeId} {v : V} (h : zeroV P t = some v) : ∃ z, zeroP P t = some z ∧ R ρ v z := by
  unfold zeroV at h
  split at h
  · rename_i z hz; exact ⟨z, hz, ofC_ok h⟩
  · cases h
theorem ta_same {A : TypeId} {sd : TypeDesc} {u : Value} (hT : P.underlying A = some sd) (hn : isIfc sd = false) (w : World) (ok : Bool) : (Instr.typeAssert (.iface A u) X A ok).run P w = .ok (if ok then .tuple #[u, .bool true] else u) w := by
  cases sd <;> first | (cases hn; done) | simp [Instr.typeAssert, underlying, hT]
theorem ta_other {A t : TypeId} {sd : TypeDesc} {u z : Value} (hT : P.underlying A = some sd) (hn : isIfc sd = false) (hne : t ≠ A) (hz : zeroP P A = some z) (w : World) : (Instr.typeAssert (.iface t u) X A true).run P w = .ok (.tuple #[z, .bool false]) w := by
  cases sd <;> first | (cases hn; done) | simp [Instr.typeAssert, underlying, hT, hne, zeroValue_run w hz]
theorem ta_nil {A : TypeId} {sd : TypeDesc} {z : Value} (hT : P.underlying A = some sd) (hz : zeroP P A = some z) (w : World) : (Instr.typeAssert .nilIface X A true).run P w = .ok (.tuple #[z, .bool false]) w := by
  cases sd <;> simp [Instr.typeAssert, underlying, hT, zeroValue_run w hz]
theorem ta_ifc {A t : TypeId} {want : Array (String × TypeId)} {i : TypeInfo} {u : Value} (hT : P.underlying A = some (.interface want)) (hi : P.info? t = some i) (hm : Instr.missingMethod want i.methods = none) (w : World) (ok : Bool) : (Instr.typeAssert (.iface t u) X A ok).run P w = .ok (if ok then .tuple #[.iface t u, .bool true] else .iface t u) w := by
  simp [Instr.typeAssert, underlying, hT, typeInfo, hi, hm]
theorem ta_lacks {A t : TypeId} {want : Array (String × TypeId)} {i : TypeInfo} {u z : Value} {m : String} (hT : P.underlying A = some (.interface want)) (hi : P.info? t = some i) (hm : Instr.missingMethod want i.methods = some m) (hz : zeroP P A = some z) (w : World) : (Instr.typeAssert (.iface t u) X A true).run P w = .ok (.tuple #[z, .bool false]) w := by
  simp [Instr.typeAssert, underlying, hT, typeInfo, hi, hm, zeroValue_run w hz]
theorem ta_exec {ok : Bool} {w : World} {a : Act} {r : Value} (h : (Instr.typeAssert u X T' ok).run P w = .ok r w) (he : a.eval x = u) : (execOp a.eval ⟨some d, .typeAssert x X T' ok, T, p, es, g⟩).run P w = .ok (.value r) w := by
  simp only [execOp, he, Sem.run_bind, h, Result.andThen_ok, Sem.run_pure]
theorem isIfc_no {sd : TypeDesc} (h : ∀ m, sd = .interface m → False) : isIfc sd = false := by
  cases sd <;> first | rfl | exact absurd rfl (h _)
theorem qAssert_ok {ok : Bool} (hw : wants ops L ⟨some d, .typeAssert x X T' ok, T, p, es, g⟩ = some true) (ht : Nat.blt d n = true) {a : V} (hx : evalL L x = some u) (hu : R ρ a u) (h : qAssert P T' a ok = some v) :
    QOk P n ops ⟨some d, .typeAssert x X T' ok, T, p, es, g⟩ ds L ρ W v [] := by
  unfold qAssert at h
  split at h
  · rename_i t a'
    have hu' := hu
    obtain ⟨u', hv', rfl⟩ := hu
    split at h
    · rename_i want hT
      split at h
      · rename_i i hi
        split at h
        · rename_i hm; cases h
          exact .run hw ht (by simp) ⟨_, .cons hu' (.cons rfl .nil), rfl⟩ fun a w he => ta_exec (ta_ifc hT hi hm w true) (he.eval hx)
        · rename_i hm; cases h
          exact .run hw ht (by simp) hu' fun a w he => ta_exec (ta_ifc hT hi hm w false) (he.eval hx)
        · rename_i m hm
          split at h
          · rename_i z hz
            cases h
            obtain ⟨zr, hzr, hzv⟩ := zeroV_ok (ρ := ρ) hz
            exact .run hw ht (by simp) ⟨_, .cons hzv (.cons rfl .nil), rfl⟩ fun a w he => ta_exec (ta_lacks hT hi hm hzr w) (he.eval hx)
          · cases h
        · cases h
      · cases h
    · rename_i sd hni hT
      have hni := isIfc_no hni
      split at h
      · rename_i hq
        have hq := beq_tt hq
        subst hq
        cases h
        exact .run hw ht (by simp) ⟨_, .cons hv' (.cons rfl .nil), rfl⟩ fun a w he => ta_exec (ta_same hT hni w true) (he.eval hx)
      · rename_i hq
        have hq := beq_tt hq
        subst hq
        cases h
        exact .run hw ht (by simp) hv' fun a w he => ta_exec (ta_same hT hni w false) (he.eval hx)
      · rename_i hq
        have hq := beq_ff hq
        split at h
        · rename_i z hz
          cases h
          obtain ⟨zr, hzr, hzv⟩ := zeroV_ok (ρ := ρ) hz
          exact .run hw ht (by simp) ⟨_, .cons hzv (.cons rfl .nil), rfl⟩ fun a w he => ta_exec (ta_other hT hni hq hzr w) (he.eval hx)
        · cases h
      · cases h
    · cases h
  · cases hu
    split at h
    · rename_i sd hT
      split at h
      · rename_i z hz
        cases h
        obtain ⟨zr, hzr, hzv⟩ := zeroV_ok (ρ := ρ) hz
        exact .run hw ht (by simp) ⟨_, .cons hzv (.cons rfl .nil), rfl⟩ fun a w he => ta_exec (ta_nil hT hzr w) (he.eval hx)
      · cases h
    · cases h
  · cases h
theorem fits_ok {kd : TypeDesc} {k : V} {u : Value} (h : fits kd k = true) (hu : R ρ k u) (w : World) {kt : TypeId} (hk : P.underlying kt = some kd) (b : Bool) : (Instr.checkKey b 10000 kt u).run P w = .ok () w := by
  unfold fits at h
  have : ∀ d, (Instr.checkKey b (d + 1) kt u).run P w = .ok () w := by
    intro d
    split at h <;> first | (cases h; done) | (cases hu; simp [Instr.checkKey, run_underlying hk])
  exact this 9999
theorem sameNow_ok {kd : TypeDesc} {k k2 : V} {u u2 : Value} {b : Bool} (h : fits kd k = true) (hq : keyEq k k2 = some b) (hu : R ρ k u) (hu2 : R ρ k2 u2) : Instr.sameNow kd u u2 = some b := by
  cases k with
  | int k0 a =>
    cases k2 with
    | int k1 b1 =>
      simp only [keyEq] at hq
      split at hq
      · rename_i hk
        have hk := ikeq_ok hk
        subst hk
        cases hq; cases hu; cases hu2
        cases kd <;> simp [fits] at h
        simp [Instr.sameNow, eqI_ok]; rfl
      · cases hq
    | _ => cases hq
  | str l =>
    cases k2 with
    | str l2 =>
      cases hq; cases hu; cases hu2
      cases kd <;> simp [fits] at h
      simp [Instr.sameNow, beq_toListBytes, bs_toList, eqB_ok, beq_dec]
    | _ => cases hq
  | bool a =>
    cases k2 with
    | bool b1 =>
      cases hq; cases hu; cases hu2
      cases kd <;> simp [fits] at h
      rfl
    | _ => cases hq
  | _ => cases hq
theorem findV_ok {kd : TypeDesc} {k : V} {u : Value} (hf : fits kd k = true) (hu : R ρ k u) : ∀ {l : List (V × V × Nat)} {es : List MapEntry} {i : Nat} {r : Option (Nat × V)}, REs ρ l es → findV k l i = some r →
    ∃ r', Instr.findNow kd u es i = some r' ∧ match r with | none => r' = none | some (j, v) => ∃ v' , r' = some (j, v') ∧ R ρ v v' ∧ i ≤ j ∧ ∃ e, l[j - i]? = some e ∧ e.2.1 = v
  | [], es, i, r, he, h => by
    simp only [findV, Option.some.injEq] at h; subst h; rw [show es = [] from he]; exact ⟨none, rfl, rfl⟩
  | (k2, v2, b2) :: l, es, i, r, he, h => by
    obtain ⟨k', v', l', h1, h2, h3, rfl⟩ := he
    simp only [findV] at h
    split at h
    · rename_i hq
      cases h
      exact ⟨some (i, v'), by simp [Instr.findNow, sameNow_ok hf hq hu h1], v', rfl, h2, Nat.le_refl _, (k2, v2, b2), by simp, rfl⟩
    · rename_i hq
      obtain ⟨r', h4, h5⟩ := findV_ok hf hu (i := i + 1) h3 h
      refine ⟨r', by simp [Instr.findNow, sameNow_ok hf hq hu h1, h4], ?_⟩
      cases r with
      | none => exact h5
      | some q =>
        obtain ⟨j, v⟩ := q
        obtain ⟨v'', h6, h7, h8, e, h9, h10⟩ := h5
        refine ⟨v'', h6, h7, by omega, e, ?_, h10⟩
        rw [show j - i = (j - (i + 1)) + 1 by omega]; simpa using h9
    · cases h
/-- the lookup of a key among the entries that are found. -/
theorem findKey_run {kt : TypeId} {kd : TypeDesc} {u : Value} {es : List MapEntry} {r : Option (Nat × Value)} (hk : P.underlying kt = some kd) (h : Instr.findNow kd u es 0 = some r) (w : World) : (Instr.findKey kt u es).run P w = .ok r w := by
  simp [Instr.findKey, run_underlying hk, h]
theorem mapOf_ok (hH : HR ρ hp W) {a : V} {l : List (V × V × Nat)} {rd : List Nat} (hu : R ρ a u) (h : mapOf hp a = some (l, rd)) :
    (u = .map none ∧ l = []) ∨ ∃ b clk es', u = .map (some b) ∧ REs ρ l es' ∧ ∀ H, Holds W H rd → ∃ H', Pick H (pt b (.map es'.toArray clk)) H' := by
  unfold mapOf at h
  split at h
  · cases h; cases hu; exact .inl ⟨rfl, rfl⟩
  · split at h
    · rename_i l' clk hc
      cases h
      obtain ⟨b, c, es', hW, hr, hes⟩ := hH.map hc
      obtain ⟨b', c', hr', rfl⟩ := hu
      rw [hr] at hr'; cases hr'
      refine .inr ⟨b, clk, es', rfl, hes, fun H hH' => ?_⟩
      obtain ⟨b2, ob, H', e1, pk⟩ := hH' _ (List.mem_singleton.2 rfl)
      rw [hW] at e1; cases e1
      exact ⟨H', pk⟩
    · cases h
  · cases h
theorem qLookup_ok (hH : HR ρ hp W) {ok : Bool} (hw : wants ops L ⟨some d, .lookup T' x y ok, T, p, es, g⟩ = some true) (ht : Nat.blt d n = true) {a k : V} {uk : Value} {rd : List Nat} (hx : evalL L x = some u) (hu : R ρ a u) (hy : evalL L y = some uk) (hk : R ρ k uk) (h : qLookup P hp T' a k ok = some (v, rd)) :
    QOk P n ops ⟨some d, .lookup T' x y ok, T, p, es, g⟩ ds L ρ W v rd := by
  unfold qLookup at h
  split at h
  · rename_i kt et hT
    split at h
    · rename_i kd hkd
      split at h
      · rename_i es0 rd0 hf hm
        have hchk := fun w b => fits_ok (P := P) hf hk w hkd b
        -- what the real lookup comes to
        have main : ∀ (es' : List MapEntry) (r : Option (Nat × Value)), REs ρ es0 es' → Instr.findNow kd uk es' 0 = some r → ∀ (a : Act) (w : World), Env a n ds L →
            ((u = .map none ∧ es' = []) ∨ ∃ b clk, u = .map (some b) ∧ w.heap[b]? = some (.map es'.toArray clk)) →
            ∀ (z : Value), (r = none → zeroP P et = some z) →
            (execOp a.eval ⟨some d, .lookup T' x y ok, T, p, es, g⟩).run P w = .ok (.value (match r with
              | some (_, v) => if ok then .tuple #[v, .bool true] else v
              | none => if ok then .tuple #[z, .bool false] else z)) w := by
          intro es' r hes hfn a w he hsrc z hz
          have hfk := findKey_run (P := P) hkd hfn w
          rcases hsrc with ⟨rfl, rfl⟩ | ⟨b, clk, rfl, hb⟩
          · cases r with
            | none => cases ok <;> simp [execOp, Instr.lookup, he.eval hx, he.eval hy, underlying, hT, hchk, hfk, zeroValue_run w (hz rfl)]
            | some q => cases ok <;> simp [execOp, Instr.lookup, he.eval hx, he.eval hy, underlying, hT, hchk, hfk]
          · cases r with
            | none => cases ok <;> simp [execOp, Instr.lookup, he.eval hx, he.eval hy, underlying, hT, hchk, hfk, getObj_run hb, zeroValue_run w (hz rfl)]
            | some q => cases ok <;> simp [execOp, Instr.lookup, he.eval hx, he.eval hy, underlying, hT, hchk, hfk, getObj_run hb]
        have src := mapOf_ok hH hu hm
        obtain ⟨es', hes, hget⟩ : ∃ es', REs ρ es0 es' ∧ ∀ H, Holds W H rd0 → ∀ Γ F w, Hold Γ H F w → (u = .map none ∧ es' = []) ∨ ∃ b clk, u = .map (some b) ∧ w.heap[b]? = some (.map es'.toArray clk) := by
          rcases src with ⟨h1, rfl⟩ | ⟨b, clk, es', h1, h2, h3⟩
          · exact ⟨[], rfl, fun H _ Γ F w _ => .inl ⟨h1, rfl⟩⟩
          · refine ⟨es', h2, fun H hH' Γ F w hh => .inr ⟨b, clk, h1, ?_⟩⟩
            obtain ⟨H', pk⟩ := h3 H hH'
            exact hh.block pk
        split at h
        · rename_i j v0 hfv
          obtain ⟨r', hr1, v', hr2, hr3, _⟩ := findV_ok hf hk hes hfv
          subst hr2
          cases h
          cases ok
          · exact ⟨v', hr3, fun H hH' => qmk hw ht (by simp) fun Γ F a w he hh => ⟨w, by simpa using main es' _ hes hr1 a w he (hget H hH' Γ F w hh) undef (by simp), hh⟩⟩
          · exact ⟨.tuple #[v', .bool true], ⟨_, .cons hr3 (.cons rfl .nil), rfl⟩, fun H hH' => qmk hw ht (by simp) fun Γ F a w he hh => ⟨w, by simpa using main es' _ hes hr1 a w he (hget H hH' Γ F w hh) undef (by simp), hh⟩⟩
        · rename_i hfv
          obtain ⟨r', hr1, hr2⟩ := findV_ok hf hk hes hfv
          dsimp only at hr2
          subst hr2
          split at h
          · rename_i z hz
            obtain ⟨zr, hzr, hzv⟩ := zeroV_ok (ρ := ρ) hz
            cases h
            cases ok
            · exact ⟨zr, hzv, fun H hH' => qmk hw ht (by simp) fun Γ F a w he hh => ⟨w, by simpa using main es' _ hes hr1 a w he (hget H hH' Γ F w hh) zr (fun _ => hzr), hh⟩⟩
            · exact ⟨.tuple #[zr, .bool false], ⟨_, .cons hzv (.cons rfl .nil), rfl⟩, fun H hH' => qmk hw ht (by simp) fun Γ F a w he hh => ⟨w, by simpa using main es' _ hes hr1 a w he (hget H hH' Γ F w hh) zr (fun _ => hzr), hh⟩⟩
          · cases h
        · cases h
      · cases h
    · cases h
  · cases h
end
end
end Go.Y
