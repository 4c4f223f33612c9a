/- Quiet operations, all of them. -/
import Derived.Test.YtlboeehapelabaaDoorY8
set_option linter.unusedVariables false
set_option linter.unusedSimpArgs false
namespace Go.Y
open Go.Z
noncomputable section
section
variable {P : Program} {n : Nat} {ops : Array Oper} {ds : List Deferred} {L : Lo} {ρ : Rho} {W : RW} {G : GV} {env : Tr V} {hp : Mem}
  {d : Nat} {T T' X Y : TypeId} {p : String} {es : Array Edge} {g : Option (Nat × Bool)} {op : Op} {v : V} {u : Value} {x y z : Operand}
theorem HR.iterM (hH : HR ρ hp W) {id since stepped m : Nat} {seen : List Nat} (e : hp.t.get id = some (.iterM (some m) since seen stepped)) :
    ∃ b c mb mc, W id = some (b, .mapIter (some mb) since seen.toArray stepped) ∧ ρ id = some (b, c) ∧ ρ m = some (mb, mc) := by
  obtain ⟨b, o, h1, ⟨c, h2⟩, m', rfl, mb, mc, h3, rfl⟩ := hH.rel id _ e
  exact ⟨b, c, mb, mc, h1, h2, h3⟩
theorem HR.iterN (hH : HR ρ hp W) {id since stepped : Nat} {seen : List Nat} (e : hp.t.get id = some (.iterM none since seen stepped)) :
    ∃ b c, W id = some (b, .mapIter none since seen.toArray stepped) ∧ ρ id = some (b, c) := by
  obtain ⟨b, o, h1, ⟨c, h2⟩, m', rfl, h3⟩ := hH.rel id _ e
  cases h3
  exact ⟨b, c, h1, h2⟩
theorem REs.find {st : Nat} {k v : V} {b : Nat} : ∀ {l : List (V × V × Nat)} {es : List MapEntry}, REs ρ l es → l.find? (fun e => Nat.beq e.2.2 st) = some (k, v, b) → ∃ k' v', es.find? (fun e => e.born == st) = some ⟨k', v', b⟩ ∧ R ρ k k' ∧ R ρ v v'
  | [], es, he, h => by cases h
  | (k2, v2, b2) :: l, es, he, h => by
    obtain ⟨k', v', l', h1, h2, h3, rfl⟩ := he
    simp only [List.find?_cons] at h ⊢
    split at h
    · rename_i hb
      cases h
      have : b = st := beq_tt hb
      subst this
      exact ⟨k', v', by simp, h1, h2⟩
    · rename_i hb
      have : ¬ b2 = st := beq_ff hb
      obtain ⟨k'', v'', h4, h5⟩ := REs.find h3 h
      exact ⟨k'', v'', by rw [beq_eq_false_iff_ne.2 this]; exact h4, h5⟩
theorem qEntry_ok (hH : HR ρ hp W) (hw : wants ops L ⟨some d, .entry x, T, p, es, g⟩ = some true) (ht : Nat.blt d n = true) {a : V} {rd : List Nat} (hx : evalL L x = some u) (hu : R ρ a u) (h : qEntry hp a = some (v, rd)) :
    QOk P n ops ⟨some d, .entry x, T, p, es, g⟩ ds L ρ W v rd := by
  unfold qEntry at h
  split at h
  · rename_i id off
    split at h
    · rename_i m since seen stepped h0 hc
      have h0 := beq_tt h0
      subst h0
      split at h
      · rename_i l clk hm
        split at h
        · rename_i st hclk hst
          have hclk := beq_tt hclk
          subst hclk
          split at h
          · rename_i k v0 b0 hf
            cases h
            obtain ⟨b, c, mb, mc, hW, hr, hmr⟩ := hH.iterM hc
            obtain ⟨b', c', es', hW', hr', hes⟩ := hH.map hm
            rw [hmr] at hr'; cases hr'
            obtain ⟨bb, cc, hrr, rfl⟩ := hu
            rw [hr] at hrr; cases hrr
            obtain ⟨k', v', h1, h2, h3⟩ := hes.find hf
            refine ⟨.tuple #[k', v'], ⟨_, .cons h2 (.cons h3 .nil), rfl⟩, fun H hH' => qmk hw ht (by simp) fun Γ F a w he hh => ⟨w, ?_, hh⟩⟩
            obtain ⟨b2, ob, H', e1, pk⟩ := hH' id (by simp)
            rw [hW] at e1; cases e1
            obtain ⟨b3, ob3, H3, e3, pk3⟩ := hH' m (by simp)
            rw [hW'] at e3; cases e3
            have hb1 := getObj_run (P := P) (hh.block pk)
            have hb2 := getObj_run (P := P) (hh.block pk3)
            have hback : seen.toArray.back? = some st := by simpa using hst
            simp [execOp, Instr.entry, he.eval hx, hb1, hb2, hback, h1]
          · cases h
        · cases h
      · cases h
    · cases h
  · cases h
theorem maxV_ok : ∀ {l : List V} {us : List Value} {a : V} {u : Value} {v : V}, maxV a l = some v → R ρ a u → RL ρ l us → ∃ r, R ρ v r ∧ ∀ w, (us.foldlM (m := Sem) Builtin.max2 u).run P w = .ok r w
  | [], us, a, u, v, h, ha, hl => by
    rw [show us = [] from hl]
    unfold maxV at h
    split at h
    · rename_i h1; cases h1
    · split at h
      · cases h; exact ⟨u, ha, fun w => rfl⟩
      · cases h
    · cases h
  | b :: l, us, a, u, v, h, ha, hl => by
    obtain ⟨u2, us', h1, h2, rfl⟩ := hl
    unfold maxV at h
    split at h
    · rename_i k a0 k' b0 l' he
      cases he
      cases ha; cases h1
      obtain ⟨r, hr1, hr2⟩ := maxV_ok (u := .int k (if b0 > a0 then b0 else a0)) h (by
        rw [ltI_ok]
        by_cases hlt : a0 < b0
        · simp [hlt]; exact rfl
        · simp [hlt]; exact rfl) h2
      exact ⟨r, hr1, fun w => by simp only [List.foldlM_cons, Sem.run_bind, Builtin.max2, Sem.run_pure, Result.andThen_ok, hr2]⟩
    · rename_i h1; cases h1
    · cases h
theorem minV_ok : ∀ {l : List V} {us : List Value} {a : V} {u : Value} {v : V}, minV a l = some v → R ρ a u → RL ρ l us → ∃ r, R ρ v r ∧ ∀ w, (us.foldlM (m := Sem) Builtin.min2 u).run P w = .ok r w
  | [], us, a, u, v, h, ha, hl => by
    rw [show us = [] from hl]
    unfold minV at h
    split at h
    · rename_i h1; cases h1
    · split at h
      · cases h; exact ⟨u, ha, fun w => rfl⟩
      · cases h
    · cases h
  | b :: l, us, a, u, v, h, ha, hl => by
    obtain ⟨u2, us', h1, h2, rfl⟩ := hl
    unfold minV at h
    split at h
    · rename_i k a0 k' b0 l' he
      cases he
      cases ha; cases h1
      obtain ⟨r, hr1, hr2⟩ := minV_ok (u := .int k (if b0 < a0 then b0 else a0)) h (by
        rw [ltI_ok]
        by_cases hlt : b0 < a0
        · simp [hlt]; exact rfl
        · simp [hlt]; exact rfl) h2
      exact ⟨r, hr1, fun w => by simp only [List.foldlM_cons, Sem.run_bind, Builtin.min2, Sem.run_pure, Result.andThen_ok, hr2]⟩
    · rename_i h1; cases h1
    · cases h
theorem evalAll_map {a : Act} (he : Env a n ds L) {xs : Array Operand} {vs : List Value} (h : evalAll L xs.toList = some vs) : xs.map a.eval = vs.toArray := by
  have h1 := he.evalAll h
  apply Array.ext'; simpa using h1
theorem q1 {xs : Array Operand} {y : Operand} (h : xs.toList = [y]) : xs = #[y] := by cases xs; simp at h; simp [h]
/-- **A quiet operation**: what the virtual machine says of it, the real one does. -/
theorem quiet_ok (hG : GOk ρ G) (hE : RE ρ env L) (hH : HR ρ hp W) (hw : wants ops L ⟨some d, op, T, p, es, g⟩ = some true) (ht : Nat.blt d n = true) {rd : List Nat} (h : quiet P G env hp op = some (v, rd)) :
    QOk P n ops ⟨some d, op, T, p, es, g⟩ ds L ρ W v rd := by
  cases op <;> simp only [quiet] at h
  case move x =>
    obtain ⟨h1, rfl⟩ := pr_ok h
    obtain ⟨u, h2, h3⟩ := evO_ok hG hE h1
    exact .pure h3 fun H => q_move h2 hw ht
  case assign x =>
    obtain ⟨h1, rfl⟩ := pr_ok h
    obtain ⟨u, h2, h3⟩ := evO_ok hG hE h1
    exact .pure h3 fun H => q_assign h2 hw ht
  case pick c a b =>
    split at h
    · rename_i hc
      obtain ⟨h1, rfl⟩ := pr_ok h
      obtain ⟨u, h2, h3⟩ := evO_ok hG hE h1
      obtain ⟨uc, h4, h5⟩ := evO_ok hG hE hc
      cases h5
      exact .pure h3 fun H => q_pick_t h4 h2 hw ht
    · rename_i hc
      obtain ⟨h1, rfl⟩ := pr_ok h
      obtain ⟨u, h2, h3⟩ := evO_ok hG hE h1
      obtain ⟨uc, h4, h5⟩ := evO_ok hG hE hc
      cases h5
      exact .pure h3 fun H => q_pick_f h4 h2 hw ht
    · cases h
  case extract x i =>
    split at h
    · rename_i l hx
      obtain ⟨h1, rfl⟩ := pr_ok h
      rw [nth_eq] at h1
      obtain ⟨u, h2, l', h4, rfl⟩ := evO_ok hG hE hx
      obtain ⟨u, h5, h6⟩ := h4.get h1
      exact .pure h6 fun H => q_extract h2 (by simpa using h5) hw ht
    · cases h
  case nilCheck x =>
    split at h
    · rename_i a hx
      obtain ⟨h1, rfl⟩ := pr_ok h
      obtain ⟨u, h2, h3⟩ := evO_ok hG hE hx
      exact qNil_ok hw ht h2 h3 h1
    · cases h
  case fieldAddr s x f =>
    split at h
    · rename_i id off k hx hf
      cases h
      obtain ⟨u, h2, b, c, hr, rfl⟩ := evO_ok hG hE hx
      exact .pure ⟨b, c, hr, rfl⟩ fun H => q_fieldAddr hf h2 hw ht
    · cases h
  case field s x f =>
    split at h
    · rename_i l hx
      obtain ⟨h1, rfl⟩ := pr_ok h
      obtain ⟨u, h2, h3⟩ := evO_ok hG hE hx
      exact qField_ok hw ht h2 h3 h1
    · cases h
  case indexAddr t x y =>
    split at h
    · rename_i a j hx hy
      obtain ⟨h1, rfl⟩ := pr_ok h
      obtain ⟨u, h2, h3⟩ := evO_ok hG hE hx
      obtain ⟨k, h4⟩ := evN_ok hG hE hy
      exact qIndexAddr_ok hw ht h2 h3 h4 h1
    · cases h
  case index t x y =>
    split at h
    · rename_i a j hx hy
      obtain ⟨h1, rfl⟩ := pr_ok h
      obtain ⟨u, h2, h3⟩ := evO_ok hG hE hx
      obtain ⟨k, h4⟩ := evN_ok hG hE hy
      exact qIndex_ok hw ht h2 h3 h4 h1
    · cases h
  case slice t x lo hi m =>
    cases m with
    | some m => simp at h
    | none =>
      dsimp only at h
      split at h
      · rename_i a i j hx hlo hhi
        obtain ⟨h1, rfl⟩ := pr_ok h
        obtain ⟨u, h2, h3⟩ := evO_ok hG hE hx
        exact qSlice_ok hw ht h2 h3 (optN_ok hG hE hlo) (optN_ok hG hE hhi) h1
      · cases h
  case sliceToArrayPointer t x =>
    split at h
    · rename_i id i off len cap N e hx hT
      split at h
      · rename_i hN
        cases h
        obtain ⟨u, h2, b, c, hr, rfl, _⟩ := evO_ok hG hE hx
        exact .pure ⟨b, c, hr, rfl⟩ fun H => q_sliceToArr hT h2 (Nat.le_of_ble_eq_true hN) hw ht
      · cases h
    · cases h
  case unOp o t x =>
    split at h
    · rename_i a hx
      obtain ⟨h1, rfl⟩ := pr_ok h
      obtain ⟨u, h2, h3⟩ := evO_ok hG hE hx
      exact qUn_ok hw ht h2 h3 h1
    · cases h
  case binOp o t x y t2 =>
    split at h
    · rename_i a b hx hy
      obtain ⟨h1, rfl⟩ := pr_ok h
      obtain ⟨u, h2, h3⟩ := evO_ok hG hE hx
      obtain ⟨u2, h4, h5⟩ := evO_ok hG hE hy
      exact qBin_ok hw ht h2 h4 h3 h5 h1
    · cases h
  case convert s t x =>
    split at h
    · rename_i a hx
      obtain ⟨u, h2, h3⟩ := evO_ok hG hE hx
      exact qConv_ok hH hw ht h2 h3 h
    · cases h
  case makeInterface t x =>
    split at h
    · rename_i a sd hx hT
      split at h
      · rename_i hs
        cases h
        obtain ⟨u, h2, h3⟩ := evO_ok hG hE hx
        exact .pure ⟨u, h3, rfl⟩ fun H => q_makeInterface hT (by cases sd <;> first | rfl | cases hs) h2 hw ht
      · cases h
    · cases h
  case makeFunc f a b =>
    split at h
    · rename_i xs ys ha hb
      cases h
      obtain ⟨us, h2, h3⟩ := evOs_ok hG hE ha
      obtain ⟨ws, h4, h5⟩ := evOs_ok hG hE hb
      exact .pure ⟨us, ws, h3, h5, rfl⟩ fun H => q_makeFunc h2 h4 hw ht
    · cases h
  case typeAssert x t1 t ok =>
    split at h
    · rename_i a hx
      obtain ⟨h1, rfl⟩ := pr_ok h
      obtain ⟨u, h2, h3⟩ := evO_ok hG hE hx
      exact qAssert_ok hw ht h2 h3 h1
    · cases h
  case lookup t x k ok =>
    split at h
    · rename_i a kk hx hk
      obtain ⟨u, h2, h3⟩ := evO_ok hG hE hx
      obtain ⟨u2, h4, h5⟩ := evO_ok hG hE hk
      exact qLookup_ok hH hw ht h2 h3 h4 h5 h
    · cases h
  case load t x =>
    split at h
    · rename_i a hx
      obtain ⟨u, h2, h3⟩ := evO_ok hG hE hx
      exact qLoad_ok hH hw ht h2 h3 h
    · cases h
  case entry x =>
    split at h
    · rename_i a hx
      obtain ⟨u, h2, h3⟩ := evO_ok hG hE hx
      exact qEntry_ok hH hw ht h2 h3 h
    · cases h
  case call c =>
    obtain ⟨cal, xs, ts⟩ := c
    dsimp only at h
    split at h
    · split at h
      · rename_i x t hxs hts
        split at h
        · rename_i a hx
          obtain ⟨u, h2, h3⟩ := evO_ok hG hE hx
          split at h
          · rename_i r hr
            cases h
            exact qLen_ok hxs hts hw ht h2 h3 hr
          · exact qMap_ok hH hxs hts hw ht h2 h3 h
        · cases h
      · cases h
    · split at h
      · rename_i a l hxs
        obtain ⟨h1, rfl⟩ := pr_ok h
        obtain ⟨us, h2, u, us', h3, h4, rfl⟩ := evOs_ok hG hE hxs
        obtain ⟨r, h5, h6⟩ := maxV_ok (P := P) h1 h3 h4
        refine .run hw ht (by simp) h5 fun a w he => ?_
        have hm := evalAll_map he h2
        simp [execOp, resolve, invoke, builtin, Builtin.max_, hm, h6]
      · cases h
    · split at h
      · rename_i a l hxs
        obtain ⟨h1, rfl⟩ := pr_ok h
        obtain ⟨us, h2, u, us', h3, h4, rfl⟩ := evOs_ok hG hE hxs
        obtain ⟨r, h5, h6⟩ := minV_ok (P := P) h1 h3 h4
        refine .run hw ht (by simp) h5 fun a w he => ?_
        have hm := evalAll_map he h2
        simp [execOp, resolve, invoke, builtin, Builtin.min_, hm, h6]
      · cases h
    · cases h
  all_goals cases h
end
end
end Go.Y
