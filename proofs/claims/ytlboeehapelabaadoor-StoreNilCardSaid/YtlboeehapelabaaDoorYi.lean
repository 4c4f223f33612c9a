/- Loud operations, soundness: delete, copy, bytes to bytes; structs built. -/
import Derived.Test.YtlboeehapelabaaDoorYh
set_option linter.unusedVariables false
set_option linter.unusedSimpArgs false
namespace Go.Y
open Go.Z
noncomputable section
section
variable {P : Program} {ro : Option Nat} {n : Nat} {ops : Array Oper} {r : List Oper} {ds : List Deferred} {L : Lo} {H H' : List SP} {K : Kont} {ρ : Rho} {W : RW} {G : GV} {env : Tr V} {hp hp' : Mem}
  {d : Nat} {dd : Option Nat} {T T' X Y t xt e sz by_ : TypeId} {p : String} {es : Array Edge} {g : Option (Nat × Bool)} {op : Op} {v : V} {u : Value} {x y z : Operand} {A : Option Addr} {m c : Nat} {cells : List Value} {C : SP}
theorem two_args {xs : Array Operand} (h : xs.toList = [x, y]) {a : Act} {ux uy : Value} (h1 : a.eval x = ux) (h2 : a.eval y = uy) : xs.map a.eval = #[ux, uy] := by
  cases xs; simp at h; subst h; simp [h1, h2]
theorem lDelete_ok {xs : Array Operand} {ts : Array TypeId} (hxs : xs.toList = [x, y]) (hts : ts[0]? = some t) (hG : GOk ρ G) (hE : RE ρ env L) (hH : HR ρ hp W) (hw : wants ops L ⟨dd, .call { callee := .builtin .delete, args := xs, argTypes := ts }, T, p, es, g⟩ = some true) (ht : dstOk dd n = true) {outs : List (V × Mem)} (h : lDelete P G env hp t x y = some outs) (k : Cont P ro n ops r ds L K ρ hp W dd outs) :
    Ops P ro n ops (⟨dd, .call { callee := .builtin .delete, args := xs, argTypes := ts }, T, p, es, g⟩ :: r) ds L (spl hp.n W) K := by
  refine Ops.of_run hw (by simp) ht (fun Γ F a w he hh => ?_) k
  unfold lDelete at h
  split at h
  · rename_i kt et hT
    split at h
    · rename_i kd hkd
      split at h
      · rename_i id kv hx hy
        split at h
        · rename_i l clk hf hc
          obtain ⟨ux, hux, bb, cc, hrr, rfl⟩ := evO_ok hG hE hx
          obtain ⟨uy, huy, hvy⟩ := evO_ok hG hE hy
          obtain ⟨b, c, es', hW, hr, hes⟩ := hH.map hc
          rw [hr] at hrr; cases hrr
          have hargs := two_args hxs (he.eval hux) (he.eval huy)
          have hbb := hh.block (spl_pick (hH.lt hc) hW)
          have hb := getObj_run (P := P) hbb
          have hchk := fun w b => fits_ok (P := P) hf hvy w hkd b
          split at h
          · rename_i i v0 hfv
            obtain ⟨hp', h1, rfl⟩ := one_ok h
            have hro := putS_ro h1
            obtain ⟨hs, rfl⟩ := putS_ok h1
            obtain ⟨r', hr1, v', hr2, hr3, _⟩ := findV_ok hf hvy hes hfv
            subst hr2
            have hfk := findKey_run (P := P) hkd hr1
            have her : (es'.toArray.eraseIdxIfInBounds i) = (es'.eraseIdx i).toArray := by
              simp
            refine ⟨_, List.mem_singleton.2 rfl, ρ, upd W id (some (bb, .map (es'.eraseIdx i).toArray clk)), undef, _, ?_, hold_put (hH.lt hc) hW hh, Rho.le_refl _, hH.put hs ⟨⟨cc, hr⟩, _, rfl, hes.erase i⟩, rfl, rfl, Stay.put hro⟩
            simp only [execOp, resolve, invoke, builtin, Builtin.delete_, hargs, hts, Sem.run_bind, Sem.run_pure, Result.andThen_ok, List.getElem?_toArray, List.getElem?_cons_zero, List.getElem?_cons_succ, underlying, run_program, hT, hb, hchk, hfk, setObj_run hbb, her]
            rfl
          · rename_i hfv
            cases h
            obtain ⟨r', hr1, hr2⟩ := findV_ok hf hvy hes hfv
            dsimp only at hr2
            subst hr2
            have hfk := findKey_run (P := P) hkd hr1
            have hh2 := hold_put (o' := .map es'.toArray clk) (hH.lt hc) hW hh
            rw [upd_id hW] at hh2
            refine ⟨_, List.mem_singleton.2 rfl, ρ, W, undef, _, ?_, hh2, Rho.le_refl _, hH, rfl, rfl, .refl⟩
            · simp only [execOp, resolve, invoke, builtin, Builtin.delete_, hargs, hts, Sem.run_bind, Sem.run_pure, Result.andThen_ok, List.getElem?_toArray, List.getElem?_cons_zero, List.getElem?_cons_succ, underlying, run_program, hT, hb, hchk, hfk, setObj_run hbb]
              rfl
          · cases h
        · cases h
      · cases h
    · cases h
  · cases h
theorem srcOf_ok (hH : HR ρ hp W) {a : V} {l : List V} {kk : Nat} {sz : Nat} (hu : R ρ a u) (h : srcOf hp sz a = some (l, kk)) : ∃ us, RL ρ l us ∧ us.length = kk * sz ∧ (∀ w, (Builtin.lenOf u).run P w = .ok kk w) ∧
    ∀ Γ F w, Hold Γ (spl hp.n W) F w → ∀ q, q ≤ kk → (Builtin.firstCells sz q u).run P w = .ok (us.take (q * sz)).toArray w := by
  unfold srcOf at h
  split at h
  · rename_i s
    split at h
    · rename_i hs1
      have hs1 := beq_tt hs1
      subst hs1
      cases h; cases hu
      refine ⟨_, strCells_ok s, by simp, fun w => by simp [Builtin.lenOf, bs_size], fun Γ F w hh q hq => ?_⟩
      simp only [Builtin.firstCells, Sem.run_pure, bs_extract]
      congr 1
      apply Array.ext'
      simp [bs, List.map_take]
    · cases h
  · rename_i hns
    split at h
    · rename_i l' rd nn hel hlen
      cases h
      obtain ⟨B, len, cap, nw, rfl, h1, h2, h3, h4⟩ := elems_ok hH hu hel
      have hlk : len = kk := by
        unfold lenV at hlen
        split at hlen
        · cases hlen; obtain ⟨_, _, _, he, _⟩ := hu; cases he; rfl
        · cases hlen; cases hu; rfl
        · cases hlen; obtain ⟨_, _, he⟩ := hu; cases he; rfl
        · cases hlen
      subst hlk
      refine ⟨nw, h1, h2, fun w => by simp [Builtin.lenOf], fun Γ F w hh q hq => ?_⟩
      have hold : Holds W (spl hp.n W) rd := by
        intro id hid
        unfold elemsV at hel
        split at hel
        · cases hel; cases hid
        · cases hel; cases hid
        · split at hel
          · rename_i l2 ty2 s2 hc
            split at hel
            · cases hel
              simp only [List.mem_singleton] at hid
              subst hid
              obtain ⟨b, o, hw, _⟩ := hH.rel _ _ hc
              exact ⟨b, o, _, hw, spl_pick (hH.lt hc) hw⟩
            · cases hel
          · cases hel
        · cases hel
      obtain ⟨C, H2, pk2, hR⟩ := h4 _ hold
      have := firstCells_rd (P := P) (sz := sz) (k := q) (kc := cap) (cells := nw.take (q * sz)) hh pk2 (RdA.pre hR _) (by
        rw [List.length_take, h2]
        exact Nat.min_eq_left (Nat.mul_le_mul_right _ hq))
      rw [← this]
      cases B <;> rfl
    · cases h
theorem lCopy_ok {xs : Array Operand} {ts : Array TypeId} (hxs : xs.toList = [x, y]) (hts : ts[0]? = some t) (hG : GOk ρ G) (hE : RE ρ env L) (hH : HR ρ hp W) (hw : wants ops L ⟨dd, .call { callee := .builtin .copy, args := xs, argTypes := ts }, T, p, es, g⟩ = some true) (ht : dstOk dd n = true) {outs : List (V × Mem)} (h : lCopy P G env hp t x y = some outs) (k : Cont P ro n ops r ds L K ρ hp W dd outs) :
    Ops P ro n ops (⟨dd, .call { callee := .builtin .copy, args := xs, argTypes := ts }, T, p, es, g⟩ :: r) ds L (spl hp.n W) K := by
  refine Ops.of_run hw (by simp) ht (fun Γ F a w he hh => ?_) k
  unfold lCopy at h
  split at h
  · rename_i e hT
    split at h
    · rename_i sz id i off len cap b hsz hx hy
      split at h
      · rename_i l ty s src kk hc hsrc
        split at h
        · rename_i new htk
          split at h
          · rename_i l' hsc hov
            obtain ⟨hp', h1, rfl⟩ := one_ok h
            have hro := putS_ro h1
            obtain ⟨hs, rfl⟩ := putS_ok h1
            obtain ⟨bb, cc, rl, junk, fr, hW, hr, hl, h4, h5⟩ := hH.cells hc
            obtain ⟨ux, hux, b', c', hr', rfl, hlc⟩ := evO_ok hG hE hx
            rw [hr] at hr'; cases hr'
            obtain ⟨uy, huy, hvy⟩ := evO_ok hG hE hy
            obtain ⟨us, hus, hul, hlen, hcells⟩ := srcOf_ok (P := P) hH hvy hsrc
            obtain ⟨htk1, htk2⟩ := takeN_ok htk
            have hnew : RL ρ new (us.take (Nat.min kk len * sz)) := by rw [htk1]; exact hus.take _
            obtain ⟨h6, h7, h8⟩ := overV_ok hov hl hnew
            have hargs := two_args hxs (he.eval hux) (he.eval huy)
            obtain ⟨w', hst, hh'⟩ := storeCells_run (P := P) (off := off) (us.take (Nat.min kk len * sz)) 0 (rl ++ junk) w _ hh (spl_pick (hH.lt hc) hW) (allScal_ok hnew hsc) (by simp only [List.length_append]; omega) (fun j hj => h5.2 _ (by simp only [List.length_append]; omega))
            have e1 : putAt (rl ++ junk) off (us.take (Nat.min kk len * sz)) = putAt rl off (us.take (Nat.min kk len * sz)) ++ junk := by
              unfold putAt
              rw [List.take_append_of_le_length (by omega), List.drop_append_of_le_length (by omega)]
              simp
            refine ⟨_, List.mem_singleton.2 rfl, ρ, upd W id (some (bb, .cells (putAt rl off (us.take (Nat.min kk len * sz)) ++ junk).toArray ty fr)), goInt (Nat.min kk len), w', ?_, ?_, Rho.le_refl _, hH.put hs ⟨cc, _, junk, fr, hr, h6, rfl, ?_, ?_⟩, rfl, rfl, Stay.put hro⟩
            · simp only [execOp, resolve, invoke, builtin, Builtin.copy_, hargs, hts, Sem.run_bind, Sem.run_pure, Result.andThen_ok, List.getElem?_toArray, List.getElem?_cons_zero, List.getElem?_cons_succ, underlying, run_program, hT, hlen, sizeOf_run w hsz, hcells Γ F w hh _ (Nat.min_le_left _ _), List.toList_toArray, hst]
            · rw [Nat.add_zero, e1] at hh'
              refine hh'.weaken fun q hq => ?_
              have := spl_put (W := upd W id none) (hH.lt hc) q hq
              rwa [upd_upd] at this
            · rw [← h4]; simp only [List.length_append, putAt_length h7]
            · rw [show (putAt rl off (us.take (Nat.min kk len * sz)) ++ junk).length = (rl ++ junk).length by simp only [List.length_append, putAt_length h7]]; exact h5
          · cases h
        · cases h
      · cases h
    · cases h
  · cases h
theorem _root_.Go.Z.FrOk.freeze {lo hi N : Nat} (h : FrOk (lo, hi) N) : FrOk (if lo == hi then (N, N + 1) else (min lo N, max hi (N + 1))) N := by
  obtain ⟨h6, h7⟩ := h
  simp only at h6 h7
  split
  · exact ⟨by simp, fun j hj => by simp; omega⟩
  · rename_i hne
    have hne : lo ≠ hi := by simpa using hne
    have hlo : N ≤ lo := by
      rcases Nat.lt_or_ge lo N with h | h
      · have := h7 lo h
        simp at this
        omega
      · exact h
    have e1 : min lo N = N := Nat.min_eq_right hlo
    rw [e1]
    refine ⟨?_, fun j hj => ?_⟩
    · show N ≤ max hi (N + 1)
      omega
    · have : ¬ N ≤ j := by omega
      simp [this]
theorem lSame_ok {a : Option V} (hH : HR ρ hp W) (hw : wants ops L ⟨some d, .convert X Y x, T, p, es, g⟩ = some true) (ht : Nat.blt d n = true) (hx : ∀ v, a = some v → ∃ u, evalL L x = some u ∧ R ρ v u) {outs : List (V × Mem)} (h : lSame P hp X Y a = some outs) (k : Cont P ro n ops r ds L K ρ hp W (some d) outs) :
    Ops P ro n ops (⟨some d, .convert X Y x, T, p, es, g⟩ :: r) ds L (spl hp.n W) K := by
  refine Ops.of_run hw (by simp) ht (fun Γ F a w he hh => ?_) k
  unfold lSame at h
  split at h
  · rename_i id i off len cap e0 e hS hD hb
    split at h
    · rename_i l ty s hE hc
      obtain ⟨hp', h1, rfl⟩ := one_ok h
      have hro := putS_ro h1
      obtain ⟨hs, rfl⟩ := putS_ok h1
      have hb := beq_tt hb
      subst hb
      obtain ⟨ux, hux, bb, c', hr', rfl, hlc⟩ := hx _ rfl
      obtain ⟨bb', cc, rl, junk, fr, hW, hr, hl, h4, h5⟩ := hH.cells hc
      rw [hr'] at hr; cases hr
      rw [hS] at hD; cases hD
      have hbk := hh.block (spl_pick (hH.lt hc) hW)
      have e2 : w.shape? bb = some (ty, (rl ++ junk).length) := by simp [World.shape?, hbk]
      obtain ⟨fr', hfr', hbk2⟩ : ∃ fr' : Nat × Nat, FrOk fr' (rl ++ junk).length ∧ (w.freeze ⟨bb, (rl ++ junk).length, none⟩ 1).heap[bb]? = some (.cells (rl ++ junk).toArray ty fr') := by
        simp only [World.freeze, Nat.one_ne_zero, if_false, Array.getElem?_modify, if_true, hbk, Option.map_some]
        refine ⟨_, ?_, rfl⟩
        obtain ⟨lo, hi⟩ := fr
        exact h5.freeze
      have hhW : Hold Γ (pt bb (.cells (rl ++ junk).toArray ty fr') :: spl hp.n (upd W id none)) F (w.freeze ⟨bb, (rl ++ junk).length, none⟩ 1) := by
        refine hh.turn (spl_pick (hH.lt hc) hW) rfl rfl rfl hbk2 fun q hq => ?_
        simp only [World.freeze, Nat.one_ne_zero, if_false, Array.getElem?_modify]
        rw [if_neg (fun h => hq h.symm)]
      refine ⟨_, List.mem_singleton.2 rfl, ρ, upd W id (some (bb, .cells (rl ++ junk).toArray ty fr')), .slice (some ⟨bb, off, none⟩) len (cap.getD (c' - i)), w.freeze ⟨bb, (rl ++ junk).length, none⟩ 1, ?_, ?_, Rho.le_refl _, hH.put hs ⟨c', rl, junk, fr', hr', hl, rfl, h4, hfr'⟩, ⟨bb, c', hr', rfl, hlc⟩, rfl, Stay.put hro⟩
      rotate_left
      · exact hhW.weaken fun q hq => by
          have := spl_put (W := upd W id none) (hH.lt hc) q hq
          rwa [upd_upd] at this
      · simp only [execOp, convert, he.eval hux, underlying, Sem.run_bind, run_program, Result.andThen_ok, hS, Sem.run_pure, beq_self_eq_true, hE, markStringish, run_shape, e2, run_freeze]
    · cases h
  · cases h
end
end
end Go.Y
