/- Loud operations, soundness: iterators, delete, copy, struct build, bytes to bytes. -/
import Derived.Test.YtlboeehapelabaaDoorYf
set_option linter.unusedVariables false
set_option linter.unusedSimpArgs false
namespace Go.Y
open Go.Z
noncomputable section
section
variable {P : Program} {ro : Option Nat} {n : Nat} {ops : Array Oper} {r : List Oper} {ds : List Deferred} {L : Lo} {H H' : List SP} {K : Kont} {ρ : Rho} {W : RW} {G : GV} {env : Tr V} {hp hp' : Mem}
  {d : Nat} {T T' X Y t xt e sz by_ : TypeId} {p : String} {es : Array Edge} {g : Option (Nat × Bool)} {op : Op} {v : V} {u : Value} {x y z : Operand} {A : Option Addr} {m c : Nat} {cells : List Value} {C : SP}
/-- One run leads to one of the answers. -/
theorem Ops.of_run {o : Oper} {outs : List (V × Mem)} (hw : wants ops L o = some true) (hd : ∀ c, o.op ≠ .defer c) (ht : dstOk o.dst n = true)
    (h : ∀ Γ F a w, Env a n ds L → Hold Γ (spl hp.n W) F w → ∃ q ∈ outs, ∃ ρ' W' u w', (execOp a.eval o).run P w = .ok (.value u) w' ∧ Hold Γ (spl q.2.n W') F w' ∧ ρ.le ρ' ∧ HR ρ' q.2 W' ∧ R ρ' q.1 u ∧ q.2.ro = hp.ro ∧ Stay hp W W')
    (k : Cont P ro n ops r ds L K ρ hp W o.dst outs) : Ops P ro n ops (o :: r) ds L (spl hp.n W) K :=
  Ops.val hw hd ht fun Γ F a w he hh => by
    obtain ⟨q, hq, ρ', W', u, w', h1, h2, h3, h4, h5, h6, h7⟩ := h Γ F a w he hh
    exact ⟨u, w', _, h1, h2, k q hq ρ' W' u h3 h4 h5 h6 h7⟩
/-- a new object -/
theorem hold_new {Γ : World} {F : SP} {w : World} {ch : Chunk} {o : Obj} (hH : HR ρ hp W) (hs : small hp.n = true) (hh : Hold Γ (spl hp.n W) F w) (hc : CRel (upd ρ hp.n (some (w.heap.size, 0))) hp.n ch w.heap.size o) :
    ∃ W', Hold Γ (spl (hp.n + 1) W') F { w with heap := w.heap.push o } ∧ HR (upd ρ hp.n (some (w.heap.size, 0))) (hp.new ch) W' ∧ Stay hp W W' :=
  ⟨_, (hh.newb o).weaken fun x hx => spl_new (b := w.heap.size) (o := o) x hx, hH.new hs hc, Stay.new hH⟩
theorem lRange_ok (hG : GOk ρ G) (hE : RE ρ env L) (hH : HR ρ hp W) (hw : wants ops L ⟨some d, .range T' x, T, p, es, g⟩ = some true) (ht : Nat.blt d n = true) {outs : List (V × Mem)} (h : lRange P G env hp T' x = some outs) (k : Cont P ro n ops r ds L K ρ hp W (some d) outs) :
    Ops P ro n ops (⟨some d, .range T' x, T, p, es, g⟩ :: r) ds L (spl hp.n W) K := by
  refine Ops.of_run hw (by simp) ht (fun Γ F a w he hh => ?_) k
  unfold lRange at h
  split at h
  · rename_i s hT hx
    obtain ⟨hp', h1, rfl⟩ := one_ok h
    obtain ⟨hs, rfl⟩ := newS_ok h1
    obtain ⟨ux, hux, hvx⟩ := evO_ok hG hE hx
    cases hvx
    obtain ⟨W', h2, h3, h4⟩ := hold_new (ch := .iterS s 0) (o := .stringIter (bs s) 0) hH hs hh ⟨⟨_, upd_same⟩, rfl⟩
    refine ⟨_, List.mem_singleton.2 rfl, _, W', .pointer (some ⟨w.heap.size, 0, none⟩), _, ?_, h2, rho_new hH _, h3, ⟨_, _, upd_same, rfl⟩, rfl, h4⟩
    simp [execOp, Instr.range, he.eval hux, underlying, hT]
  · rename_i hT hx
    obtain ⟨hp', h1, rfl⟩ := one_ok h
    obtain ⟨hs, rfl⟩ := newS_ok h1
    obtain ⟨ux, hux, hvx⟩ := evO_ok hG hE hx
    cases hvx
    obtain ⟨W', h2, h3, h4⟩ := hold_new (ch := .iterM none 0 [] 0) (o := .mapIter none 0 #[] 0) hH hs hh ⟨⟨_, upd_same⟩, none, rfl, rfl⟩
    refine ⟨_, List.mem_singleton.2 rfl, _, W', .pointer (some ⟨w.heap.size, 0, none⟩), _, ?_, h2, rho_new hH _, h3, ⟨_, _, upd_same, rfl⟩, rfl, h4⟩
    simp [execOp, Instr.range, he.eval hux, underlying, hT]
  · rename_i id hT hx
    split at h
    · rename_i l clk hc
      obtain ⟨hp', h1, rfl⟩ := one_ok h
      obtain ⟨hs, rfl⟩ := newS_ok h1
      obtain ⟨ux, hux, b, c, hr, rfl⟩ := evO_ok hG hE hx
      obtain ⟨b', c', es', hW, hr', hes⟩ := hH.map hc
      rw [hr] at hr'; cases hr'
      have hb := getObj_run (P := P) (hh.block (spl_pick (hH.lt hc) hW))
      obtain ⟨W', h2, h3, h4⟩ := hold_new (ch := .iterM (some id) clk [] clk) (o := .mapIter (some b) clk #[] clk) hH hs hh ⟨⟨_, upd_same⟩, some b, rfl, b, c, rho_new hH _ _ _ hr, rfl⟩
      refine ⟨_, List.mem_singleton.2 rfl, _, W', .pointer (some ⟨w.heap.size, 0, none⟩), _, ?_, h2, rho_new hH _, h3, ⟨_, _, upd_same, rfl⟩, rfl, h4⟩
      simp [execOp, Instr.range, he.eval hux, underlying, hT, hb]
    · cases h
  · cases h
theorem memN_ok {l : List Nat} {x : Nat} : memN l x = l.contains x := by
  unfold memN
  induction l with
  | nil => rfl
  | cons a l ih =>
    simp only [List.any_cons, List.contains_cons, ih]
    congr 1
    rw [Bool.eq_iff_iff, beq_iff_eq]
    exact ⟨fun h => (beq_tt h).symm, fun h => by rw [h, Nat.beq_refl]⟩
theorem REs.filter {f : V × V × Nat → Bool} {f' : MapEntry → Bool} (hf : ∀ k v k' v' b, f (k, v, b) = f' ⟨k', v', b⟩) : ∀ {l : List (V × V × Nat)} {es : List MapEntry}, REs ρ l es → REs ρ (l.filter f) (es.filter f')
  | [], es, h => by rw [show es = [] from h]; exact rfl
  | (k, v, b) :: l, es, h => by
    obtain ⟨k', v', l', h1, h2, h3, rfl⟩ := h
    have ih := REs.filter hf h3
    simp only [List.filter_cons, hf k v k' v' b]
    split
    · exact ⟨k', v', _, h1, h2, ih, rfl⟩
    · exact ih
theorem REs.all {f : V × V × Nat → Bool} {f' : MapEntry → Bool} (hf : ∀ k v k' v' b, f (k, v, b) = f' ⟨k', v', b⟩) : ∀ {l : List (V × V × Nat)} {es : List MapEntry}, REs ρ l es → l.all f = es.all f'
  | [], es, h => by rw [show es = [] from h]; rfl
  | (k, v, b) :: l, es, h => by
    obtain ⟨k', v', l', h1, h2, h3, rfl⟩ := h
    simp only [List.all_cons, hf k v k' v' b, REs.all hf h3]
theorem REs.at : ∀ {l : List (V × V × Nat)} {es : List MapEntry} {i : Nat} {e : MapEntry}, REs ρ l es → es[i]? = some e → ∃ k v, (k, v, e.born) ∈ l ∧ R ρ k e.key ∧ R ρ v e.val
  | [], es, i, e, h, hi => by rw [show es = [] from h] at hi; cases hi
  | (k, v, b) :: l, es, i, e, h, hi => by
    obtain ⟨k', v', l', h1, h2, h3, rfl⟩ := h
    cases i with
    | zero => simp only [List.getElem?_cons_zero, Option.some.injEq] at hi; subst hi; exact ⟨k, v, .head _, h1, h2⟩
    | succ i =>
      obtain ⟨k2, v2, h4, h5, h6⟩ := REs.at h3 hi
      exact ⟨k2, v2, .tail _ h4, h5, h6⟩
theorem stepsM_ok {it mm since clk : Nat} {seen : List Nat} : ∀ {l : List (V × V × Nat)} {outs : List (V × Mem)}, stepsM hp it mm since clk seen l = some outs → ∀ k v b, (k, v, b) ∈ l → ∃ h, hp.putS it (some (.iterM (some mm) since (seen ++ [b]) clk)) = some h ∧ (V.tup [.bool true, k, v], h) ∈ outs
  | [], _, _, k, v, b, hm => by cases hm
  | (k0, v0, b0) :: l, outs, h, k, v, b, hm => by
    simp only [stepsM] at h
    split at h
    · rename_i r' h' h1 h2
      cases h
      cases hm with
      | head => exact ⟨h', h2, .head _⟩
      | tail _ hm =>
        obtain ⟨h3, h4, h5⟩ := stepsM_ok h1 k v b hm
        exact ⟨h3, h4, .tail _ h5⟩
    · cases h
theorem hold_put {Γ : World} {F : SP} {w : World} {b id : Nat} {o o' : Obj} (hlt : id < hp.n) (hW : W id = some (b, o)) (hh : Hold Γ (spl hp.n W) F w) : Hold Γ (spl hp.n (upd W id (some (b, o')))) F { w with heap := w.heap.setIfInBounds b o' } :=
  (Hold.setObj hh (spl_pick hlt hW) o').weaken fun x hx => by
    have := spl_put (W := upd W id none) (b := b) (o := o') hlt x hx
    rwa [upd_upd] at this
theorem lNext_ok {isS : Bool} (hG : GOk ρ G) (hE : RE ρ env L) (hH : HR ρ hp W) (hw : wants ops L ⟨some d, .next x isS, T, p, es, g⟩ = some true) (ht : Nat.blt d n = true) {outs : List (V × Mem)} (h : lNext G env hp x isS = some outs) (k : Cont P ro n ops r ds L K ρ hp W (some d) outs) :
    Ops P ro n ops (⟨some d, .next x isS, T, p, es, g⟩ :: r) ds L (spl hp.n W) K := by
  refine Ops.of_run hw (by simp) ht (fun Γ F a w he hh => ?_) k
  have hover : R ρ (.tup [.bool false]) (.tuple #[.bool false]) := ⟨_, .cons rfl .nil, rfl⟩
  unfold lNext at h
  split at h
  · rename_i it off hx
    obtain ⟨ux, hux, b, c, hr, rfl⟩ := evO_ok hG hE hx
    split at h
    · rename_i s pos h0 hc
      have h0 := beq_tt h0
      subst h0
      obtain ⟨b', o, hW, ⟨c', hr'⟩, rfl⟩ := hH.rel _ _ hc
      rw [hr] at hr'; cases hr'
      have hb := getObj_run (P := P) (hh.block (spl_pick (hH.lt hc) hW))
      split at h
      · rename_i hlt
        have hlt := blt_tt hlt
        obtain ⟨hp', h1, rfl⟩ := one_ok h
        have hro := putS_ro h1
        obtain ⟨hs, rfl⟩ := putS_ok h1
        refine ⟨_, List.mem_singleton.2 rfl, ρ, upd W it (some (b, .stringIter (bs s) (pos + (Utf8.decode (bs s) pos).2))), .tuple #[.bool true, goInt pos, .int .i32 (Utf8.decode (bs s) pos).1], _, ?_, hold_put (hH.lt hc) hW hh, Rho.le_refl _, hH.put hs ⟨⟨c, hr⟩, rfl⟩, ⟨_, .cons rfl (.cons rfl (.cons rfl .nil)), rfl⟩, rfl, Stay.put hro⟩
        have hb2 := hh.block (spl_pick (hH.lt hc) hW)
        simp only [execOp, Instr.next, he.eval hux, Sem.run_bind, hb, Result.andThen_ok, bs_size, hlt, if_true, setObj_run hb2, Sem.run_pure]
      · rename_i hlt
        have hlt := blt_ff hlt
        cases h
        refine ⟨_, List.mem_singleton.2 rfl, ρ, W, .tuple #[.bool false], w, ?_, hh, Rho.le_refl _, hH, hover, rfl, .refl⟩
        simp only [execOp, Instr.next, he.eval hux, Sem.run_bind, hb, Result.andThen_ok, bs_size, hlt, if_false, Sem.run_pure]
    · rename_i h0 hc
      have h0 := beq_tt h0
      subst h0
      obtain ⟨b', c', hW, hr'⟩ := hH.iterN hc
      rw [hr] at hr'; cases hr'
      have hb := getObj_run (P := P) (hh.block (spl_pick (hH.lt hc) hW))
      cases h
      refine ⟨_, List.mem_singleton.2 rfl, ρ, W, .tuple #[.bool false], w, ?_, hh, Rho.le_refl _, hH, hover, rfl, .refl⟩
      simp only [execOp, Instr.next, he.eval hux, Sem.run_bind, hb, Result.andThen_ok, Sem.run_pure]
    · rename_i mm since seen last h0 hc
      have h0 := beq_tt h0
      subst h0
      obtain ⟨b', c', mb, mc, hW, hr', hmr⟩ := hH.iterM hc
      rw [hr] at hr'; cases hr'
      have hbb := hh.block (spl_pick (hH.lt hc) hW)
      have hb := getObj_run (P := P) hbb
      split at h
      · rename_i l clk hm
        obtain ⟨mb', mc', es', hW2, hr2, hes⟩ := hH.map hm
        rw [hmr] at hr2; cases hr2
        have hbm := getObj_run (P := P) (hh.block (spl_pick (hH.lt hm) hW2))
        -- what the machine asks
        have main : ∀ outs', lNext.stepM hp l clk mm since seen it = some outs' → (!seen.toArray.isEmpty && !es'.toArray.isEmpty && es'.toArray.all (fun e => decide (e.born ≥ last))) = false → ∃ q ∈ outs', ∃ ρ' W' u w', (execOp a.eval ⟨some d, .next x false, T, p, es, g⟩).run P w = .ok (.value u) w' ∧ Hold Γ (spl q.2.n W') F w' ∧ ρ.le ρ' ∧ HR ρ' q.2 W' ∧ R ρ' q.1 u ∧ q.2.ro = hp.ro ∧ Stay hp W W' := by
          intro outs' h hguard
          have hguard' : ¬ (!seen.toArray.isEmpty && !es'.toArray.isEmpty && es'.toArray.all (fun e => decide (e.born ≥ last))) = true := by rw [hguard]; simp
          have hleft := hes.filter (f := fun e => !memN seen e.2.2) (f' := fun e => !seen.toArray.contains e.born) (fun k v k' v' b => by simp [memN_ok])
          unfold lNext.stepM at h
          generalize hlv : l.filter (fun e => !memN seen e.2.2) = left at h hleft
          split at h
          · have hl0 : es'.filter (fun e => !seen.toArray.contains e.born) = [] := hleft
            cases h
            refine ⟨_, List.mem_singleton.2 rfl, ρ, W, .tuple #[.bool false], w, ?_, hh, Rho.le_refl _, hH, hover, rfl, .refl⟩
            have hl1 : es'.toArray.filter (fun e => !seen.toArray.contains e.born) = #[] := by rw [List.filter_toArray, hl0]
            simp only [execOp, Instr.next, he.eval hux, Sem.run_bind, hb, Result.andThen_ok, hbm, if_neg hguard', Sem.run_pure, hl1]
            simp [Question.forced]
          · rename_i hnil
            split at h
            · rename_i hold
              have hall := hleft.all (f := fun e => Nat.blt e.2.2 since) (f' := fun e => decide (e.born < since)) (fun k v k' v' b => by rw [Bool.eq_iff_iff, Nat.blt_eq, decide_eq_true_iff])
              rw [hold] at hall
              generalize hlr : es'.filter (fun e => !seen.toArray.contains e.born) = lr at hleft hall
              have hl1 : es'.toArray.filter (fun e => !seen.toArray.contains e.born) = lr.toArray := by rw [List.filter_toArray, hlr]
              have hlo : lr.toArray.filter (fun e => decide (e.born < since)) = lr.toArray := by
                rw [List.filter_toArray]
                congr 1
                rw [List.filter_eq_self]
                exact fun e he => List.all_eq_true.1 hall.symm e he
              have hln : lr.toArray.filter (fun e => decide (e.born ≥ since)) = #[] := by
                rw [List.filter_toArray]
                congr 1
                rw [List.filter_eq_nil_iff]
                intro e he
                have := List.all_eq_true.1 hall.symm e he
                simp at this ⊢
                exact this
              have hne : lr ≠ [] := by
                rintro rfl
                cases left with
                | nil => exact absurd rfl hnil
                | cons q left => obtain ⟨_, _, _, _, _, _, h⟩ := hleft; cases h
              have hlpos : 0 < lr.length := by cases lr with | nil => exact absurd rfl hne | cons => simp
              have hemp : lr.toArray.isEmpty = false := by cases lr with | nil => exact absurd rfl hne | cons => simp
              have hcand : (if lr.toArray.isEmpty = true then #[none] else #[]) ++ Array.map some (lr.toArray ++ #[]) = (lr.map some).toArray := by simp [hemp]
              obtain ⟨idx, w1, hch, hidx, hh1⟩ : ∃ idx w1, (choose (.mapNext (lr.map some).toArray.size)).run P w = .ok idx w1 ∧ idx < lr.length ∧ Hold Γ (spl hp.n W) F w1 := by
                rw [run_choose]
                split
                · exact ⟨0, w, rfl, hlpos, hh⟩
                · refine ⟨_, _, rfl, ?_, hh.drew _⟩
                  simp only [Question.cut, List.size_toArray, List.length_map]
                  exact Nat.mod_lt _ hlpos
              obtain ⟨e, hee⟩ : ∃ e, lr[idx]? = some e := ⟨lr[idx], List.getElem?_eq_getElem hidx⟩
              obtain ⟨kk, vv, hmem, hk1, hk2⟩ := hleft.at hee
              obtain ⟨hp', hput, hin⟩ := stepsM_ok h kk vv e.born hmem
              have hro := putS_ro hput
              obtain ⟨hs, rfl⟩ := putS_ok hput
              have hbb1 := hh1.block (spl_pick (hH.lt hc) hW)
              refine ⟨_, hin, ρ, upd W it (some (b, .mapIter (some mb) since (seen.toArray.push e.born) clk)), .tuple #[.bool true, e.key, e.val], _, ?_, hold_put (hH.lt hc) hW hh1, Rho.le_refl _, hH.put hs ⟨⟨c, hr⟩, some mb, by simp, mb, mc, hmr, rfl⟩, ⟨_, .cons rfl (.cons hk1 (.cons hk2 .nil)), rfl⟩, rfl, Stay.put hro⟩
              have hci : (lr.map some).toArray[idx]? = some (some e) := by simp [hee]
              simp only [execOp, Instr.next, he.eval hux, Sem.run_bind, hb, Result.andThen_ok, hbm, if_neg hguard', Sem.run_pure, hl1, hlo, hln, hcand, hch, hci, setObj_run hbb1]
            · cases h
        cases seen with
        | nil => exact main _ h (by simp)
        | cons s0 seen =>
          dsimp only at h
          split at h
          · cases h
          · rename_i hg
            refine main _ h ?_
            have hall := hes.all (f := fun e => Nat.ble last e.2.2) (f' := fun e => decide (e.born ≥ last)) (fun k v k' v' b => by rw [Bool.eq_iff_iff, Nat.ble_eq, decide_eq_true_iff])
            have hemp : l.isEmpty = es'.isEmpty := by
              cases l with
              | nil => rw [show es' = [] from hes]; rfl
              | cons q l => obtain ⟨_, _, _, _, _, _, rfl⟩ := hes; rfl
            rw [hall, hemp] at hg
            simp only [List.isEmpty_toArray, List.isEmpty_cons, Bool.not_false, Bool.true_and, List.all_toArray]
            rw [Bool.and_comm]
            exact hg
      · cases h
    · cases h
  · cases h
end
end
end Go.Y
