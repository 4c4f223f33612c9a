/- Loud operations, soundness: iterators, delete, copy, struct build, bytes to bytes. -/
import Derived.Test.YtiilaimcmkdfjaaGreatDoorM4
import Derived.RangeFuncRecord
import Derived.RecoverIn
import Derived.Laws.Externs
set_option linter.unusedVariables false
set_option linter.unusedSimpArgs false
set_option linter.unusedSectionVars false
set_option linter.constructorNameAsVariable false
namespace Go.Y
open Go.Z
noncomputable section
section
variable {P : Program} {ro : Option Nat} {n : Nat} {ops : Array Oper} {r : List Oper} {ds : List Deferred} {L : Lo} {H H' : List SP} {K : Kont} {ρ : Rho} {W : RW} {G : GV} {env : Tr V} {hp hp' : Mem}
 {d : Nat} {T T' X Y t xt e sz by_ : TypeId} {p : String} {es : Array Edge} {g : Option (Nat × Bool)} {op : Op} {v : V} {u : Value} {x y z : Operand} {A : Option Addr} {m c : Nat} {cells : List Value} {C : SP}
theorem Ops.of_run {o : Oper} {outs : List (V × Mem)} (hw : wants ops L o = some true) (hd : ∀ c, o.op ≠ .defer c) (ht : dstOk o.dst n = true)
  (h : ∀ Γ F a w, Env a n ds L -> Hold Γ (spl hp.n W) F w -> ∃ q ∈ outs, ∃ ρ' W' u w', (execOp a.eval o).run P w = .ok (.value u) w' /\ Hold Γ (spl q.2.n W') F w' /\ ρ.le ρ' /\ HR ρ' q.2 W' /\ R ρ' q.1 u /\ q.2.ro = hp.ro /\ Stay hp W W')
  (k : Cont P ro n ops r ds L K ρ hp W o.dst outs) : Ops P ro n ops (o :: r) ds L (spl hp.n W) K :=
 Ops.val hw hd ht λ Γ F a w he hh => by
  obtain ⟨q, hq, ρ', W', u, w', h1, h2, h3, h4, h5, h6, h7⟩ := h Γ F a w he hh
  exact ⟨u, w', _, h1, h2, k q hq ρ' W' u h3 h4 h5 h6 h7⟩
theorem zxo {Γ : World} {F : SP} {w : World} {ch : Chunk} {o : Obj} (hH : HR ρ hp W) (hs : small hp.n = true) (hh : Hold Γ (spl hp.n W) F w) (hc : CRel (upd ρ hp.n (some (w.heap.size, 0))) hp.n ch w.heap.size o) :
  ∃ W', Hold Γ (spl (hp.n + 1) W') F { w with heap := w.heap.push o } /\ HR (upd ρ hp.n (some (w.heap.size, 0))) (hp.new ch) W' /\ Stay hp W W' :=
 ⟨_, (hh.newb o).weaken λ x hx => zjf (b := w.heap.size) (o := o) x hx, hH.new hs hc, Stay.new hH⟩
theorem lUStr_ok (hG : GOk ρ G) (hE : RE ρ env L) (hH : HR ρ hp W) {xs : Array Operand} {ts : Array TypeId} (hw : wants ops L ⟨some d, .call { callee := .builtin .unsafeString, args := xs, argTypes := ts }, T, p, es, g⟩ = some true) (ht : Nat.blt d n = true)
  {outs : List (V × Mem)} (h : lUStr P G env hp ts.toList xs.toList = some outs) (k : Cont P ro n ops r ds L K ρ hp W (some d) outs) :
  Ops P ro n ops (⟨some d, .call { callee := .builtin .unsafeString, args := xs, argTypes := ts }, T, p, es, g⟩ :: r) ds L (spl hp.n W) K := by
 refine Ops.of_run hw (by simp) ht (λ Γ F a w he hh => ?_) k
 unfold lUStr at h
 split at h
 ·rename_i pt it q hts hxs
  obtain ⟨us, h2, u, us', h3, h4, rfl⟩ := zqS hG hE hxs
  obtain ⟨u2, us2, h5, h6, rfl⟩ := h4
  rw [show us2 = [] from h6] at h2
  cases h5
  have hm := zqr he h2
  have e2 : ts = #[pt, it] := by apply Array.ext'; simpa using hts
  have key : ∀ qa, u = .pointer qa -> ((execOp a.eval ⟨some d, .call { callee := .builtin .unsafeString, args := xs, argTypes := ts }, T, p, es, g⟩).run P w = .ok (.value (.string (bs []))) w) := by
   rintro qa rfl
   have h7 := Lib.run_unsafeString_none (P := P) w pt it T qa
   rw [e2]
   simp only [execOp, resolve, invoke, builtin, hm, Sem.run_bind, Sem.run_pure, Result.andThen_ok]
   have h8 : Builtin.unsafeString_ #[pt, it] T #[.pointer qa, .int .i64 (Int.ofNat 0)] = Builtin.unsafeString_ #[pt, it] T #[.pointer qa, .int .i64 0] := rfl
   rw [h8, h7]
   rfl
  split at h
  ·cases h; cases h3
   exact ⟨_, List.mem_singleton.2 rfl, ρ, W, _, w, key _ rfl, hh, Rho.le_refl _, hH, rfl, rfl, .refl⟩
  ·cases h
   obtain ⟨b, c, hr, rfl⟩ := h3
   exact ⟨_, List.mem_singleton.2 rfl, ρ, W, _, w, key _ rfl, hh, Rho.le_refl _, hH, rfl, rfl, .refl⟩
  ·cases h
 ·rename_i pt it id m hts hxs
  obtain ⟨us, h2, u, us', h3, h4, rfl⟩ := zqS hG hE hxs
  obtain ⟨u2, us2, h5, h6, rfl⟩ := h4
  rw [show us2 = [] from h6] at h2
  cases h5
  have hm := zqr he h2
  have e2 : ts = #[pt, it] := by apply Array.ext'; simpa using hts
  split at h
  ·rename_i e l ty hpt hc
   split at h
   ·rename_i cs hb hcs
    split at h
    ·rename_i rr hrr
     obtain ⟨hp', h1, rfl⟩ := one_ok h
     have hro := zqA h1
     obtain ⟨hs, rfl⟩ := zqB h1
     simp only [Bool.and_eq_true] at hb
     obtain ⟨⟨hb1, hb2⟩, hb3⟩ := hb
     obtain rfl := beq_tt hb1
     have hb2 := beq_tt hb2
     have hb3 := blt_tt hb3
     obtain ⟨b, c, rl, junk, fr, hW, hr, hl, h4, h5⟩ := hH.cells hc
     obtain ⟨b', c', hr', rfl⟩ := h3
     rw [hr] at hr'; cases hr'
     obtain ⟨h7, h8⟩ := zqP hcs
     have hlt := RL.take (m + 1) hl
     rw [<- h7] at hlt
     have hby := bytesV_ok hrr hlt
     have hlen : rr.length = m + 1 := by
      have := congrArg List.length hby
      rw [hlt.length, h8] at this
      simpa using this.symm
     have hrlen : m + 1 <= rl.length := by
      have := congrArg List.length hby
      simp [hlen] at this
      omega
     have hbk := hh.block (zqf (hH.lt hc) hW)
     have hrun := Lib.run_unsafeString_row (P := P) w pt it T ty hpt hb2 b (rl ++ junk).toArray.size (by simp [World.shape?, hbk]) rr (by intro e; rw [e] at hlen; simp at hlen) (by simp [hlen]; omega) (by omega) (λ j x hj => by
      have hjm : j < m + 1 := by
       rcases Nat.lt_or_ge j (m + 1) with h' | h'
       ·exact h'
       ·rw [List.getElem?_eq_none (by omega)] at hj; cases hj
      have hg : (rl.take (m + 1))[j]? = some (.int .u8 x.toNat) := by rw [hby]; simp [hj]
      rw [List.getElem?_take, if_pos hjm] at hg
      rw [zqF]; simp only [World.cell?, hbk]; have hg2 := getA (b := junk) hg; simpa using hg2)
     rw [hlen] at hrun
     refine ⟨_, List.mem_singleton.2 rfl, ρ, upd W id none, .string (bs rr), w.freeze ⟨b, 0, none⟩ (m + 1), ?_, ?_, Rho.le_refl _, hH.kill hs, rfl, rfl, Stay.put hro⟩
     ·rw [e2]
      simp only [execOp, resolve, invoke, builtin, hm, Sem.run_bind, Sem.run_pure, Result.andThen_ok]
      have h9 : Builtin.unsafeString_ #[pt, it] T #[.pointer (some ⟨b, 0, none⟩), .int .i64 (Int.ofNat (m + 1))] = Builtin.unsafeString_ #[pt, it] T #[.pointer (some ⟨b, 0, none⟩), .int .i64 ((m + 1 : Nat) : Int)] := rfl
      rw [h9, hrun]
      rfl
     ·have hlb : b < w.heap.size := (Array.getElem?_eq_some_iff.1 hbk).1
      have ht2 := hh.turn (w' := w.freeze ⟨b, 0, none⟩ (m + 1)) (o' := .cells (rl ++ junk).toArray ty (if fr.1 == fr.2 then (0, 0 + (m + 1)) else (min fr.1 0, max fr.2 (0 + (m + 1))))) (zqf (hH.lt hc) hW) rfl rfl rfl
       (by simp [World.freeze, Array.getElem?_modify, hbk]) (λ i hi => by simp [World.freeze, Array.getElem?_modify]; omega)
      exact ht2.weaken λ x hx => by
       obtain ⟨h1, h2, d', e', _, h⟩ := hx
       exact e' ▸ sep_up _ d' h
    ·cases h
   ·cases h
  ·cases h
 ·cases h
theorem lRange_ok (hG : GOk ρ G) (hE : RE ρ env L) (hH : HR ρ hp W) (hw : wants ops L ⟨some d, .range T' x, T, p, es, g⟩ = some true) (ht : Nat.blt d n = true) {outs : List (V × Mem)} (h : lRange P G env hp T' x = some outs) (k : Cont P ro n ops r ds L K ρ hp W (some d) outs) :
  Ops P ro n ops (⟨some d, .range T' x, T, p, es, g⟩ :: r) ds L (spl hp.n W) K := by
 refine Ops.of_run hw (by simp) ht (λ Γ F a w he hh => ?_) k
 unfold lRange at h
 split at h
 ·rename_i s hT hx
  obtain ⟨hp', h1, rfl⟩ := one_ok h
  obtain ⟨hs, rfl⟩ := zqw h1
  obtain ⟨ux, hux, hvx⟩ := evO_ok hG hE hx
  cases hvx
  obtain ⟨W', h2, h3, h4⟩ := zxo (ch := .iterS s 0) (o := .stringIter (bs s) 0) hH hs hh ⟨⟨_, zqe⟩, rfl⟩
  refine ⟨_, List.mem_singleton.2 rfl, _, W', .pointer (some ⟨w.heap.size, 0, none⟩), _, ?_, h2, zqm hH _, h3, ⟨_, _, zqe, rfl⟩, rfl, h4⟩
  simp [execOp, Instr.range, he.eval hux, underlying, hT]
 ·rename_i hT hx
  obtain ⟨hp', h1, rfl⟩ := one_ok h
  obtain ⟨hs, rfl⟩ := zqw h1
  obtain ⟨ux, hux, hvx⟩ := evO_ok hG hE hx
  cases hvx
  obtain ⟨W', h2, h3, h4⟩ := zxo (ch := .iterM none 0 [] 0) (o := .mapIter none 0 #[] 0) hH hs hh ⟨⟨_, zqe⟩, none, rfl, rfl⟩
  refine ⟨_, List.mem_singleton.2 rfl, _, W', .pointer (some ⟨w.heap.size, 0, none⟩), _, ?_, h2, zqm hH _, h3, ⟨_, _, zqe, rfl⟩, rfl, h4⟩
  simp [execOp, Instr.range, he.eval hux, underlying, hT]
 ·rename_i id hT hx
  split at h
  ·rename_i l clk hc
   obtain ⟨hp', h1, rfl⟩ := one_ok h
   obtain ⟨hs, rfl⟩ := zqw h1
   obtain ⟨ux, hux, b, c, hr, rfl⟩ := evO_ok hG hE hx
   obtain ⟨b', c', es', hW, hr', hes⟩ := hH.map hc
   rw [hr] at hr'; cases hr'
   have hb := zqy (P := P) (hh.block (zqf (hH.lt hc) hW))
   obtain ⟨W', h2, h3, h4⟩ := zxo (ch := .iterM (some id) clk [] clk) (o := .mapIter (some b) clk #[] clk) hH hs hh ⟨⟨_, zqe⟩, some b, rfl, b, c, zqm hH _ _ _ hr, rfl⟩
   refine ⟨_, List.mem_singleton.2 rfl, _, W', .pointer (some ⟨w.heap.size, 0, none⟩), _, ?_, h2, zqm hH _, h3, ⟨_, _, zqe, rfl⟩, rfl, h4⟩
   simp [execOp, Instr.range, he.eval hux, underlying, hT, hb]
  ·cases h
 ·cases h
theorem memN_ok {l : List Nat} {x : Nat} : memN l x = l.contains x := by
 unfold memN
 induction l with
 | nil => rfl
 | cons a l ih =>
  simp only [List.any_cons, List.contains_cons, ih]
  congr 1
  rw [Bool.eq_iff_iff, beq_iff_eq]
  exact ⟨λ h => (beq_tt h).symm, λ h => by rw [h, Nat.beq_refl]⟩
theorem REs.filter {f : V × V × Nat -> Bool} {f' : MapEntry -> Bool} (hf : ∀ k v k' v' b, f (k, v, b) = f' ⟨k', v', b⟩) : ∀ {l : List (V × V × Nat)} {es : List MapEntry}, REs ρ l es -> REs ρ (l.filter f) (es.filter f')
 | [], es, h => by rw [show es = [] from h]; exact rfl
 | (k, v, b) :: l, es, h => by
  obtain ⟨k', v', l', h1, h2, h3, rfl⟩ := h
  have ih := REs.filter hf h3
  simp only [List.filter_cons, hf k v k' v' b]
  split
  ·exact ⟨k', v', _, h1, h2, ih, rfl⟩
  ·exact ih
theorem REs.all {f : V × V × Nat -> Bool} {f' : MapEntry -> Bool} (hf : ∀ k v k' v' b, f (k, v, b) = f' ⟨k', v', b⟩) : ∀ {l : List (V × V × Nat)} {es : List MapEntry}, REs ρ l es -> l.all f = es.all f'
 | [], es, h => by rw [show es = [] from h]; rfl
 | (k, v, b) :: l, es, h => by
  obtain ⟨k', v', l', h1, h2, h3, rfl⟩ := h
  simp only [List.all_cons, hf k v k' v' b, REs.all hf h3]
theorem REs.at : ∀ {l : List (V × V × Nat)} {es : List MapEntry} {i : Nat} {e : MapEntry}, REs ρ l es -> es[i]? = some e -> ∃ k v, (k, v, e.born) ∈ l /\ R ρ k e.key /\ R ρ v e.val
 | [], es, i, e, h, hi => by rw [show es = [] from h] at hi; cases hi
 | (k, v, b) :: l, es, i, e, h, hi => by
  obtain ⟨k', v', l', h1, h2, h3, rfl⟩ := h
  cases i with
  | zero => simp only [List.getElem?_cons_zero, Option.some.injEq] at hi; subst hi; exact ⟨k, v, .head _, h1, h2⟩
  | succ i =>
   obtain ⟨k2, v2, h4, h5, h6⟩ := REs.at h3 hi
   exact ⟨k2, v2, .tail _ h4, h5, h6⟩
theorem stepsM_ok {it mm since clk : Nat} {seen : List Nat} : ∀ {l : List (V × V × Nat)} {outs : List (V × Mem)}, stepsM hp it mm since clk seen l = some outs -> ∀ k v b, (k, v, b) ∈ l -> ∃ h, hp.putS it (some (.iterM (some mm) since (seen ++ [b]) clk)) = some h /\ (V.tup [.bool true, k, v], h) ∈ outs
 | [], _, _, k, v, b, hm => by cases hm
 | (k0, v0, b0) :: l, outs, h, k, v, b, hm => by
  simp only [stepsM] at h
  split at h
  ·rename_i r' h' h1 h2
   cases h
   cases hm with
   | head => exact ⟨h', h2, .head _⟩
   | tail _ hm =>
    obtain ⟨h3, h4, h5⟩ := stepsM_ok h1 k v b hm
    exact ⟨h3, h4, .tail _ h5⟩
  ·cases h
theorem zke {Γ : World} {F : SP} {w : World} {b id : Nat} {o o' : Obj} (hlt : id < hp.n) (hW : W id = some (b, o)) (hh : Hold Γ (spl hp.n W) F w) : Hold Γ (spl hp.n (upd W id (some (b, o')))) F { w with heap := w.heap.setIfInBounds b o' } :=
 (Hold.setObj hh (zqf hlt hW) o').weaken λ x hx => by
  have := zxx (W := upd W id none) (b := b) (o := o') hlt x hx
  rwa [zxT] at this
theorem lNext_ok {isS : Bool} (hG : GOk ρ G) (hE : RE ρ env L) (hH : HR ρ hp W) (hw : wants ops L ⟨some d, .next x isS, T, p, es, g⟩ = some true) (ht : Nat.blt d n = true) {outs : List (V × Mem)} (h : lNext G env hp x isS = some outs) (k : Cont P ro n ops r ds L K ρ hp W (some d) outs) :
  Ops P ro n ops (⟨some d, .next x isS, T, p, es, g⟩ :: r) ds L (spl hp.n W) K := by
 refine Ops.of_run hw (by simp) ht (λ Γ F a w he hh => ?_) k
 have hover : R ρ (.tup [.bool false]) (.tuple #[.bool false]) := ⟨_, .cons rfl .nil, rfl⟩
 unfold lNext at h
 split at h
 ·rename_i it off hx
  obtain ⟨ux, hux, b, c, hr, rfl⟩ := evO_ok hG hE hx
  split at h
  ·rename_i s pos h0 hc
   have h0 := beq_tt h0
   subst h0
   obtain ⟨b', o, hW, ⟨c', hr'⟩, rfl⟩ := hH.rel _ _ hc
   rw [hr] at hr'; cases hr'
   have hb := zqy (P := P) (hh.block (zqf (hH.lt hc) hW))
   split at h
   ·rename_i hlt
    have hlt := blt_tt hlt
    obtain ⟨hp', h1, rfl⟩ := one_ok h
    have hro := zqA h1
    obtain ⟨hs, rfl⟩ := zqB h1
    refine ⟨_, List.mem_singleton.2 rfl, ρ, upd W it (some (b, .stringIter (bs s) (pos + (Utf8.decode (bs s) pos).2))), .tuple #[.bool true, goInt pos, .int .i32 (Utf8.decode (bs s) pos).1], _, ?_, zke (hH.lt hc) hW hh, Rho.le_refl _, hH.put hs ⟨⟨c, hr⟩, rfl⟩, ⟨_, .cons rfl (.cons rfl (.cons rfl .nil)), rfl⟩, rfl, Stay.put hro⟩
    have hb2 := hh.block (zqf (hH.lt hc) hW)
    simp only [execOp, Instr.next, he.eval hux, Sem.run_bind, hb, Result.andThen_ok, zxb, hlt, if_true, zxu hb2, Sem.run_pure]
   ·rename_i hlt
    have hlt := blt_ff hlt
    cases h
    refine ⟨_, List.mem_singleton.2 rfl, ρ, W, .tuple #[.bool false], w, ?_, hh, Rho.le_refl _, hH, hover, rfl, .refl⟩
    simp only [execOp, Instr.next, he.eval hux, Sem.run_bind, hb, Result.andThen_ok, zxb, hlt, if_false, Sem.run_pure]
  ·rename_i h0 hc
   have h0 := beq_tt h0
   subst h0
   obtain ⟨b', c', hW, hr'⟩ := hH.iterN hc
   rw [hr] at hr'; cases hr'
   have hb := zqy (P := P) (hh.block (zqf (hH.lt hc) hW))
   cases h
   refine ⟨_, List.mem_singleton.2 rfl, ρ, W, .tuple #[.bool false], w, ?_, hh, Rho.le_refl _, hH, hover, rfl, .refl⟩
   simp only [execOp, Instr.next, he.eval hux, Sem.run_bind, hb, Result.andThen_ok, Sem.run_pure]
  ·rename_i mm since seen last h0 hc
   have h0 := beq_tt h0
   subst h0
   obtain ⟨b', c', mb, mc, hW, hr', hmr⟩ := hH.iterM hc
   rw [hr] at hr'; cases hr'
   have hbb := hh.block (zqf (hH.lt hc) hW)
   have hb := zqy (P := P) hbb
   split at h
   ·rename_i l clk hm
    obtain ⟨mb', mc', es', hW2, hr2, hes⟩ := hH.map hm
    rw [hmr] at hr2; cases hr2
    have hbm := zqy (P := P) (hh.block (zqf (hH.lt hm) hW2))
    -- what the machine asks
    have main : ∀ outs', lNext.stepM hp l clk mm since seen it = some outs' -> (!seen.toArray.isEmpty && !es'.toArray.isEmpty && es'.toArray.all (λ e => decide (e.born ≥ last))) = false -> ∃ q ∈ outs', ∃ ρ' W' u w', (execOp a.eval ⟨some d, .next x false, T, p, es, g⟩).run P w = .ok (.value u) w' /\ Hold Γ (spl q.2.n W') F w' /\ ρ.le ρ' /\ HR ρ' q.2 W' /\ R ρ' q.1 u /\ q.2.ro = hp.ro /\ Stay hp W W' := by
     intro outs' h hguard
     have hguard' : ¬ (!seen.toArray.isEmpty && !es'.toArray.isEmpty && es'.toArray.all (λ e => decide (e.born ≥ last))) = true := by rw [hguard]; simp
     have hleft := hes.filter (f := λ e => !memN seen e.2.2) (f' := λ e => !seen.toArray.contains e.born) (λ k v k' v' b => by simp [memN_ok])
     unfold lNext.stepM at h
     generalize hlv : l.filter (λ e => !memN seen e.2.2) = left at h hleft
     split at h
     ·have hl0 : es'.filter (λ e => !seen.toArray.contains e.born) = [] := hleft
      cases h
      refine ⟨_, List.mem_singleton.2 rfl, ρ, W, .tuple #[.bool false], w, ?_, hh, Rho.le_refl _, hH, hover, rfl, .refl⟩
      have hl1 : es'.toArray.filter (λ e => !seen.toArray.contains e.born) = #[] := by rw [List.filter_toArray, hl0]
      simp only [execOp, Instr.next, he.eval hux, Sem.run_bind, hb, Result.andThen_ok, hbm, if_neg hguard', Sem.run_pure, hl1]
      simp [Question.forced]
     ·rename_i hnil
      split at h
      ·rename_i hold
       have hall := hleft.all (f := λ e => Nat.blt e.2.2 since) (f' := λ e => decide (e.born < since)) (λ k v k' v' b => by rw [Bool.eq_iff_iff, Nat.blt_eq, decide_eq_true_iff])
       rw [hold] at hall
       generalize hlr : es'.filter (λ e => !seen.toArray.contains e.born) = lr at hleft hall
       have hl1 : es'.toArray.filter (λ e => !seen.toArray.contains e.born) = lr.toArray := by rw [List.filter_toArray, hlr]
       have hlo : lr.toArray.filter (λ e => decide (e.born < since)) = lr.toArray := by
        rw [List.filter_toArray]
        congr 1
        rw [List.filter_eq_self]
        exact λ e he => List.all_eq_true.1 hall.symm e he
       have hln : lr.toArray.filter (λ e => decide (e.born ≥ since)) = #[] := by
        rw [List.filter_toArray]
        congr 1
        rw [List.filter_eq_nil_iff]
        intro e he
        have := List.all_eq_true.1 hall.symm e he
        simp at this ⊢
        exact this
       have hne : lr ≠ [] := by
        rintro rfl
        cases left with
        | nil => exact absurd rfl hnil
        | cons q left => obtain ⟨_, _, _, _, _, _, h⟩ := hleft; cases h
       have hlpos : 0 < lr.length := by cases lr with | nil => exact absurd rfl hne | cons => simp
       have hemp : lr.toArray.isEmpty = false := by cases lr with | nil => exact absurd rfl hne | cons => simp
       have hcand : (if lr.toArray.isEmpty = true then #[none] else #[]) ++ Array.map some (lr.toArray ++ #[]) = (lr.map some).toArray := by simp [hemp]
       obtain ⟨idx, w1, hch, hidx, hh1⟩ : ∃ idx w1, (choose (.mapNext (lr.map some).toArray.size)).run P w = .ok idx w1 /\ idx < lr.length /\ Hold Γ (spl hp.n W) F w1 := by
        rw [run_choose]
        split
        ·exact ⟨0, w, rfl, hlpos, hh⟩
        ·refine ⟨_, _, rfl, ?_, hh.drew _⟩
         simp only [Question.cut, List.size_toArray, List.length_map]
         exact Nat.mod_lt _ hlpos
       obtain ⟨e, hee⟩ : ∃ e, lr[idx]? = some e := ⟨lr[idx], List.getElem?_eq_getElem hidx⟩
       obtain ⟨kk, vv, hmem, hk1, hk2⟩ := hleft.at hee
       obtain ⟨hp', hput, hin⟩ := stepsM_ok h kk vv e.born hmem
       have hro := zqA hput
       obtain ⟨hs, rfl⟩ := zqB hput
       have hbb1 := hh1.block (zqf (hH.lt hc) hW)
       refine ⟨_, hin, ρ, upd W it (some (b, .mapIter (some mb) since (seen.toArray.push e.born) clk)), .tuple #[.bool true, e.key, e.val], _, ?_, zke (hH.lt hc) hW hh1, Rho.le_refl _, hH.put hs ⟨⟨c, hr⟩, some mb, by simp, mb, mc, hmr, rfl⟩, ⟨_, .cons rfl (.cons hk1 (.cons hk2 .nil)), rfl⟩, rfl, Stay.put hro⟩
       have hci : (lr.map some).toArray[idx]? = some (some e) := by simp [hee]
       simp only [execOp, Instr.next, he.eval hux, Sem.run_bind, hb, Result.andThen_ok, hbm, if_neg hguard', Sem.run_pure, hl1, hlo, hln, hcand, hch, hci, zxu hbb1]
      ·cases h
    cases seen with
    | nil => exact main _ h (by simp)
    | cons s0 seen =>
     dsimp only at h
     split at h
     ·cases h
     ·rename_i hg
      refine main _ h ?_
      have hall := hes.all (f := λ e => Nat.ble last e.2.2) (f' := λ e => decide (e.born ≥ last)) (λ k v k' v' b => by rw [Bool.eq_iff_iff, Nat.ble_eq, decide_eq_true_iff])
      have hemp : l.isEmpty = es'.isEmpty := by
       cases l with
       | nil => rw [show es' = [] from hes]; rfl
       | cons q l => obtain ⟨_, _, _, _, _, _, rfl⟩ := hes; rfl
      rw [hall, hemp] at hg
      simp only [List.isEmpty_toArray, List.isEmpty_cons, Bool.not_false, Bool.true_and, List.all_toArray]
      rw [Bool.and_comm]
      exact hg
   ·cases h
  ·cases h
 ·cases h
end
end
end Go.Y
namespace Go.Y
open Go.Z
noncomputable section
section
variable {P : Program} {ro : Option Nat} {n : Nat} {ops : Array Oper} {r : List Oper} {ds : List Deferred} {L : Lo} {H H' : List SP} {K : Kont} {ρ : Rho} {W : RW} {G : GV} {env : Tr V} {hp hp' : Mem}
 {d : Nat} {dd : Option Nat} {T T' X Y t xt e sz by_ : TypeId} {p : String} {es : Array Edge} {g : Option (Nat × Bool)} {op : Op} {v : V} {u : Value} {x y z : Operand} {A : Option Addr} {m c : Nat} {cells : List Value} {C : SP}
theorem two_args {xs : Array Operand} (h : xs.toList = [x, y]) {a : Act} {ux uy : Value} (h1 : a.eval x = ux) (h2 : a.eval y = uy) : xs.map a.eval = #[ux, uy] := by
 cases xs; simp at h; subst h; simp [h1, h2]
theorem lDelete_ok {xs : Array Operand} {ts : Array TypeId} (hxs : xs.toList = [x, y]) (hts : ts[0]? = some t) (hG : GOk ρ G) (hE : RE ρ env L) (hH : HR ρ hp W) (hw : wants ops L ⟨dd, .call { callee := .builtin .delete, args := xs, argTypes := ts }, T, p, es, g⟩ = some true) (ht : dstOk dd n = true) {outs : List (V × Mem)} (h : lDelete P G env hp t x y = some outs) (k : Cont P ro n ops r ds L K ρ hp W dd outs) :
  Ops P ro n ops (⟨dd, .call { callee := .builtin .delete, args := xs, argTypes := ts }, T, p, es, g⟩ :: r) ds L (spl hp.n W) K := by
 refine Ops.of_run hw (by simp) ht (λ Γ F a w he hh => ?_) k
 unfold lDelete at h
 split at h
 ·rename_i kt et hT
  split at h
  ·rename_i kd hkd
   split at h
   ·rename_i id kv hx hy
    split at h
    ·rename_i l clk hf hc
     obtain ⟨ux, hux, bb, cc, hrr, rfl⟩ := evO_ok hG hE hx
     obtain ⟨uy, huy, hvy⟩ := evO_ok hG hE hy
     obtain ⟨b, c, es', hW, hr, hes⟩ := hH.map hc
     rw [hr] at hrr; cases hrr
     have hargs := two_args hxs (he.eval hux) (he.eval huy)
     have hbb := hh.block (zqf (hH.lt hc) hW)
     have hb := zqy (P := P) hbb
     have hchk := λ w b => fits_ok (P := P) hf hvy w hkd b
     split at h
     ·rename_i i v0 hfv
      obtain ⟨hp', h1, rfl⟩ := one_ok h
      have hro := zqA h1
      obtain ⟨hs, rfl⟩ := zqB h1
      obtain ⟨r', hr1, v', hr2, hr3, _⟩ := zjc hf hvy hes hfv
      subst hr2
      have hfk := zxC (P := P) hkd hr1
      have her : (es'.toArray.eraseIdxIfInBounds i) = (es'.eraseIdx i).toArray := by
       simp
      refine ⟨_, List.mem_singleton.2 rfl, ρ, upd W id (some (bb, .map (es'.eraseIdx i).toArray clk)), undef, _, ?_, zke (hH.lt hc) hW hh, Rho.le_refl _, hH.put hs ⟨⟨cc, hr⟩, _, rfl, hes.erase i⟩, rfl, rfl, Stay.put hro⟩
      simp only [execOp, resolve, invoke, builtin, Builtin.delete_, hargs, hts, Sem.run_bind, Sem.run_pure, Result.andThen_ok, List.getElem?_toArray, List.getElem?_cons_zero, List.getElem?_cons_succ, underlying, run_program, hT, hb, hchk, hfk, zxu hbb, her]
      rfl
     ·rename_i hfv
      cases h
      obtain ⟨r', hr1, hr2⟩ := zjc hf hvy hes hfv
      dsimp only at hr2
      subst hr2
      have hfk := zxC (P := P) hkd hr1
      have hh2 := zke (o' := .map es'.toArray clk) (hH.lt hc) hW hh
      rw [upd_id hW] at hh2
      refine ⟨_, List.mem_singleton.2 rfl, ρ, W, undef, _, ?_, hh2, Rho.le_refl _, hH, rfl, rfl, .refl⟩
      ·simp only [execOp, resolve, invoke, builtin, Builtin.delete_, hargs, hts, Sem.run_bind, Sem.run_pure, Result.andThen_ok, List.getElem?_toArray, List.getElem?_cons_zero, List.getElem?_cons_succ, underlying, run_program, hT, hb, hchk, hfk, zxu hbb]
       rfl
     ·cases h
    ·cases h
   ·cases h
  ·cases h
 ·cases h
theorem srcOf_ok (hH : HR ρ hp W) {a : V} {l : List V} {kk : Nat} {sz : Nat} (hu : R ρ a u) (h : srcOf hp sz a = some (l, kk)) : ∃ us, RL ρ l us /\ us.length = kk * sz /\ (∀ w, (Builtin.lenOf u).run P w = .ok kk w) /\
  ∀ Γ F w, Hold Γ (spl hp.n W) F w -> ∀ q, q <= kk -> (Builtin.firstCells sz q u).run P w = .ok (us.take (q * sz)).toArray w := by
 unfold srcOf at h
 split at h
 ·rename_i s
  split at h
  ·rename_i hs1
   have hs1 := beq_tt hs1
   subst hs1
   cases h; cases hu
   refine ⟨_, zjG s, by simp, λ w => by simp [Builtin.lenOf, zxb], λ Γ F w hh q hq => ?_⟩
   simp only [Builtin.firstCells, Sem.run_pure, zxv]
   congr 1
   apply Array.ext'
   simp [bs, List.map_take]
  ·cases h
 ·rename_i hns
  split at h
  ·rename_i l' rd nn hel hlen
   cases h
   obtain ⟨B, len, cap, nw, rfl, h1, h2, h3, h4⟩ := zjz hH hu hel
   have hlk : len = kk := lenV_ok hlen hu
   subst hlk
   refine ⟨nw, h1, h2, λ w => by simp [Builtin.lenOf], λ Γ F w hh q hq => ?_⟩
   have hold : Holds W (spl hp.n W) rd := by
    intro id hid
    unfold elemsV at hel
    split at hel
    ·cases hel; cases hid
    ·cases hel; cases hid
    ·split at hel
     ·rename_i l2 ty2 s2 hc
      split at hel
      ·cases hel
       simp only [List.mem_singleton] at hid
       subst hid
       obtain ⟨b, o, hw, _⟩ := hH.rel _ _ hc
       exact ⟨b, o, _, .inl hw.symm, zqf (hH.lt hc) hw⟩
      ·cases hel
     ·cases hel
    ·split at hel
     ·rename_i l2 ty2 s2 hc
      split at hel
      ·cases hel
       simp only [List.mem_singleton] at hid
       subst hid
       obtain ⟨b, o, hw, _⟩ := hH.rel _ _ hc
       exact ⟨b, o, _, .inl hw.symm, zqf (hH.lt hc) hw⟩
      ·cases hel
     ·cases hel
    ·cases hel
   obtain ⟨C, H2, pk2, hR⟩ := h4 _ hold
   have := zqW (P := P) (sz := sz) (k := q) (kc := cap) (cells := nw.take (q * sz)) hh pk2 (RdA.pre hR _) (by
    rw [List.length_take, h2]
    exact Nat.min_eq_left (Nat.mul_le_mul_right _ hq))
   rw [<- this]
   cases B <;> rfl
  ·cases h
theorem lCopy_ok {xs : Array Operand} {ts : Array TypeId} (hxs : xs.toList = [x, y]) (hts : ts[0]? = some t) (hG : GOk ρ G) (hE : RE ρ env L) (hH : HR ρ hp W) (hw : wants ops L ⟨dd, .call { callee := .builtin .copy, args := xs, argTypes := ts }, T, p, es, g⟩ = some true) (ht : dstOk dd n = true) {outs : List (V × Mem)} (h : lCopy P G env hp t x y = some outs) (k : Cont P ro n ops r ds L K ρ hp W dd outs) :
  Ops P ro n ops (⟨dd, .call { callee := .builtin .copy, args := xs, argTypes := ts }, T, p, es, g⟩ :: r) ds L (spl hp.n W) K := by
 refine Ops.of_run hw (by simp) ht (λ Γ F a w he hh => ?_) k
 unfold lCopy at h
 split at h
 ·rename_i e hT
  split at h
  ·rename_i sz id i off len cap b hsz hx hy
   split at h
   ·rename_i l ty s src kk hc hsrc
    split at h
    ·rename_i new htk
     split at h
     ·rename_i l' hsc hov
      obtain ⟨hp', h1, rfl⟩ := one_ok h
      have hro := zqA h1
      obtain ⟨hs, rfl⟩ := zqB h1
      obtain ⟨bb, cc, rl, junk, fr, hW, hr, hl, h4, h5⟩ := hH.cells hc
      obtain ⟨ux, hux, b', c', hr', rfl, hlc⟩ := evO_ok hG hE hx
      rw [hr] at hr'; cases hr'
      obtain ⟨uy, huy, hvy⟩ := evO_ok hG hE hy
      obtain ⟨us, hus, hul, hlen, hcells⟩ := srcOf_ok (P := P) hH hvy hsrc
      obtain ⟨htk1, htk2⟩ := zqP htk
      have hnew : RL ρ new (us.take (Nat.min kk len * sz)) := by rw [htk1]; exact hus.take _
      obtain ⟨h6, h7, h8⟩ := zkV hov hl hnew
      have hargs := two_args hxs (he.eval hux) (he.eval huy)
      obtain ⟨w', hst, hh'⟩ := zqM (P := P) (off := off) (us.take (Nat.min kk len * sz)) 0 (rl ++ junk) w _ hh (zqf (hH.lt hc) hW) (zxe hnew hsc) (by simp only [List.length_append]; omega) (λ j hj => h5.2 _ (by simp only [List.length_append]; omega))
      have e1 : putAt (rl ++ junk) off (us.take (Nat.min kk len * sz)) = putAt rl off (us.take (Nat.min kk len * sz)) ++ junk := by
       unfold putAt
       rw [List.take_append_of_le_length (by omega), List.drop_append_of_le_length (by omega)]
       simp
      refine ⟨_, List.mem_singleton.2 rfl, ρ, upd W id (some (bb, .cells (putAt rl off (us.take (Nat.min kk len * sz)) ++ junk).toArray ty fr)), goInt (Nat.min kk len), w', ?_, ?_, Rho.le_refl _, hH.put hs ⟨cc, _, junk, fr, hr, h6, rfl, ?_, ?_⟩, rfl, rfl, Stay.put hro⟩
      ·simp only [execOp, resolve, invoke, builtin, Builtin.copy_, hargs, hts, Sem.run_bind, Sem.run_pure, Result.andThen_ok, List.getElem?_toArray, List.getElem?_cons_zero, List.getElem?_cons_succ, underlying, run_program, hT, hlen, zqg w hsz, hcells Γ F w hh _ (Nat.min_le_left _ _), List.toList_toArray, hst]
      ·rw [Nat.add_zero, e1] at hh'
       refine hh'.weaken λ q hq => ?_
       have := zxx (W := upd W id none) (hH.lt hc) q hq
       rwa [zxT] at this
      ·rw [<- h4]; simp only [List.length_append, zqR h7]
      ·rw [show (putAt rl off (us.take (Nat.min kk len * sz)) ++ junk).length = (rl ++ junk).length by simp only [List.length_append, zqR h7]]; exact h5
     ·cases h
    ·cases h
   ·cases h
  ·cases h
 ·cases h
theorem _root_.Go.Z.FrOk.freeze {lo hi N : Nat} (h : FrOk (lo, hi) N) : FrOk (if lo == hi then (N, N + 1) else (min lo N, max hi (N + 1))) N := by
 obtain ⟨h6, h7⟩ := h
 simp only at h6 h7
 split
 ·exact ⟨by simp, λ j hj => by simp; omega⟩
 ·rename_i hne
  have hne : lo ≠ hi := by simpa using hne
  have hlo : N <= lo := by
   rcases Nat.lt_or_ge lo N with h | h
   ·have := h7 lo h
    simp at this
    omega
   ·exact h
  have e1 : min lo N = N := Nat.min_eq_right hlo
  rw [e1]
  refine ⟨?_, λ j hj => ?_⟩
  ·show N <= max hi (N + 1)
   omega
  ·have : ¬ N <= j := by omega
   simp [this]
theorem lSame_ok {a : Option V} (hH : HR ρ hp W) (hw : wants ops L ⟨some d, .convert X Y x, T, p, es, g⟩ = some true) (ht : Nat.blt d n = true) (hx : ∀ v, a = some v -> ∃ u, evalL L x = some u /\ R ρ v u) {outs : List (V × Mem)} (h : lSame P hp X Y a = some outs) (k : Cont P ro n ops r ds L K ρ hp W (some d) outs) :
  Ops P ro n ops (⟨some d, .convert X Y x, T, p, es, g⟩ :: r) ds L (spl hp.n W) K := by
 refine Ops.of_run hw (by simp) ht (λ Γ F a w he hh => ?_) k
 unfold lSame at h
 split at h
 ·rename_i id i off len cap e0 e hS hD hb
  split at h
  ·rename_i l ty s hE hc
   obtain ⟨hp', h1, rfl⟩ := one_ok h
   have hro := zqA h1
   obtain ⟨hs, rfl⟩ := zqB h1
   have hb := beq_tt hb
   subst hb
   obtain ⟨ux, hux, bb, c', hr', rfl, hlc⟩ := hx _ rfl
   obtain ⟨bb', cc, rl, junk, fr, hW, hr, hl, h4, h5⟩ := hH.cells hc
   rw [hr'] at hr; cases hr
   rw [hS] at hD; cases hD
   have hbk := hh.block (zqf (hH.lt hc) hW)
   have e2 : w.shape? bb = some (ty, (rl ++ junk).length) := by simp [World.shape?, hbk]
   obtain ⟨fr', hfr', hbk2⟩ : ∃ fr' : Nat × Nat, FrOk fr' (rl ++ junk).length /\ (w.freeze ⟨bb, (rl ++ junk).length, none⟩ 1).heap[bb]? = some (.cells (rl ++ junk).toArray ty fr') := by
    simp only [World.freeze, Nat.one_ne_zero, if_false, Array.getElem?_modify, if_true, hbk, Option.map_some]
    refine ⟨_, ?_, rfl⟩
    obtain ⟨lo, hi⟩ := fr
    exact h5.freeze
   have hhW : Hold Γ (pt bb (.cells (rl ++ junk).toArray ty fr') :: spl hp.n (upd W id none)) F (w.freeze ⟨bb, (rl ++ junk).length, none⟩ 1) := by
    refine hh.turn (zqf (hH.lt hc) hW) rfl rfl rfl hbk2 λ q hq => ?_
    simp only [World.freeze, Nat.one_ne_zero, if_false, Array.getElem?_modify]
    rw [if_neg (λ h => hq h.symm)]
   refine ⟨_, List.mem_singleton.2 rfl, ρ, upd W id (some (bb, .cells (rl ++ junk).toArray ty fr')), .slice (some ⟨bb, off, none⟩) len (cap.getD (c' - i)), w.freeze ⟨bb, (rl ++ junk).length, none⟩ 1, ?_, ?_, Rho.le_refl _, hH.put hs ⟨c', rl, junk, fr', hr', hl, rfl, h4, hfr'⟩, ⟨bb, c', hr', rfl, hlc⟩, rfl, Stay.put hro⟩
   rotate_left
   ·exact hhW.weaken λ q hq => by
     have := zxx (W := upd W id none) (hH.lt hc) q hq
     rwa [zxT] at this
   ·simp only [execOp, convert, he.eval hux, underlying, Sem.run_bind, run_program, Result.andThen_ok, hS, Sem.run_pure, beq_self_eq_true, hE, markStringish, run_shape, e2, run_freeze]
  ·cases h
 ·cases h
end
end
end Go.Y
namespace Go.Y
open Go.Z
noncomputable section
inductive O where
 | normal | exit (id : Nat) | goto (l : Nat) | ret | panic (v : V)
inductive E where
 | ret (v : V) | pan (v : V)
inductive DV where
 | mark (id : Nat) | call (f : Nat) (args : List V)
structure FI where
 nt : Nat
 ro : Option Nat
abbrev KK := O -> List DV -> Tr V -> Mem -> Bool
abbrev KE := E -> Mem -> Bool
abbrev KR := O -> Option V -> Tr V -> Mem -> Bool
inductive ND where
 | off
 | ptr (l : List V) (ty sz : Nat)
 | sl (len : Nat) (l : List V) (ty sz : Nat)
structure Dr where
 ro : List Lk
 lk : List (Nat × Lk)
 nd : List (Nat × ND)
def lks (lk : List (Nat × Lk)) (r : List Lk) : List Lk := match lk with | [] => r | x :: l => x.2 :: lks l r
inductive Task where
 | code (fi : FI) (c : Code) (ds : List DV) (env : Tr V) (hp : Mem) (k : KK)
 | ops (fi : FI) (arr : Array Oper) (l : List Oper) (ds : List DV) (env : Tr V) (hp : Mem) (k : KK)
 | draw (fi : FI) (arr : Array Oper) (pi : List (Nat × Md)) (ro : Dr) (ds : List DV) (env : Tr V) (hp : Mem) (k : KK)
 | call (f : Nat) (args : List V) (hp : Mem) (k : KE)
 | leave (fn : Func) (ds : List DV) (mode : Option V) (env : Tr V) (hp : Mem) (k : KE)
 | dcode (nt : Nat) (c : Code) (env : Tr V) (hp : Mem) (rc : Option V) (k : KR)
 | dops (nt : Nat) (arr : Array Oper) (l : List Oper) (env : Tr V) (hp : Mem) (rc : Option V) (k : KR)
def wantsV (ops : Array Oper) (env : Tr V) (o : Oper) : Option Bool :=
 match o.guard with
 | none => some true
 | some (j, b) => match ops[j]? with
  | some oj => match oj.dst with
   | some t => match env.get t with | some (.bool c) => some (c == b) | some .und => some false | _ => none
   | none => none
  | none => none
def dstC (d : Option Nat) (n : Nat) : Bool := match d with | some t => Nat.blt t n | none => true
def putE (d : Option Nat) (v : V) (env : Tr V) : Tr V := match d with | some t => Tr.set 20 env t (some v) | none => env
def allO (k : V -> Mem -> Bool) : List (V × Mem) -> Bool
 | [] => true
 | (v, h) :: l => match k v h with | true => allO k l | false => false
def argE : Nat -> List V -> Tr V -> Tr V
 | _, [], t => t
 | i, v :: l, t => argE (i + 1) l (Tr.set 20 t i (some v))
def resV (P : Program) (env : Tr V) (hp : Mem) : ResultVar -> Option V
 | .tmp t => env.get t
 | .cell t T => match env.get t with
  | some (.ptr id off) => match hp.t.get id with | some (.cells l ty s) => partV P T l off | _ => none
  | _ => none
def resultV (P : Program) (fn : Func) (env : Tr V) (hp : Mem) : Option V :=
 match fn.results.toList with
 | [] => some (.tup [])
 | [a] => resV P env hp a
 | l => match mapO (resV P env hp) l with | some vs => some (.tup vs) | none => none
def methodV (P : Program) (t : TypeId) (name : String) : Option Nat :=
 match P.info? t, P.underlying t with
 | some i, some sd => match i.methods.find? (·.name == name) with
  | some m => match m.path.isEmpty, m.func with
   | true, some (f, pr) => match sd, pr with
    | .pointer _, true => some f
    | .pointer _, false => none
    | _, false => some f
    | _, true => none
   | _, _ => none
  | none => none
 | _, _ => none
inductive Step where
 | val (v : V) (rd : List Lk)
 | outs (l : List (V × Mem))
 | call (f : Nat) (args : List V)
 | round (id : Nat) (args : List V)
 | defer (f : Nat) (args : List V)
 | pan (v : V)
 | bad
def ofQ : Option (V × List Lk) -> Step
 | some (v, rd) => .val v rd
 | none => .bad
def ofL : Option (List (V × Mem)) -> Step
 | some l => .outs l
 | none => .bad
def extQ (name : String) (args : List V) : Option V := match name == "internal/abi.NoEscape" with
 | true => match args with | [x] => some x | _ => none
 | false => match name == "internal/bytealg.IndexByteString" with
  | true => match args with
   | [.str l, .int .u8 (.ofNat c)] => some (.int .i64 (indexB l (UInt8.ofNat c)))
   | [.sstr l, .int .u8 (.ofNat c)] => some (.sint .i64 (indexB l (UInt8.ofNat c)))
   | _ => none
  | false => none
def extV (P : Program) (name origin : String) (rts : List TypeId) (args : List V) (hp : Mem) : Step := match name == "maps.clone" && origin == "" with
 | true => match args with
  | [.ifc t (.map id)] => match hp.t.get id with
   | some (.map es clk) => ofL (one (.ifc t (.map hp.n)) (hp.newS (.map es clk)))
   | _ => .bad
  | _ => .bad
 | false => match origin == "", name == "internal/bytealg.MakeNoZero" with
  | true, true => match rts, args with
   | [t], [.int .i64 (.ofNat m)] => match P.underlying t, Nat.blt m 1000000 with
    | some (.slice e), true => ofL (one (.sl hp.n 0 0 m none) (hp.newS (.cells [] e 1)))
    | _, _ => .bad
   | _, _ => .bad
  | true, false => match extQ name args with
   | some v => .val v []
   | none => .bad
  | _, _ => .bad
def callF (P : Program) (f : Nat) (args : List V) (hp : Mem) : Step := match P.funcs[f]? with
 | some fn => match fn.body with
  | some _ => .call f args
  | none => extV P fn.name fn.origin fn.resultTypes.toList args hp
 | none => .bad
def callV (P : Program) (hp : Mem) (f : Option V) (xs : Option (List V)) : Step := match f, xs with
 | some (.fn (.func f) a b), some xs => callF P f (a ++ xs ++ b) hp
 | some (.yld id), some xs => .round id xs
 | _, _ => .bad
def deferV (f : Option V) (xs : Option (List V)) : Step := match f, xs with
 | some (.fn (.func f) a b), some xs => .defer f (a ++ xs ++ b)
 | _, _ => .bad
def invokeV (P : Program) (x : Option V) (name : String) (xs : Option (List V)) : Step := match x, xs with
 | some (.ifc t v), some xs => match methodV P t name with | some f => .call f (v :: xs) | none => .bad
 | _, _ => .bad
def appendV (P : Program) (G : GV) (env : Tr V) (hp : Mem) (xs : List Operand) (ts : List TypeId) : Step := match xs, ts with
 | [x, y], [t, xt] => match lAppend P G env hp t xt x y with
  | some l => .outs l
  | none => ofL (lAppendH P G env hp t xt x y)
 | _, _ => .bad
def two (f : TypeId -> Operand -> Operand -> Option (List (V × Mem))) (xs : List Operand) (ts : List TypeId) : Step := match xs, ts with
 | [x, y], t :: _ => ofL (f t x y)
 | _, _ => .bad
def convV (P : Program) (G : GV) (env : Tr V) (hp : Mem) (s t : TypeId) (x : Operand) : Step := match quiet P G env hp (.convert s t x) with
 | some (v, rd) => .val v rd
 | none => match lConv P G env hp s t x with
  | some l => .outs l
  | none => ofL (lSame P hp s t (evO G env x))
def panicV : Option V -> Step
 | some (.ifc t v) => .pan (.ifc t v)
 | _ => .bad
def needD (d : Option Nat) (s : Step) : Step := match d with | some _ => s | none => .bad
def needN (d : Option Nat) (s : Step) : Step := match d with | some _ => .bad | none => s
def stepC (P : Program) (G : GV) (env : Tr V) (hp : Mem) (d : Option Nat) (c : Call) : Step := match c.callee with
 | .builtin .append => needD d (appendV P G env hp c.args.toList c.argTypes.toList)
 | .builtin .copy => two (lCopy P G env hp) c.args.toList c.argTypes.toList
 | .builtin .delete => two (lDelete P G env hp) c.args.toList c.argTypes.toList
 | .builtin .unsafeString => needD d (ofL (lUStr P G env hp c.argTypes.toList c.args.toList))
 | .builtin b => needD d (ofQ (quiet P G env hp (.call c)))
 | .value f => callV P hp (evO G env f) (mapO (evO G env) c.args.toList)
 | .invoke x name => invokeV P (evO G env x) name (mapO (evO G env) c.args.toList)
def stepD (G : GV) (env : Tr V) (c : Call) : Step := match c.callee with
 | .value f => deferV (evO G env f) (mapO (evO G env) c.args.toList)
 | _ => .bad
def stepV (P : Program) (G : GV) (env : Tr V) (hp : Mem) (d : Option Nat) (op : Op) : Step :=
 match op with
 | .alloc t => needD d (ofL (lAlloc P hp t))
 | .box t x => needD d (ofL (lBox G env hp t x))
 | .store t x y => needN d (ofL (lStore P G env hp t x y))
 | .buildSlice t 0 parts => needD d (ofL (zjb P hp t parts))
 | .buildSlice t len parts => needD d (ofL (zjL P G env hp t len parts))
 | .makeSlice t x y => needD d (ofL (zkD P G env hp t x y))
 | .makeMap _ res => needD d (ofL (lMakeMap hp res))
 | .mapUpdate t x y z => needN d (ofL (zxP P G env hp t x y z))
 | .insert t x y z => needN d (ofL (zxP P G env hp t x y z))
 | .range t x => needD d (ofL (lRange P G env hp t x))
 | .next x s => needD d (ofL (lNext G env hp x s))
 | .convert s t x => needD d (convV P G env hp s t x)
 | .panic x => panicV (evO G env x)
 | .call c => stepC P G env hp d c
 | .defer c => stepD G env c
 | op => needD d (ofQ (quietA P G env hp op))
def isLoud (o : Oper) : Bool :=
 match o.op with
 | .alloc _ | .box _ _ | .store _ _ _ | .buildSlice _ _ _ | .makeSlice _ _ _ | .makeMap _ _ | .mapUpdate _ _ _ _ | .insert _ _ _ _ | .range _ _ | .next _ _ | .panic _ => true
 | .call c => match c.callee with
  | .builtin .len => false | .builtin .max => false | .builtin .min => false
  | _ => true
 | _ => false
def isNew (o : Oper) : Bool :=
 match o.op with
 | .alloc _ | .box _ _ | .buildSlice _ _ _ => true
 | _ => false
def kindO (o : Oper) : Nat := match isNew o with | true => 2 | false => match isLoud o with | true => 1 | false => 0
def trs : List Oper -> List Nat -> List Nat
 | [], _ => []
 | o :: l, seen => -- seen: the earlier ones' bits, the first one first
  let t := o.after.toList.foldl (λ s e => if Region.binds .any e then Nat.lor s (Nat.lor (Nat.shiftLeft 1 e.on) ((nth seen e.on).getD 0)) else s) 0
  t :: trs l (seen ++ [t])
def sub (a b : Nat) : Bool := Nat.beq (Nat.land a b) a
def findR (kind : Nat) (done : Nat) : List (Nat × Nat × Nat) -> Option (Nat × Nat × Nat)
 | [] => none
 | (i, w, t) :: l => match Nat.beq w kind && sub t done with | true => some (i, w, t) | false => findR kind done l
def dropR (i : Nat) : List (Nat × Nat × Nat) -> List (Nat × Nat × Nat)
 | [] => []
 | (j, w, t) :: l => match Nat.beq i j with | true => l | false => (j, w, t) :: dropR i l
def ordR : Nat -> List (Nat × Nat × Nat) -> Nat -> List (Nat × Nat × Nat)
 | 0, _, _ => []
 | f + 1, l, done => match findR 0 done l with
  | some (i, w, t) => (i, w, t) :: ordR f (dropR i l) (Nat.lor done (Nat.shiftLeft 1 i))
  | none => match findR 1 done l with
   | some (i, w, t) => (i, w, t) :: ordR f (dropR i l) (Nat.lor done (Nat.shiftLeft 1 i))
   | none => match findR 2 done l with
    | some (i, w, t) => (i, w, t) :: ordR f (dropR i l) (Nat.lor done (Nat.shiftLeft 1 i))
    | none => []
def nextW : List (Nat × Nat × Nat) -> Option Nat
 | [] => none
 | (_, w, t) :: l => match Nat.beq w 1 with | true => some t | false => nextW l
def modes : Nat -> List (Nat × Nat × Nat) -> List (Nat × Md)
 | _, [] => []
 | pw, (i, 1, _) :: l => (i, .w) :: modes (Nat.lor pw (Nat.shiftLeft 1 i)) l
 | pw, (i, 2, t) :: l => (i, match sub pw t with | true => .n | false => .m) :: modes pw l
 | pw, (i, _, _) :: l => (i, match nextW l with | none => .a | some t => match Nat.testBit t i with | true => .a | false => .c) :: modes pw l
def looksM (arr : Array Oper) (o : Oper) : Nat := (looks arr o).foldl (λ s t => Nat.lor s (Nat.shiftLeft 1 t)) 0
def enumR (arr : Array Oper) : Nat -> List Oper -> List Nat -> Nat -> List (Nat × Nat × Nat)
 | i, o :: l, t :: ts, seen => (i, (match o.dst with | some d => (match Nat.testBit seen d with | true => 1 | false => kindO o) | none => kindO o), t) :: enumR arr (i + 1) l ts (Nat.lor seen (looksM arr o))
 | _, _, _, _ => []
def piOf (arr : Array Oper) : List (Nat × Md) := modes 0 (ordR arr.size (enumR arr 0 arr.toList (trs arr.toList []) 0) 0)
def Mem.setRo (hp : Mem) (ro : List Lk) : Mem := ⟨hp.n, hp.t, ro⟩
def seqK (ih : Task -> Bool) (fi : FI) (b : Code) (k : KK) : KK := λ o ds env hp => match o with
 | .normal => ih (.code fi b ds env hp k)
 | o => k o ds env hp
def scK (k : KK) : KK := λ o ds env hp => match o with
 | .goto _ => false
 | o => k o ds env hp
def blkK (id : Nat) (k : KK) : KK := λ o ds env hp => match o with
 | .exit i => ifB (Nat.beq i id) (k .normal ds env hp) (k (.exit i) ds env hp)
 | o => k o ds env hp
def goCond (ih : Task -> Bool) (fi : FI) (b : Option V) (x y : Code) (ds : List DV) (env : Tr V) (hp : Mem) (k : KK) : Bool := match b with
 | some (.bool true) => ih (.code fi x ds env hp k)
 | some (.bool false) => ih (.code fi y ds env hp k)
 | _ => false
def goRegion (ih : Task -> Bool) (fi : FI) (arr : Array Oper) (dr : Bool) (ds : List DV) (env : Tr V) (hp : Mem) (k : KK) : Bool := match dr with
 | false => ih (.ops fi arr arr.toList ds env hp k)
 | true => match zkT arr (piOf arr) && noSel arr with
  | true => ih (.draw fi arr (piOf arr) ⟨hp.ro, [], []⟩ ds env hp k)
  | false => false
def zxK (hp : Mem) (l : Nat) (st : LoopState) (pend : Option Code) : Option Mem := match hp.t.get l with
 | some (.loop _ _ env nt ps assign body d) => hp.putS l (some (.loop st pend env nt ps assign body d))
 | _ => none
def notBusy : LoopState -> Bool
 | .busy => false
 | _ => true
def pendK (ih : Task -> Bool) (fi : FI) (ds : List DV) (env : Tr V) (k : KK) (pend : Option Code) (hp : Mem) : Bool := match pend with
 | none => k .normal ds env hp
 | some c => ih (.code fi c ds env hp k)
def rangeK (ih : Task -> Bool) (fi : FI) (l : Nat) (ds : List DV) (env : Tr V) (k : KK) : KE := λ e hp => match e with
 | .pan v => k (.panic v) ds env hp
 | .ret _ => match hp.t.get l, hp.putS l none with
  | some (.loop st pend _ _ _ _ _ _), some h => ifB (notBusy st) (pendK ih fi ds env k pend h) false
  | _, _ => false
def goRange (ih : Task -> Bool) (fi : FI) (g : Option V) (ps : Array Tmp) (assign body : Code) (ds : List DV) (env : Tr V) (hp : Mem) (k : KK) : Bool := match g with
 | some (.fn (.func f) a b) => match fi.ro with
  | none => match hp.newS .defr with
   | some h1 => match h1.newS (.loop .ready none env fi.nt ps assign body hp.n) with
    | some h2 => ih (.call f (a ++ [.yld h1.n] ++ b) h2 (rangeK ih fi h1.n (.mark hp.n :: ds) env k))
    | none => false
   | none => false
  | some l0 => match hp.t.get l0 with
   | some (.loop _ _ _ _ _ _ _ d) => match hp.newS (.loop .ready none env fi.nt ps assign body d) with
    | some h2 => ih (.call f (a ++ [.yld hp.n] ++ b) h2 (rangeK ih fi hp.n ds env k))
    | none => false
   | _ => false
 | _ => false
def goCode (G : GV) (ih : Task -> Bool) (fi : FI) (c : Code) (ds : List DV) (env : Tr V) (hp : Mem) (k : KK) : Bool := match c with
 | .skip => k .normal ds env hp
 | .label _ => k .normal ds env hp
 | .ret => k .ret ds env hp
 | .exit id => k (.exit id) ds env hp
 | .seq a b => ih (.code fi a ds env hp (seqK ih fi b k))
 | .cond c a b => goCond ih fi (evO G env c) a b ds env hp k
 | .block id c => ih (.code fi c ds env hp (blkK id k))
 | .scope c => ih (.code fi c ds env hp (scK k))
 | .loop c => ih (.code fi c ds env hp (seqK ih fi (.loop c) k))
 | .region _ arr dr => goRegion ih fi arr dr ds env hp k
 | .rangeFunc g ps assign body => goRange ih fi (evO G env g) ps assign body ds env hp k
 | _ => false
def retK (ih : Task -> Bool) (fi : FI) (arr : Array Oper) (r : List Oper) (d : Option Nat) (ds : List DV) (env : Tr V) (k : KK) : KE := λ e hp => match e with
 | .ret v => ih (.ops fi arr r ds (putE d v env) hp k)
 | .pan v => k (.panic v) ds env hp
def zjh (nt : Nat) : List Tmp -> List V -> Tr V -> Option (Tr V)
 | [], [], t => some t
 | p :: ps, v :: vs, t => match Nat.blt p nt with | true => zjh nt ps vs (Tr.set 20 t p (some v)) | false => none
 | _, _, _ => none
def endRd (l : Nat) (ke : KE) : KK := λ o ds env hp => match ds with
 | [] => match o with
  | .normal => match zxK hp l .ready none with | some h => ke (.ret (.bool true)) h | none => false
  | .ret => match zxK hp l .done (some .ret) with | some h => ke (.ret (.bool false)) h | none => false
  | .exit i => match zxK hp l .done (some (.exit i)) with | some h => ke (.ret (.bool false)) h | none => false
  | _ => false
 | _ => false
def rdK (ih : Task -> Bool) (fi : FI) (l : Nat) (body : Code) (ke : KE) : KK := λ o ds env hp => match o, ds with
 | .normal, [] => match hp.t.get l with
  | some (.loop .ready pend env0 nt ps assign bd d) => match hp.putS l (some (.loop .busy pend env0 nt ps assign bd d)) with
   | some h => ih (.code fi body [] env h (endRd l ke))
   | none => false
  | _ => false
 | _, _ => false
def goRound (ih : Task -> Bool) (l : Nat) (args : List V) (hp : Mem) (ke : KE) : Bool := match hp.t.get l with
 | some (.loop _ _ env nt ps assign body _) => match zjh nt ps.toList args env, small nt with
  | some env', true => ih (.code ⟨nt, some l⟩ assign [] env' hp (rdK ih ⟨nt, some l⟩ l body ke))
  | _, _ => false
 | _ => false
def forkB (k : V -> Bool) (v : V) : Bool := match v with
 | .anyB => (match k (.bool true) with | true => k (.bool false) | false => false)
 | v => k v
def goStep (ih : Task -> Bool) (fi : FI) (arr : Array Oper) (d : Option Nat) (r : List Oper) (ds : List DV) (env : Tr V) (hp : Mem) (k : KK) (s : Step) : Bool := match s with
 | .val v _ => forkB (λ v => ih (.ops fi arr r ds (putE d v env) hp k)) v
 | .outs outs => allO (λ v hp => ih (.ops fi arr r ds (putE d v env) hp k)) outs
 | .call f args => ih (.call f args hp (retK ih fi arr r d ds env k))
 | .round l args => goRound ih l args hp (retK ih fi arr r d ds env k)
 | .defer f args => match fi.ro with
  | none => ih (.ops fi arr r (.call f args :: ds) (putE d .und env) hp k)
  | some _ => false
 | .pan v => k (.panic v) ds env hp
 | .bad => false
def goWant (P : Program) (G : GV) (ih : Task -> Bool) (fi : FI) (arr : Array Oper) (o : Oper) (r : List Oper) (ds : List DV) (env : Tr V) (hp : Mem) (k : KK) (w : Option Bool) : Bool := match w with
 | some true => goStep ih fi arr o.dst r ds env hp k (stepV P G env hp o.dst o.op)
 | some false => ih (.ops fi arr r ds (putE o.dst .und env) hp k)
 | none => false
def goOps (P : Program) (G : GV) (ih : Task -> Bool) (fi : FI) (arr : Array Oper) (l : List Oper) (ds : List DV) (env : Tr V) (hp : Mem) (k : KK) : Bool := match l with
 | [] => k .normal ds env hp
 | o :: r => match dstC o.dst fi.nt with | true => goWant P G ih fi arr o r ds env hp k (wantsV arr env o) | false => false
def drawK (ih : Task -> Bool) (fi : FI) (arr : Array Oper) (pi : List (Nat × Md)) (ro : Dr) (len : Nat) (k : KK) : KK := λ o ds env hp => match o with
 | .normal => match Nat.beq ds.length len with | true => ih (.draw fi arr pi ro ds env hp k) | false => false
 | .panic v => k (.panic v) ds .nil (hp.setRo ro.ro)
 | _ => false
def goDrawQ (ih : Task -> Bool) (fi : FI) (arr : Array Oper) (i : Nat) (m : Md) (d : Option Nat) (pi : List (Nat × Md)) (ro : Dr) (ds : List DV) (env : Tr V) (hp : Mem) (k : KK) (q : Option (V × List Lk)) : Bool := match q, m, d with
 | some (v, _), .a, some d => forkB (λ v => ih (.draw fi arr pi ro ds (Tr.set 20 env d (some v)) hp k)) v
 | some (v, []), .c, some d => forkB (λ v => ih (.draw fi arr pi ro ds (Tr.set 20 env d (some v)) hp k)) v
 | some (v, [id]), .c, some d => forkB (λ v => ih (.draw fi arr pi ⟨ro.ro, (i, id) :: ro.lk, ro.nd⟩ ds (Tr.set 20 env d (some v)) (hp.setRo (id :: hp.ro)) k)) v
 | _, _, _ => false
def goDrawW (P : Program) (G : GV) (ih : Task -> Bool) (fi : FI) (arr : Array Oper) (o : Oper) (i : Nat) (m : Md) (pi : List (Nat × Md)) (ro : Dr) (ds : List DV) (env : Tr V) (hp : Mem) (k : KK) (w : Option Bool) : Bool := match w with
 | some true => goDrawQ ih fi arr i m o.dst pi ro ds env hp k (quietA P G env hp o.op)
 | some false => ih (.draw fi arr pi ro ds (putE o.dst .und env) hp k)
 | none => false
def newD (P : Program) (G : GV) (env : Tr V) (op : Op) : Option ND := match op with
 | .alloc t => match zeroV P t with | some z => some (.ptr (cellsV z) t (cellsV z).length) | none => none
 | .box t x => match evO G env x with | some z => some (.ptr (cellsV z) t (cellsV z).length) | none => none
 | .buildSlice t 0 parts => match P.underlying t, parts.toList with
  | some (.slice e), [] => match sizeP P e with | some sz => some (.sl 0 [] e sz) | none => none
  | _, _ => none
 | .buildSlice t len parts => match P.underlying t with
  | some (.slice e) => match sizeP P e, zeroV P e, mapO (evO G env) (parts.toList.map (·.2)) with
   | some sz, some z, some vs => match Nat.ble (len * sz) 16777216, Nat.blt 0 (len * sz), Nat.beq (cellsV z).length sz, fillV (λ i => some (i * sz, sz)) (flatV len (cellsV z)) ((parts.toList.map (·.1)).zip vs) with
    | true, true, true, some l => some (.sl len l e sz)
    | _, _, _, _ => none
   | _, _, _ => none
  | _ => none
 | _ => none
def instD (hp : Mem) (d : ND) : Option (V × Mem) := match d with
 | .off => some (.und, hp)
 | .ptr l ty sz => match hp.newS (.cells l ty sz) with | some h => some (.ptr hp.n 0, h) | none => none
 | .sl len l ty sz => match hp.newS (.cells l ty sz) with | some h => some (.sl hp.n 0 0 len none, h) | none => none
def lookN : List (Nat × ND) -> Nat -> Option ND
 | [], _ => none
 | (j, d) :: l, i => match Nat.beq j i with | true => some d | false => lookN l i
def zjM (o : Oper) : Bool := match o.op with | .defer _ => true | _ => false
def ndW (P : Program) (G : GV) (env : Tr V) (o : Oper) (w : Option Bool) : Option ND := match w with
 | some true => newD P G env o.op
 | some false => some .off
 | none => none
def evD (P : Program) (G : GV) (arr : Array Oper) (nt : Nat) (env : Tr V) (ids : List Nat) (all : List (Nat × Md)) : List (Nat × Md) -> Option (List (Nat × ND))
 | [] => some []
 | (j, .m) :: l => match ids.contains j, noPred arr j all with
  | false, true => match arr[j]? with
   | some o => match dstC o.dst nt, zjM o, ndW P G env o (wantsV arr env o), evD P G arr nt env (j :: ids) all l with
    | true, false, some d, some r => some ((j, d) :: r)
    | _, _, _, _ => none
   | none => none
  | _, _ => evD P G arr nt env ids all l
 | _ :: l => evD P G arr nt env ids all l
def goDrawM (ih : Task -> Bool) (fi : FI) (arr : Array Oper) (o : Oper) (pi : List (Nat × Md)) (ro : Dr) (ds : List DV) (env : Tr V) (k : KK) (q : Option (V × Mem)) : Bool := match q with
 | some (v, h) => ih (.draw fi arr pi ro ds (putE o.dst v env) h k)
 | none => false
def goDrawN1 (ih : Task -> Bool) (fi : FI) (arr : Array Oper) (o : Oper) (pi : List (Nat × Md)) (ro : Dr) (ds : List DV) (env : Tr V) (hp : Mem) (k : KK) (q : Option ND) : Bool := match q with
 | some d => goDrawM ih fi arr o pi ro ds env k (instD hp d)
 | none => false
def goDrawN (P : Program) (G : GV) (ih : Task -> Bool) (fi : FI) (arr : Array Oper) (o : Oper) (pi : List (Nat × Md)) (ro : Dr) (ds : List DV) (env : Tr V) (hp : Mem) (k : KK) (w : Option Bool) : Bool := match w with
 | some true => goDrawN1 ih fi arr o pi ro ds env hp k (newD P G env o.op)
 | some false => ih (.draw fi arr pi ro ds (putE o.dst .und env) hp k)
 | none => false
def goDrawL (ih : Task -> Bool) (fi : FI) (arr : Array Oper) (o : Oper) (i : Nat) (pi : List (Nat × Md)) (ro : Dr) (ds : List DV) (env : Tr V) (hp : Mem) (k : KK) : Bool := match zqJ arr (ro.nd.map (·.1)) [i] pi with
 | true => ih (.ops fi arr [o] ds env (hp.setRo (lks ro.lk ro.ro)) (drawK ih fi arr pi ro ds.length k))
 | false => false
def goDrawE (ih : Task -> Bool) (fi : FI) (arr : Array Oper) (o : Oper) (i : Nat) (pi : List (Nat × Md)) (ro : Dr) (ds : List DV) (env : Tr V) (hp : Mem) (k : KK) (gs : Option (List (Nat × ND))) : Bool := match gs with
 | some gs => goDrawL ih fi arr o i pi ⟨ro.ro, still arr i ro.lk, gs ++ ro.nd⟩ ds env hp k
 | none => false
def goDraw1 (P : Program) (G : GV) (ih : Task -> Bool) (fi : FI) (arr : Array Oper) (o : Oper) (i : Nat) (m : Md) (pi : List (Nat × Md)) (ro : Dr) (ds : List DV) (env : Tr V) (hp : Mem) (k : KK) : Bool := match m with
 | .w => goDrawE ih fi arr o i pi ro ds env hp k (evD P G arr fi.nt env (ro.nd.map (·.1)) ((i, .w) :: pi) pi)
 | .n => match zqJ arr (ro.nd.map (·.1)) [i] pi with
  | true => goDrawN P G ih fi arr o pi ro ds env hp k (wantsV arr env o)
  | false => false
 | .m => match lookN ro.nd i, zqJ arr (ro.nd.map (·.1)) [i] pi with
  | some d, true => goDrawM ih fi arr o pi ro ds env k (instD hp d)
  | _, _ => false
 | .a => goDrawW P G ih fi arr o i .a pi ro ds env hp k (wantsV arr env o)
 | .c => goDrawW P G ih fi arr o i .c pi ro ds env hp k (wantsV arr env o)
 | .b => false
def goDraw (P : Program) (G : GV) (ih : Task -> Bool) (fi : FI) (arr : Array Oper) (pi : List (Nat × Md)) (ro : Dr) (ds : List DV) (env : Tr V) (hp : Mem) (k : KK) : Bool := match pi with
 | [] => k .normal ds env (hp.setRo ro.ro)
 | (i, m) :: pi => match arr[i]? with
  | some o => match dstC o.dst fi.nt, zjM o with
   | true, false => goDraw1 P G ih fi arr o i m pi ro ds env hp k
   | _, _ => false
  | none => false
def endK (ih : Task -> Bool) (fn : Func) (k : KE) : KK := λ o ds env hp => match o with
 | .normal => ih (.leave fn ds none env hp k)
 | .ret => ih (.leave fn ds none env hp k)
 | .panic v => ih (.leave fn ds (some v) env hp k)
 | _ => false
def goFn (ih : Task -> Bool) (f : Nat) (fn : Option Func) (args : List V) (hp : Mem) (k : KE) : Bool := match fn with
 | some fn => match fn.body, Nat.ble args.length fn.ntmps, small fn.ntmps with
  | some c, true, true => ih (.code ⟨fn.ntmps, none⟩ c [] (argE 0 args .nil) hp (endK ih fn k))
  | _, _, _ => false
 | none => false
def eqA : List V -> List V -> Bool
 | [], [] => true
 | .str a :: l, .str b :: m => match eqB a b with | true => eqA l m | false => false
 | _, _ => false
def lookK : List (Nat × List V × KRes) -> Nat -> List V -> Option KRes
 | [], _, _ => none
 | (g, a, v) :: l, f, args => match Nat.beq g f with
  | true => match eqA a args with | true => some v | false => lookK l f args
  | false => lookK l f args
def eqIs : List V -> List V -> Bool
 | [], [] => true
 | .int k a :: l, .int k' b :: m => match ikeq k k', eqI a b with | true, true => eqIs l m | _, _ => false
 | _, _ => false
def knMem (hp : Mem) : List (Nat × List V) -> Bool
 | [] => true
 | (id, l0) :: r => match hp.t.get id with
  | some (.cells l ty 1) => match eqIs l l0 with | true => knMem hp r | false => false
  | _ => false
def knGet (G : GV) (f : Nat) (args : List V) (hp : Mem) : Option KRes := match lookK G.kn f args with
 | some r => match knMem hp G.vs with | true => some r | false => none
 | none => none
def goCall (G : GV) (ih : Task -> Bool) (f : Nat) (fn : Option Func) (args : List V) (hp : Mem) (k : KE) : Bool := match knGet G f args hp with
 | some (.val v) => k (.ret v) hp
 | some (.map es clk) => match hp.newS (.map es clk) with | some h => k (.ret (.map hp.n)) h | none => false
 | none => goFn ih f fn args hp k
def defK (ih : Task -> Bool) (fn : Func) (ds : List DV) (env : Tr V) (k : KE) : KR := λ o rc env' hp => match o with
 | .normal => ih (.leave fn ds rc env hp k)
 | .ret => ih (.leave fn ds rc env hp k)
 | _ => false
def goLeave (P : Program) (ih : Task -> Bool) (fn : Func) (ds : List DV) (mode : Option V) (env : Tr V) (hp : Mem) (k : KE) : Bool := match ds with
 | [] => match mode with
  | none => match resultV P fn env hp with | some v => k (.ret v) hp | none => false
  | some v => k (.pan v) hp
 | .mark id :: ds => match hp.t.get id, hp.putS id none with
  | some .defr, some h => ih (.leave fn ds mode env h k)
  | _, _ => false
 | .call f args :: ds => match P.funcs[f]? with
  | some fd => match fd.body, fd.results.toList, Nat.ble args.length fd.ntmps, small fd.ntmps with
   | some c, [], true, true => ih (.dcode fd.ntmps c (argE 0 args .nil) hp mode (defK ih fn ds env k))
   | _, _, _, _ => false
  | none => false
def dseqK (ih : Task -> Bool) (nt : Nat) (b : Code) (k : KR) : KR := λ o rc env hp => match o with
 | .normal => ih (.dcode nt b env hp rc k)
 | o => k o rc env hp
def keepK (rc : Option V) (k : KR) : KK := λ o ds env hp => match ds with
 | [] => k o rc env hp
 | _ => false
def zxQ (o : Oper) : Bool := match o.op with
 | .call c => match c.callee with | .builtin .recover => true | _ => false
 | _ => false
def goDCond (ih : Task -> Bool) (nt : Nat) (b : Option V) (x y : Code) (env : Tr V) (hp : Mem) (rc : Option V) (k : KR) : Bool := match b with
 | some (.bool true) => ih (.dcode nt x env hp rc k)
 | some (.bool false) => ih (.dcode nt y env hp rc k)
 | _ => false
def goDCode (G : GV) (ih : Task -> Bool) (nt : Nat) (c : Code) (env : Tr V) (hp : Mem) (rc : Option V) (k : KR) : Bool := match c with
 | .seq a b => ih (.dcode nt a env hp rc (dseqK ih nt b k))
 | .cond c a b => goDCond ih nt (evO G env c) a b env hp rc k
 | .region id arr dr => match arr.toList.any zxQ, dr with
  | true, false => ih (.dops nt arr arr.toList env hp rc k)
  | true, true => false
  | false, _ => ih (.code ⟨nt, none⟩ (.region id arr dr) [] env hp (keepK rc k))
 | c => ih (.code ⟨nt, none⟩ c [] env hp (keepK rc k))
def goDOpQ (ih : Task -> Bool) (nt : Nat) (arr : Array Oper) (d : Option Nat) (r : List Oper) (env : Tr V) (hp : Mem) (rc : Option V) (k : KR) (q : Option (V × List Lk)) : Bool := match q, d with
 | some (v, _), some d => ih (.dops nt arr r (Tr.set 20 env d (some v)) hp rc k)
 | _, _ => false
def goDOp (P : Program) (G : GV) (ih : Task -> Bool) (nt : Nat) (arr : Array Oper) (o : Oper) (r : List Oper) (env : Tr V) (hp : Mem) (rc : Option V) (k : KR) : Bool := match dstC o.dst nt, zxQ o, o.guard with
 | true, true, none => match rc with
  | some v => ih (.dops nt arr r (putE o.dst v env) hp none k)
  | none => ih (.dops nt arr r (putE o.dst .nili env) hp none k)
 | true, false, none => goDOpQ ih nt arr o.dst r env hp rc k (quietA P G env hp o.op)
 | _, _, _ => false
def goDOps (P : Program) (G : GV) (ih : Task -> Bool) (nt : Nat) (arr : Array Oper) (l : List Oper) (env : Tr V) (hp : Mem) (rc : Option V) (k : KR) : Bool := match l with
 | [] => k .normal rc env hp
 | o :: r => goDOp P G ih nt arr o r env hp rc k
def goTask (P : Program) (G : GV) (ih : Task -> Bool) (t : Task) : Bool := match t with
 | .code fi c ds env hp k => goCode G ih fi c ds env hp k
 | .ops fi arr l ds env hp k => goOps P G ih fi arr l ds env hp k
 | .draw fi arr pi ro ds env hp k => goDraw P G ih fi arr pi ro ds env hp k
 | .call f args hp k => goCall G ih f P.funcs[f]? args hp k
 | .leave fn ds mode env hp k => goLeave P ih fn ds mode env hp k
 | .dcode nt c env hp rc k => goDCode G ih nt c env hp rc k
 | .dops nt arr l env hp rc k => goDOps P G ih nt arr l env hp rc k
def go (P : Program) (G : GV) : Nat -> Task -> Bool :=
 Nat.rec (λ _ => false) λ _ ih => goTask P G ih
end
end Go.Y
namespace Go.Y
open Go.Z
noncomputable section
section
variable {P : Program} {ro : Option Nat} {n : Nat} {ops : Array Oper} {r : List Oper} {ds : List Deferred} {L : Lo} {H H' : List SP} {K : Kont} {ρ : Rho} {W : RW} {G : GV} {env : Tr V} {hp hp' : Mem}
 {d : Nat} {dd : Option Nat} {T T' X Y t xt e sz by_ : TypeId} {p : String} {es : Array Edge} {g : Option (Nat × Bool)} {op : Op} {v : V} {u : Value} {x y z : Operand} {A : Option Addr} {m c : Nat} {cells : List Value} {C : SP}
theorem mapO_len {α β : Type} {f : α -> Option β} : ∀ {l : List α} {r : List β}, mapO f l = some r -> r.length = l.length
 | [], r, h => by simp only [mapO, Option.some.injEq] at h; subst h; rfl
 | a :: l, r, h => by
  simp only [mapO] at h
  split at h
  ·split at h
   ·rename_i y _ ys hys; cases h; simp [mapO_len hys]
   ·cases h
  ·cases h
theorem parts_ok (hG : GOk ρ G) (hE : RE ρ env L) {parts : Array (Nat × Operand)} {vs : List V} (h : mapO (evO G env) (parts.toList.map (·.2)) = some vs) :
  ∃ us : List Value, RL ρ vs us /\ (evalAll L (parts.toList.map (·.2)) = some (((parts.toList.map (·.1)).zip us).map (·.2))) /\ parts.toList.map (·.1) = ((parts.toList.map (·.1)).zip us).map (·.1) /\ RPs ρ ((parts.toList.map (·.1)).zip vs) ((parts.toList.map (·.1)).zip us) := by
 obtain ⟨us, hus, hvu⟩ := zqS hG hE h
 have hul : (parts.toList.map (·.1)).length = us.length := by
  rw [hvu.length, mapO_len h]; simp
 refine ⟨us, hvu, ?_, ?_, RPs.zip hvu (by rw [<- hvu.length]; exact hul)⟩
 ·rw [hus]; congr 1
  rw [List.map_snd_zip]; omega
 ·rw [List.map_fst_zip]; omega
theorem nth_fun {α : Type} (l : List α) : (λ i => l.toArray[i]?) = nth l := by funext i; rw [nth_eq]; simp
theorem qBuild_ok (hG : GOk ρ G) (hE : RE ρ env L) {parts : Array (Nat × Operand)} (hw : wants ops L ⟨some d, .build T' parts, T, p, es, g⟩ = some true) (ht : Nat.blt d n = true) {rd : List Lk} (h : qBuild P G env T' parts = some (v, rd)) :
  QOk P n ops ⟨some d, .build T' parts, T, p, es, g⟩ ds L ρ W v rd := by
 unfold qBuild at h
 split at h
 ·rename_i pl zc hl
  split at h
  ·rename_i zv vs hz hvs
   split at h
   ·rename_i l hf
    cases h
    obtain ⟨us, h1, h2, h3, h4⟩ := parts_ok hG hE hvs
    obtain ⟨rr, h5, h6, h7⟩ := zkZ hf (mapO_ok hz) h4
    rw [<- nth_fun] at h5
    exact .pure ⟨_, h6, rfl⟩ λ H => q_build hl h2 h3 h5 hw ht
   ·cases h
  ·cases h
 ·cases h
theorem quietA_ok (hG : GOk ρ G) (hE : RE ρ env L) (hH : HR ρ hp W) (hw : wants ops L ⟨some d, op, T, p, es, g⟩ = some true) (ht : Nat.blt d n = true) {rd : List Lk} (h : quietA P G env hp op = some (v, rd)) :
  QOk P n ops ⟨some d, op, T, p, es, g⟩ ds L ρ W v rd := by
 unfold quietA at h
 split at h
 ·exact qBuild_ok hG hE hw ht h
 ·exact quiet_ok hG hE hH hw ht h
def NDRel (ρ : Rho) (d : ND) (b c : Nat) (us : List Value) (ty : Nat) (u : Value) : Prop := match d with
 | .off => False
 | .ptr l ty' sz => ty' = ty /\ RL ρ l us /\ us.length = c * sz /\ u = .pointer (some ⟨b, 0, none⟩)
 | .sl len l ty' sz => ty' = ty /\ RL ρ l us /\ us.length = c * sz /\ u = .slice (some ⟨b, 0, none⟩) len c /\ len <= c
theorem newD_ok (hG : GOk ρ G) (hE : RE ρ env L) {o : Oper} {d : ND} (h : newD P G env o.op = some d) (a : Act) (w : World) (he : Env a n ds L) :
  ∃ us ty c u, (execOp a.eval o).run P w = .ok (.value u) { w with heap := w.heap.push (.cells us.toArray ty) } /\ NDRel ρ d w.heap.size c us ty u := by
 unfold newD at h
 split at h
 ·rename_i t hop
  split at h
  ·rename_i z hz
   cases h
   obtain ⟨zr, hzr, hzv⟩ := zqO (ρ := ρ) hz
   obtain ⟨us, hc1, hc2⟩ := zqC hzv
   refine ⟨us, t, 1, .pointer (some ⟨w.heap.size, 0, none⟩), ?_, rfl, hc2, by simp [hc2.length], rfl⟩
   ·simp only [execOp, hop, Instr.alloc, Sem.run_bind, zql w hzr, Result.andThen_ok, newVar, newRow, run_newObj, Sem.run_pure, hc1]
  ·cases h
 ·rename_i t x hop
  split at h
  ·rename_i z hz
   cases h
   obtain ⟨zr, hzr, hzv⟩ := evO_ok hG hE hz
   obtain ⟨us, hc1, hc2⟩ := zqC hzv
   refine ⟨us, t, 1, .pointer (some ⟨w.heap.size, 0, none⟩), ?_, rfl, hc2, by simp [hc2.length], rfl⟩
   ·simp only [execOp, hop, Instr.box, he.eval hzr, Sem.run_bind, Result.andThen_ok, newVar, newRow, run_newObj, Sem.run_pure, hc1]
  ·cases h
 ·rename_i t parts hop
  split at h
  ·rename_i e hT hparts
   split at h
   ·rename_i sz hsz
    cases h
    have e1 : parts = #[] := by cases parts; simp at hparts; simp [hparts]
    subst e1
    refine ⟨[], e, 0, .slice (some ⟨w.heap.size, 0, none⟩) 0 0, ?_, rfl, .nil, by simp, rfl, by simp⟩
    ·simp [execOp, hop, Instr.buildSlice, underlying, hT, zqg w hsz, Instr.fill, newRow]
     congr 2
     apply Array.ext'
     simp
   ·cases h
  ·cases h
 ·rename_i t len parts hne hop
  split at h
  ·rename_i e hT
   split at h
   ·rename_i sz z vs hsz hz hvs
    split at h
    ·rename_i l h1 h2 h3 hf
     cases h
     obtain ⟨zr, hzr, hzv⟩ := zqO (ρ := ρ) hz
     obtain ⟨zc, hc1, hc2⟩ := zqC hzv
     have h3 := beq_tt h3
     have hzs : zr.cells.size = sz := by rw [hc1]; simp [hc2.length, h3]
     obtain ⟨us, hvu, hpv, hpi, hrp⟩ := parts_ok hG hE hvs
     have hpos := blt_tt h2
     have hsz0 : 0 < sz := Nat.pos_of_mul_pos_left hpos
     obtain ⟨rr, h5, h6, h7⟩ := zkZ hf (hc2.flat len) hrp
     have hzl : (zr.cells.toList) = zc := by rw [hc1]
     have hflat := zc_flat zr (by omega) len
     rw [hzs, hzl] at hflat
     have hbase : (Array.range (len * sz)).map (zr.cells[· % zr.cells.size]!) = ((List.replicate len zc).flatten).toArray := by
      rw [hzs, <- hflat]
     have hrl : rr.length = len * sz := by
      rw [h6.length, h7]
      have := (hc2.flat len).length
      rw [<- this]; simp [hc2.length, h3]
     rw [<- hbase] at h5
     refine ⟨rr, e, len, .slice (some ⟨w.heap.size, 0, none⟩) len len, ?_, rfl, h6, by simpa using hrl, rfl, Nat.le_refl _⟩
     ·have h1 : ¬ len * sz > 2 ^ 24 := by have := Nat.le_of_ble_eq_true h1; simp only [Nat.reducePow]; omega
      have h2 : ¬ len * sz = 0 := by omega
      have hp : (parts.map λ (i, x) => (i, a.eval x)).toList = (parts.toList.map (·.1)).zip us := by
       have h3 := he.evalAll hpv
       have : parts.toList.map (λ q => (q.1, a.eval q.2)) = (parts.toList.map (·.1)).zip us := by
        have hl : parts.toList.length = ((parts.toList.map (·.1)).zip us).length := by have := congrArg List.length hpi; simpa using this
        apply List.ext_getElem
        ·simpa using hl
        ·intro i hi1 hi2
         have e1 := congrArg (·[i]?) h3
         have e2 := congrArg (·[i]?) hpi
         simp only [List.length_map, Array.length_toList] at hi1
         have hi3 : i < us.length := by simp at hi2; omega
         have hz : ((List.map (λ x => x.fst) parts.toList).zip us)[i]? = some (parts[i].1, us[i]) := by
          rw [List.getElem?_eq_getElem (by simpa using hi2)]
          simp
         simp [hi1, hi3, hz] at e1 ⊢
         exact e1
       simpa using this
      simp only [execOp, hop, Instr.buildSlice, Sem.run_bind, underlying, run_program, Result.andThen_ok, hT, Sem.run_pure, zqg w hsz, if_neg h1, if_neg h2, zql w hzr, hp, h5, newRow, run_newObj]
    ·cases h
   ·cases h
  ·cases h
 ·cases h
end
end
end Go.Y
namespace Go.Y
open Go.Z
noncomputable section
def DRel (P : Program) (ρ : Rho) : DV -> Deferred -> Prop
 | .mark id, d => ∃ b c, ρ id = some (b, c) /\ d.target = .collected b
 | .call f vs, d => ∃ fv cap us, d.target = .fn fv cap /\ RL ρ vs us /\ (zqK P f -> ∀ w, (invoke d.target d.args).run P w = .ok (.enter f us.toArray) w)
def DsRel (P : Program) (ρ : Rho) : List DV -> List Deferred -> Prop
 | [], ds => ds = []
 | x :: l, ds => ∃ d ds', DRel P ρ x d /\ DsRel P ρ l ds' /\ ds = d :: ds'
theorem DRel.mono {P : Program} {ρ ρ' : Rho} (le : ρ.le ρ') {x : DV} {d : Deferred} (h : DRel P ρ x d) : DRel P ρ' x d := by
 cases x with
 | mark id => obtain ⟨b, c, h1, h2⟩ := h; exact ⟨b, c, le _ _ h1, h2⟩
 | call f vs => obtain ⟨fv, cap, us, h1, h2, h3⟩ := h; exact ⟨fv, cap, us, h1, h2.mono le, h3⟩
theorem DsRel.mono {P : Program} {ρ ρ' : Rho} (le : ρ.le ρ') : ∀ {l : List DV} {ds : List Deferred}, DsRel P ρ l ds -> DsRel P ρ' l ds
 | [], _, h => h
 | x :: l, ds, h => by obtain ⟨d, ds', h1, h2, h3⟩ := h; exact ⟨d, ds', h1.mono le, DsRel.mono le h2, h3⟩
theorem DsRel.app {P : Program} {ρ : Rho} : ∀ {l l' : List DV} {ds ds' : List Deferred}, DsRel P ρ l ds -> DsRel P ρ l' ds' -> DsRel P ρ (l ++ l') (ds ++ ds')
 | [], _, _, _, h, h' => by rw [show _ = [] from h]; exact h'
 | x :: l, _, ds, _, h, h' => by obtain ⟨d, ds', h1, h2, rfl⟩ := h; exact ⟨d, _, h1, DsRel.app h2 h', rfl⟩
def DExt (P : Program) (ρ : Rho) (dv0 : List DV) (ds0 : List Deferred) (dv : List DV) (ds : List Deferred) : Prop :=
 ∃ a b, dv = a ++ dv0 /\ ds = b ++ ds0 /\ DsRel P ρ a b
theorem DExt.refl {P : Program} {ρ : Rho} {dv : List DV} {ds : List Deferred} : DExt P ρ dv ds dv ds := ⟨[], [], rfl, rfl, rfl⟩
theorem DExt.mono {P : Program} {ρ ρ' : Rho} (le : ρ.le ρ') {dv0 dv : List DV} {ds0 ds : List Deferred} (h : DExt P ρ dv0 ds0 dv ds) : DExt P ρ' dv0 ds0 dv ds := by
 obtain ⟨a, b, h1, h2, h3⟩ := h; exact ⟨a, b, h1, h2, h3.mono le⟩
theorem DExt.trans {P : Program} {ρ : Rho} {dv0 dv dv' : List DV} {ds0 ds ds' : List Deferred} (h : DExt P ρ dv0 ds0 dv ds) (h' : DExt P ρ dv ds dv' ds') : DExt P ρ dv0 ds0 dv' ds' := by
 obtain ⟨a, b, rfl, rfl, h3⟩ := h; obtain ⟨a', b', rfl, rfl, h4⟩ := h'
 exact ⟨a' ++ a, b' ++ b, by simp, by simp, h4.app h3⟩
theorem DExt.same {P : Program} {ρ : Rho} {dv0 dv : List DV} {ds0 ds : List Deferred} (h : DExt P ρ dv0 ds0 dv ds) (hl : dv.length = dv0.length) : dv = dv0 /\ ds = ds0 := by
 obtain ⟨a, b, rfl, rfl, h3⟩ := h
 have ha : a = [] := by cases a with | nil => rfl | cons x a => simp at hl; omega
 subst ha
 rw [show b = [] from h3]
 exact ⟨rfl, rfl⟩
theorem DExt.base {P : Program} {ρ : Rho} {dv : List DV} {ds : List Deferred} (h : DExt P ρ [] [] dv ds) : DsRel P ρ dv ds := by
 obtain ⟨a, b, rfl, rfl, h3⟩ := h; simpa using h3
def OutRel (ρ : Rho) : O -> Out -> Prop
 | .normal, .normal => True
 | .exit i, .exit j => i = j
 | .goto i, .goto j => i = j
 | .ret, .ret => True
 | .panic v, .panic ch => ∃ u, R ρ v u /\ ch = [{ v := u, recovered := false }]
 | _, _ => False
def EndRel (ρ : Rho) : E -> Ending -> Prop
 | .ret v, .returned u => R ρ v u
 | .pan v, .panicked ch => ∃ u, R ρ v u /\ ch = [{ v := u, recovered := false }]
 | _, _ => False
structure Nx (ρ0 : Rho) (hp0 : Mem) (W0 : RW) (ρ : Rho) (hp : Mem) (W : RW) : Prop where
 le : ρ0.le ρ
 hr : HR ρ hp W
 ro : hp.ro = hp0.ro
 st : Stay hp0 W0 W
theorem Nx.refl {ρ : Rho} {hp : Mem} {W : RW} (h : HR ρ hp W) : Nx ρ hp W ρ hp W := ⟨Rho.le_refl _, h, rfl, .refl⟩
theorem Nx.x {ρ0 ρ : Rho} {hp0 hp : Mem} {W0 W : RW} (nx : Nx ρ0 hp0 W0 ρ hp W) (hx : W0.x = ρ0.x) : Hp.le W0.x W.x := by rw [hx, nx.hr.ext]; exact nx.le.e
theorem Stay.trans {hp hp' : Mem} {W W' W'' : RW} (h : Stay hp W W') (h' : Stay hp' W' W'') (hr : hp'.ro = hp.ro) : Stay hp W W'' := λ id hid => (h id hid).trans (h' id (by rw [hr]; exact hid))
theorem Nx.trans {ρ0 ρ1 ρ2 : Rho} {hp0 hp1 hp2 : Mem} {W0 W1 W2 : RW} (h : Nx ρ0 hp0 W0 ρ1 hp1 W1) (h' : Nx ρ1 hp1 W1 ρ2 hp2 W2) : Nx ρ0 hp0 W0 ρ2 hp2 W2 :=
 ⟨Rho.le_trans h.le h'.le, h'.hr, h'.ro.trans h.ro, h.st.trans h'.st h.ro⟩
def KRel (P : Program) (k : KK) (ρ0 : Rho) (hp0 : Mem) (W0 : RW) (dv0 : List DV) (ds0 : List Deferred) (K : Kont) : Prop :=
 ∀ o dv env hp ρ W ds L out, Nx ρ0 hp0 W0 ρ hp W -> RE ρ env L -> DExt P ρ dv0 ds0 dv ds -> OutRel ρ o out -> k o dv env hp = true -> K out ds L (spl hp.n W)
theorem KRel.at {P : Program} {k : KK} {ρ0 ρ1 : Rho} {hp0 hp1 : Mem} {W0 W1 : RW} {dv0 dv1 : List DV} {ds0 ds1 : List Deferred} {K : Kont} (h : KRel P k ρ0 hp0 W0 dv0 ds0 K) (nx : Nx ρ0 hp0 W0 ρ1 hp1 W1) (dx : DExt P ρ1 dv0 ds0 dv1 ds1) : KRel P k ρ1 hp1 W1 dv1 ds1 K :=
 λ o dv env hp ρ W ds L out n1 hE d1 ho hk => h o dv env hp ρ W ds L out (nx.trans n1) hE ((dx.mono n1.le).trans d1) ho hk
def KERel (k : KE) (ρ0 : Rho) (hp0 : Mem) (W0 : RW) (Post : Ending -> List SP -> Prop) : Prop :=
 ∀ e hp ρ W end_, Nx ρ0 hp0 W0 ρ hp W -> EndRel ρ e end_ -> k e hp = true -> Post end_ (spl hp.n W)
theorem KERel.at {k : KE} {ρ0 ρ1 : Rho} {hp0 hp1 : Mem} {W0 W1 : RW} {Post : Ending -> List SP -> Prop} (h : KERel k ρ0 hp0 W0 Post) (nx : Nx ρ0 hp0 W0 ρ1 hp1 W1) : KERel k ρ1 hp1 W1 Post :=
 λ e hp ρ W en n1 hen hk => h e hp ρ W en (nx.trans n1) hen hk
def FIok (ρ : Rho) (fi : FI) (ro : Option Nat) : Prop := small fi.nt = true /\ match fi.ro, ro with
 | none, none => True
 | some l, some b => ∃ c, ρ l = some (b, c)
 | _, _ => False
theorem FIok.mono {ρ ρ' : Rho} (le : ρ.le ρ') {fi : FI} {ro : Option Nat} (h : FIok ρ fi ro) : FIok ρ' fi ro := by
 refine ⟨h.1, ?_⟩
 have h2 := h.2
 split at h2
 ·trivial
 ·obtain ⟨c, h3⟩ := h2; exact ⟨c, le _ _ h3⟩
 ·exact h2.elim
theorem zqu {d : Option Nat} {n : Nat} (h : dstC d n = true) : dstOk d n = true := by cases d <;> exact h
theorem RE.putE {ρ : Rho} {env : Tr V} {L : Lo} (h : RE ρ env L) {d : Option Nat} {n : Nat} {v : V} {u : Value} (hd : dstC d n = true) (hn : small n = true) (hv : R ρ v u) : RE ρ (putE d v env) (putL d u L) := by
 cases d with
 | none => exact h
 | some t =>
  refine h.put ?_ hv
  have h1 := blt_tt hd
  have h2 := blt_tt hn
  simp only [small, Nat.blt_eq]
  omega
theorem zqv {ρ : Rho} {ops : Array Oper} {env : Tr V} {L : Lo} {o : Oper} {b : Bool} (hE : RE ρ env L) (h : wantsV ops env o = some b) : wants ops L o = some b := by
 unfold wantsV at h
 unfold wants
 cases hg : o.guard with
 | none => simp only [hg] at h ⊢; exact h
 | some q =>
  obtain ⟨j, c⟩ := q
  simp only [hg] at h ⊢
  cases hj : ops[j]? with
  | none => simp [hj] at h
  | some oj =>
   simp only [hj] at h
   cases hd : oj.dst with
   | none => simp [hd] at h
   | some t =>
    simp only [hd] at h
    simp only [Option.bind_some, hd]
    cases he : env.get t with
    | none => simp [he] at h
    | some v =>
     simp only [he] at h
     obtain ⟨u, h1, h2⟩ := hE _ _ he
     cases v <;> simp only [Option.some.injEq] at h <;> first | (cases h; done) | skip
     ·cases h2; simp only [h1, h]
     ·cases h2; simp only [h1, undef, h]
section
variable {P : Program} {ro : Option Nat} {n : Nat} {ops : Array Oper} {r : List Oper} {ds : List Deferred} {L : Lo} {H H' : List SP} {K : Kont} {ρ : Rho} {W : RW} {G : GV} {env : Tr V} {hp hp' : Mem}
 {d : Nat} {dd : Option Nat} {T T' X Y t xt e sz by_ : TypeId} {p : String} {es : Array Edge} {g : Option (Nat × Bool)} {op : Op} {v : V} {u : Value} {x y z : Operand} {A : Option Addr} {m c : Nat} {cells : List Value} {C : SP}
theorem Ops.deferred {o : Oper} {cl : Call} (ho : o.op = .defer cl) {dr : Deferred} (hw : wants ops L o = some true) (ht : dstOk o.dst n = true)
  (hrun : ∀ Γ F a w, Env a n ds L -> Hold Γ H F w -> (resolve a.eval cl o.type).run P w = .ok dr w) (k : Ops P none n ops r (dr :: ds) (putL o.dst undef L) H K) : Ops P none n ops (o :: r) ds L H K := by
 intro Γ F a w Q he hh hq
 simp only [lw, zqU he hw, if_true]
 refine ⟨λ _ _ => trivial, ?_⟩
 have h1 : (o.semAt (fw none).round a.eval).run P w = .ok (.defer dr) w := by
  show (Oper.semAt none a.eval o).run P w = _
  rw [Oper.semAt_none]
  simp only [execOp, ho, Sem.run_bind, hrun Γ F a w he hh, Result.andThen_ok, Sem.run_pure]
 rw [h1, Oper.uponIn_defer]
 have he2 : Env { a with defers := dr :: a.defers } n (dr :: ds) L := ⟨he.size, by simp [he.defs], he.get⟩
 exact k Γ F _ w Q (he2.putO undef ht) hh hq
theorem method_run {name : String} {f : Nat} (h : methodV P t name = some f) (v : Value) (w : World) (k : Nat) : (method (k + 1) t v name).run P w = .ok (f, v) w := by
 unfold methodV at h
 split at h
 ·rename_i i sd hi hs
  split at h
  ·rename_i mm hm
   split at h
   ·rename_i f' pr hpth hfn
    have hp0 : mm.path.toList = [] := by simpa using hpth
    have hti : (typeInfo t).run P w = .ok i w := by simp [typeInfo, hi]
    have hmm : i.methods.find? (λ x => x.name == name) = some mm := hm
    have key : (receiverAt t (.val v) pr (if mm.path.isEmpty then some ((name.splitOn ".").getLastD name) else none)).run P w = .ok v w /\ f' = f := by
     split at h
     ·cases h; exact ⟨by simp [receiverAt, underlying, hs, Place.get], rfl⟩
     ·cases h
     ·rename_i hnp
      cases h
      refine ⟨?_, rfl⟩
      cases sd <;> first | exact absurd rfl (hnp _) | simp [receiverAt, underlying, hs, Place.get]
     ·cases h
    obtain ⟨key, rfl⟩ := key
    simp only [method, Sem.run_bind, hti, Result.andThen_ok, hmm, hp0, follow, Sem.run_pure, hfn, key]
   ·cases h
  ·cases h
 ·cases h
theorem zxI {f : Nat} (hc : zqK P f) (args : Array Value) (w : World) : (callFunc f args).run P w = .ok (.enter f args) w := by
 obtain ⟨fn, h1, h2, h3⟩ := hc
 have h3 : ¬ fn.name = "runtime.NumGoroutine" := by simpa using h3
 have h2 : ¬ fn.body = none := by cases h : fn.body <;> simp_all
 simp [callFunc, h1, h2, h3]
theorem Ops.invoke {name : String} {xs : Array Operand} {ts : Array TypeId} {f : Nat} {u : Value} {vs : List Value} {Hc Hr : List SP} {Post : Ending -> List SP -> Prop} (hc : zqK P f) (hm : methodV P t name = some f)
  (hw : wants ops L ⟨dd, .call { callee := .invoke x name, args := xs, argTypes := ts }, T, p, es, g⟩ = some true) (ht : dstOk dd n = true)
  (hx : evalL L x = some (.iface t u)) (hxs : evalAll L xs.toList = some vs) (spec : Z.Fn P f (u :: vs) Hc Post) (s : Split H Hc Hr)
  (k : ∀ e Hc', Post e Hc' -> After P ro n ops r dd ds L Hr K e Hc') : Ops P ro n ops (⟨dd, .call { callee := .invoke x name, args := xs, argTypes := ts }, T, p, es, g⟩ :: r) ds L H K := by
 refine Ops.enter hw (by simp) ht (λ Γ F a w he hh => ?_) spec s k
 have hargs := zqr he hxs
 have e1 : (#[Value.iface t u] ++ vs.toArray).extract 1 (#[Value.iface t u] ++ vs.toArray).size = vs.toArray := by
  apply Array.ext'; simp
 have e2 : (#[Value.iface t u] ++ vs.toArray)[0]? = some (Value.iface t u) := by simp
 have e3 : #[u] ++ vs.toArray = (u :: vs).toArray := by simp
 have hmr := λ w => method_run (P := P) hm u w (P.types.size + 99)
 simp only [execOp, resolve, Sem.run_bind, he.eval hx, hargs, Sem.run_pure, Result.andThen_ok, Go.invoke, e2, e1, callMethod, run_program]
 have : P.types.size + Made.depth = P.types.size + 99 + 1 := rfl
 rw [this]
 simp only [hmr, Result.andThen_ok, e3]
 exact zxI hc _ w
theorem clone_find {fn : Func} (h1 : fn.name = "maps.clone") (h2 : fn.origin = "") : Extern.findNext fn = none /\ Extern.find fn = some Extern.MapsClone.clone := by
 have a1 : Extern.allNextRows.lookup "maps.clone" = none := by kernel_rfl
 have a2 : Extern.allNextRows.lookup "" = none := by kernel_rfl
 have a3 : Extern.allGenericRows.lookup "maps.clone" = none := by kernel_rfl
 have a4 : Extern.allTypedRows.lookup "maps.clone" = none := by kernel_rfl
 have a5 : Extern.allRows.lookup "maps.clone" = some Extern.MapsClone.clone := by kernel_rfl
 constructor
 ·simp [Extern.findNext, h1, h2, a1, a2]
 ·simp [Extern.find, h1, h2, a3, a4, a5]
theorem clone_run {f : Nat} {fn : Func} (hf : P.funcs[f]? = some fn) (hb : fn.body = none) (h1 : fn.name = "maps.clone") (h2 : fn.origin = "") {b : Nat} {es : Array MapEntry} {clk : Nat} {w : World} (hw : w.heap[b]? = some (.map es clk)) :
  (callFunc f #[.iface t (.map (some b))]).run P w = .ok (.value (.iface t (.map (some w.heap.size)))) { w with heap := w.heap.push (.map es clk) } := by
 obtain ⟨h3, h4⟩ := clone_find h1 h2
 rw [run_callFunc_extern hf (by rw [h1]; decide) (by simp [hb]) h3 h4]
 have e : Extern.MapsClone.clone #[.iface t (.map (some b))] = (getObj b >>= λ o => match o with
   | .map entries clock => (newObj (.map entries clock) >>= λ n => pure (.iface t (.map (some n))))
   | _ => stuck "maps.clone: a map expected") := rfl
 rw [e]
 simp only [Sem.run_bind, zqy hw, Result.andThen_ok, run_newObj, Sem.run_pure]
theorem Ops.round {o : Oper} (hw : wants ops L o = some true) (hd : ∀ c, o.op ≠ .defer c) (ht : dstOk o.dst n = true) {b : Nat}
  (h : ∀ Γ F a w, Env a n ds L -> Hold Γ H F w -> ∃ f tmps assign body, (execOp a.eval o).run P w = .ok (.round b f tmps assign body) w /\
   RoundIn (fw ro) 0 P b f tmps assign body w λ | .returned v, w' => ∃ H', Hold Γ H' F w' /\ Ops P ro n ops r ds (putL o.dst v L) H' K | _, _ => False) :
  Ops P ro n ops (o :: r) ds L H K := by
 intro Γ F a w Q he hh hq
 simp only [lw, zqU he hw, if_true]
 refine ⟨λ _ _ => trivial, ?_⟩
 obtain ⟨f, tmps, assign, body, hrun, hR⟩ := h Γ F a w he hh
 rw [Oper.semAt_eq _ _ _ hd, hrun, Oper.uponIn_round]
 refine ⟨λ h => (by cases h), hR.mono λ e w' he' => ?_⟩
 cases e with
 | returned v =>
  obtain ⟨H', hh', k⟩ := he'
  exact k Γ F _ w' Q (he.putO v ht) hh' hq
 | panicked ch => exact he'.elim
 | outgrown => exact he'.elim
end
end
end Go.Y
namespace Go.Y
open Go.Z
noncomputable section
section
variable {P : Program} {n : Nat} {ops : Array Oper} {ds : List Deferred} {L : Lo} {ρ : Rho} {W : RW} {G : GV} {env : Tr V} {hp : Mem}
 {d : Nat} {T T' X Y : TypeId} {p : String} {es : Array Edge} {g : Option (Nat × Bool)} {op : Op} {v : V} {u : Value} {x y z : Operand}
def Lives (hp : Mem) (rd : List Lk) : Prop := ∀ id ∈ rd, ∃ ch, hp.t.get id.1 = some ch
theorem Lives.nil : Lives hp [] := λ _ h => by cases h
theorem Lives.one {id : Lk} {ch : Chunk} (h : hp.t.get id.1 = some ch) : Lives hp [id] := λ j hj => by
 simp only [List.mem_singleton] at hj; subst hj; exact ⟨ch, h⟩
theorem pr_rd {x : Option V} {rd : List Lk} (h : pr x = some (v, rd)) : Lives hp rd := by
 obtain ⟨_, rfl⟩ := pr_ok h; exact .nil
theorem elemsV_rd {sz : Nat} {a : V} {l : List V} {rd : List Lk} (h : elemsV hp sz a = some (l, rd)) : Lives hp rd := by
 unfold elemsV at h
 split at h
 ·cases h; exact .nil
 ·cases h; exact .nil
 ·split at h
  ·rename_i hc
   split at h
   ·cases h; exact .one hc
   ·cases h
  ·cases h
 ·split at h
  ·rename_i hc
   split at h
   ·cases h; exact .one hc
   ·cases h
  ·cases h
 ·cases h
theorem upV_rd {t : TypeId} {a : V} {rd : List Lk} (h : upV P hp t a = some (v, rd)) : Lives hp rd := by
 unfold upV at h
 split at h
 ·cases h; exact .nil
 ·split at h
  ·rename_i hc _
   split at h
   ·cases h; exact .one hc
   ·cases h
  ·cases h
 ·cases h
theorem downV_rd {t : TypeId} {a : V} {rd : List Lk} (h : downV P hp t a = some (v, rd)) : Lives hp rd := by
 unfold downV at h
 split at h
 ·cases h; exact .nil
 ·split at h
  ·rename_i hc _
   split at h
   ·cases h; exact .one hc
   ·cases h
  ·cases h
 ·cases h
theorem qConv_rd {a : V} {rd : List Lk} (h : qConv P hp X Y a = some (v, rd)) : Lives hp rd := by
 unfold qConv at h
 split at h
 ·cases h
 ·split at h
  ·split at h
   ·exact upV_rd h
   ·cases h
  ·split at h
   ·exact downV_rd h
   ·cases h
  ·split at h
   ·cases h; exact .nil
   ·cases h; exact .nil
   ·cases h
  ·split at h
   ·cases h; exact .nil
   ·cases h; exact .nil
   ·split at h
    ·split at h
     ·split at h
      ·rename_i hel
       split at h
       ·cases h; exact elemsV_rd hel
       ·cases h
      ·cases h
     ·cases h
    ·cases h
  ·cases h
theorem mapOf_rd {a : V} {l : List (V × V × Nat)} {rd : List Lk} (h : mapOf hp a = some (l, rd)) : Lives hp rd := by
 unfold mapOf at h
 split at h
 ·cases h; exact .nil
 ·split at h
  ·rename_i hc; cases h; exact .one hc
  ·cases h
 ·cases h
theorem qLookup_rd {a k : V} {ok : Bool} {rd : List Lk} (h : zjk P hp T a k ok = some (v, rd)) : Lives hp rd := by
 unfold zjk at h
 split at h
 ·split at h
  ·split at h
   ·rename_i hm
    split at h
    ·cases h; exact mapOf_rd hm
    ·split at h
     ·cases h; exact mapOf_rd hm
     ·cases h
    ·cases h
   ·cases h
  ·cases h
 ·cases h
theorem qMap_rd {a : V} {rd : List Lk} (h : qMap P hp T a = some (v, rd)) : Lives hp rd := by
 unfold qMap at h
 split at h
 ·split at h
  ·rename_i hc; cases h; exact .one hc
  ·cases h
 ·cases h
theorem qLoad_rd {a : V} {rd : List Lk} (h : qLoad P hp T a = some (v, rd)) : Lives hp rd := by
 unfold qLoad at h
 split at h
 ·split at h
  ·rename_i hc
   split at h
   ·cases h; exact .one hc
   ·cases h
  ·cases h
 ·split at h
  ·rename_i hc
   split at h
   ·cases h; exact .one hc
   ·cases h
  ·cases h
 ·cases h
theorem qEntry_rd {a : V} {rd : List Lk} (h : qEntry hp a = some (v, rd)) : Lives hp rd := by
 unfold qEntry at h
 split at h
 ·split at h
  ·rename_i hc
   split at h
   ·rename_i hm
    split at h
    ·split at h
     ·cases h
      intro j hj
      simp only [List.mem_cons, List.not_mem_nil, or_false] at hj
      rcases hj with rfl | rfl
      ·exact ⟨_, hc⟩
      ·exact ⟨_, hm⟩
     ·cases h
    ·cases h
   ·cases h
  ·cases h
 ·cases h
theorem quiet_rd {rd : List Lk} (h : quiet P G env hp op = some (v, rd)) : Lives hp rd := by
 cases op <;> simp only [quiet] at h
 case move => exact pr_rd h
 case assign => exact pr_rd h
 case pick => split at h <;> first | exact pr_rd h | cases h
 case extract => split at h <;> first | exact pr_rd h | cases h
 case nilCheck => split at h <;> first | exact pr_rd h | cases h
 case fieldAddr => split at h <;> first | (cases h; exact .nil) | cases h
 case field => split at h <;> first | exact pr_rd h | cases h
 case indexAddr => split at h <;> first | exact pr_rd h | cases h
 case index => split at h <;> first | exact pr_rd h | cases h
 case slice t x lo hi m =>
  cases m with
  | some m => simp at h
  | none =>
   dsimp only at h
   split at h
   ·exact pr_rd h
   ·cases h
 case sliceToArrayPointer =>
  split at h
  ·split at h
   ·cases h; exact .nil
   ·cases h
  ·cases h
 case unOp => split at h <;> first | exact pr_rd h | cases h
 case binOp => split at h <;> first | exact pr_rd h | cases h
 case convert => split at h <;> first | exact qConv_rd h | cases h
 case makeInterface =>
  split at h
  ·split at h
   ·cases h; exact .nil
   ·cases h
  ·cases h
 case makeFunc => split at h <;> cases h; exact .nil
 case typeAssert => split at h <;> first | exact pr_rd h | cases h
 case lookup => split at h <;> first | exact qLookup_rd h | cases h
 case load => split at h <;> first | exact qLoad_rd h | cases h
 case entry => split at h <;> first | exact qEntry_rd h | cases h
 case call c =>
  split at h
  ·split at h
   ·split at h
    ·split at h
     ·cases h; exact .nil
     ·exact qMap_rd h
    ·cases h
   ·cases h
  ·split at h
   ·cases h; exact .nil
   ·split at h
    ·cases h; exact .nil
    ·cases h
   ·cases h
  ·split at h
   ·split at h <;> first | (cases h; exact .nil) | cases h
   ·cases h
  ·split at h <;> first | exact pr_rd h | cases h
  ·split at h <;> first | exact pr_rd h | cases h
  ·cases h
 all_goals cases h
theorem zjW {rd : List Lk} (h : quietA P G env hp op = some (v, rd)) : Lives hp rd := by
 unfold quietA at h
 split at h
 ·unfold qBuild at h
  split at h
  ·split at h
   ·split at h
    ·cases h; exact .nil
    ·cases h
   ·cases h
  ·cases h
 ·exact quiet_rd h
theorem Lives.holds (hH : HR ρ hp W) {rd : List Lk} (h : Lives hp rd) : ∀ l ∈ rd, ∃ b ob H', Same l (W l.1) (some (b, ob)) /\ Pick (spl hp.n W) (pt b ob) H' := λ id hid => by
 obtain ⟨ch, hc⟩ := h id hid
 obtain ⟨b, o, hw, _⟩ := hH.rel _ _ hc
 exact ⟨b, o, _, by rw [hw]; exact .refl, zqf (hH.lt hc) hw⟩
theorem zxN (hG : GOk ρ G) (hE : RE ρ env L) (hH : HR ρ hp W) (hw : wants ops L ⟨some d, op, T, p, es, g⟩ = some true) (ht : Nat.blt d n = true) {rd : List Lk} (h : quietA P G env hp op = some (v, rd)) :
  ∃ u, R ρ v u /\ QStep P n ops ⟨some d, op, T, p, es, g⟩ ds L (spl hp.n W) u := by
 obtain ⟨u, h1, h2⟩ := quietA_ok (ds := ds) hG hE hH hw ht h
 exact ⟨u, h1, h2 _ ((zjW h).holds hH)⟩
theorem loadVar_part (hH : HR ρ hp W) {id off ty s b c : Nat} {l : List V} (hc : hp.t.get id = some (.cells l ty s)) (hr : ρ id = some (b, c)) (h : partV P T l off = some v) :
  ∃ u, R ρ v u /\ ∀ Γ F w, Hold Γ (spl hp.n W) F w -> (loadVar T ⟨b, off, none⟩).run P w = .ok u w := by
 obtain ⟨b', c', rl, junk, fr, hW, hr', hl, h4, h5⟩ := hH.cells hc
 rw [hr] at hr'; cases hr'
 have pk := zqf (hH.lt hc) hW
 unfold partV at h
 split at h
 ·cases h
 ·rename_i sd hsd
  split at h
  ·rename_i hs
   rw [nth_eq] at h
   obtain ⟨u, h1, h2⟩ := hl.get h
   exact ⟨u, h2, λ Γ F w hh => zkA hsd hs ((hh.cell pk off).trans (getA h1))⟩
  ·rename_i hs
   split at h
   ·cases h
   ·rename_i k hk
    split at h
    ·rename_i r hr2
     cases h
     rw [zqX] at hr2
     obtain ⟨h1, h2⟩ := zqP hr2
     have h3 := RL.take k (RL.drop off hl)
     rw [<- h1] at h3
     have hlen : ((rl.drop off).take k).length = k := by rw [h3.length, h2]
     refine ⟨_, ⟨_, h3, rfl⟩, λ Γ F w hh => ?_⟩
     by_cases hk0 : k = 0
     ·subst hk0
      exact zkB (l := rl ++ junk) hsd hs hk (λ j => hh.cell pk j) (by simp) (by simp)
     ·refine zkB (l := rl ++ junk) hsd hs hk (λ j => hh.cell pk j) (zqs ?_) hlen
      simp only [List.length_take, List.length_drop] at hlen
      omega
    ·cases h
def resSem (tmps : Array Value) : ResultVar -> Sem Value
 | .tmp t => pure (tmps.getD t undef)
 | .cell a t => do loadVar t (<- asAddr (tmps.getD a undef))
theorem resV_ok (hH : HR ρ hp W) {tmps : Array Value} (hE : RT ρ env tmps) {rv : ResultVar} (h : resV P env hp rv = some v) :
  ∃ u, R ρ v u /\ ∀ Γ F w, Hold Γ (spl hp.n W) F w -> (resSem tmps rv).run P w = .ok u w := by
 unfold resV at h
 split at h
 ·rename_i t
  obtain ⟨u, h1, h2⟩ := hE _ _ h
  exact ⟨u, h2, λ Γ F w hh => by simp [resSem, Array.getD_eq_getD_getElem?, h1]⟩
 ·rename_i t T
  split at h
  ·rename_i id off he
   split at h
   ·rename_i l ty s hc
    obtain ⟨u, h1, b, c, hr, rfl⟩ := hE _ _ he
    obtain ⟨u, h2, h3⟩ := loadVar_part hH hc hr h
    exact ⟨u, h2, λ Γ F w hh => by simp [resSem, Array.getD_eq_getD_getElem?, h1, asAddr, h3 Γ F w hh]⟩
   ·cases h
  ·cases h
theorem resVs_ok (hH : HR ρ hp W) {tmps : Array Value} (hE : RT ρ env tmps) : ∀ {l : List ResultVar} {vs : List V}, mapO (resV P env hp) l = some vs ->
  ∃ us, RL ρ vs us /\ us.length = l.length /\ ∀ Γ F w, Hold Γ (spl hp.n W) F w -> (l.mapM (resSem tmps)).run P w = .ok us w
 | [], vs, h => by
  simp only [mapO, Option.some.injEq] at h
  subst h
  exact ⟨[], .nil, rfl, λ Γ F w hh => by simp⟩
 | a :: l, vs, h => by
  simp only [mapO] at h
  split at h
  ·rename_i v hv
   split at h
   ·rename_i vs' hvs
    cases h
    obtain ⟨u, h1, h2⟩ := resV_ok hH hE hv
    obtain ⟨us, h3, h4, h5⟩ := resVs_ok hH hE hvs
    refine ⟨u :: us, .cons h1 h3, by simp [h4], λ Γ F w hh => ?_⟩
    simp only [List.mapM_cons, Sem.run_bind, h2 Γ F w hh, Result.andThen_ok, h5 Γ F w hh, Sem.run_pure]
   ·cases h
  ·cases h
theorem zkx (fn : Func) (tmps : Array Value) : results fn tmps = (do let vs <- fn.results.mapM (resSem tmps); pure (if h : vs.size = 1 then vs[0] else .tuple vs)) := rfl
theorem results_ok (hH : HR ρ hp W) {tmps : Array Value} (hE : RT ρ env tmps) {fn : Func} (h : resultV P fn env hp = some v) :
  ∃ u, R ρ v u /\ ∀ Γ F w, Hold Γ (spl hp.n W) F w -> (results fn tmps).run P w = .ok u w := by
 have main : ∀ {vs : List V}, mapO (resV P env hp) fn.results.toList = some vs -> ∃ us, RL ρ vs us /\ us.length = fn.results.toList.length /\ ∀ Γ F w, Hold Γ (spl hp.n W) F w -> (fn.results.mapM (resSem tmps)).run P w = .ok us.toArray w := by
  intro vs h
  obtain ⟨us, h1, h2, h3⟩ := resVs_ok hH hE h
  refine ⟨us, h1, h2, λ Γ F w hh => ?_⟩
  rw [Array.mapM_eq_mapM_toList]
  simp only [Sem.run_map, h3 Γ F w hh]
  rfl
 unfold resultV at h
 split at h
 ·rename_i hnil
  cases h
  obtain ⟨us, h1, h2, h3⟩ := main (vs := []) (by rw [hnil]; rfl)
  rw [hnil] at h2
  have : us = [] := List.length_eq_zero_iff.1 h2
  subst this
  exact ⟨.tuple #[], ⟨_, .nil, rfl⟩, λ Γ F w hh => by rw [zkx]; simp only [Sem.run_bind, h3 Γ F w hh, Result.andThen_ok, Sem.run_pure]; rfl⟩
 ·rename_i a hone
  obtain ⟨us, h1, h2, h3⟩ := main (vs := [v]) (by rw [hone]; simp only [mapO, h])
  obtain ⟨u, us', h4, h5, rfl⟩ := h1
  rw [show us' = [] from h5] at h3
  exact ⟨u, h4, λ Γ F w hh => by rw [zkx]; simp only [Sem.run_bind, h3 Γ F w hh, Result.andThen_ok, Sem.run_pure]; rfl⟩
 ·rename_i hn0 hn1
  split at h
  ·rename_i vs hvs
   cases h
   obtain ⟨us, h1, h2, h3⟩ := main hvs
   refine ⟨.tuple us.toArray, ⟨_, h1, rfl⟩, λ Γ F w hh => ?_⟩
   rw [zkx]
   have hne : ¬ us.toArray.size = 1 := by
    intro h
    have : fn.results.toList.length = 1 := by rw [<- h2]; simpa using h
    obtain ⟨a, ha⟩ := List.length_eq_one_iff.1 this
    exact hn1 a ha
   simp only [Sem.run_bind, h3 Γ F w hh, Result.andThen_ok, Sem.run_pure, dif_neg hne]
  ·cases h
end
end
end Go.Y
