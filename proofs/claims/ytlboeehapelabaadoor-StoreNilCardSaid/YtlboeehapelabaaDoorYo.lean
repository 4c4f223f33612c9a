/- Lists of operations; regions that draw. -/
import Derived.Test.YtlboeehapelabaaDoorYn
set_option linter.unusedVariables false
set_option linter.unusedSimpArgs false
namespace Go.Y
open Go.Z
noncomputable section
section
variable {P : Program} {G : GV} {ih : Task → Bool} {fi : FI} {arr : Array Oper} {r : List Oper} {dd : Option Nat} {dv : List DV} {env : Tr V} {hp : Mem} {k : KK}
  {ρ : Rho} {W : RW} {ds : List Deferred} {L : Lo} {K : Kont} {ro : Option Nat}
theorem forkB_ok {k : V → Bool} {v : V} {u : Value} (h : forkB k v = true) (hv : R ρ v u) : ∃ v', R ρ v' u ∧ k v' = true := by
  unfold forkB at h
  split at h
  · obtain ⟨b, rfl⟩ := hv
    split at h
    · rename_i h1
      cases b
      · exact ⟨.bool false, rfl, h⟩
      · exact ⟨.bool true, rfl, h1⟩
    · cases h
  · exact ⟨v, hv, h⟩
theorem goStep_ok (IH : ∀ t, ih t = true → TaskOk P G t) {o : Oper} (hd : dstC o.dst fi.nt = true) (hw : wants arr L o = some true) (hG : GOk ρ G) (hH : HR ρ hp W) (hE : RE ρ env L) (hF : FIok ρ fi ro) (hk : KRel P k ρ hp W dv ds K)
    {s : Step} (hs : StepOk P fi.nt arr o ρ hp W L s) (h : goStep ih fi arr o.dst r dv env hp k s = true) : Ops P ro fi.nt arr (o :: r) ds L (spl hp.n W) K := by
  unfold goStep at h
  split at h
  · rename_i v rd
    obtain ⟨u, hu, hq⟩ := hs ds
    obtain ⟨v', hu', h⟩ := forkB_ok h hu
    exact Ops.q hq (rest_ok IH hd hG hE hF hk h (.refl hH) hu')
  · rename_i outs
    exact hs ro r ds K fun q hq ρ' W' u le hr hv hro hst => rest_ok IH hd hG hE hF hk (allO_mem h q hq) ⟨le, hr, hro, hst⟩ hv
  · rename_i f args
    obtain ⟨us, hus, hcall⟩ := hs
    obtain ⟨hc, spec⟩ := IH _ h
    exact hcall ro r ds K _ hc (spec ρ W us _ hG hH hus (retK_rel IH hd hG hE hF hk)) fun e Hc' hp => hp
  · rename_i l args
    obtain ⟨hnd, b, c, us, hl, hus, hrun⟩ := hs
    refine Ops.round (b := b) hw hnd (dstC_ok hd) fun Γ F a w he hh => ?_
    obtain ⟨f, tmps, assign, body, h1, h2⟩ := goRound_ok IH hG hH hl hus (retK_rel (L := L) (r := r) (arr := arr) (dd := o.dst) IH hd hG hE hF hk) h ro Γ F w hh (fun | .returned v, w' => ∃ H', Hold Γ H' F w' ∧ Ops P ro fi.nt arr r ds (putL o.dst v L) H' K | _, _ => False) (fun u H' w' hp hh' => ⟨_, hh', by
      have hp : Ops P ro fi.nt arr r ds (putL o.dst u L) (H' ++ []) K := hp
      rwa [List.append_nil] at hp⟩)
    exact ⟨f, tmps, assign, body, (hrun ds a w he).trans h1, h2⟩
  · rename_i f args
    obtain ⟨dr, hdr, hrest⟩ := hs
    split at h
    · rename_i hro
      have hro' : ro = none := by
        have := hF.2
        rw [hro] at this
        cases ro with
        | none => rfl
        | some b => exact this.elim
      subst hro'
      refine hrest r ds K (IH _ h ρ W (dr :: ds) _ K none hG hH (hE.putE hd hF.1 rfl) hF (hk.at (.refl hH) ⟨[.call f args], [dr], rfl, rfl, dr, [], hdr, rfl, rfl⟩))
    · cases h
  · rename_i v
    obtain ⟨u, hu, hrest⟩ := hs
    exact hrest ro r ds K (hk (.panic v) _ _ _ _ _ _ _ (.panic _) (.refl hH) hE .refl ⟨u, hu, rfl⟩ h)
  · cases h
theorem goWant_ok (IH : ∀ t, ih t = true → TaskOk P G t) {o : Oper} (hd : dstC o.dst fi.nt = true) (hG : GOk ρ G) (hH : HR ρ hp W) (hE : RE ρ env L) (hF : FIok ρ fi ro) (hk : KRel P k ρ hp W dv ds K)
    (h : goWant P G ih fi arr o r dv env hp k (wantsV arr env o) = true) : Ops P ro fi.nt arr (o :: r) ds L (spl hp.n W) K := by
  unfold goWant at h
  split at h
  · rename_i hw
    have hw := wantsV_ok hE hw
    exact goStep_ok IH hd hw hG hH hE hF hk (step_ok hG hE hH hw (dstC_ok hd)) h
  · rename_i hw
    exact Ops.off (wantsV_ok hE hw) (dstC_ok hd) (rest_ok IH hd hG hE hF hk h (.refl hH) rfl)
  · cases h
theorem goOps_ok (IH : ∀ t, ih t = true → TaskOk P G t) {l : List Oper} (h : goOps P G ih fi arr l dv env hp k = true) : TaskOk P G (.ops fi arr l dv env hp k) := by
  intro ρ W ds L K ro hG hH hE hF hk
  unfold goOps at h
  split at h
  · exact Ops.nil (hk .normal _ _ _ _ _ _ _ .normal (.refl hH) hE .refl trivial h)
  · split at h
    · rename_i hd
      exact goWant_ok IH hd hG hH hE hF hk h
    · cases h
/-! ### Regions that draw -/
theorem setRo_HR {ro0 : List Nat} (hH : HR ρ hp W) (h : ∀ id ∈ ro0, id ∈ hp.ro) : HR ρ (hp.setRo ro0) W := ⟨hH.rel, hH.lim, fun id hid => hH.rol id (h id hid)⟩
theorem KeptIn.kept {Hc : List SP} (hH : HR ρ hp W) (hl : ∀ id ∈ hp.ro, id < hp.n) (h : KeptIn hp W Hc) : Kept Hc (spl hp.n W) := fun A hA => by
  rcases h A hA with rfl | ⟨id, hid, b, o, hw, rfl⟩
  · exact ⟨spl hp.n W, fun x => ⟨fun y => sep_tru _ y, fun y => tru_sep _ y⟩⟩
  · exact ⟨_, spl_eqv (hl id hid) hw⟩
theorem KeptIn.stay {Hc : List SP} {hp' : Mem} {W' : RW} (h : KeptIn hp W Hc) (hr : hp'.ro = hp.ro) (hs : Stay hp W W') : KeptIn hp' W' Hc := fun A hA => by
  rcases h A hA with rfl | ⟨id, hid, b, o, hw, rfl⟩
  · exact .inl rfl
  · exact .inr ⟨id, by rw [hr]; exact hid, b, o, by rw [hs id hid]; exact hw, rfl⟩
/-- to a later state of a draw -/
theorem draw_nx {ρ' : Rho} {hp' : Mem} {W' : RW} {ro0 : List Nat} (nx : Nx ρ hp W ρ' hp' W') (h : ∀ id ∈ ro0, id ∈ hp.ro) : Nx ρ (hp.setRo ro0) W ρ' (hp'.setRo ro0) W' :=
  ⟨nx.le, setRo_HR nx.hr (fun id hid => by rw [nx.ro]; exact h id hid), rfl, fun id hid => nx.st id (h id hid)⟩
theorem newV_step (hG : GOk ρ G) (hE : RE ρ env L) (hH : HR ρ hp W) {o : Oper} {v : V} {h' : Mem} (hw : wants arr L o = some true) (h : newV P G env hp o.op = some [(v, h')]) {R' : Value → List SP → Prop} {n : Nat} {ds : List Deferred}
    (k : ∀ ρ' W' u Hn, Nx ρ hp W ρ' h' W' → R ρ' v u → Hn ++ spl hp.n W = spl h'.n W' → R' u Hn) : NStep P n arr o ds L R' := by
  refine ⟨hw, fun Γ F a w H he hh => ?_⟩
  obtain ⟨u, ob, c, h1, h2, h3, h4, h5⟩ := newV_ok (P := P) (W := W) hG hE hH h a w he
  refine ⟨u, _, [pt w.heap.size ob], h1, hh.newb ob, k _ _ u _ ⟨rho_new hH _, h2, h5, Stay.new hH⟩ h3 ?_⟩
  rw [h4]
  simp only [spl, upd_same, optSP, List.cons_append, List.nil_append]
  rw [spl_congr (W' := W) fun j hj => upd_other (by omega)]
theorem off_q {o : Oper} {n : Nat} (hw : wants arr L o = some false) (hd : dstOk o.dst n = true) {H : List SP} : QStep P n arr o ds L H undef := ⟨hd, .inl ⟨hw, rfl⟩⟩
theorem goDraw_ok (IH : ∀ t, ih t = true → TaskOk P G t) {pi : List (Nat × Md)} {ro0 : List Nat} (h : goDraw P G ih fi arr pi ro0 dv env hp k = true) : TaskOk P G (.draw fi arr pi ro0 dv env hp k) := by
  intro ρ W ds L K ro Hc hG hH hE hF hro hkc hk
  unfold goDraw at h
  split at h
  · refine ⟨L, .refl L, ?_⟩
    rw [List.append_nil]
    exact hk .normal dv env (hp.setRo ro0) _ _ _ _ .normal (.refl (setRo_HR hH hro)) hE .refl trivial h
  · rename_i i m pi
    split at h
    · rename_i o ho
      split at h
      · rename_i hd hdef
        have hnd : ∀ c, o.op ≠ .defer c := by
          intro c hc
          unfold isDefer at hdef
          rw [hc] at hdef
          cases hdef
        -- on to the rest
        have next : ∀ {v : V} {hp' : Mem} {env' : Tr V} {L' : Lo} {Hc' : List SP} {ρ' : Rho} {W' : RW}, ih (.draw fi arr pi ro0 dv env' hp' k) = true → Nx ρ hp W ρ' hp' W' → RE ρ' env' L' → KeptIn hp' W' Hc' → RDc P ro fi.nt arr ds Hc' [] K pi L' (spl hp'.n W') := by
          intro v hp' env' L' Hc' ρ' W' hih nx hE' hkc'
          exact IH _ hih ρ' W' ds L' K ro Hc' (hG.mono nx.le) nx.hr hE' (hF.mono nx.le) (fun id hid => by rw [nx.ro]; exact hro id hid) hkc' (hk.at (draw_nx nx hro) .refl)
        have quietA' : ∀ {d : Nat} {v : V} {rd : List Nat}, o.dst = some d → wants arr L o = some true → quietA P G env hp o.op = some (v, rd) → QOk P fi.nt arr o ds L ρ W v rd := by
          intro d v rd hod hw hq
          obtain ⟨od, oo, oT, opos, oes, og⟩ := o
          dsimp only at hod hq
          subst hod
          exact quietA_ok hG hE hH hw (dstC_ok hd) hq
        unfold goDraw1 at h
        split at h
        · -- loud
          have t1 := IH _ h ρ W ds L (Kw ds [] K fun L' Hw' => Kept Hc Hw' ∧ RDc P ro fi.nt arr ds Hc [] K pi L' Hw') ro hG hH hE hF (by
            intro out dv' env' hp' ρ' W' ds' L' out' nx hE' dx ho' hk'
            unfold drawK at hk'
            split at hk'
            · cases out' <;> first | exact ho'.elim | skip
              split at hk'
              · rename_i hlen
                obtain ⟨rfl, rfl⟩ := dx.same (beq_tt hlen)
                have hkc' := hkc.stay nx.ro nx.st
                exact ⟨rfl, hkc'.kept nx.hr nx.hr.rol, next (v := .und) hk' nx hE' hkc'⟩
              · cases hk'
            · rename_i v
              cases out' <;> first | exact ho'.elim | skip
              show K (.panic _) ds' [] (spl hp'.n W' ++ [])
              rw [List.append_nil]
              exact hk (.panic v) dv' .nil (hp'.setRo ro0) ρ' W' ds' [] (.panic _) (draw_nx nx hro) (fun t v e => by cases e) dx ho' hk'
            · cases hk')
          exact ⟨o, ho, hnd, t1⟩
        · -- new memory
          unfold goDrawN at h
          split at h
          · rename_i hw
            have hw := wantsV_ok hE hw
            unfold goDrawN1 at h
            split at h
            · rename_i v h' hnew
              refine ⟨o, ho, hnd, dstC_ok hd, .inr (newV_step hG hE hH hw hnew fun ρ' W' u Hn nx hv he => ?_)⟩
              rw [he]
              exact next (v := v) h nx ((hE.mono nx.le).putE hd hF.1 hv) (hkc.stay nx.ro nx.st)
            · cases h
          · rename_i hw
            have hw := wantsV_ok hE hw
            exact ⟨o, ho, hnd, dstC_ok hd, .inl ⟨hw, next (v := .und) h (.refl hH) (hE.putE hd hF.1 rfl) hkc⟩⟩
          · cases h
        · -- quiet, ahead of the next loud one
          unfold goDrawW at h
          split at h
          · rename_i hw
            have hw := wantsV_ok hE hw
            unfold goDrawQ at h
            split at h
            · rename_i v rd d hq hm hod
              obtain ⟨u, hu, hqs⟩ := quietA' hod hw hq
              obtain ⟨v', hu, h⟩ := forkB_ok h hu
              refine ⟨o, u, ho, ?_, ?_⟩
              · rw [List.append_nil]; exact hqs _ ((quietA_rd hq).holds hH)
              · rw [hod]
                exact next (v := v) h (.refl hH) (RE.putE (d := some d) hE (by rw [← hod]; exact hd) hF.1 hu) hkc
            · rename_i hm _; cases hm
            · rename_i hm _; cases hm
            · cases h
          · rename_i hw
            have hw := wantsV_ok hE hw
            exact ⟨o, undef, ho, off_q hw (dstC_ok hd), next (v := .und) h (.refl hH) (hE.putE hd hF.1 rfl) hkc⟩
          · cases h
        · -- quiet, what stays
          unfold goDrawW at h
          have htru : Eqv (spl hp.n W) (tru :: spl hp.n W) := fun x => ⟨fun y => sep_tru _ y, fun y => tru_sep _ y⟩
          have hkt : KeptIn hp W (tru :: Hc) := fun A hA => by
            cases hA with
            | head => exact .inl rfl
            | tail _ hA => exact hkc A hA
          split at h
          · rename_i hw
            have hw := wantsV_ok hE hw
            unfold goDrawQ at h
            split at h
            · rename_i hm _; cases hm
            · rename_i v d hq hm hod
              obtain ⟨u, hu, hqs⟩ := quietA' hod hw hq
              obtain ⟨v', hu, h⟩ := forkB_ok h hu
              refine ⟨o, u, tru, spl hp.n W, ho, htru, hqs _ (fun id hid => by cases hid), ?_⟩
              rw [hod]
              exact next (v := v) h (.refl hH) (RE.putE (d := some d) hE (by rw [← hod]; exact hd) hF.1 hu) hkt
            · rename_i v id d hq hm hod
              obtain ⟨u, hu, hqs⟩ := quietA' hod hw hq
              obtain ⟨v', hu, h⟩ := forkB_ok h hu
              obtain ⟨ch, hc⟩ := quietA_rd hq id (by simp)
              obtain ⟨b, ob, hW, _⟩ := hH.rel _ _ hc
              refine ⟨o, u, pt b ob, _, ho, spl_eqv (hH.lt hc) hW, hqs _ (fun j hj => ?_), ?_⟩
              · simp only [List.mem_singleton] at hj
                subst hj
                exact ⟨b, ob, _, hW, .head⟩
              · rw [hod]
                refine IH _ h ρ W ds _ K ro (pt b ob :: Hc) hG ⟨hH.rel, hH.lim, fun j hj => ?_⟩ (RE.putE (d := some d) hE (by rw [← hod]; exact hd) hF.1 hu) hF (fun j hj => .tail _ (hro j hj)) (fun A hA => ?_) hk
                · cases hj with
                  | head => exact hH.lt hc
                  | tail _ hj => exact hH.rol j hj
                · cases hA with
                  | head => exact .inr ⟨id, .head _, b, ob, hW, rfl⟩
                  | tail _ hA =>
                    rcases hkc A hA with h | ⟨j, hj, h⟩
                    · exact .inl h
                    · exact .inr ⟨j, .tail _ hj, h⟩
            · cases h
          · rename_i hw
            have hw := wantsV_ok hE hw
            exact ⟨o, undef, tru, spl hp.n W, ho, htru, off_q hw (dstC_ok hd), next (v := .und) h (.refl hH) (hE.putE hd hF.1 rfl) hkt⟩
          · cases h
        · cases h
      · cases h
    · cases h
end
end
end Go.Y
