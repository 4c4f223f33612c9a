/- What quiet operations look at is there; results; the tasks' meaning. -/
import Derived.Test.YtlboeehapelabaaDoorYk
set_option linter.unusedVariables false
set_option linter.unusedSimpArgs false
namespace Go.Y
open Go.Z
noncomputable section
section
variable {P : Program} {n : Nat} {ops : Array Oper} {ds : List Deferred} {L : Lo} {ρ : Rho} {W : RW} {G : GV} {env : Tr V} {hp : Mem}
  {d : Nat} {T T' X Y : TypeId} {p : String} {es : Array Edge} {g : Option (Nat × Bool)} {op : Op} {v : V} {u : Value} {x y z : Operand}
def Lives (hp : Mem) (rd : List Nat) : Prop := ∀ id ∈ rd, ∃ ch, hp.t.get id = some ch
theorem Lives.nil : Lives hp [] := fun _ h => by cases h
theorem Lives.one {id : Nat} {ch : Chunk} (h : hp.t.get id = some ch) : Lives hp [id] := fun j hj => by
  simp only [List.mem_singleton] at hj; subst hj; exact ⟨ch, h⟩
theorem pr_rd {x : Option V} {rd : List Nat} (h : pr x = some (v, rd)) : Lives hp rd := by
  obtain ⟨_, rfl⟩ := pr_ok h; exact .nil
theorem elemsV_rd {sz : Nat} {a : V} {l : List V} {rd : List Nat} (h : elemsV hp sz a = some (l, rd)) : Lives hp rd := by
  unfold elemsV at h
  split at h
  · cases h; exact .nil
  · cases h; exact .nil
  · split at h
    · rename_i hc
      split at h
      · cases h; exact .one hc
      · cases h
    · cases h
  · cases h
theorem qConv_rd {a : V} {rd : List Nat} (h : qConv P hp X Y a = some (v, rd)) : Lives hp rd := by
  unfold qConv at h
  split at h
  · cases h
  · split at h
    · split at h
      · cases h; exact .nil
      · cases h; exact .nil
      · cases h
    · split at h
      · cases h; exact .nil
      · cases h; exact .nil
      · split at h
        · split at h
          · split at h
            · rename_i hel
              split at h
              · cases h; exact elemsV_rd hel
              · cases h
            · cases h
          · cases h
        · cases h
    · cases h
theorem mapOf_rd {a : V} {l : List (V × V × Nat)} {rd : List Nat} (h : mapOf hp a = some (l, rd)) : Lives hp rd := by
  unfold mapOf at h
  split at h
  · cases h; exact .nil
  · split at h
    · rename_i hc; cases h; exact .one hc
    · cases h
  · cases h
theorem qLookup_rd {a k : V} {ok : Bool} {rd : List Nat} (h : qLookup P hp T a k ok = some (v, rd)) : Lives hp rd := by
  unfold qLookup at h
  split at h
  · split at h
    · split at h
      · rename_i hm
        split at h
        · cases h; exact mapOf_rd hm
        · split at h
          · cases h; exact mapOf_rd hm
          · cases h
        · cases h
      · cases h
    · cases h
  · cases h
theorem qMap_rd {a : V} {rd : List Nat} (h : qMap P hp T a = some (v, rd)) : Lives hp rd := by
  unfold qMap at h
  split at h
  · split at h
    · rename_i hc; cases h; exact .one hc
    · cases h
  · cases h
theorem qLoad_rd {a : V} {rd : List Nat} (h : qLoad P hp T a = some (v, rd)) : Lives hp rd := by
  unfold qLoad at h
  split at h
  · split at h
    · rename_i hc
      split at h
      · cases h; exact .one hc
      · cases h
    · cases h
  · cases h
theorem qEntry_rd {a : V} {rd : List Nat} (h : qEntry hp a = some (v, rd)) : Lives hp rd := by
  unfold qEntry at h
  split at h
  · split at h
    · rename_i hc
      split at h
      · rename_i hm
        split at h
        · split at h
          · cases h
            intro j hj
            simp only [List.mem_cons, List.not_mem_nil, or_false] at hj
            rcases hj with rfl | rfl
            · exact ⟨_, hc⟩
            · exact ⟨_, hm⟩
          · cases h
        · cases h
      · cases h
    · cases h
  · cases h
theorem quiet_rd {rd : List Nat} (h : quiet P G env hp op = some (v, rd)) : Lives hp rd := by
  cases op <;> simp only [quiet] at h
  case move => exact pr_rd h
  case assign => exact pr_rd h
  case pick => split at h <;> first | exact pr_rd h | cases h
  case extract => split at h <;> first | exact pr_rd h | cases h
  case nilCheck => split at h <;> first | exact pr_rd h | cases h
  case fieldAddr => split at h <;> cases h; exact .nil
  case field => split at h <;> first | exact pr_rd h | cases h
  case indexAddr => split at h <;> first | exact pr_rd h | cases h
  case index => split at h <;> first | exact pr_rd h | cases h
  case slice t x lo hi m =>
    cases m with
    | some m => simp at h
    | none =>
      dsimp only at h
      split at h
      · exact pr_rd h
      · cases h
  case sliceToArrayPointer =>
    split at h
    · split at h
      · cases h; exact .nil
      · cases h
    · cases h
  case unOp => split at h <;> first | exact pr_rd h | cases h
  case binOp => split at h <;> first | exact pr_rd h | cases h
  case convert => split at h <;> first | exact qConv_rd h | cases h
  case makeInterface =>
    split at h
    · split at h
      · cases h; exact .nil
      · cases h
    · cases h
  case makeFunc => split at h <;> cases h; exact .nil
  case typeAssert => split at h <;> first | exact pr_rd h | cases h
  case lookup => split at h <;> first | exact qLookup_rd h | cases h
  case load => split at h <;> first | exact qLoad_rd h | cases h
  case entry => split at h <;> first | exact qEntry_rd h | cases h
  case call c =>
    split at h
    · split at h
      · split at h
        · split at h
          · cases h; exact .nil
          · exact qMap_rd h
        · cases h
      · cases h
    · split at h <;> first | exact pr_rd h | cases h
    · split at h <;> first | exact pr_rd h | cases h
    · cases h
  all_goals cases h
theorem quietA_rd {rd : List Nat} (h : quietA P G env hp op = some (v, rd)) : Lives hp rd := by
  unfold quietA at h
  split at h
  · unfold qBuild at h
    split at h
    · split at h
      · split at h
        · cases h; exact .nil
        · cases h
      · cases h
    · cases h
  · exact quiet_rd h
theorem Lives.holds (hH : HR ρ hp W) {rd : List Nat} (h : Lives hp rd) : ∀ id ∈ rd, ∃ b ob H', W id = some (b, ob) ∧ Pick (spl hp.n W) (pt b ob) H' := fun id hid => by
  obtain ⟨ch, hc⟩ := h id hid
  obtain ⟨b, o, hw, _⟩ := hH.rel _ _ hc
  exact ⟨b, o, _, hw, spl_pick (hH.lt hc) hw⟩
/-- A quiet operation over the numbered blocks. -/
theorem quietA_spl (hG : GOk ρ G) (hE : RE ρ env L) (hH : HR ρ hp W) (hw : wants ops L ⟨some d, op, T, p, es, g⟩ = some true) (ht : Nat.blt d n = true) {rd : List Nat} (h : quietA P G env hp op = some (v, rd)) :
    ∃ u, R ρ v u ∧ QStep P n ops ⟨some d, op, T, p, es, g⟩ ds L (spl hp.n W) u := by
  obtain ⟨u, h1, h2⟩ := quietA_ok (ds := ds) hG hE hH hw ht h
  exact ⟨u, h1, h2 _ ((quietA_rd h).holds hH)⟩
/-! ### Results -/
theorem loadVar_part (hH : HR ρ hp W) {id off ty s b c : Nat} {l : List V} (hc : hp.t.get id = some (.cells l ty s)) (hr : ρ id = some (b, c)) (h : partV P T l off = some v) :
    ∃ u, R ρ v u ∧ ∀ Γ F w, Hold Γ (spl hp.n W) F w → (loadVar T ⟨b, off, none⟩).run P w = .ok u w := by
  obtain ⟨b', c', rl, junk, fr, hW, hr', hl, h4, h5⟩ := hH.cells hc
  rw [hr] at hr'; cases hr'
  have pk := spl_pick (hH.lt hc) hW
  unfold partV at h
  split at h
  · cases h
  · rename_i sd hsd
    split at h
    · rename_i hs
      rw [nth_eq] at h
      obtain ⟨u, h1, h2⟩ := hl.get h
      exact ⟨u, h2, fun Γ F w hh => loadVar_sc hsd hs ((hh.cell pk off).trans (getA h1))⟩
    · rename_i hs
      split at h
      · cases h
      · rename_i k hk
        split at h
        · rename_i r hr2
          cases h
          rw [dropN_eq] at hr2
          obtain ⟨h1, h2⟩ := takeN_ok hr2
          have h3 := RL.take k (RL.drop off hl)
          rw [← h1] at h3
          have hlen : ((rl.drop off).take k).length = k := by rw [h3.length, h2]
          refine ⟨_, ⟨_, h3, rfl⟩, fun Γ F w hh => ?_⟩
          by_cases hk0 : k = 0
          · subst hk0
            exact loadVar_ag (l := rl ++ junk) hsd hs hk (fun j => hh.cell pk j) (by simp) (by simp)
          · refine loadVar_ag (l := rl ++ junk) hsd hs hk (fun j => hh.cell pk j) (drop_take_app ?_) hlen
            simp only [List.length_take, List.length_drop] at hlen
            omega
        · cases h
def resSem (tmps : Array Value) : ResultVar → Sem Value
  | .tmp t => pure (tmps.getD t undef)
  | .cell a t => do loadVar t (← asAddr (tmps.getD a undef))
theorem resV_ok (hH : HR ρ hp W) {tmps : Array Value} (hE : RT ρ env tmps) {rv : ResultVar} (h : resV P env hp rv = some v) :
    ∃ u, R ρ v u ∧ ∀ Γ F w, Hold Γ (spl hp.n W) F w → (resSem tmps rv).run P w = .ok u w := by
  unfold resV at h
  split at h
  · rename_i t
    obtain ⟨u, h1, h2⟩ := hE _ _ h
    exact ⟨u, h2, fun Γ F w hh => by simp [resSem, Array.getD_eq_getD_getElem?, h1]⟩
  · rename_i t T
    split at h
    · rename_i id off he
      split at h
      · rename_i l ty s hc
        obtain ⟨u, h1, b, c, hr, rfl⟩ := hE _ _ he
        obtain ⟨u, h2, h3⟩ := loadVar_part hH hc hr h
        exact ⟨u, h2, fun Γ F w hh => by simp [resSem, Array.getD_eq_getD_getElem?, h1, asAddr, h3 Γ F w hh]⟩
      · cases h
    · cases h
theorem resVs_ok (hH : HR ρ hp W) {tmps : Array Value} (hE : RT ρ env tmps) : ∀ {l : List ResultVar} {vs : List V}, mapO (resV P env hp) l = some vs →
    ∃ us, RL ρ vs us ∧ us.length = l.length ∧ ∀ Γ F w, Hold Γ (spl hp.n W) F w → (l.mapM (resSem tmps)).run P w = .ok us w
  | [], vs, h => by
    simp only [mapO, Option.some.injEq] at h
    subst h
    exact ⟨[], .nil, rfl, fun Γ F w hh => by simp⟩
  | a :: l, vs, h => by
    simp only [mapO] at h
    split at h
    · rename_i v hv
      split at h
      · rename_i vs' hvs
        cases h
        obtain ⟨u, h1, h2⟩ := resV_ok hH hE hv
        obtain ⟨us, h3, h4, h5⟩ := resVs_ok hH hE hvs
        refine ⟨u :: us, .cons h1 h3, by simp [h4], fun Γ F w hh => ?_⟩
        simp only [List.mapM_cons, Sem.run_bind, h2 Γ F w hh, Result.andThen_ok, h5 Γ F w hh, Sem.run_pure]
      · cases h
    · cases h
theorem results_eq (fn : Func) (tmps : Array Value) : results fn tmps = (do let vs ← fn.results.mapM (resSem tmps); pure (if h : vs.size = 1 then vs[0] else .tuple vs)) := rfl
theorem results_ok (hH : HR ρ hp W) {tmps : Array Value} (hE : RT ρ env tmps) {fn : Func} (h : resultV P fn env hp = some v) :
    ∃ u, R ρ v u ∧ ∀ Γ F w, Hold Γ (spl hp.n W) F w → (results fn tmps).run P w = .ok u w := by
  have main : ∀ {vs : List V}, mapO (resV P env hp) fn.results.toList = some vs → ∃ us, RL ρ vs us ∧ us.length = fn.results.toList.length ∧ ∀ Γ F w, Hold Γ (spl hp.n W) F w → (fn.results.mapM (resSem tmps)).run P w = .ok us.toArray w := by
    intro vs h
    obtain ⟨us, h1, h2, h3⟩ := resVs_ok hH hE h
    refine ⟨us, h1, h2, fun Γ F w hh => ?_⟩
    rw [Array.mapM_eq_mapM_toList]
    simp only [Sem.run_map, h3 Γ F w hh]
    rfl
  unfold resultV at h
  split at h
  · rename_i hnil
    cases h
    obtain ⟨us, h1, h2, h3⟩ := main (vs := []) (by rw [hnil]; rfl)
    rw [hnil] at h2
    have : us = [] := List.length_eq_zero_iff.1 h2
    subst this
    exact ⟨.tuple #[], ⟨_, .nil, rfl⟩, fun Γ F w hh => by rw [results_eq]; simp only [Sem.run_bind, h3 Γ F w hh, Result.andThen_ok, Sem.run_pure]; rfl⟩
  · rename_i a hone
    obtain ⟨us, h1, h2, h3⟩ := main (vs := [v]) (by rw [hone]; simp only [mapO, h])
    obtain ⟨u, us', h4, h5, rfl⟩ := h1
    rw [show us' = [] from h5] at h3
    exact ⟨u, h4, fun Γ F w hh => by rw [results_eq]; simp only [Sem.run_bind, h3 Γ F w hh, Result.andThen_ok, Sem.run_pure]; rfl⟩
  · rename_i hn0 hn1
    split at h
    · rename_i vs hvs
      cases h
      obtain ⟨us, h1, h2, h3⟩ := main hvs
      refine ⟨.tuple us.toArray, ⟨_, h1, rfl⟩, fun Γ F w hh => ?_⟩
      rw [results_eq]
      have hne : ¬ us.toArray.size = 1 := by
        intro h
        have : fn.results.toList.length = 1 := by rw [← h2]; simpa using h
        obtain ⟨a, ha⟩ := List.length_eq_one_iff.1 this
        exact hn1 a ha
      simp only [Sem.run_bind, h3 Γ F w hh, Result.andThen_ok, Sem.run_pure, dif_neg hne]
    · cases h
end
end
end Go.Y
