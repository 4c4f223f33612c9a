/- Loops over open terms: a round looked at through the temporaries and pieces that matter. -/
import Derived.Test.YtlboeehapelabaaGreatDoorM8
import Derived.Test.YtlboeehapelabaaGreatDoorM6
set_option linter.unusedVariables false
set_option linter.unusedSimpArgs false
namespace Go.Q
open Go.Z Go.Y
noncomputable section
def pk {α : Type} : List Nat → Tr α → List (Option α)
  | [], _ => []
  | t :: ts, env => env.get t :: pk ts env
/-- a continuation that looks at some temporaries, and some pieces, alone -/
def cutK (ts ids : List Nat) (N : O → List (Option V) → Nat → List (Option Chunk) → Prop) : KK := fun o dv env hp => match dv, hp.ro with
  | [], [] => N o (pk ts env) hp.n (pk ids hp.t)
  | _, _ => False
def fitV : List (Option V) → List V → Prop
  | [], [] => True
  | some v :: l, w :: m => vle v w ∧ fitV l m
  | _, _ => False
def fitC : List (Option Chunk) → List Chunk → Prop
  | [], [] => True
  | some v :: l, w :: m => chle v w ∧ fitC l m
  | _, _ => False
def smalls : List Nat → Bool
  | [] => true
  | t :: l => match small t with | true => smalls l | false => false
def below (n : Nat) : List Nat → Bool
  | [] => true
  | t :: l => match small t, Nat.blt t n with | true, true => below n l | _, _ => false
def chins (n : Nat) : List Chunk → Bool
  | [] => true
  | v :: l => match chin n v with | true => chins n l | false => false
theorem envLe_pk {env : Tr V} {n : Nat} : ∀ {ts : List Nat} {l : List V}, smalls ts = true → vins n l = true → fitV (pk ts env) l → envLe env n (ts.zip l)
  | [], _, _, _, _ => trivial
  | t :: ts, [], _, _, _ => trivial
  | t :: ts, w :: m, hs, hv, h => by
    simp only [smalls] at hs
    split at hs
    · rename_i hs1
      simp only [vins] at hv
      split at hv
      · rename_i hv1
        simp only [pk] at h
        cases he : env.get t with
        | none => rw [he] at h; exact h.elim
        | some v =>
          rw [he] at h
          exact ⟨⟨hs1, hv1, v, he, h.1⟩, envLe_pk hs hv h.2⟩
      · cases hv
    · cases hs
theorem memLe_pk {tm : Tr Chunk} {n : Nat} : ∀ {ts : List Nat} {l : List Chunk}, below n ts = true → chins n l = true → fitC (pk ts tm) l → memLe tm n (ts.zip l)
  | [], _, _, _, _ => trivial
  | t :: ts, [], _, _, _ => trivial
  | t :: ts, w :: m, hs, hv, h => by
    simp only [below] at hs
    split at hs
    · rename_i hs1 hs2
      simp only [chins] at hv
      split at hv
      · rename_i hv1
        simp only [pk] at h
        cases he : tm.get t with
        | none => rw [he] at h; exact h.elim
        | some v =>
          rw [he] at h
          exact ⟨⟨hs1, hs2, hv1, v, he, h.1⟩, memLe_pk hs hv h.2⟩
      · cases hv
    · cases hs
theorem thin {base : Mem} {env1 : Tr V} {hp1 : Mem} {n : Nat} {le : List (Nat × V)} {lm : List (Nat × Chunk)} (hb : base.n ≤ n) (hn : n ≤ hp1.n) (he : envLe env1 n le) (hm : memLe hp1.t n lm)
    {ρ0 : Rho} {W0 : RW} {ρ1 : Rho} {W1 : RW} {L : Lo} (hH0 : HR ρ0 base W0) (nx : Nx ρ0 base W0 ρ1 hp1 W1) (hE : RE ρ1 env1 L) : Nx ρ0 base W0 (cutR ρ1 n) ⟨n, ofM lm, hp1.ro⟩ W1 ∧ RE (cutR ρ1 n) (ofE le) L := by
  have hlim : ∀ id x, ρ0 id = some x → Nat.blt id n = true := by
    intro id x hx
    have h1 : id < base.n := by
      rcases Nat.lt_or_ge id base.n with h | h
      · exact h
      · rw [hH0.lim id h] at hx; cases hx
    have : id < n := by omega
    simpa [Nat.blt_eq] using this
  refine ⟨⟨fun id x hx => ?_, ⟨memLe_ok nx.hr.rel hm, fun id hid => cutR_ge hid, fun id hid => ?_⟩, nx.ro, nx.st⟩, envLe_ok hE he⟩
  · rw [cutR_lt (hlim id x hx)]; exact nx.le _ _ hx
  · have hid : id ∈ hp1.ro := hid
    rw [nx.ro] at hid
    have := hH0.rol id hid
    show id.1 < n
    omega
/-- what a round comes to -/
def rN {α : Type} (ts ids : List Nat) (le : α → List V) (lm : α → List Chunk) (n : Nat) (φ : α → Prop) (μ : α → Nat) (k : KK) (x : α) (o : O) (vs : List (Option V)) (m : Nat) (cs : List (Option Chunk)) : Prop := match o with
  | .normal => n ≤ m ∧ ∃ x', φ x' ∧ μ x' < μ x ∧ fitV vs (le x') ∧ fitC cs (lm x')
  | .exit i => ∃ l c, n ≤ m ∧ below m ids = true ∧ vins m l = true ∧ chins m c = true ∧ fitV vs l ∧ fitC cs c ∧ k (.exit i) [] (ofE (ts.zip l)) ⟨m, ofM (ids.zip c), []⟩
  | .ret => ∃ l c, n ≤ m ∧ below m ids = true ∧ vins m l = true ∧ chins m c = true ∧ fitV vs l ∧ fitC cs c ∧ k .ret [] (ofE (ts.zip l)) ⟨m, ofM (ids.zip c), []⟩
  | _ => False
theorem loop_cut {P : Program} {G : GQ} {fi : FI} {c : Code} {env : Tr V} {hp : Mem} {k : KK} {α : Type} (ts ids : List Nat) (le : α → List V) (lm : α → List Chunk) (φ : α → Prop) (μ : α → Nat) (x0 : α) (h0 : φ x0)
    (hts : smalls ts = true) (hids : below hp.n ids = true) (hro : hp.ro = []) (hv : ∀ x, vins hp.n (le x) = true) (hc : ∀ x, chins hp.n (lm x) = true)
    (e1 : fitV (pk ts env) (le x0)) (e2 : fitC (pk ids hp.t) (lm x0))
    (round : ∀ x, φ x → TaskOk P G (.code fi c [] (ofE (ts.zip (le x))) ⟨hp.n, ofM (ids.zip (lm x)), []⟩ (cutK ts ids (rN ts ids le lm hp.n φ μ k x)))) :
    TaskOk P G (.code fi (.loop c) [] env hp k) := by
  intro ρ W ds L K ro hG hH hE hF hk
  obtain ⟨nx2, hE2⟩ := thin (Nat.le_refl _) (Nat.le_refl _) (envLe_pk hts (hv x0) e1) (memLe_pk hids (hc x0) e2) hH (.refl hH) hE
  refine Go.loopE (α := LSt α) LSt.L (fun s => spl hp.n s.W) (fun s => φ s.x ∧ Nx ρ hp W s.ρ ⟨hp.n, ofM (ids.zip (lm s.x)), []⟩ s.W ∧ RE s.ρ (ofE (ts.zip (le s.x))) s.L) (fun s => μ s.x) ⟨x0, _, W, L⟩ ⟨h0, by rw [hro] at nx2; exact nx2, hE2⟩ ?_
  rintro ⟨x, ρ1, W1, L1⟩ ⟨hx, nx1, hE1⟩
  simp only at hx nx1 hE1 ⊢
  refine round x hx ρ1 W1 ds L1 _ ro (hG.mono nx1.le) nx1.hr hE1 (hF.mono nx1.le) ?_
  intro o dv' env' hp' ρ' W' ds' L' out nx hE' dx ho hk'
  unfold cutK at hk'
  split at hk'
  · rename_i hro'
    have hds := (dx.same rfl).2
    subst hds
    have nxt := nx1.trans nx
    cases o <;> cases out <;> first | exact ho.elim | skip
    · obtain ⟨hle, x', hx', hlt, f1, f2⟩ := hk'
      have hids' : below hp.n ids = true := hids
      obtain ⟨nx3, hE3⟩ := thin (n := hp.n) (Nat.le_refl _) hle (envLe_pk hts (hv x') f1) (memLe_pk hids (hc x') f2) hH nxt hE'
      rw [hro'] at nx3
      exact ⟨rfl, ⟨x', _, W', L'⟩, ⟨hx', nx3, hE3⟩, hlt, rfl, spl_down hle⟩
    · obtain ⟨l, c, hle, hb, b1, b2, f1, f2, hk'⟩ := hk'
      obtain ⟨nx3, hE3⟩ := thin (n := hp'.n) hle (Nat.le_refl _) (envLe_pk hts b1 f1) (memLe_pk hb b2 f2) hH nxt hE'
      rw [hro'] at nx3
      exact hk (.exit _) [] (ofE (ts.zip l)) ⟨hp'.n, ofM (ids.zip c), []⟩ _ W' ds' L' (.exit _) nx3 hE3 .refl (by exact ho) hk'
    · exact hk'.elim
    · obtain ⟨l, c, hle, hb, b1, b2, f1, f2, hk'⟩ := hk'
      obtain ⟨nx3, hE3⟩ := thin (n := hp'.n) hle (Nat.le_refl _) (envLe_pk hts b1 f1) (memLe_pk hb b2 f2) hH nxt hE'
      rw [hro'] at nx3
      exact hk .ret [] (ofE (ts.zip l)) ⟨hp'.n, ofM (ids.zip c), []⟩ _ W' ds' L' .ret nx3 hE3 .refl trivial hk'
    · exact hk'.elim
  · exact hk'.elim
/-! ### Loops of a function -/
def loops : Code → List Code
  | .seq a b => loops a ++ loops b
  | .cond _ a b => loops a ++ loops b
  | .block _ c => loops c
  | .scope c => loops c
  | .loop c => c :: loops c
  | _ => []
/-- the body of a function's loop -/
def lp (P : Program) (f i : Nat) : Code := match P.funcs[f]? with
  | some fn => match fn.body with
    | some c => (loops c).getD i .skip
    | none => .skip
  | none => .skip
theorem ls_one {P : Program} {G : GQ} {i : Nat} {c0 : Code} {s : FI → List DV → Tr V → Mem → KK → Prop} (hl : G.ls = [(i, c0, s)]) (h : ∀ fi ds env hp k, s fi ds env hp k → TaskOk P G (.code fi (.loop c0) ds env hp k)) : LsOk P G := by
  intro j c s' hj
  rw [hl] at hj
  simp only [lookL] at hj
  split at hj
  · cases hj; exact h
  · cases hj
theorem ls_two {P : Program} {G : GQ} {i i' : Nat} {c0 c1 : Code} {s s' : FI → List DV → Tr V → Mem → KK → Prop} (hl : G.ls = [(i, c0, s), (i', c1, s')]) (h : ∀ fi ds env hp k, s fi ds env hp k → TaskOk P G (.code fi (.loop c0) ds env hp k)) (h' : ∀ fi ds env hp k, s' fi ds env hp k → TaskOk P G (.code fi (.loop c1) ds env hp k)) : LsOk P G := by
  intro j c s2 hj
  rw [hl] at hj
  simp only [lookL] at hj
  split at hj
  · cases hj; exact h
  · split at hj
    · cases hj; exact h'
    · cases hj
theorem ls_none {P : Program} {G : GQ} (hl : G.ls = []) : LsOk P G := by
  intro j c s' hj
  rw [hl] at hj
  cases hj
theorem fs_none {P : Program} {G : GQ} (hl : G.fs = []) : FsOk P G := by
  intro j s' hj
  rw [hl] at hj
  cases hj
end
end Go.Q
/- Machine 2: a law's contract over a laid variable; known calls by their arguments. -/
namespace Go.Q
open Go.Z Go.Y
noncomputable section
theorem eqA_ok : ∀ {a b : List V}, eqA a b = true → a = b
  | [], [], _ => rfl
  | [], _ :: _, h => by simp [eqA] at h
  | a :: l, [], h => by cases a <;> simp [eqA] at h
  | a :: l, b :: m, h => by
    cases a <;> cases b <;> simp only [eqA] at h <;> first | (cases h; done) | skip
    split at h
    · rename_i hb
      rw [eqB_ok, decide_eq_true_eq] at hb
      rw [hb, eqA_ok h]
    · cases h
theorem kn_one {P : Program} {g : Nat} {kn' : List (Nat × List V × KRes)} {vs : List (Nat × List V)} {f : Nat} {args : List V} {r : KRes} {kn : List (Nat × List V × KRes)} (h : KnC P ⟨varG g, kn', vs⟩ f args r)
    (hr : ∀ f' a r', lookK kn f' a = some r' → KnC P ⟨varG g, kn', vs⟩ f' a r') : ∀ f' a r', lookK ((f, args, r) :: kn) f' a = some r' → KnC P ⟨varG g, kn', vs⟩ f' a r' := by
  intro f' a r' hl
  simp only [lookK] at hl
  split at hl
  · rename_i hb
    obtain rfl := beq_tt hb
    split at hl
    · rename_i ha
      obtain rfl := eqA_ok ha
      cases hl
      exact h
    · exact hr _ _ _ hl
  · exact hr _ _ _ hl
/-- A law's contract in a memory that has the variable alone. -/
theorem var_fn {P : Program} {G : GQ} {g f : Nat} {kn : List (Nat × List V × KRes)} {vs0 : List (Nat × List V)} (hs : small g = true) (hg : G.g = ⟨varG g, kn, vs0⟩) {cells args : List V} {vs us : List Value}
    (h : ∀ ty, TaskOk P G (.call f args (varM cells ty) fun e _ => e = .ret (.bool true))) (hc : RL norho cells vs) (hus : RL norho args us) (junk : List Value) (ty : Nat) :
    Z.Fn P f us [pt g (varO vs junk ty (0, 0))] (TrulyV g (varO vs junk ty (0, 0))) := by
  refine (h ty).2 (varR g (vs ++ junk).length) (varW g (varO vs junk ty (0, 0))) us (TrulyV g (varO vs junk ty (0, 0))) (by rw [hg]; exact var_GOk hs) (var_HR .zero hc) (hus.mono fun id x e => by cases e) ?_
  intro e hp ρ W en nx hen hk
  subst hk
  cases en with
  | returned u =>
    have hen : u = .bool true := hen
    subst hen
    have h0 := (nx.st (wh 0) (by simp [varM])).eq
    have hn : 0 < hp.n := nx.hr.rol (wh 0) (by rw [nx.ro]; simp [varM])
    exact ⟨rfl, stay_var hn h0.symm⟩
  | panicked ch => exact hen.elim
  | outgrown => exact hen.elim
end
end Go.Q
/- Loops over open terms, with the rest of memory kept, and pieces that get other numbers. -/
namespace Go.Q
open Go.Z Go.Y
noncomputable section
/-! ### Frames -/
theorem Go_frame {P : Program} {ro : Option Nat} {n : Nat} {c : Code} {ds : List Deferred} {L : Lo} {H B : List SP} {K : Kont} (h : Z.Go P ro n c ds L H K) : Z.Go P ro n c ds L (H ++ B) (fun e ds' L' H' => ∃ H1, K e ds' L' H1 ∧ H' = H1 ++ B) := by
  intro Γ F a w Q he hh hq
  refine h Γ _ a w Q he (hh.inn (Hc := H) (Hr := B) fun x hx => hx) ?_
  intro e ds' L' H1 a' w' k he' hh'
  exact hq e ds' L' (H1 ++ B) a' w' ⟨H1, k, rfl⟩ he' hh'.out
theorem Go_close {P : Program} {ro : Option Nat} {n : Nat} {c : Code} {ds : List Deferred} {L : Lo} {H : List SP} {K : Kont} (h : Z.Go P ro n c ds L H (fun e ds' L' H' => ∃ H'', K e ds' L' H'' ∧ ∀ x, sep H' x → sep H'' x)) : Z.Go P ro n c ds L H K := by
  intro Γ F a w Q he hh hq
  refine h Γ F a w Q he hh ?_
  intro e ds' L' H' a' w' ⟨H'', k, s⟩ he' hh'
  exact hq e ds' L' H'' a' w' k he' (hh'.weaken s)
theorem Go_up {P : Program} {ro : Option Nat} {n : Nat} {c : Code} {ds : List Deferred} {L : Lo} {H : List SP} {K K' : Kont} (h : Z.Go P ro n c ds L H K) (up : ∀ e ds' L' H', K e ds' L' H' → K' e ds' L' H') : Z.Go P ro n c ds L H K' := by
  intro Γ F a w Q he hh hq
  refine h Γ F a w Q he hh ?_
  intro e ds' L' H' a' w' k he' hh'
  exact hq e ds' L' H' a' w' (up _ _ _ _ k) he' hh'
/-! ### Other numbers -/
mutual
def renV (f : Nat → Nat) : V → V
  | .ptr id off => .ptr (f id) off
  | .sl id i off len cap => .sl (f id) i off len cap
  | .map id => .map (f id)
  | .ssl id i len sz => .ssl (f id) i len sz
  | .sptr id i g sz => .sptr (f id) i g sz
  | .ifc t v => .ifc t (renV f v)
  | .agg l => .agg (renVs f l)
  | .tup l => .tup (renVs f l)
  | v => v
def renVs (f : Nat → Nat) : List V → List V
  | [] => []
  | v :: l => renV f v :: renVs f l
end
mutual
def vok (ok : Nat → Bool) : V → Bool
  | .ptr id _ => ok id
  | .sl id _ _ _ _ => ok id
  | .map id => ok id
  | .yld _ => false
  | .ssl id _ _ _ => ok id
  | .sptr id _ _ _ => ok id
  | .ptrh _ _ => false
  | .slh _ _ _ _ => false
  | .fn _ a b => match a, b with | [], [] => true | _, _ => false
  | .ifc _ v => vok ok v
  | .agg l => voks ok l
  | .tup l => voks ok l
  | _ => true
def voks (ok : Nat → Bool) : List V → Bool
  | [] => true
  | v :: l => match vok ok v with | true => voks ok l | false => false
end
mutual
theorem ren_ok {ρ1 ρ2 : Rho} {f : Nat → Nat} {ok : Nat → Bool} (hf : ∀ id, ok id = true → ρ2 id = ρ1 (f id)) : ∀ {v : V} {u : Value}, vok ok v = true → R ρ1 (renV f v) u → R ρ2 v u
  | .bool _, _, _, h | .int _ _, _, _, h | .str _, _, _, h | .und, _, _, h | .sle, _, _, h | .nilp, _, _, h | .nils, _, _, h | .nilm, _, _, h | .nilf, _, _, h | .nili, _, _, h | .anyI _, _, _, h | .anyB, _, _, h | .anyS, _, _, h | .sint _ _, _, _, h | .sbool _, _, _, h | .sstr _, _, _, h => h
  | .ptr id off, u, hn, h => by obtain ⟨b, c, e, h⟩ := h; exact ⟨b, c, by rw [hf id hn]; exact e, h⟩
  | .sl id .., u, hn, h => by obtain ⟨b, c, e, h⟩ := h; exact ⟨b, c, by rw [hf id hn]; exact e, h⟩
  | .map id, u, hn, h => by obtain ⟨b, c, e, h⟩ := h; exact ⟨b, c, by rw [hf id hn]; exact e, h⟩
  | .sptr id i g sz, u, hn, h => by obtain ⟨b, c, e, h⟩ := h; exact ⟨b, c, by rw [hf id hn]; exact e, h⟩
  | .ssl id i len sz, u, hn, h => by
    rcases h with h | ⟨b, c, e, h⟩
    · exact .inl h
    · exact .inr ⟨b, c, by rw [hf id hn]; exact e, h⟩
  | .yld _, _, hn, _ => by cases hn
  | .ptrh _ _, _, hn, _ => by cases hn
  | .slh _ _ _ _, _, hn, _ => by cases hn
  | .fn g a b, u, hn, h => by
    simp only [vok] at hn
    split at hn
    · obtain ⟨a', b', h1, h2, h⟩ := h
      exact ⟨a', b', h1, h2, h⟩
    · cases hn
  | .ifc t v, u, hn, h => by obtain ⟨u', h1, h⟩ := h; exact ⟨u', ren_ok hf hn h1, h⟩
  | .agg l, u, hn, h => by obtain ⟨l', h1, h⟩ := h; exact ⟨l', rens_ok hf hn h1, h⟩
  | .tup l, u, hn, h => by obtain ⟨l', h1, h⟩ := h; exact ⟨l', rens_ok hf hn h1, h⟩
theorem rens_ok {ρ1 ρ2 : Rho} {f : Nat → Nat} {ok : Nat → Bool} (hf : ∀ id, ok id = true → ρ2 id = ρ1 (f id)) : ∀ {l : List V} {us : List Value}, voks ok l = true → RL ρ1 (renVs f l) us → RL ρ2 l us
  | [], _, _, h => h
  | v :: l, us, hn, h => by
    obtain ⟨u, us', h1, h2, rfl⟩ := h
    simp only [voks] at hn
    split at hn
    · rename_i hn1
      exact .cons (ren_ok hf hn1 h1) (rens_ok hf hn h2)
    · cases hn
end
def renC (f : Nat → Nat) : Chunk → Chunk
  | .cells l ty sz => .cells (renVs f l) ty sz
  | c => c
def cok (ok : Nat → Bool) : Chunk → Bool
  | .cells l _ _ => voks ok l
  | .byt _ _ => true
  | .rows _ sh _ => noAny sh
  | _ => false
theorem noAny_R {ρ ρ' : Rho} : ∀ {sh : List Sh} {r : List V} {us : List Value}, noAny sh = true → shR sh r → RL ρ r us → RL ρ' r us
  | [], r, us, _, hs, h => by rw [show r = [] from hs] at h ⊢; exact h
  | s :: sh, r, us, hn, hs, h => by
    obtain ⟨v, r', rfl, hs1, hs2⟩ := hs
    obtain ⟨u, us', h1, h2, rfl⟩ := h
    have hn' : noAny sh = true := by cases s <;> first | exact hn | cases hn
    refine .cons ?_ (noAny_R hn' hs2 h2)
    cases s with
    | int k => obtain ⟨i, rfl | rfl⟩ := hs1 <;> exact h1
    | str => obtain ⟨i, rfl | rfl⟩ := hs1 <;> exact h1
    | bool => obtain ⟨i, rfl | rfl⟩ := hs1 <;> exact h1
    | any => cases hn
theorem flat_R {ρ ρ' : Rho} {sh : List Sh} (hn : noAny sh = true) : ∀ {l : List (List V)} {us : List Value}, (∀ r ∈ l, shR sh r) → RL ρ l.flatten us → RL ρ' l.flatten us
  | [], us, _, h => h
  | r :: l, us, hs, h => by
    rw [List.flatten_cons] at h ⊢
    have h1 := h.take r.length
    have h2 := h.drop r.length
    rw [List.take_left'] at h1
    rw [List.drop_left'] at h2
    have := (noAny_R (ρ' := ρ') hn (hs r List.mem_cons_self) h1).append (flat_R hn (fun x hx => hs x (List.mem_cons_of_mem _ hx)) h2)
    rwa [List.take_append_drop] at this
    all_goals rfl
theorem cren_ok {ρ1 ρ2 : Rho} {f : Nat → Nat} {ok : Nat → Bool} (hf : ∀ id, ok id = true → ρ2 id = ρ1 (f id)) {id b : Nat} {o : Obj} {c : Chunk} (hid : ok id = true) (hc : cok ok c = true) (h : CRel ρ1 (f id) (renC f c) b o) : CRel ρ2 id c b o := by
  cases c with
  | cells l ty sz =>
    obtain ⟨c, rl, junk, fr, h1, h2, h3⟩ := h
    exact ⟨c, rl, junk, fr, by rw [hf id hid]; exact h1, rens_ok hf hc h2, h3⟩
  | byt l ty =>
    obtain ⟨c, junk, fr, h1, h3⟩ := h
    exact ⟨c, junk, fr, by rw [hf id hid]; exact h1, h3⟩
  | rows l sh ty =>
    obtain ⟨c, rl, junk, fr, h1, h2, h3, h4⟩ := h
    exact ⟨c, rl, junk, fr, by rw [hf id hid]; exact h1, flat_R hc h3 h2, h3, h4⟩
  | _ => cases hc
theorem spl_ren {g : Nat → Nat} {m : Nat} : ∀ {n1 : Nat} {W1 W2 : RW}, (∀ id, id < n1 → W2 id = none ∨ (g id < m ∧ W2 id = W1 (g id))) → (∀ id id', id < n1 → id' < n1 → W2 id ≠ none → W2 id' ≠ none → g id = g id' → id = id') → ∀ x, sep (spl m W1) x → sep (spl n1 W2) x
  | 0, W1, W2, _, _, x, hx => trivial
  | k + 1, W1, W2, h1, h2, x, hx => by
    show sep (optSP (W2 k) :: spl k W2) x
    cases hw : W2 k with
    | none => exact tru_star (spl_ren (fun id hid => h1 id (by omega)) (fun id id' a b => h2 id id' (by omega) (by omega)) x hx)
    | some q =>
      obtain ⟨b, o⟩ := q
      rcases h1 k (by omega) with h | ⟨h3, h4⟩
      · rw [hw] at h; cases h
      · rw [hw] at h4
        refine star_mono (fun _ y => y) (fun y hy => ?_) (spl_pick h3 h4.symm x hx)
        refine spl_ren (W1 := upd W1 (g k) none) (fun id hid => ?_) (fun id id' a b => h2 id id' (by omega) (by omega)) y hy
        rcases h1 id (by omega) with h | ⟨h5, h6⟩
        · exact .inl h
        · by_cases hn : W2 id = none
          · exact .inl hn
          · refine .inr ⟨h5, ?_⟩
            rw [upd_other, h6]
            intro e
            have := h2 id k (by omega) (by omega) hn (by rw [hw]; simp) e
            omega
/-! ### Loops -/
def lookA : List Nat → List Nat → Nat → Option Nat
  | i :: ids, a :: acts, id => match Nat.beq i id with | true => some a | false => lookA ids acts id
  | _, _, _ => none
def renF (ids acts : List Nat) (id : Nat) : Nat := match lookA ids acts id with
  | some a => a
  | none => id
def okI (ids : List Nat) (n0 : Nat) (id : Nat) : Bool := match lookA ids ids id with
  | some _ => true
  | none => Nat.blt id n0
/-- pieces that are there -/
def ofMo : List (Nat × Option Chunk) → Tr Chunk
  | [] => .nil
  | (t, some v) :: l => Tr.set 20 (ofMo l) t (some v)
  | (t, none) :: l => ofMo l
def lookC : List Nat → List (Option Chunk) → Nat → Option Chunk
  | i :: ids, c :: cs, id => match Nat.beq i id with | true => c | false => lookC ids cs id
  | _, _, _ => none
/-- a continuation that looks at some temporaries, and at pieces out of a list of numbers -/
def cutM (ts look : List Nat) (N : O → List (Option V) → Nat → List (Option Chunk) → Prop) : KK := fun o dv env hp => match dv, hp.ro with
  | [], [] => N o (pk ts env) hp.n (pk look hp.t)
  | _, _ => False
def fitR (f : Nat → Nat) : List (Option V) → List V → Prop
  | [], [] => True
  | some v :: l, w :: m => vle v (renV f w) ∧ fitR f l m
  | _, _ => False
def fitM (f : Nat → Nat) (look : List Nat) (cs : List (Option Chunk)) : List Nat → List Nat → List (Option Chunk) → Prop
  | i :: ids, a :: acts, some c :: l => (∃ c1, lookC look cs a = some c1 ∧ chle c1 (renC f c)) ∧ fitM f look cs ids acts l
  | _ :: ids, _ :: acts, none :: l => fitM f look cs ids acts l
  | [], [], [] => True
  | _, _, _ => False
/-- actual numbers: the old ones stay, the others are new, and different -/
def actsOk (n0 m : Nat) : List Nat → List Nat → Bool
  | i :: ids, a :: acts => match Nat.blt i n0 with
    | true => match Nat.beq i a with | true => actsOk n0 m ids acts | false => false
    | false => match Nat.ble n0 a, Nat.blt a m, acts.all (fun b => !(Nat.beq b a)) with | true, true, true => actsOk n0 m ids acts | _, _, _ => false
  | [], [] => true
  | _, _ => false
def coks (ok : Nat → Bool) : List (Option Chunk) → Bool
  | [] => true
  | some c :: l => match cok ok c with | true => coks ok l | false => false
  | none :: l => coks ok l
theorem lookC_pk {t : Tr Chunk} {id : Nat} {c : Chunk} : ∀ {look : List Nat}, lookC look (pk look t) id = some c → t.get id = some c
  | [], h => by cases h
  | i :: look, h => by
    simp only [pk, lookC] at h
    split at h
    · rename_i hb; rw [← beq_tt hb]; exact h
    · exact lookC_pk h
theorem lookA_self {ids acts : List Nat} (hl : ids.length = acts.length) {id : Nat} : (lookA ids acts id).isSome = (lookA ids ids id).isSome := by
  induction ids generalizing acts with
  | nil => cases acts <;> rfl
  | cons i ids ih =>
    cases acts with
    | nil => simp at hl
    | cons a acts =>
      simp only [lookA]
      split
      · rfl
      · exact ih (by simpa using hl)
theorem actsOk_len {n0 m : Nat} : ∀ {ids acts : List Nat}, actsOk n0 m ids acts = true → ids.length = acts.length
  | [], [], _ => rfl
  | [], _ :: _, h => by cases h
  | _ :: _, [], h => by cases h
  | i :: ids, a :: acts, h => by
    simp only [actsOk] at h
    split at h
    · split at h
      · simp [actsOk_len h]
      · cases h
    · split at h
      · simp [actsOk_len h]
      · cases h
/-- what an old number is looked up as -/
theorem actsOk_old {n0 m : Nat} : ∀ {ids acts : List Nat} {id a : Nat}, actsOk n0 m ids acts = true → lookA ids acts id = some a → (id < n0 ∧ a = id) ∨ (n0 ≤ id ∧ n0 ≤ a ∧ a < m ∧ a ∈ acts)
  | [], _, _, _, _, h => by cases h
  | _ :: _, [], _, _, h, _ => by cases h
  | i :: ids, b :: acts, id, a, h, hl => by
    simp only [actsOk] at h
    simp only [lookA] at hl
    split at h
    · rename_i hi
      split at h
      · rename_i hb
        split at hl
        · rename_i he
          cases hl
          have e1 := beq_tt he
          have e2 := beq_tt hb
          subst e1 e2
          exact .inl ⟨blt_tt hi, rfl⟩
        · rcases actsOk_old h hl with h1 | ⟨h1, h2, h3, h4⟩
          · exact .inl h1
          · exact .inr ⟨h1, h2, h3, List.mem_cons_of_mem _ h4⟩
      · cases h
    · rename_i hi
      split at h
      · rename_i h1 h2 h3
        split at hl
        · rename_i he
          cases hl
          have e1 := beq_tt he
          subst e1
          have : ¬ i < n0 := fun hh => by
            have : Nat.blt i n0 = true := by simpa [Nat.blt_eq] using hh
            rw [this] at hi; cases hi
          exact .inr ⟨by omega, Nat.le_of_ble_eq_true h1, blt_tt h2, List.mem_cons_self⟩
        · rcases actsOk_old h hl with h1 | ⟨h1, h2, h3, h4⟩
          · exact .inl h1
          · exact .inr ⟨h1, h2, h3, List.mem_cons_of_mem _ h4⟩
      · cases h
/-- different numbers are looked up as different ones -/
theorem actsOk_inj {n0 m : Nat} : ∀ {ids acts : List Nat} {id id' a : Nat}, actsOk n0 m ids acts = true → lookA ids acts id = some a → lookA ids acts id' = some a → id = id'
  | [], _, _, _, _, _, h, _ => by cases h
  | _ :: _, [], _, _, _, h, _, _ => by cases h
  | i :: ids, b :: acts, id, id', a, h, hl, hl' => by
    have h0 := h
    simp only [actsOk] at h
    simp only [lookA] at hl hl'
    have other : ∀ {x : Nat}, actsOk n0 m ids acts = true → lookA ids acts x = some b → i = x ∨ b < n0 ∨ b ∈ acts := by
      intro x hx hlx
      rcases actsOk_old hx hlx with ⟨h1, h2⟩ | ⟨_, _, _, h4⟩
      · exact .inr (.inl (by omega))
      · exact .inr (.inr h4)
    split at h
    · rename_i hi
      split at h
      · rename_i hb
        have hb := beq_tt hb
        subst hb
        have hin := blt_tt hi
        split at hl
        · rename_i he
          have he := beq_tt he
          subst he
          cases hl
          split at hl'
          · rename_i he'; exact beq_tt he'
          · rcases actsOk_old h hl' with ⟨_, h2⟩ | ⟨_, h2, _⟩
            · exact h2
            · omega
        · split at hl'
          · rename_i he'
            have he' := beq_tt he'
            subst he'
            cases hl'
            rcases actsOk_old h hl with ⟨_, h2⟩ | ⟨_, h2, _⟩
            · exact h2.symm
            · omega
          · exact actsOk_inj h hl hl'
      · cases h
    · rename_i hi
      split at h
      · rename_i h1 h2 h3
        have hnot : b ∉ acts := by
          intro hm
          have := List.all_eq_true.1 h3 b hm
          simp at this
        have hge := Nat.le_of_ble_eq_true h1
        split at hl
        · rename_i he
          have he := beq_tt he
          subst he
          cases hl
          split at hl'
          · rename_i he'; exact beq_tt he'
          · rcases actsOk_old h hl' with ⟨h5, h6⟩ | ⟨_, _, _, h6⟩
            · omega
            · exact absurd h6 hnot
        · split at hl'
          · rename_i he'
            have he' := beq_tt he'
            subst he'
            cases hl'
            rcases actsOk_old h hl with ⟨h5, h6⟩ | ⟨_, _, _, h6⟩
            · omega
            · exact absurd h6 hnot
          · exact actsOk_inj h hl hl'
      · cases h
end
end Go.Q
/- The rule for loops over open terms, with a frame and renaming. -/
namespace Go.Q
open Go.Z Go.Y
noncomputable section
theorem spl_split : ∀ {n : Nat} {W Wa Wb : RW}, (∀ id, id < n → (Wa id = W id ∧ Wb id = none) ∨ (Wa id = none ∧ Wb id = W id)) → ∀ x, sep (spl n W) x → star (sep (spl n Wa)) (sep (spl n Wb)) x
  | 0, W, Wa, Wb, _, x, hx => ⟨x, Hp.nil, fun _ => .inr rfl, (Hp.un_nil _).symm, trivial, trivial⟩
  | n + 1, W, Wa, Wb, h, x, hx => by
    have ih : ∀ y, sep (spl n W) y → star (sep (spl n Wa)) (sep (spl n Wb)) y := spl_split fun id hid => h id (by omega)
    have hx : star (optSP (W n)) (sep (spl n W)) x := hx
    rcases h n (Nat.lt_succ_self n) with ⟨h1, h2⟩ | ⟨h1, h2⟩
    · have := star_mono (fun _ y => y) (fun y hy => ih y hy) hx
      have := star_assoc' this
      refine star_mono (fun y hy => ?_) (fun y hy => ?_) this
      · show star (optSP (Wa n)) (sep (spl n Wa)) y
        rw [h1]; exact hy
      · show star (optSP (Wb n)) (sep (spl n Wb)) y
        rw [h2]; exact tru_star hy
    · have := star_mono (fun _ y => y) (fun y hy => ih y hy) hx
      have := star_left_comm this
      refine star_mono (fun y hy => ?_) (fun y hy => ?_) this
      · show star (optSP (Wa n)) (sep (spl n Wa)) y
        rw [h1]; exact tru_star hy
      · show star (optSP (Wb n)) (sep (spl n Wb)) y
        rw [h2]; exact hy
theorem spl_merge {m n0 : Nat} {W2 : RW} : ∀ {k : Nat} {W1 Wr : RW}, (∀ id, id < k → W2 id = none ∨ (id < m ∧ W2 id = W1 id) ∨ (id < n0 ∧ W2 id = Wr id)) → ∀ x, star (sep (spl m W1)) (sep (spl n0 Wr)) x → sep (spl k W2) x
  | 0, _, _, _, x, hx => trivial
  | k + 1, W1, Wr, h, x, hx => by
    show star (optSP (W2 k)) (sep (spl k W2)) x
    cases hw : W2 k with
    | none => exact tru_star (spl_merge (fun id hid => h id (by omega)) x hx)
    | some q =>
      obtain ⟨b, o⟩ := q
      rcases h k (Nat.lt_succ_self k) with h1 | ⟨h1, h2⟩ | ⟨h1, h2⟩
      · rw [hw] at h1; cases h1
      · rw [hw] at h2
        have := star_mono (fun y hy => spl_pick h1 h2.symm y hy) (fun _ y => y) hx
        have := star_assoc this
        refine star_mono (fun _ y => y) (fun y hy => ?_) this
        refine spl_merge (W1 := upd W1 k none) (fun id hid => ?_) y hy
        rcases h id (by omega) with h3 | ⟨h3, h4⟩ | h3
        · exact .inl h3
        · exact .inr (.inl ⟨h3, by rw [upd_other (by omega)]; exact h4⟩)
        · exact .inr (.inr h3)
      · rw [hw] at h2
        have := star_mono (fun _ y => y) (fun y hy => spl_pick h1 h2.symm y hy) hx
        have := star_left_comm this
        refine star_mono (fun _ y => y) (fun y hy => ?_) this
        refine spl_merge (Wr := upd Wr k none) (fun id hid => ?_) y hy
        rcases h id (by omega) with h3 | h3 | ⟨h3, h4⟩
        · exact .inl h3
        · exact .inr (.inl h3)
        · exact .inr (.inr ⟨h3, by rw [upd_other (by omega)]; exact h4⟩)
theorem RE_pk {ρ : Rho} {env : Tr V} {L : Lo} (hE : RE ρ env L) : ∀ {ts : List Nat} {l : List V}, smalls ts = true → fitV (pk ts env) l → RE ρ (ofE (ts.zip l)) L
  | [], _, _, _, t, v, e => by cases e
  | _ :: _, [], _, h, _, _, _ => by simp only [pk] at h; cases hh : env.get _ <;> rw [hh] at h <;> exact h.elim
  | t0 :: ts, w :: m, hs, h, t, v, e => by
    simp only [smalls] at hs
    split at hs
    · rename_i hs1
      simp only [pk] at h
      cases he : env.get t0 with
      | none => rw [he] at h; exact h.elim
      | some v0 =>
        rw [he] at h
        rw [List.zip_cons_cons, ofE, Tr.get_set _ _ _ _ _ (small_lt hs1)] at e
        by_cases ht : t = t0
        · subst ht
          simp only [if_true, Option.some.injEq] at e
          subst e
          obtain ⟨u, h1, h2⟩ := hE _ _ he
          exact ⟨u, h1, vle_ok h.1 h2⟩
        · rw [if_neg ht] at e
          exact RE_pk hE hs h.2 t v e
    · cases hs
theorem RE_ren {ρ ρ2 : Rho} {f : Nat → Nat} {ok : Nat → Bool} (hf : ∀ id, ok id = true → ρ2 id = ρ (f id)) {env : Tr V} {L : Lo} (hE : RE ρ env L) : ∀ {ts : List Nat} {l : List V}, smalls ts = true → voks ok l = true → fitR f (pk ts env) l → RE ρ2 (ofE (ts.zip l)) L
  | [], _, _, _, _, t, v, e => by cases e
  | _ :: _, [], _, _, h, _, _, _ => by simp only [pk] at h; cases hh : env.get _ <;> rw [hh] at h <;> exact h.elim
  | t0 :: ts, w :: m, hs, hv, h, t, v, e => by
    simp only [smalls] at hs
    split at hs
    · rename_i hs1
      simp only [voks] at hv
      split at hv
      · rename_i hv1
        simp only [pk] at h
        cases he : env.get t0 with
        | none => rw [he] at h; exact h.elim
        | some v0 =>
          rw [he] at h
          rw [List.zip_cons_cons, ofE, Tr.get_set _ _ _ _ _ (small_lt hs1)] at e
          by_cases ht : t = t0
          · subst ht
            simp only [if_true, Option.some.injEq] at e
            subst e
            obtain ⟨u, h1, h2⟩ := hE _ _ he
            exact ⟨u, h1, ren_ok hf hv1 (vle_ok h.1 h2)⟩
          · rw [if_neg ht] at e
            exact RE_ren hf hE hs hv h.2 t v e
      · cases hv
    · cases hs
def nodupB : List Nat → Bool
  | [] => true
  | i :: l => match l.all (fun j => !(Nat.beq j i)) with | true => nodupB l | false => false
/-- pieces out of the list -/
theorem ofMo_mem : ∀ {ids : List Nat} {l : List (Option Chunk)} {n1 id : Nat} {ch : Chunk}, below n1 ids = true → (ofMo (ids.zip l)).get id = some ch → id ∈ ids
  | [], _, _, _, _, _, e => by cases e
  | _ :: _, [], _, _, _, _, e => by cases e
  | i :: ids, some c :: l, n1, id, ch, hb, e => by
    simp only [below] at hb
    split at hb
    · rename_i hs _
      rw [List.zip_cons_cons, ofMo, Tr.get_set _ _ _ _ _ (small_lt hs)] at e
      by_cases hi : id = i
      · subst hi; exact List.mem_cons_self
      · rw [if_neg hi] at e; exact List.mem_cons_of_mem _ (ofMo_mem hb e)
    · cases hb
  | i :: ids, none :: l, n1, id, ch, hb, e => by
    simp only [below] at hb
    split at hb
    · exact List.mem_cons_of_mem _ (ofMo_mem hb e)
    · cases hb
theorem below_mem {n1 : Nat} : ∀ {ids : List Nat} {id : Nat}, below n1 ids = true → id ∈ ids → id < n1
  | [], _, _, h => by cases h
  | i :: ids, id, hb, h => by
    simp only [below] at hb
    split at hb
    · rename_i _ h2
      cases h with
      | head => exact blt_tt h2
      | tail _ h => exact below_mem hb h
    · cases hb
theorem lookA_mem : ∀ {ids acts : List Nat} {id a : Nat}, lookA ids acts id = some a → id ∈ ids
  | [], _, _, _, h => by cases h
  | _ :: _, [], _, _, h => by cases h
  | i :: ids, b :: acts, id, a, h => by
    simp only [lookA] at h
    split at h
    · rename_i hb; rw [beq_tt hb]; exact List.mem_cons_self
    · exact List.mem_cons_of_mem _ (lookA_mem h)
theorem lookA_of_mem : ∀ {ids : List Nat} {id : Nat}, id ∈ ids → lookA ids ids id = some id
  | [], _, h => by cases h
  | i :: ids, id, h => by
    simp only [lookA]
    split
    · rename_i hb; rw [beq_tt hb]
    · rename_i hb
      have go : ∀ {l : List Nat}, id ∈ l → lookA l l id = some id := by
        intro l hl
        induction l with
        | nil => cases hl
        | cons j l ih =>
          simp only [lookA]
          split
          · rename_i hj; rw [beq_tt hj]
          · rename_i hj
            cases hl with
            | head => rw [Nat.beq_refl] at hj; cases hj
            | tail _ hl => exact ih hl
      cases h with
      | head => rw [Nat.beq_refl] at hb; cases hb
      | tail _ h => exact go h
theorem fitM_get {f : Nat → Nat} {look : List Nat} {cs : List (Option Chunk)} : ∀ {ids acts : List Nat} {l : List (Option Chunk)} {n1 id : Nat} {ch : Chunk}, nodupB ids = true → below n1 ids = true → fitM f look cs ids acts l → (ofMo (ids.zip l)).get id = some ch →
    ∃ a c1, lookA ids acts id = some a ∧ lookC look cs a = some c1 ∧ chle c1 (renC f ch)
  | [], _, _, _, _, _, _, _, _, e => by cases e
  | _ :: _, [], _, _, _, _, _, _, h, e => by cases h
  | _ :: _, _ :: _, [], _, _, _, _, _, h, e => by cases h
  | i :: ids, a :: acts, some c :: l, n1, id, ch, hn, hb, h, e => by
    simp only [nodupB] at hn
    split at hn
    · simp only [below] at hb
      split at hb
      · rename_i hs _
        rw [List.zip_cons_cons, ofMo, Tr.get_set _ _ _ _ _ (small_lt hs)] at e
        obtain ⟨⟨c1, h1, h2⟩, h3⟩ := h
        by_cases hi : id = i
        · subst hi
          simp only [if_true, Option.some.injEq] at e
          subst e
          exact ⟨a, c1, by simp [lookA, Nat.beq_refl], h1, h2⟩
        · rw [if_neg hi] at e
          obtain ⟨a', c', h4, h5⟩ := fitM_get hn hb h3 e
          refine ⟨a', c', ?_, h5⟩
          simp only [lookA]
          split
          · rename_i hbq; exact absurd (beq_tt hbq).symm hi
          · exact h4
      · cases hb
    · cases hn
  | i :: ids, a :: acts, none :: l, n1, id, ch, hn, hb, h, e => by
    simp only [nodupB] at hn
    split at hn
    · rename_i hall
      simp only [below] at hb
      split at hb
      · have hm := ofMo_mem (n1 := n1) hb (by exact e)
        obtain ⟨a', c', h4, h5⟩ := fitM_get hn hb h e
        refine ⟨a', c', ?_, h5⟩
        simp only [lookA]
        split
        · rename_i hbq
          have := beq_tt hbq
          subst this
          have := List.all_eq_true.1 hall _ hm
          simp [Nat.beq_refl] at this
        · exact h4
      · cases hb
    · cases hn
theorem coks_get {ok : Nat → Bool} : ∀ {ids : List Nat} {l : List (Option Chunk)} {n1 id : Nat} {ch : Chunk}, below n1 ids = true → coks ok l = true → (ofMo (ids.zip l)).get id = some ch → cok ok ch = true
  | [], _, _, _, _, _, _, e => by cases e
  | _ :: _, [], _, _, _, _, _, e => by cases e
  | i :: ids, some c :: l, n1, id, ch, hb, hc, e => by
    simp only [below] at hb
    split at hb
    · rename_i hs _
      simp only [coks] at hc
      split at hc
      · rename_i hc1
        rw [List.zip_cons_cons, ofMo, Tr.get_set _ _ _ _ _ (small_lt hs)] at e
        by_cases hi : id = i
        · subst hi; simp only [if_true, Option.some.injEq] at e; subst e; exact hc1
        · rw [if_neg hi] at e; exact coks_get hb hc e
      · cases hc
    · cases hb
  | i :: ids, none :: l, n1, id, ch, hb, hc, e => by
    simp only [below] at hb
    split at hb
    · exact coks_get (l := l) hb hc e
    · cases hb
/-- pieces as they are found, by number -/
def fitL (look : List Nat) (cs : List (Option Chunk)) : List Nat → List Chunk → Prop
  | i :: ids, c :: l => (∃ c1, lookC look cs i = some c1 ∧ chle c1 c) ∧ fitL look cs ids l
  | [], [] => True
  | _, _ => False
/-- numbers of the loop's own: listed ones, or new ones -/
def okE (ids : List Nat) (n0 : Nat) : List Nat → Bool
  | [] => true
  | i :: l => match lookA ids ids i with
    | some _ => okE ids n0 l
    | none => match Nat.ble n0 i with | true => okE ids n0 l | false => false
/-- numbers of the rest -/
def okR (ids : List Nat) (n0 : Nat) : List Nat → Bool
  | [] => true
  | i :: l => match lookA ids ids i, Nat.blt i n0 with
    | none, true => okR ids n0 l
    | _, _ => false
def fitE (t : Tr Chunk) : List Nat → List (Option Chunk) → Prop
  | i :: ids, some c :: l => (∃ c1, t.get i = some c1 ∧ chle c1 c) ∧ fitE t ids l
  | _ :: ids, none :: l => fitE t ids l
  | [], [] => True
  | _, _ => False
theorem fitE_get {t : Tr Chunk} : ∀ {ids : List Nat} {l : List (Option Chunk)} {n1 id : Nat} {ch : Chunk}, below n1 ids = true → fitE t ids l → (ofMo (ids.zip l)).get id = some ch → ∃ c1, t.get id = some c1 ∧ chle c1 ch
  | [], _, _, _, _, _, _, e => by cases e
  | _ :: _, [], _, _, _, _, h, e => by cases h
  | i :: ids, some c :: l, n1, id, ch, hb, h, e => by
    simp only [below] at hb
    split at hb
    · rename_i hs _
      rw [List.zip_cons_cons, ofMo, Tr.get_set _ _ _ _ _ (small_lt hs)] at e
      by_cases hi : id = i
      · subst hi; simp only [if_true, Option.some.injEq] at e; subst e; exact h.1
      · rw [if_neg hi] at e; exact fitE_get hb h.2 e
    · cases hb
  | i :: ids, none :: l, n1, id, ch, hb, h, e => by
    simp only [below] at hb
    split at hb
    · exact fitE_get hb h e
    · cases hb
/-- what a round comes to -/
def rM {α : Type} (ts ids look rids : List Nat) (rc : List Chunk) (le : α → List V) (lm : α → List (Option Chunk)) (n0 n1 : Nat) (φ : α → Prop) (μ : α → Nat) (k : KK) (x : α) (o : O) (vs : List (Option V)) (m : Nat) (cs : List (Option Chunk)) : Prop := match o with
  | .normal => ∃ x' acts, φ x' ∧ μ x' < μ x ∧ n1 ≤ m ∧ actsOk n0 m ids acts = true ∧ fitR (renF ids acts) vs (le x') ∧ fitM (renF ids acts) look cs ids acts (lm x')
  | .exit i => ∃ l ids' c, n1 ≤ m ∧ okE ids n0 ids' = true ∧ below m ids' = true ∧ fitV vs l ∧ fitL look cs ids' c ∧ k (.exit i) [] (ofE (ts.zip l)) ⟨m, ofM (ids'.zip c ++ rids.zip rc), []⟩
  | .ret => ∃ l ids' c, n1 ≤ m ∧ okE ids n0 ids' = true ∧ below m ids' = true ∧ fitV vs l ∧ fitL look cs ids' c ∧ k .ret [] (ofE (ts.zip l)) ⟨m, ofM (ids'.zip c ++ rids.zip rc), []⟩
  | _ => False
theorem ofM_get : ∀ {ids : List Nat} {c : List Chunk} {rest : List (Nat × Chunk)} {n1 id : Nat} {ch : Chunk}, below n1 ids = true → (ofM (ids.zip c ++ rest)).get id = some ch → (∃ P, (id, ch) ∈ ids.zip c ∧ P = True) ∨ (ofM rest).get id = some ch
  | [], c, rest, _, id, ch, _, e => .inr (by simpa using e)
  | _ :: _, [], rest, _, id, ch, _, e => .inr (by simpa using e)
  | i :: ids, x :: c, rest, n1, id, ch, hb, e => by
    simp only [below] at hb
    split at hb
    · rename_i hs _
      rw [List.zip_cons_cons, List.cons_append, ofM, Tr.get_set _ _ _ _ _ (small_lt hs)] at e
      by_cases hi : id = i
      · subst hi; simp only [if_true, Option.some.injEq] at e; subst e
        exact .inl ⟨True, List.mem_cons_self, rfl⟩
      · rw [if_neg hi] at e
        rcases ofM_get hb e with ⟨P, h1, h2⟩ | h
        · exact .inl ⟨P, List.mem_cons_of_mem _ h1, h2⟩
        · exact .inr h
    · cases hb
theorem fitL_mem {look : List Nat} {cs : List (Option Chunk)} : ∀ {ids : List Nat} {c : List Chunk} {id : Nat} {ch : Chunk}, fitL look cs ids c → (id, ch) ∈ ids.zip c → ∃ c1, lookC look cs id = some c1 ∧ chle c1 ch
  | [], _, _, _, _, h => by cases h
  | _ :: _, [], _, _, h, _ => by cases h
  | i :: ids, x :: c, id, ch, h, hm => by
    rw [List.zip_cons_cons] at hm
    cases hm with
    | head => exact h.1
    | tail _ hm => exact fitL_mem h.2 hm
theorem okE_mem {ids : List Nat} {n0 : Nat} : ∀ {l : List Nat} {i : Nat}, okE ids n0 l = true → i ∈ l → (∃ a, lookA ids ids i = some a) ∨ n0 ≤ i
  | [], _, _, h => by cases h
  | j :: l, i, h, hm => by
    simp only [okE] at h
    split at h
    · rename_i a ha
      cases hm with
      | head => exact .inl ⟨a, ha⟩
      | tail _ hm => exact okE_mem h hm
    · split at h
      · rename_i hle
        cases hm with
        | head => exact .inr (Nat.le_of_ble_eq_true hle)
        | tail _ hm => exact okE_mem h hm
      · cases h
theorem okR_mem {ids : List Nat} {n0 : Nat} : ∀ {l : List Nat} {i : Nat}, okR ids n0 l = true → i ∈ l → lookA ids ids i = none ∧ i < n0
  | [], _, _, h => by cases h
  | j :: l, i, h, hm => by
    simp only [okR] at h
    split at h
    · rename_i h1 h2
      cases hm with
      | head => exact ⟨h1, blt_tt h2⟩
      | tail _ hm => exact okR_mem h hm
    · cases h
theorem zipR_get {t : Tr Chunk} : ∀ {rids : List Nat} {rc : List Chunk} {n0 id : Nat} {ch : Chunk}, below n0 rids = true → pk rids t = rc.map some → (ofM (rids.zip rc)).get id = some ch → id ∈ rids ∧ t.get id = some ch
  | [], _, _, _, _, _, _, e => by cases e
  | _ :: _, [], _, _, _, _, h, e => by cases e
  | i :: ids, x :: c, n0, id, ch, hb, h, e => by
    simp only [below] at hb
    split at hb
    · rename_i hs _
      simp only [pk, List.map_cons, List.cons.injEq] at h
      rw [List.zip_cons_cons, ofM, Tr.get_set _ _ _ _ _ (small_lt hs)] at e
      by_cases hi : id = i
      · subst hi; simp only [if_true, Option.some.injEq] at e; subst e
        exact ⟨List.mem_cons_self, h.1⟩
      · rw [if_neg hi] at e
        obtain ⟨h1, h2⟩ := zipR_get hb h.2 e
        exact ⟨List.mem_cons_of_mem _ h1, h2⟩
    · cases hb
/-- **A loop**, with the rest of memory kept. 'ids': the loop's own pieces, of which those from 'hp.n' on are numbers kept free for new ones; 'rids': the rest. -/
theorem loop_fr {P : Program} {G : GQ} {fi : FI} {c : Code} {env : Tr V} {hp : Mem} {k : KK} {α : Type} (ts ids look rids : List Nat) (rc : List Chunk) (n1 : Nat) (le : α → List V) (lm : α → List (Option Chunk)) (φ : α → Prop) (μ : α → Nat) (x0 : α) (h0 : φ x0)
    (hts : smalls ts = true) (hids : below n1 ids = true) (hnd : nodupB ids = true) (hn1 : hp.n ≤ n1) (hro : hp.ro = []) (hr1 : below hp.n rids = true) (hr2 : okR ids hp.n rids = true)
    (hv : ∀ x, voks (okI ids hp.n) (le x) = true) (hc : ∀ x, coks (okI ids hp.n) (lm x) = true)
    (e1 : fitV (pk ts env) (le x0)) (e2 : fitE hp.t ids (lm x0)) (e3 : pk rids hp.t = rc.map some)
    (round : ∀ x, φ x → TaskOk P G (.code fi c [] (ofE (ts.zip (le x))) ⟨n1, ofMo (ids.zip (lm x)), []⟩ (cutM ts look (rM ts ids look rids rc le lm hp.n n1 φ μ k x)))) :
    TaskOk P G (.code fi (.loop c) [] env hp k) := by
  intro ρ W ds L K ro hG hH hE hF hk
  have old : ∀ id x, ρ id = some x → id < hp.n := fun id x e => by
    rcases Nat.lt_or_ge id hp.n with h | h
    · exact h
    · rw [hH.lim id h] at e; cases e
  -- the rest
  let Wr : RW := fun id => match lookA ids ids id with | some _ => none | none => W id
  let W2 : RW := fun id => match lookA ids ids id, Nat.blt id hp.n with | some _, true => W id | _, _ => none
  have start : ∀ x, sep (spl hp.n W) x → sep (spl n1 W2 ++ spl hp.n Wr) x := by
    intro x hx
    rw [sep_app]
    have := spl_split (n := hp.n) (W := W) (Wa := W2) (Wb := Wr) (fun id hid => by
      have hb : Nat.blt id hp.n = true := by simpa [Nat.blt_eq] using hid
      simp only [W2, Wr, hb]
      cases lookA ids ids id with
      | some a => exact .inl ⟨rfl, rfl⟩
      | none => exact .inr ⟨rfl, rfl⟩) x hx
    refine star_mono (fun y hy => ?_) (fun _ y => y) this
    refine spl_ren (g := fun i => i) (fun id hid => ?_) (fun id id' _ _ _ _ h => h) y hy
    by_cases hid : id < hp.n
    · exact .inr ⟨hid, rfl⟩
    · have hb : Nat.blt id hp.n = false := by
        cases hb : Nat.blt id hp.n with
        | false => rfl
        | true => exact absurd (blt_tt hb) hid
      left
      simp only [W2, hb]
      cases lookA ids ids id <;> rfl
  have hH2 : HR ρ ⟨n1, ofMo (ids.zip (lm x0)), []⟩ W2 := by
    refine ⟨fun id ch e => ?_, fun id hid => hH.lim id (Nat.le_trans hn1 hid), fun l hl => by cases hl⟩
    obtain ⟨c1, h1, h2⟩ := fitE_get hids e2 e
    obtain ⟨b, o, h3, h4⟩ := hH.rel id c1 h1
    have hm := ofMo_mem hids e
    have hid := hH.lt h1
    refine ⟨b, o, ?_, chle_ok h2 h4⟩
    have hb : Nat.blt id hp.n = true := by simpa [Nat.blt_eq] using hid
    simp only [W2, lookA_of_mem hm, hb]
    exact h3
  have hE2 : RE ρ (ofE (ts.zip (le x0))) L := RE_pk hE hts e1
  refine Go.weak ?_ start
  refine Go.loopE (α := LSt α) LSt.L (fun s => spl n1 s.W ++ spl hp.n Wr) (fun s => φ s.x ∧ ρ.le s.ρ ∧ HR s.ρ ⟨n1, ofMo (ids.zip (lm s.x)), []⟩ s.W ∧ RE s.ρ (ofE (ts.zip (le s.x))) s.L) (fun s => μ s.x) ⟨x0, ρ, W2, L⟩ ⟨h0, Rho.le_refl _, hH2, hE2⟩ ?_
  rintro ⟨x, ρ1, W1, L1⟩ ⟨hx, hle, hHx, hEx⟩
  simp only at hx hle hHx hEx ⊢
  refine Go_close (Go_up (Go_frame (round x hx ρ1 W1 ds L1 (fun out ds' L' H' => ∃ H'', (Kont.seq (fun ds' L' H' => ds' = ds ∧ ∃ x', (φ x'.x ∧ ρ.le x'.ρ ∧ HR x'.ρ ⟨n1, ofMo (ids.zip (lm x'.x)), []⟩ x'.W ∧ RE x'.ρ (ofE (ts.zip (le x'.x))) x'.L) ∧ μ x'.x < μ x ∧ L' = LSt.L x' ∧ ∀ h, sep H' h → sep (spl n1 x'.W ++ spl hp.n Wr) h) K) out ds' L' H'' ∧ ∀ y, sep (H' ++ spl hp.n Wr) y → sep H'' y) ro (hG.mono hle) hHx hEx (hF.mono hle) ?_)) fun e ds' L' H' ⟨H1, ⟨H2, h1, h2⟩, h3⟩ => ⟨H2, h1, fun y hy => h2 y (by rw [← h3]; exact hy)⟩)
  intro o dv' env' hp' ρ' W' ds' L' out nx hE' dx ho hk'
  unfold cutM at hk'
  split at hk'
  · rename_i hro'
    have hds := (dx.same rfl).2
    subst hds
    have leave : ∀ (o : O) (out : Out), OutRel ρ' o out → (∀ (ρ'' : Rho), OutRel ρ'' o out) → (∃ l ids' c, n1 ≤ hp'.n ∧ okE ids hp.n ids' = true ∧ below hp'.n ids' = true ∧ fitV (pk ts env') l ∧ fitL look (pk look hp'.t) ids' c ∧ k o [] (ofE (ts.zip l)) ⟨hp'.n, ofM (ids'.zip c ++ rids.zip rc), []⟩) →
        ∃ H'', K out ds' L' H'' ∧ ∀ y, sep (spl hp'.n W' ++ spl hp.n Wr) y → sep H'' y := by
      rintro o out ho ho' ⟨l, ids', c, hnm, hoe, hbe, f1, f2, hk''⟩
      let W3 : RW := fun id => match Nat.blt id hp.n, lookA ids ids id with | true, none => W id | _, _ => W' id
      have hle' : ρ.le ρ' := Rho.le_trans hle nx.le
      have hH3 : HR ρ' ⟨hp'.n, ofM (ids'.zip c ++ rids.zip rc), []⟩ W3 := by
        refine ⟨fun id ch e => ?_, fun id hid => nx.hr.lim id hid, fun l hl => by cases hl⟩
        rcases ofM_get hbe e with ⟨_, hm, _⟩ | hr
        · obtain ⟨c1, h1, h2⟩ := fitL_mem f2 hm
          obtain ⟨b, o', h3, h4⟩ := nx.hr.rel id c1 (lookC_pk h1)
          refine ⟨b, o', ?_, chle_ok h2 h4⟩
          have hid : id ∈ ids' := (List.of_mem_zip hm).1
          have hW3 : W3 id = W' id := by
            simp only [W3]
            split
            · rename_i hb hl
              rcases okE_mem hoe hid with ⟨a, ha⟩ | hge
              · rw [hl] at ha; cases ha
              · have := blt_tt hb; omega
            · rfl
          rw [hW3]; exact h3
        · obtain ⟨h1, h2⟩ := zipR_get hr1 e3 hr
          obtain ⟨b, o', h3, h4⟩ := hH.rel id ch h2
          obtain ⟨h5, h6⟩ := okR_mem hr2 h1
          refine ⟨b, o', ?_, h4.mono hle'⟩
          have hb : Nat.blt id hp.n = true := by simpa [Nat.blt_eq] using h6
          simp only [W3, hb, h5]
          exact h3
      refine ⟨spl hp'.n W3, hk o [] (ofE (ts.zip l)) ⟨hp'.n, ofM (ids'.zip c ++ rids.zip rc), []⟩ ρ' W3 ds' L' out ⟨hle', hH3, hro.symm, fun l hl => by rw [hro] at hl; cases hl⟩ (RE_pk hE' hts f1) .refl ho hk'', fun y hy => ?_⟩
      rw [sep_app] at hy
      refine spl_merge (W1 := W') (Wr := Wr) (m := hp'.n) (n0 := hp.n) (fun id hid => ?_) y hy
      simp only [W3]
      split
      · rename_i hb hl
        refine .inr (.inr ⟨blt_tt hb, ?_⟩)
        simp only [Wr, hl]
      · exact .inr (.inl ⟨hid, rfl⟩)
    cases o <;> cases out <;> first | exact ho.elim | skip
    · obtain ⟨x', acts, hx', hlt, hnm, hacts, f1, f2⟩ := hk'
      have hlen := actsOk_len hacts
      let ρ2 : Rho := fun id => match lookA ids acts id with | some a => ρ' a | none => match Nat.blt id hp.n with | true => ρ' id | false => none
      let W3 : RW := fun id => match lookA ids acts id with | some a => W' a | none => none
      have hf : ∀ id, okI ids hp.n id = true → ρ2 id = ρ' (renF ids acts id) := by
        intro id hok
        simp only [ρ2, renF]
        cases hl : lookA ids acts id with
        | some a => rfl
        | none =>
          have : lookA ids ids id = none := by
            have := lookA_self (id := id) hlen
            rw [hl] at this
            cases hh : lookA ids ids id with
            | none => rfl
            | some a => rw [hh] at this; cases this
          unfold okI at hok
          rw [this] at hok
          dsimp only at hok
          rw [hok]
      have hle2 : ρ.le ρ2 := by
        intro id z e
        have hid := old id z e
        have h1 := nx.le _ _ (hle _ _ e)
        simp only [ρ2]
        cases hl : lookA ids acts id with
        | some a =>
          rcases actsOk_old hacts hl with ⟨_, h3⟩ | ⟨h3, _⟩
          · rw [h3]; exact h1
          · omega
        | none =>
          have hb : Nat.blt id hp.n = true := by simpa [Nat.blt_eq] using hid
          rw [hb]; exact h1
      have hH3 : HR ρ2 ⟨n1, ofMo (ids.zip (lm x')), []⟩ W3 := by
        refine ⟨fun id ch e => ?_, fun id hid => ?_, fun l hl => by cases hl⟩
        · obtain ⟨a, c1, h1, h2, h3⟩ := fitM_get hnd hids f2 e
          obtain ⟨b, o', h4, h5⟩ := nx.hr.rel a c1 (lookC_pk h2)
          have hm := ofMo_mem hids e
          refine ⟨b, o', by simp only [W3, h1]; exact h4, ?_⟩
          have hfa : renF ids acts id = a := by unfold renF; rw [h1]
          refine cren_ok hf (by unfold okI; rw [lookA_of_mem hm]) (coks_get hids (hc x') e) ?_
          rw [hfa]
          exact chle_ok h3 h5
        · have hid : n1 ≤ id := hid
          simp only [ρ2]
          cases hl : lookA ids acts id with
          | some a => have := below_mem hids (lookA_mem hl); omega
          | none =>
            have hb : Nat.blt id hp.n = false := by
              cases hb : Nat.blt id hp.n with
              | false => rfl
              | true => have := blt_tt hb; omega
            rw [hb]
      refine ⟨spl n1 W3 ++ spl hp.n Wr, ⟨rfl, ⟨x', ρ2, W3, L'⟩, ⟨hx', hle2, hH3, RE_ren hf hE' hts (hv x') f1⟩, hlt, rfl, fun h hh => hh⟩, fun y hy => ?_⟩
      rw [sep_app] at hy ⊢
      refine star_mono (fun z hz => ?_) (fun _ z => z) hy
      refine spl_ren (g := renF ids acts) (m := hp'.n) (fun id hid => ?_) (fun id id' hid hid' h1 h2 he => ?_) z hz
      · simp only [W3, renF]
        cases hl : lookA ids acts id with
        | some a =>
          refine .inr ⟨?_, rfl⟩
          rcases actsOk_old hacts hl with ⟨h3, h4⟩ | ⟨_, _, h3, _⟩
          · show a < hp'.n; omega
          · exact h3
        | none => exact .inl rfl
      · cases hl : lookA ids acts id with
        | none => exact absurd (by simp only [W3, hl]) h1
        | some a =>
          cases hl' : lookA ids acts id' with
          | none => exact absurd (by simp only [W3, hl']) h2
          | some a' =>
            simp only [renF, hl, hl'] at he
            subst he
            exact actsOk_inj hacts hl hl'
    · exact leave _ _ ho (fun _ => ho) hk'
    · exact hk'.elim
    · exact leave _ _ ho (fun _ => ho) hk'
    · exact hk'.elim
  · exact hk'.elim
end
end Go.Q
/- Contracts over closed arguments. -/
namespace Go.Q
open Go.Z Go.Y
noncomputable section
def retT (R : List V) : E → Prop := fun e => match e with
  | .ret (.tup l) => vles l R
  | _ => False
/-- A contract over closed arguments serves in whatever memory. -/
theorem sum_of {P : Program} {G0 G : GQ} {f : Nat} {args : List V} {hp : Mem} {k : KE} {R : List V} (h : TaskOk P G0 (.call f args nomem fun e _ => retT R e)) (hg : G0.g.t = .nil) (ha : vins 0 args = true) (hR : vins 0 R = true) (hk : k (.ret (.tup R)) hp) : TaskOk P G (.call f args hp k) := by
  have down : ∀ {ρ : Rho} {l : List V} {us : List Value}, vins 0 l = true → RL ρ l us → RL norho l us := fun hl h => (vins_ok hl h).mono fun id x e => by
    rw [cutR_ge (Nat.zero_le _)] at e; cases e
  refine call_of ⟨h.1, fun ρ us hus => ⟨fun en => EndRel norho (.ret (.tup R)) en, (fn_of h hg (down ha hus) fun e hp en ρ' hen hk' => ?_).2, fun en hen => ⟨.ret (.tup R), ?_, hk⟩⟩⟩
  · unfold retT at hk'
    split at hk'
    · cases en with
      | returned u =>
        obtain ⟨l', h1, h2⟩ := hen
        exact ⟨l', down hR (vles_ok hk' h1), h2⟩
      | panicked ch => exact hen.elim
      | outgrown => exact hen.elim
    · exact hk'.elim
  · cases en with
    | returned u => exact Go.Y.R.mono (fun id x e => by cases e) hen
    | panicked ch => exact hen.elim
    | outgrown => exact hen.elim
def retV (R : V) : E → Prop := fun e => match e with
  | .ret v => vle v R
  | _ => False
theorem sum_of1 {P : Program} {G0 G : GQ} {f : Nat} {args : List V} {hp : Mem} {k : KE} {R : V} (h : TaskOk P G0 (.call f args nomem fun e _ => retV R e)) (hg : G0.g.t = .nil) (ha : vins 0 args = true) (hR : vin 0 R = true) (hk : k (.ret R) hp) : TaskOk P G (.call f args hp k) := by
  have no : ∀ {ρ : Rho}, (cutR ρ 0).le norho := fun id x e => by rw [cutR_ge (Nat.zero_le _)] at e; cases e
  refine call_of ⟨h.1, fun ρ us hus => ⟨fun en => EndRel norho (.ret R) en, (fn_of h hg ((vins_ok ha hus).mono no) fun e hp en ρ' hen hk' => ?_).2, fun en hen => ⟨.ret R, ?_, hk⟩⟩⟩
  · unfold retV at hk'
    split at hk'
    · cases en with
      | returned u => exact Go.Y.R.mono no (vin_ok hR (vle_ok hk' hen))
      | panicked ch => exact hen.elim
      | outgrown => exact hen.elim
    · exact hk'.elim
  · cases en with
    | returned u => exact Go.Y.R.mono (fun id x e => by cases e) hen
    | panicked ch => exact hen.elim
    | outgrown => exact hen.elim
end
end Go.Q
