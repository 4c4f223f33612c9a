/- Loops over open terms: a round looked at through the temporaries and pieces that matter. -/
import Derived.Test.YteajbfgkllmjhaaDoorM8
import Derived.Test.YteajbfgkllmjhaaDoorM6
import Derived.Below
import Derived.ChangeArms
import Derived.DataReads
import Derived.Deep.Slices
import Derived.WideShapes
set_option linter.unusedVariables false
set_option linter.unusedSimpArgs false
set_option linter.unusedSectionVars false
namespace Go.Q
open Go.Z Go.Y
noncomputable section
variable [Ext]
def pk {α : Type} : List Nat -> Tr α -> List (Option α)
 | [], _ => []
 | t :: ts, env => env.get t :: pk ts env
def fitV : List (Option V) -> List V -> Prop
 | [], [] => True
 | some v :: l, w :: m => vle v w /\ fitV l m
 | _, _ => False
def smalls : List Nat -> Bool
 | [] => true
 | t :: l => match small t with | true => smalls l | false => false
def below (n : Nat) : List Nat -> Bool
 | [] => true
 | t :: l => match small t, Nat.blt t n with | true, true => below n l | _, _ => false
def loops : Code -> List Code
 | .seq a b => loops a ++ loops b
 | .cond _ a b => loops a ++ loops b
 | .block _ c => loops c
 | .scope c => loops c
 | .loop c => c :: loops c
 | _ => []
def lp (P : Program) (f i : Nat) : Code := match P.funcs[f]? with
 | some fn => match fn.body with
  | some c => (loops c).getD i .skip
  | none => .skip
 | none => .skip
theorem ls_one {P : Program} {G : GQ} {i : Nat} {c0 : Code} {s : FI -> List DV -> Tr V -> Mem -> KK -> Prop} (hl : G.ls = [(i, c0, s)]) (h : ∀ fi ds env hp k, s fi ds env hp k -> TaskOk P G (.code fi (.loop c0) ds env hp k)) : LsOk P G := by
 intro j c s' hj
 rw [hl] at hj
 simp only [lookL] at hj
 split at hj
 ·cases hj; exact h
 ·cases hj
theorem zxl {P : Program} {G : GQ} (hl : G.ls = []) : LsOk P G := by
 intro j c s' hj
 rw [hl] at hj
 cases hj
theorem zqV {P : Program} {G : GQ} (hl : G.fs = []) : FsOk P G := by
 intro j s' hj
 rw [hl] at hj
 cases hj
end
end Go.Q
namespace Go.Q
open Go.Z Go.Y
noncomputable section
variable [Ext]
theorem Go_frame {P : Program} {ro : Option Nat} {n : Nat} {c : Code} {ds : List Deferred} {L : Lo} {H B : List SP} {K : Kont} (h : Z.Go P ro n c ds L H K) : Z.Go P ro n c ds L (H ++ B) (λ e ds' L' H' => ∃ H1, K e ds' L' H1 /\ H' = H1 ++ B) := by
 intro Γ F a w Q he hh hq
 refine h Γ _ a w Q he (hh.inn (Hc := H) (Hr := B) λ x hx => hx) ?_
 intro e ds' L' H1 a' w' k he' hh'
 exact hq e ds' L' (H1 ++ B) a' w' ⟨H1, k, rfl⟩ he' hh'.out
theorem Go_close {P : Program} {ro : Option Nat} {n : Nat} {c : Code} {ds : List Deferred} {L : Lo} {H : List SP} {K : Kont} (h : Z.Go P ro n c ds L H (λ e ds' L' H' => ∃ H'', K e ds' L' H'' /\ ∀ x, sep H' x -> sep H'' x)) : Z.Go P ro n c ds L H K := by
 intro Γ F a w Q he hh hq
 refine h Γ F a w Q he hh ?_
 intro e ds' L' H' a' w' ⟨H'', k, s⟩ he' hh'
 exact hq e ds' L' H'' a' w' k he' (hh'.weaken s)
theorem Go_up {P : Program} {ro : Option Nat} {n : Nat} {c : Code} {ds : List Deferred} {L : Lo} {H : List SP} {K K' : Kont} (h : Z.Go P ro n c ds L H K) (up : ∀ e ds' L' H', K e ds' L' H' -> K' e ds' L' H') : Z.Go P ro n c ds L H K' := by
 intro Γ F a w Q he hh hq
 refine h Γ F a w Q he hh ?_
 intro e ds' L' H' a' w' k he' hh'
 exact hq e ds' L' H' a' w' (up _ _ _ _ k) he' hh'
mutual
def renV (f : Nat -> Nat) : V -> V
 | .ptr id off => .ptr (f id) off
 | .sl id i off len cap => .sl (f id) i off len cap
 | .map id => .map (f id)
 | .yld id => .yld (f id)
 | .ssl id i len sz => .ssl (f id) i len sz
 | .sptr id i g sz => .sptr (f id) i g sz
 | .ptrh id off => .ptrh (f id) off
 | .slh id i off len => .slh (f id) i off len
 | .ifc t v => .ifc t (renV f v)
 | .agg l => .agg (renVs f l)
 | .tup l => .tup (renVs f l)
 | v => v
def renVs (f : Nat -> Nat) : List V -> List V
 | [] => []
 | v :: l => renV f v :: renVs f l
end
mutual
def vok (ok : Nat -> Bool) : V -> Bool
 | .ptr id _ => ok id
 | .sl id _ _ _ _ => ok id
 | .map id => ok id
 | .yld id => ok id
 | .ssl id _ _ _ => ok id
 | .sptr id _ _ _ => ok id
 | .ptrh id _ => ok id
 | .slh id _ _ _ => ok id
 | .fn _ a b => match a, b with | [], [] => true | _, _ => false
 | .ifc _ v => vok ok v
 | .agg l => voks ok l
 | .tup l => voks ok l
 | _ => true
def voks (ok : Nat -> Bool) : List V -> Bool
 | [] => true
 | v :: l => match vok ok v with | true => voks ok l | false => false
end
mutual
theorem ren_ok {ρ1 ρ2 : Rho} {f : Nat -> Nat} {ok : Nat -> Bool} (hf : ∀ id, ok id = true -> ρ2 id = ρ1 (f id)) : ∀ {v : V} {u : Value}, vok ok v = true -> R ρ1 (renV f v) u -> R ρ2 v u
 | .bool _, _, _, h | .int _ _, _, _, h | .str _, _, _, h | .und, _, _, h | .sle, _, _, h | .nilp, _, _, h | .nils, _, _, h | .nilm, _, _, h | .nilf, _, _, h | .nili, _, _, h | .anyI _, _, _, h | .anyB, _, _, h | .anyS, _, _, h | .sint _ _, _, _, h | .sbool _, _, _, h | .sstr _, _, _, h | .xs _ _, _, _, h | .xp _ _ _ _, _, _, h => h
 | .ptr id off, u, hn, h => by obtain ⟨b, c, e, h⟩ := h; exact ⟨b, c, by rw [hf id hn]; exact e, h⟩
 | .sl id .., u, hn, h => by obtain ⟨b, c, e, h⟩ := h; exact ⟨b, c, by rw [hf id hn]; exact e, h⟩
 | .map id, u, hn, h => by obtain ⟨b, c, e, h⟩ := h; exact ⟨b, c, by rw [hf id hn]; exact e, h⟩
 | .sptr id i g sz, u, hn, h => by obtain ⟨b, c, e, h⟩ := h; exact ⟨b, c, by rw [hf id hn]; exact e, h⟩
 | .ssl id i len sz, u, hn, h => by
  rcases h with h | ⟨b, c, e, h⟩
  ·exact .inl h
  ·exact .inr ⟨b, c, by rw [hf id hn]; exact e, h⟩
 | .yld id, u, hn, h => by obtain ⟨b, c, e, h⟩ := h; exact ⟨b, c, by rw [hf id hn]; exact e, h⟩
 | .ptrh id off, u, hn, h => by obtain ⟨b, c, base, e, h⟩ := h; exact ⟨b, c, base, by rw [hf id hn]; exact e, h⟩
 | .slh id i off len, u, hn, h => by obtain ⟨b, c, base, e, h⟩ := h; exact ⟨b, c, base, by rw [hf id hn]; exact e, h⟩
 | .fn g a b, u, hn, h => by
  simp only [vok] at hn
  split at hn
  ·obtain ⟨a', b', h1, h2, h⟩ := h
   exact ⟨a', b', h1, h2, h⟩
  ·cases hn
 | .ifc t v, u, hn, h => by obtain ⟨u', h1, h⟩ := h; exact ⟨u', ren_ok hf hn h1, h⟩
 | .agg l, u, hn, h => by obtain ⟨l', h1, h⟩ := h; exact ⟨l', zkp hf hn h1, h⟩
 | .tup l, u, hn, h => by obtain ⟨l', h1, h⟩ := h; exact ⟨l', zkp hf hn h1, h⟩
theorem zkp {ρ1 ρ2 : Rho} {f : Nat -> Nat} {ok : Nat -> Bool} (hf : ∀ id, ok id = true -> ρ2 id = ρ1 (f id)) : ∀ {l : List V} {us : List Value}, voks ok l = true -> RL ρ1 (renVs f l) us -> RL ρ2 l us
 | [], _, _, h => h
 | v :: l, us, hn, h => by
  obtain ⟨u, us', h1, h2, rfl⟩ := h
  simp only [voks] at hn
  split at hn
  ·rename_i hn1
   exact .cons (ren_ok hf hn1 h1) (zkp hf hn h2)
  ·cases hn
end
def renC (f : Nat -> Nat) : Chunk -> Chunk
 | .cells l ty sz => .cells (renVs f l) ty sz
 | .cellsH l ty sz => .cellsH (renVs f l) ty sz
 | c => c
def cok (ok : Nat -> Bool) : Chunk -> Bool
 | .cells l _ _ => voks ok l
 | .cellsH l _ _ => voks ok l
 | .byt _ _ => true
 | .rows _ sh _ => noAny sh
 | .rowsO _ sh _ => noAny sh
 | _ => false
theorem noAny_R {ρ ρ' : Rho} : ∀ {sh : List Sh} {r : List V} {us : List Value}, noAny sh = true -> shR sh r -> RL ρ r us -> RL ρ' r us
 | [], r, us, _, hs, h => by rw [show r = [] from hs] at h ⊢; exact h
 | s :: sh, r, us, hn, hs, h => by
  obtain ⟨v, r', rfl, hs1, hs2⟩ := hs
  obtain ⟨u, us', h1, h2, rfl⟩ := h
  have hn' : noAny sh = true := by cases s <;> first | exact hn | cases hn
  refine .cons ?_ (noAny_R hn' hs2 h2)
  cases s with
  | int k => obtain ⟨i, rfl | rfl⟩ := hs1 <;> exact h1
  | str => obtain ⟨i, rfl | rfl⟩ := hs1 <;> exact h1
  | bool => obtain ⟨i, rfl | rfl⟩ := hs1 <;> exact h1
  | any => cases hn
  | xs _ => cases hn
theorem flat_R {ρ ρ' : Rho} {sh : List Sh} (hn : noAny sh = true) : ∀ {l : List (List V)} {us : List Value}, (∀ r ∈ l, shR sh r) -> RL ρ l.flatten us -> RL ρ' l.flatten us
 | [], us, _, h => h
 | r :: l, us, hs, h => by
  rw [List.flatten_cons] at h ⊢
  have h1 := h.take r.length
  have h2 := h.drop r.length
  rw [List.take_left'] at h1
  rw [List.drop_left'] at h2
  have := (noAny_R (ρ' := ρ') hn (hs r List.mem_cons_self) h1).append (flat_R hn (λ x hx => hs x (List.mem_cons_of_mem _ hx)) h2)
  rwa [List.take_append_drop] at this
  all_goals rfl
theorem cren_ok {ρ1 ρ2 : Rho} {f : Nat -> Nat} {ok : Nat -> Bool} (hf : ∀ id, ok id = true -> ρ2 id = ρ1 (f id)) {id b : Nat} {o : Obj} {c : Chunk} (hid : ok id = true) (hc : cok ok c = true) (h : CRel ρ1 (f id) (renC f c) b o) : CRel ρ2 id c b o := by
 cases c with
 | cells l ty sz =>
  obtain ⟨c, rl, junk, fr, h1, h2, h3⟩ := h
  exact ⟨c, rl, junk, fr, by rw [hf id hid]; exact h1, zkp hf hc h2, h3⟩
 | cellsH l ty sz =>
  obtain ⟨c, base, pre, rl, junk, fr, h1, h2, h3⟩ := h
  exact ⟨c, base, pre, rl, junk, fr, by rw [hf id hid]; exact h1, zkp hf hc h2, h3⟩
 | byt l ty =>
  obtain ⟨c, junk, fr, h1, h3⟩ := h
  exact ⟨c, junk, fr, by rw [hf id hid]; exact h1, h3⟩
 | rows l sh ty =>
  obtain ⟨c, rl, junk, fr, h1, h2, h3, h4⟩ := h
  exact ⟨c, rl, junk, fr, by rw [hf id hid]; exact h1, flat_R hc h3 h2, h3, h4⟩
 | rowsO l sh ty =>
  obtain ⟨⟨c0, h0⟩, h⟩ := h
  refine ⟨⟨c0, by rw [hf id hid]; exact h0⟩, ?_⟩
  rcases h with h | ⟨c, rl, junk, fr, h1, h2, h3, h4⟩
  ·exact .inl h
  ·exact .inr ⟨c, rl, junk, fr, by rw [hf id hid]; exact h1, flat_R hc h3 h2, h3, h4⟩
 | _ => cases hc
theorem zjC {g : Nat -> Nat} {m : Nat} : ∀ {n1 : Nat} {W1 W2 : RW}, (∀ id, id < n1 -> W2 id = none \/ (g id < m /\ W2 id = W1 (g id))) -> (∀ id id', id < n1 -> id' < n1 -> W2 id ≠ none -> W2 id' ≠ none -> g id = g id' -> id = id') -> ∀ x, sep (spl m W1) x -> sep (spl n1 W2) x
 | 0, W1, W2, _, _, x, hx => spl_ext x hx
 | k + 1, W1, W2, h1, h2, x, hx => by
  show sep (optSP (W2 k) :: spl k W2) x
  cases hw : W2 k with
  | none => exact zjo (zjC (λ id hid => h1 id (by omega)) (λ id id' a b => h2 id id' (by omega) (by omega)) x hx)
  | some q =>
   obtain ⟨b, o⟩ := q
   rcases h1 k (by omega) with h | ⟨h3, h4⟩
   ·rw [hw] at h; cases h
   ·rw [hw] at h4
    refine zqc (λ _ y => y) (λ y hy => ?_) (zqe h3 h4.symm x hx)
    refine zjC (W1 := upd W1 (g k) none) (λ id hid => ?_) (λ id id' a b => h2 id id' (by omega) (by omega)) y hy
    rcases h1 id (by omega) with h | ⟨h5, h6⟩
    ·exact .inl h
    ·by_cases hn : W2 id = none
     ·exact .inl hn
     ·refine .inr ⟨h5, ?_⟩
      rw [zqk, h6]
      intro e
      have := h2 id k (by omega) (by omega) hn (by rw [hw]; simp) e
      omega
def lookA : List Nat -> List Nat -> Nat -> Option Nat
 | i :: ids, a :: acts, id => match Nat.beq i id with | true => some a | false => lookA ids acts id
 | _, _, _ => none
def renF (ids acts : List Nat) (id : Nat) : Nat := match lookA ids acts id with
 | some a => a
 | none => id
def okI (ids : List Nat) (n0 : Nat) (id : Nat) : Bool := match lookA ids ids id with
 | some _ => true
 | none => Nat.blt id n0
def ofMo : List (Nat × Option Chunk) -> Tr Chunk
 | [] => .nil
 | (t, some v) :: l => Tr.set 20 (ofMo l) t (some v)
 | (t, none) :: l => ofMo l
def lookC : List Nat -> List (Option Chunk) -> Nat -> Option Chunk
 | i :: ids, c :: cs, id => match Nat.beq i id with | true => c | false => lookC ids cs id
 | _, _, _ => none
def cutM (ts look : List Nat) (N : O -> List (Option V) -> Nat -> List (Option Chunk) -> Prop) : KK := λ o dv env hp => match dv, hp.ro with
 | [], [] => N o (pk ts env) hp.n (pk look hp.t)
 | _, _ => False
def fitR (f : Nat -> Nat) : List (Option V) -> List V -> Prop
 | [], [] => True
 | some v :: l, w :: m => vle v (renV f w) /\ fitR f l m
 | _, _ => False
def fitM (f : Nat -> Nat) (look : List Nat) (cs : List (Option Chunk)) : List Nat -> List Nat -> List (Option Chunk) -> Prop
 | i :: ids, a :: acts, some c :: l => (∃ c1, lookC look cs a = some c1 /\ chle c1 (renC f c)) /\ fitM f look cs ids acts l
 | _ :: ids, _ :: acts, none :: l => fitM f look cs ids acts l
 | [], [], [] => True
 | _, _, _ => False
def actsOk (n0 m : Nat) : List Nat -> List Nat -> Bool
 | i :: ids, a :: acts => match Nat.blt i n0 with
  | true => match Nat.beq i a with | true => actsOk n0 m ids acts | false => false
  | false => match Nat.ble n0 a, Nat.blt a m, acts.all (λ b => !(Nat.beq b a)) with | true, true, true => actsOk n0 m ids acts | _, _, _ => false
 | [], [] => true
 | _, _ => false
theorem zkI {t : Tr Chunk} {id : Nat} {c : Chunk} : ∀ {look : List Nat}, lookC look (pk look t) id = some c -> t.get id = some c
 | [], h => by cases h
 | i :: look, h => by
  simp only [pk, lookC] at h
  split at h
  ·rename_i hb; rw [<- beq_tt hb]; exact h
  ·exact zkI h
theorem zxJ {ids acts : List Nat} (hl : ids.length = acts.length) {id : Nat} : (lookA ids acts id).isSome = (lookA ids ids id).isSome := by
 induction ids generalizing acts with
 | nil => cases acts <;> rfl
 | cons i ids ih =>
  cases acts with
  | nil => simp at hl
  | cons a acts =>
   simp only [lookA]
   split
   ·rfl
   ·exact ih (by simpa using hl)
theorem zkw {n0 m : Nat} : ∀ {ids acts : List Nat}, actsOk n0 m ids acts = true -> ids.length = acts.length
 | [], [], _ => rfl
 | [], _ :: _, h => by cases h
 | _ :: _, [], h => by cases h
 | i :: ids, a :: acts, h => by
  simp only [actsOk] at h
  split at h
  ·split at h
   ·simp [zkw h]
   ·cases h
  ·split at h
   ·simp [zkw h]
   ·cases h
theorem zqB {n0 m : Nat} : ∀ {ids acts : List Nat} {id a : Nat}, actsOk n0 m ids acts = true -> lookA ids acts id = some a -> (id < n0 /\ a = id) \/ (n0 <= id /\ n0 <= a /\ a < m /\ a ∈ acts)
 | [], _, _, _, _, h => by cases h
 | _ :: _, [], _, _, h, _ => by cases h
 | i :: ids, b :: acts, id, a, h, hl => by
  simp only [actsOk] at h
  simp only [lookA] at hl
  split at h
  ·rename_i hi
   split at h
   ·rename_i hb
    split at hl
    ·rename_i he
     cases hl
     have e1 := beq_tt he
     have e2 := beq_tt hb
     subst e1 e2
     exact .inl ⟨blt_tt hi, rfl⟩
    ·rcases zqB h hl with h1 | ⟨h1, h2, h3, h4⟩
     ·exact .inl h1
     ·exact .inr ⟨h1, h2, h3, List.mem_cons_of_mem _ h4⟩
   ·cases h
  ·rename_i hi
   split at h
   ·rename_i h1 h2 h3
    split at hl
    ·rename_i he
     cases hl
     have e1 := beq_tt he
     subst e1
     have : ¬ i < n0 := λ hh => by
      have : Nat.blt i n0 = true := by simpa [Nat.blt_eq] using hh
      rw [this] at hi; cases hi
     exact .inr ⟨by omega, Nat.le_of_ble_eq_true h1, blt_tt h2, List.mem_cons_self⟩
    ·rcases zqB h hl with h1 | ⟨h1, h2, h3, h4⟩
     ·exact .inl h1
     ·exact .inr ⟨h1, h2, h3, List.mem_cons_of_mem _ h4⟩
   ·cases h
theorem zkx {n0 m : Nat} : ∀ {ids acts : List Nat} {id id' a : Nat}, actsOk n0 m ids acts = true -> lookA ids acts id = some a -> lookA ids acts id' = some a -> id = id'
 | [], _, _, _, _, _, h, _ => by cases h
 | _ :: _, [], _, _, _, h, _, _ => by cases h
 | i :: ids, b :: acts, id, id', a, h, hl, hl' => by
  have h0 := h
  simp only [actsOk] at h
  simp only [lookA] at hl hl'
  have other : ∀ {x : Nat}, actsOk n0 m ids acts = true -> lookA ids acts x = some b -> i = x \/ b < n0 \/ b ∈ acts := by
   intro x hx hlx
   rcases zqB hx hlx with ⟨h1, h2⟩ | ⟨_, _, _, h4⟩
   ·exact .inr (.inl (by omega))
   ·exact .inr (.inr h4)
  split at h
  ·rename_i hi
   split at h
   ·rename_i hb
    have hb := beq_tt hb
    subst hb
    have hin := blt_tt hi
    split at hl
    ·rename_i he
     have he := beq_tt he
     subst he
     cases hl
     split at hl'
     ·rename_i he'; exact beq_tt he'
     ·rcases zqB h hl' with ⟨_, h2⟩ | ⟨_, h2, _⟩
      ·exact h2
      ·omega
    ·split at hl'
     ·rename_i he'
      have he' := beq_tt he'
      subst he'
      cases hl'
      rcases zqB h hl with ⟨_, h2⟩ | ⟨_, h2, _⟩
      ·exact h2.symm
      ·omega
     ·exact zkx h hl hl'
   ·cases h
  ·rename_i hi
   split at h
   ·rename_i h1 h2 h3
    have hnot : b ∉ acts := by
     intro hm
     have := List.all_eq_true.1 h3 b hm
     simp at this
    have hge := Nat.le_of_ble_eq_true h1
    split at hl
    ·rename_i he
     have he := beq_tt he
     subst he
     cases hl
     split at hl'
     ·rename_i he'; exact beq_tt he'
     ·rcases zqB h hl' with ⟨h5, h6⟩ | ⟨_, _, _, h6⟩
      ·omega
      ·exact absurd h6 hnot
    ·split at hl'
     ·rename_i he'
      have he' := beq_tt he'
      subst he'
      cases hl'
      rcases zqB h hl with ⟨h5, h6⟩ | ⟨_, _, _, h6⟩
      ·omega
      ·exact absurd h6 hnot
     ·exact zkx h hl hl'
   ·cases h
def trAll {α : Type} (p : α -> Bool) : Tr α -> Bool
 | .nil => true
 | .node l c r => match trAll p l, trAll p r with
  | true, true => match c with | some v => p v | none => true
  | _, _ => false
theorem zjM {α : Type} {p : α -> Bool} {t : Tr α} (h : trAll p t = true) : trAll p t.lft = true /\ trAll p t.rgt = true /\ ∀ v, t.mid = some v -> p v = true := by
 cases t with
 | nil => exact ⟨rfl, rfl, λ v e => by cases e⟩
 | node l c r =>
  simp only [trAll] at h
  split at h
  ·rename_i hl hr
   exact ⟨hl, hr, λ v e => by have e : c = some v := e; subst e; exact h⟩
  ·cases h
theorem zxq {α : Type} {p : α -> Bool} : ∀ {t : Tr α} {k m i : Nat} {v : α}, trAll p t = true -> t.getI k m i = some v -> p v = true
 | .nil, k, m, i, v, _, e => by cases e
 | .node l c r, k, m, i, v, h, e => by
  obtain ⟨hl, hr, hc⟩ := zjM h
  rw [Tr.getI_eq] at e
  split at e
  ·exact hc _ e
  ·split at e
   ·exact zxq hl e
   ·exact zxq hr e
theorem trAll_get {α : Type} {p : α -> Bool} {t : Tr α} {i : Nat} {v : α} (h : trAll p t = true) (e : t.get i = some v) : p v = true := by
 obtain ⟨h1, h2, _⟩ := zjM h
 obtain ⟨h3, h4, _⟩ := zjM h2
 obtain ⟨h5, h6, _⟩ := zjM h4
 rw [Tr.get_eq] at e
 split at e
 ·exact zxq h1 e
 ·split at e
  ·exact zxq h3 e
  ·split at e
   ·exact zxq h5 e
   ·exact zxq h6 e
def esIn (n : Nat) : List (V × V × Nat) -> Bool
 | [] => true
 | (a, b, _) :: l => match vin n a, vin n b with | true, true => esIn n l | _, _ => false
def oldC (n : Nat) : Chunk -> Bool
 | .map es _ => esIn n es
 | .loop _ _ env _ _ _ _ d => match Nat.blt d n with | true => trAll (vin n) env | false => false
 | .defr => true
 | _ => false
theorem esIn_ok {ρ : Rho} {n : Nat} : ∀ {l : List (V × V × Nat)} {es : List MapEntry}, esIn n l = true -> REs ρ l es -> REs (cutR ρ n) l es
 | [], _, _, h => h
 | (a, b, c) :: l, es, hn, h => by
  obtain ⟨k', v', l', h1, h2, h3, h⟩ := h
  simp only [esIn] at hn
  split at hn
  ·rename_i ha hb
   exact ⟨k', v', l', vin_ok ha h1, vin_ok hb h2, esIn_ok hn h3, h⟩
  ·cases hn
theorem oldC_ok {ρ : Rho} {n id b : Nat} {o : Obj} {c : Chunk} (hid : id < n) (hc : oldC n c = true) (h : CRel ρ id c b o) : CRel (cutR ρ n) id c b o := by
 have hb : Nat.blt id n = true := by simpa [Nat.blt_eq] using hid
 cases c with
 | map es clk => obtain ⟨⟨c, h1⟩, es', h2, h3⟩ := h; exact ⟨⟨c, by rw [zxf hb]; exact h1⟩, es', h2, esIn_ok hc h3⟩
 | defr => obtain ⟨⟨c, h1⟩, h2⟩ := h; exact ⟨⟨c, by rw [zxf hb]; exact h1⟩, h2⟩
 | loop st pend env nt params assign body d =>
  simp only [oldC] at hc
  split at hc
  ·rename_i hd
   obtain ⟨⟨c, h1⟩, fn, ts, db, dc, h2, h3, h4, h5⟩ := h
   refine ⟨⟨c, by rw [zxf hb]; exact h1⟩, fn, ts, db, dc, h2, λ t v e => ?_, by rw [zxf hd]; exact h4, h5⟩
   obtain ⟨u, h6, h7⟩ := h3 t v e
   exact ⟨u, h6, vin_ok (trAll_get hc e) h7⟩
  ·cases hc
 | _ => cases hc
theorem oldC_ren {n : Nat} {c : Chunk} {f : Nat -> Nat} (hc : oldC n c = true) : renC f c = c := by
 cases c <;> first | rfl | cases hc
def coks2 (ok : Nat -> Bool) (n0 : Nat) : List Nat -> List (Option Chunk) -> Bool
 | i :: ids, some c :: l => match oldC n0 c, Nat.blt i n0 with
  | true, true => coks2 ok n0 ids l
  | _, _ => match cok ok c with | true => coks2 ok n0 ids l | false => false
 | _ :: ids, none :: l => coks2 ok n0 ids l
 | _, _ => true
theorem zke {ok : Nat -> Bool} {n0 : Nat} : ∀ {ids : List Nat} {l : List (Option Chunk)} {n1 id : Nat} {ch : Chunk}, below n1 ids = true -> coks2 ok n0 ids l = true -> (ofMo (ids.zip l)).get id = some ch -> (oldC n0 ch = true /\ id < n0) \/ cok ok ch = true
 | [], _, _, _, _, _, _, e => by cases e
 | _ :: _, [], _, _, _, _, _, e => by cases e
 | i :: ids, some c :: l, n1, id, ch, hb, hc, e => by
  simp only [below] at hb
  split at hb
  ·rename_i hs _
   rw [List.zip_cons_cons, ofMo, Tr.get_set _ _ _ _ _ (zqE hs)] at e
   simp only [coks2] at hc
   by_cases hi : id = i
   ·subst hi; simp only [if_true, Option.some.injEq] at e; subst e
    split at hc
    ·rename_i h1 h2; exact .inl ⟨h1, blt_tt h2⟩
    ·split at hc
     ·rename_i h1; exact .inr h1
     ·cases hc
   ·rw [if_neg hi] at e
    split at hc
    ·exact zke hb hc e
    ·split at hc
     ·exact zke hb hc e
     ·cases hc
  ·cases hb
 | i :: ids, none :: l, n1, id, ch, hb, hc, e => by
  simp only [below] at hb
  split at hb
  ·exact zke (l := l) hb hc e
  ·cases hb
end
end Go.Q
namespace Go.Q
open Go.Z Go.Y
noncomputable section
variable [Ext]
theorem zkZ : ∀ {n : Nat} {W Wa Wb : RW}, (∀ id, id < n -> (Wa id = W id /\ Wb id = none) \/ (Wa id = none /\ Wb id = W id)) -> ∀ x, sep (spl n W) x -> star (sep (spl n Wa)) (sep (splR n Wb)) x
 | 0, W, Wa, Wb, _, x, hx => ⟨x, Hp.nil, λ _ => .inr rfl, (Hp.un_nil _).symm, hx, trivial⟩
 | n + 1, W, Wa, Wb, h, x, hx => by
  have ih : ∀ y, sep (spl n W) y -> star (sep (spl n Wa)) (sep (splR n Wb)) y := zkZ λ id hid => h id (by omega)
  have hx : star (optSP (W n)) (sep (spl n W)) x := hx
  rcases h n (Nat.lt_succ_self n) with ⟨h1, h2⟩ | ⟨h1, h2⟩
  ·have := zqc (λ _ y => y) (λ y hy => ih y hy) hx
   have := zxQ this
   refine zqc (λ y hy => ?_) (λ y hy => ?_) this
   ·show star (optSP (Wa n)) (sep (spl n Wa)) y
    rw [h1]; exact hy
   ·show star (optSP (Wb n)) (sep (splR n Wb)) y
    rw [h2]; exact zjo hy
  ·have := zqc (λ _ y => y) (λ y hy => ih y hy) hx
   have := zqi this
   refine zqc (λ y hy => ?_) (λ y hy => ?_) this
   ·show star (optSP (Wa n)) (sep (spl n Wa)) y
    rw [h1]; exact zjo hy
   ·show star (optSP (Wb n)) (sep (splR n Wb)) y
    rw [h2]; exact hy
theorem splR_pick {b : Nat} {o : Obj} : ∀ {n : Nat} {W : RW} {id : Nat}, id < n -> W id = some (b, o) -> Pick (splR n W) (pt b o) (splR n (upd W id none))
 | 0, _, _, h, _ => absurd h (Nat.not_lt_zero _)
 | n + 1, W, id, h, hw => by
  intro x hx
  by_cases e : id = n
  ·subst e
   simp only [splR, hw, optSP] at hx
   simp only [splR, zqb, optSP]
   have hc : ∀ {k : Nat} {W W' : RW}, (∀ id, id < k -> W id = W' id) -> splR k W = splR k W' := by
    intro k
    induction k with
    | zero => intro W W' _; rfl
    | succ k ih => intro W W' h; simp only [splR]; rw [h k (by omega), ih (W' := W') λ id hid => h id (by omega)]
   rw [hc (W' := W) λ j hj => zqk (by omega)]
   exact zqc (λ _ y => y) (λ _ y => zjo y) hx
  ·simp only [splR] at hx ⊢
   rw [zqk (Ne.symm e)]
   exact zqi (zqc (λ _ y => y) (λ _ y => splR_pick (by omega) hw _ y) hx)
theorem zxH {m n0 : Nat} {W2 : RW} : ∀ {k : Nat} {W1 Wr : RW}, (∀ id, id < k -> W2 id = none \/ (id < m /\ W2 id = W1 id) \/ (id < n0 /\ W2 id = Wr id)) -> ∀ x, star (sep (spl m W1)) (sep (splR n0 Wr)) x -> sep (spl k W2) x
 | 0, _, _, _, x, hx => by
  obtain ⟨h1, h2, d, rfl, a, _⟩ := hx
  have := sep_up [extSP] (h1 := h2) (h2 := h1) (λ i => (d i).symm) (spl_ext _ a)
  rw [Hp.un_comm d]; exact this
 | k + 1, W1, Wr, h, x, hx => by
  show star (optSP (W2 k)) (sep (spl k W2)) x
  cases hw : W2 k with
  | none => exact zjo (zxH (λ id hid => h id (by omega)) x hx)
  | some q =>
   obtain ⟨b, o⟩ := q
   rcases h k (Nat.lt_succ_self k) with h1 | ⟨h1, h2⟩ | ⟨h1, h2⟩
   ·rw [hw] at h1; cases h1
   ·rw [hw] at h2
    have := zqc (λ y hy => zqe h1 h2.symm y hy) (λ _ y => y) hx
    have := zxr this
    refine zqc (λ _ y => y) (λ y hy => ?_) this
    refine zxH (W1 := upd W1 k none) (λ id hid => ?_) y hy
    rcases h id (by omega) with h3 | ⟨h3, h4⟩ | h3
    ·exact .inl h3
    ·exact .inr (.inl ⟨h3, by rw [zqk (by omega)]; exact h4⟩)
    ·exact .inr (.inr h3)
   ·rw [hw] at h2
    have := zqc (λ _ y => y) (λ y hy => splR_pick h1 h2.symm y hy) hx
    have := zqi this
    refine zqc (λ _ y => y) (λ y hy => ?_) this
    refine zxH (Wr := upd Wr k none) (λ id hid => ?_) y hy
    rcases h id (by omega) with h3 | h3 | ⟨h3, h4⟩
    ·exact .inl h3
    ·exact .inr (.inl h3)
    ·exact .inr (.inr ⟨h3, by rw [zqk (by omega)]; exact h4⟩)
theorem RE_pk {ρ : Rho} {env : Tr V} {L : Lo} (hE : RE ρ env L) : ∀ {ts : List Nat} {l : List V}, smalls ts = true -> fitV (pk ts env) l -> RE ρ (ofE (ts.zip l)) L
 | [], _, _, _, t, v, e => by cases e
 | _ :: _, [], _, h, _, _, _ => by simp only [pk] at h; cases hh : env.get _ <;> rw [hh] at h <;> exact h.elim
 | t0 :: ts, w :: m, hs, h, t, v, e => by
  simp only [smalls] at hs
  split at hs
  ·rename_i hs1
   simp only [pk] at h
   cases he : env.get t0 with
   | none => rw [he] at h; exact h.elim
   | some v0 =>
    rw [he] at h
    rw [List.zip_cons_cons, ofE, Tr.get_set _ _ _ _ _ (zqE hs1)] at e
    by_cases ht : t = t0
    ·subst ht
     simp only [if_true, Option.some.injEq] at e
     subst e
     obtain ⟨u, h1, h2⟩ := hE _ _ he
     exact ⟨u, h1, vle_ok h.1 h2⟩
    ·rw [if_neg ht] at e
     exact RE_pk hE hs h.2 t v e
  ·cases hs
theorem RE_ren {ρ ρ2 : Rho} {f : Nat -> Nat} {ok : Nat -> Bool} (hf : ∀ id, ok id = true -> ρ2 id = ρ (f id)) {env : Tr V} {L : Lo} (hE : RE ρ env L) : ∀ {ts : List Nat} {l : List V}, smalls ts = true -> voks ok l = true -> fitR f (pk ts env) l -> RE ρ2 (ofE (ts.zip l)) L
 | [], _, _, _, _, t, v, e => by cases e
 | _ :: _, [], _, _, h, _, _, _ => by simp only [pk] at h; cases hh : env.get _ <;> rw [hh] at h <;> exact h.elim
 | t0 :: ts, w :: m, hs, hv, h, t, v, e => by
  simp only [smalls] at hs
  split at hs
  ·rename_i hs1
   simp only [voks] at hv
   split at hv
   ·rename_i hv1
    simp only [pk] at h
    cases he : env.get t0 with
    | none => rw [he] at h; exact h.elim
    | some v0 =>
     rw [he] at h
     rw [List.zip_cons_cons, ofE, Tr.get_set _ _ _ _ _ (zqE hs1)] at e
     by_cases ht : t = t0
     ·subst ht
      simp only [if_true, Option.some.injEq] at e
      subst e
      obtain ⟨u, h1, h2⟩ := hE _ _ he
      exact ⟨u, h1, ren_ok hf hv1 (vle_ok h.1 h2)⟩
     ·rw [if_neg ht] at e
      exact RE_ren hf hE hs hv h.2 t v e
   ·cases hv
  ·cases hs
def nodupB : List Nat -> Bool
 | [] => true
 | i :: l => match l.all (λ j => !(Nat.beq j i)) with | true => nodupB l | false => false
theorem zjs : ∀ {ids : List Nat} {l : List (Option Chunk)} {n1 id : Nat} {ch : Chunk}, below n1 ids = true -> (ofMo (ids.zip l)).get id = some ch -> id ∈ ids
 | [], _, _, _, _, _, e => by cases e
 | _ :: _, [], _, _, _, _, e => by cases e
 | i :: ids, some c :: l, n1, id, ch, hb, e => by
  simp only [below] at hb
  split at hb
  ·rename_i hs _
   rw [List.zip_cons_cons, ofMo, Tr.get_set _ _ _ _ _ (zqE hs)] at e
   by_cases hi : id = i
   ·subst hi; exact List.mem_cons_self
   ·rw [if_neg hi] at e; exact List.mem_cons_of_mem _ (zjs hb e)
  ·cases hb
 | i :: ids, none :: l, n1, id, ch, hb, e => by
  simp only [below] at hb
  split at hb
  ·exact List.mem_cons_of_mem _ (zjs hb e)
  ·cases hb
theorem zxO {n1 : Nat} : ∀ {ids : List Nat} {id : Nat}, below n1 ids = true -> id ∈ ids -> id < n1
 | [], _, _, h => by cases h
 | i :: ids, id, hb, h => by
  simp only [below] at hb
  split at hb
  ·rename_i _ h2
   cases h with
   | head => exact blt_tt h2
   | tail _ h => exact zxO hb h
  ·cases hb
theorem zxv : ∀ {ids acts : List Nat} {id a : Nat}, lookA ids acts id = some a -> id ∈ ids
 | [], _, _, _, h => by cases h
 | _ :: _, [], _, _, h => by cases h
 | i :: ids, b :: acts, id, a, h => by
  simp only [lookA] at h
  split at h
  ·rename_i hb; rw [beq_tt hb]; exact List.mem_cons_self
  ·exact List.mem_cons_of_mem _ (zxv h)
theorem zxC : ∀ {ids : List Nat} {id : Nat}, id ∈ ids -> lookA ids ids id = some id
 | [], _, h => by cases h
 | i :: ids, id, h => by
  simp only [lookA]
  split
  ·rename_i hb; rw [beq_tt hb]
  ·rename_i hb
   have go : ∀ {l : List Nat}, id ∈ l -> lookA l l id = some id := by
    intro l hl
    induction l with
    | nil => cases hl
    | cons j l ih =>
     simp only [lookA]
     split
     ·rename_i hj; rw [beq_tt hj]
     ·rename_i hj
      cases hl with
      | head => rw [Nat.beq_refl] at hj; cases hj
      | tail _ hl => exact ih hl
   cases h with
   | head => rw [Nat.beq_refl] at hb; cases hb
   | tail _ h => exact go h
theorem fitM_get {f : Nat -> Nat} {look : List Nat} {cs : List (Option Chunk)} : ∀ {ids acts : List Nat} {l : List (Option Chunk)} {n1 id : Nat} {ch : Chunk}, nodupB ids = true -> below n1 ids = true -> fitM f look cs ids acts l -> (ofMo (ids.zip l)).get id = some ch ->
  ∃ a c1, lookA ids acts id = some a /\ lookC look cs a = some c1 /\ chle c1 (renC f ch)
 | [], _, _, _, _, _, _, _, _, e => by cases e
 | _ :: _, [], _, _, _, _, _, _, h, e => by cases h
 | _ :: _, _ :: _, [], _, _, _, _, _, h, e => by cases h
 | i :: ids, a :: acts, some c :: l, n1, id, ch, hn, hb, h, e => by
  simp only [nodupB] at hn
  split at hn
  ·simp only [below] at hb
   split at hb
   ·rename_i hs _
    rw [List.zip_cons_cons, ofMo, Tr.get_set _ _ _ _ _ (zqE hs)] at e
    obtain ⟨⟨c1, h1, h2⟩, h3⟩ := h
    by_cases hi : id = i
    ·subst hi
     simp only [if_true, Option.some.injEq] at e
     subst e
     exact ⟨a, c1, by simp [lookA, Nat.beq_refl], h1, h2⟩
    ·rw [if_neg hi] at e
     obtain ⟨a', c', h4, h5⟩ := fitM_get hn hb h3 e
     refine ⟨a', c', ?_, h5⟩
     simp only [lookA]
     split
     ·rename_i hbq; exact absurd (beq_tt hbq).symm hi
     ·exact h4
   ·cases hb
  ·cases hn
 | i :: ids, a :: acts, none :: l, n1, id, ch, hn, hb, h, e => by
  simp only [nodupB] at hn
  split at hn
  ·rename_i hall
   simp only [below] at hb
   split at hb
   ·have hm := zjs (n1 := n1) hb (by exact e)
    obtain ⟨a', c', h4, h5⟩ := fitM_get hn hb h e
    refine ⟨a', c', ?_, h5⟩
    simp only [lookA]
    split
    ·rename_i hbq
     have := beq_tt hbq
     subst this
     have := List.all_eq_true.1 hall _ hm
     simp [Nat.beq_refl] at this
    ·exact h4
   ·cases hb
  ·cases hn
def fitL (look : List Nat) (cs : List (Option Chunk)) : List Nat -> List Chunk -> Prop
 | i :: ids, c :: l => (∃ c1, lookC look cs i = some c1 /\ chle c1 c) /\ fitL look cs ids l
 | [], [] => True
 | _, _ => False
def okE (ids : List Nat) (n0 : Nat) : List Nat -> Bool
 | [] => true
 | i :: l => match lookA ids ids i with
  | some _ => okE ids n0 l
  | none => match Nat.ble n0 i with | true => okE ids n0 l | false => false
def okR (ids : List Nat) (n0 : Nat) : List Nat -> Bool
 | [] => true
 | i :: l => match lookA ids ids i, Nat.blt i n0 with
  | none, true => okR ids n0 l
  | _, _ => false
def fitE (t : Tr Chunk) : List Nat -> List (Option Chunk) -> Prop
 | i :: ids, some c :: l => (∃ c1, t.get i = some c1 /\ chle c1 c) /\ fitE t ids l
 | _ :: ids, none :: l => fitE t ids l
 | [], [] => True
 | _, _ => False
theorem fitE_get {t : Tr Chunk} : ∀ {ids : List Nat} {l : List (Option Chunk)} {n1 id : Nat} {ch : Chunk}, below n1 ids = true -> fitE t ids l -> (ofMo (ids.zip l)).get id = some ch -> ∃ c1, t.get id = some c1 /\ chle c1 ch
 | [], _, _, _, _, _, _, e => by cases e
 | _ :: _, [], _, _, _, _, h, e => by cases h
 | i :: ids, some c :: l, n1, id, ch, hb, h, e => by
  simp only [below] at hb
  split at hb
  ·rename_i hs _
   rw [List.zip_cons_cons, ofMo, Tr.get_set _ _ _ _ _ (zqE hs)] at e
   by_cases hi : id = i
   ·subst hi; simp only [if_true, Option.some.injEq] at e; subst e; exact h.1
   ·rw [if_neg hi] at e; exact fitE_get hb h.2 e
  ·cases hb
 | i :: ids, none :: l, n1, id, ch, hb, h, e => by
  simp only [below] at hb
  split at hb
  ·exact fitE_get hb h e
  ·cases hb
def rMv (rv : List Lk) {α : Type} (ts ids look rids : List Nat) (rc : List Chunk) (le : α -> List V) (lm : α -> List (Option Chunk)) (n0 n1 : Nat) (φ : α -> Prop) (μ : α -> Nat) (k : KK) (x : α) (o : O) (vs : List (Option V)) (m : Nat) (cs : List (Option Chunk)) : Prop := match o with
 | .normal => ∃ x' acts, φ x' /\ μ x' < μ x /\ n1 <= m /\ actsOk n0 m ids acts = true /\ fitR (renF ids acts) vs (le x') /\ fitM (renF ids acts) look cs ids acts (lm x')
 | .exit i => ∃ l ids' c, n1 <= m /\ okE ids n0 ids' = true /\ below m ids' = true /\ fitV vs l /\ fitL look cs ids' c /\ k (.exit i) [] (ofE (ts.zip l)) ⟨m, ofM (ids'.zip c ++ rids.zip rc), rv⟩
 | .ret => ∃ l ids' c, n1 <= m /\ okE ids n0 ids' = true /\ below m ids' = true /\ fitV vs l /\ fitL look cs ids' c /\ k .ret [] (ofE (ts.zip l)) ⟨m, ofM (ids'.zip c ++ rids.zip rc), rv⟩
 | .panic v => ∃ ids' c, n1 <= m /\ okE ids n0 ids' = true /\ below m ids' = true /\ fitL look cs ids' c /\ k (.panic v) [] .nil ⟨m, ofM (ids'.zip c ++ rids.zip rc), rv⟩
 | _ => False
def noLk (ids : List Nat) : List Lk -> Bool
 | [] => true
 | l :: ls => match lookA ids ids l.1 with | some _ => false | none => noLk ids ls
theorem noLk_mem {ids : List Nat} : ∀ {ls : List Lk} {l : Lk}, noLk ids ls = true -> l ∈ ls -> lookA ids ids l.1 = none
 | [], _, _, h => by cases h
 | a :: ls, l, h, hm => by
  simp only [noLk] at h
  split at h
  ·cases h
  ·rename_i hn
   cases hm with
   | head => exact hn
   | tail _ hm => exact noLk_mem h hm
theorem ofM_get : ∀ {ids : List Nat} {c : List Chunk} {rest : List (Nat × Chunk)} {n1 id : Nat} {ch : Chunk}, below n1 ids = true -> (ofM (ids.zip c ++ rest)).get id = some ch -> (∃ P, (id, ch) ∈ ids.zip c /\ P = True) \/ (ofM rest).get id = some ch
 | [], c, rest, _, id, ch, _, e => .inr (by simpa using e)
 | _ :: _, [], rest, _, id, ch, _, e => .inr (by simpa using e)
 | i :: ids, x :: c, rest, n1, id, ch, hb, e => by
  simp only [below] at hb
  split at hb
  ·rename_i hs _
   rw [List.zip_cons_cons, List.cons_append, ofM, Tr.get_set _ _ _ _ _ (zqE hs)] at e
   by_cases hi : id = i
   ·subst hi; simp only [if_true, Option.some.injEq] at e; subst e
    exact .inl ⟨True, List.mem_cons_self, rfl⟩
   ·rw [if_neg hi] at e
    rcases ofM_get hb e with ⟨P, h1, h2⟩ | h
    ·exact .inl ⟨P, List.mem_cons_of_mem _ h1, h2⟩
    ·exact .inr h
  ·cases hb
theorem fitL_mem {look : List Nat} {cs : List (Option Chunk)} : ∀ {ids : List Nat} {c : List Chunk} {id : Nat} {ch : Chunk}, fitL look cs ids c -> (id, ch) ∈ ids.zip c -> ∃ c1, lookC look cs id = some c1 /\ chle c1 ch
 | [], _, _, _, _, h => by cases h
 | _ :: _, [], _, _, h, _ => by cases h
 | i :: ids, x :: c, id, ch, h, hm => by
  rw [List.zip_cons_cons] at hm
  cases hm with
  | head => exact h.1
  | tail _ hm => exact fitL_mem h.2 hm
theorem okE_mem {ids : List Nat} {n0 : Nat} : ∀ {l : List Nat} {i : Nat}, okE ids n0 l = true -> i ∈ l -> (∃ a, lookA ids ids i = some a) \/ n0 <= i
 | [], _, _, h => by cases h
 | j :: l, i, h, hm => by
  simp only [okE] at h
  split at h
  ·rename_i a ha
   cases hm with
   | head => exact .inl ⟨a, ha⟩
   | tail _ hm => exact okE_mem h hm
  ·split at h
   ·rename_i hle
    cases hm with
    | head => exact .inr (Nat.le_of_ble_eq_true hle)
    | tail _ hm => exact okE_mem h hm
   ·cases h
theorem okR_mem {ids : List Nat} {n0 : Nat} : ∀ {l : List Nat} {i : Nat}, okR ids n0 l = true -> i ∈ l -> lookA ids ids i = none /\ i < n0
 | [], _, _, h => by cases h
 | j :: l, i, h, hm => by
  simp only [okR] at h
  split at h
  ·rename_i h1 h2
   cases hm with
   | head => exact ⟨h1, blt_tt h2⟩
   | tail _ hm => exact okR_mem h hm
  ·cases h
theorem zipR_get {t : Tr Chunk} : ∀ {rids : List Nat} {rc : List Chunk} {n0 id : Nat} {ch : Chunk}, below n0 rids = true -> pk rids t = rc.map some -> (ofM (rids.zip rc)).get id = some ch -> id ∈ rids /\ t.get id = some ch
 | [], _, _, _, _, _, _, e => by cases e
 | _ :: _, [], _, _, _, _, h, e => by cases e
 | i :: ids, x :: c, n0, id, ch, hb, h, e => by
  simp only [below] at hb
  split at hb
  ·rename_i hs _
   simp only [pk, List.map_cons, List.cons.injEq] at h
   rw [List.zip_cons_cons, ofM, Tr.get_set _ _ _ _ _ (zqE hs)] at e
   by_cases hi : id = i
   ·subst hi; simp only [if_true, Option.some.injEq] at e; subst e
    exact ⟨List.mem_cons_self, h.1⟩
   ·rw [if_neg hi] at e
    obtain ⟨h1, h2⟩ := zipR_get hb h.2 e
    exact ⟨List.mem_cons_of_mem _ h1, h2⟩
  ·cases hb
def cutV (ts look : List Nat) (N : O -> List (Option V) -> Nat -> List (Option Chunk) -> Prop) : KK := λ o dv env hp => match dv with
 | [] => N o (pk ts env) hp.n (pk look hp.t)
 | _ => False
theorem code_mono {P : Program} {G : GQ} {fi : FI} {c : Code} {ds : List DV} {env : Tr V} {hp : Mem} {k k' : KK} (h : TaskOk P G (.code fi c ds env hp k)) (up : ∀ o dv env hp, k o dv env hp -> k' o dv env hp) : TaskOk P G (.code fi c ds env hp k') :=
 λ ρ W ds' L K ro hG hH hE hF hk => h ρ W ds' L K ro hG hH hE hF λ o dv env' hp' ρ' W' ds2 L' out nx hE' dx ho hkk => hk o dv env' hp' ρ' W' ds2 L' out nx hE' dx ho (up o dv env' hp' hkk)
theorem cutM_V {ts look : List Nat} {N : O -> List (Option V) -> Nat -> List (Option Chunk) -> Prop} : ∀ o dv env hp, cutM ts look N o dv env hp -> cutV ts look N o dv env hp := by
 intro o dv env hp h
 unfold cutM at h
 split at h
 ·exact h
 ·exact h.elim
theorem loop_fw {P : Program} {G : GQ} {fi : FI} {c : Code} {env : Tr V} {hp : Mem} {k : KK} {α : Type} (ts ids look rids : List Nat) (rc : List Chunk) (rv : List Lk) (n1 : Nat) (le : α -> List V) (lm : α -> List (Option Chunk)) (φ : α -> Prop) (μ : α -> Nat) (x0 : α) (h0 : φ x0)
  (hts : smalls ts = true) (hids : below n1 ids = true) (hnd : nodupB ids = true) (hn1 : hp.n <= n1) (hro : ∀ l ∈ hp.ro, lookA ids ids l.1 = none \/ l ∈ rv) (hrv : ∀ l ∈ rv, l.1 < hp.n) (hr1 : below hp.n rids = true) (hr2 : okR ids hp.n rids = true)
  (hv : ∀ x, voks (okI ids hp.n) (le x) = true) (hc : ∀ x, coks2 (okI ids hp.n) hp.n ids (lm x) = true)
  (e1 : fitV (pk ts env) (le x0)) (e2 : fitE hp.t ids (lm x0)) (e3 : pk rids hp.t = rc.map some)
  (round : ∀ x, φ x -> TaskOk P G (.code fi c [] (ofE (ts.zip (le x))) ⟨n1, ofMo (ids.zip (lm x)), rv⟩ (cutV ts look (rMv hp.ro ts ids look rids rc le lm hp.n n1 φ μ k x)))) :
  TaskOk P G (.code fi (.loop c) [] env hp k) := by
 intro ρ W ds L K ro hG hH hE hF hk
 have old : ∀ id x, ρ id = some x -> id < hp.n := λ id x e => by
  rcases Nat.lt_or_ge id hp.n with h | h
  ·exact h
  ·rw [hH.lim id h] at e; cases e
 -- the rest
 let Wr : RW := λ id => match lookA ids ids id with | some _ => none | none => W id
 let W2 : RW := λ id => match lookA ids ids id, Nat.blt id hp.n with | some _, true => W id | _, _ => none
 have start : ∀ x, sep (spl hp.n W) x -> sep (spl n1 W2 ++ splR hp.n Wr) x := by
  intro x hx
  rw [zqF]
  have := zkZ (n := hp.n) (W := W) (Wa := W2) (Wb := Wr) (λ id hid => by
   have hb : Nat.blt id hp.n = true := by simpa [Nat.blt_eq] using hid
   simp only [W2, Wr, hb]
   cases lookA ids ids id with
   | some a => exact .inl ⟨rfl, rfl⟩
   | none => exact .inr ⟨rfl, rfl⟩) x hx
  refine zqc (λ y hy => ?_) (λ _ y => y) this
  refine zjC (g := λ i => i) (λ id hid => ?_) (λ id id' _ _ _ _ h => h) y hy
  by_cases hid : id < hp.n
  ·exact .inr ⟨hid, rfl⟩
  ·have hb : Nat.blt id hp.n = false := by
    cases hb : Nat.blt id hp.n with
    | false => rfl
    | true => exact absurd (blt_tt hb) hid
   left
   simp only [W2, hb]
   cases lookA ids ids id <;> rfl
 have hH2 : HR ρ ⟨n1, ofMo (ids.zip (lm x0)), rv⟩ W2 := by
  refine ⟨λ id ch e => ?_, λ id hid => hH.lim id (Nat.le_trans hn1 hid), λ l hl => Nat.lt_of_lt_of_le (hrv l hl) hn1⟩
  obtain ⟨c1, h1, h2⟩ := fitE_get hids e2 e
  obtain ⟨b, o, h3, h4⟩ := hH.rel id c1 h1
  have hm := zjs hids e
  have hid := hH.lt h1
  refine ⟨b, o, ?_, zjm h2 h4⟩
  have hb : Nat.blt id hp.n = true := by simpa [Nat.blt_eq] using hid
  simp only [W2, zxC hm, hb]
  exact h3
 have hE2 : RE ρ (ofE (ts.zip (le x0))) L := RE_pk hE hts e1
 refine Go.weak ?_ start
 refine Go.loopE (α := LSt α) LSt.L (λ s => spl n1 s.W ++ splR hp.n Wr) (λ s => φ s.x /\ ρ.le s.ρ /\ HR s.ρ ⟨n1, ofMo (ids.zip (lm s.x)), rv⟩ s.W /\ (∀ l ∈ rv, Same l (W2 l.1) (s.W l.1)) /\ RE s.ρ (ofE (ts.zip (le s.x))) s.L) (λ s => μ s.x) ⟨x0, ρ, W2, L⟩ ⟨h0, Rho.le_refl _, hH2, λ _ _ => .refl, hE2⟩ ?_
 rintro ⟨x, ρ1, W1, L1⟩ ⟨hx, hle, hHx, hSx, hEx⟩
 simp only at hx hle hHx hSx hEx ⊢
 refine Go_close (Go_up (Go_frame (round x hx ρ1 W1 ds L1 (λ out ds' L' H' => ∃ H'', (Kont.seq (λ ds' L' H' => ds' = ds /\ ∃ x', (φ x'.x /\ ρ.le x'.ρ /\ HR x'.ρ ⟨n1, ofMo (ids.zip (lm x'.x)), rv⟩ x'.W /\ (∀ l ∈ rv, Same l (W2 l.1) (x'.W l.1)) /\ RE x'.ρ (ofE (ts.zip (le x'.x))) x'.L) /\ μ x'.x < μ x /\ L' = LSt.L x' /\ ∀ h, sep H' h -> sep (spl n1 x'.W ++ splR hp.n Wr) h) K) out ds' L' H'' /\ ∀ y, sep (H' ++ splR hp.n Wr) y -> sep H'' y) ro (hG.mono hle) hHx hEx (hF.mono hle) ?_)) λ e ds' L' H' ⟨H1, ⟨H2, h1, h2⟩, h3⟩ => ⟨H2, h1, λ y hy => h2 y (by rw [<- h3]; exact hy)⟩)
 intro o dv' env' hp' ρ' W' ds' L' out nx hE' dx ho hk'
 unfold cutV at hk'
 split at hk'
 ·have hds := (dx.same rfl).2
  subst hds
  have leave : ∀ (ts : List Nat) (o : O) (out : Out), smalls ts = true -> OutRel ρ' o out -> (∃ l ids' c, n1 <= hp'.n /\ okE ids hp.n ids' = true /\ below hp'.n ids' = true /\ fitV (pk ts env') l /\ fitL look (pk look hp'.t) ids' c /\ k o [] (ofE (ts.zip l)) ⟨hp'.n, ofM (ids'.zip c ++ rids.zip rc), hp.ro⟩) ->
    ∃ H'', K out ds' L' H'' /\ ∀ y, sep (spl hp'.n W' ++ splR hp.n Wr) y -> sep H'' y := by
   rintro ts o out hts ho ⟨l, ids', c, hnm, hoe, hbe, f1, f2, hk''⟩
   let W3 : RW := λ id => match Nat.blt id hp.n, lookA ids ids id with | true, none => W id | _, _ => W' id
   have hle' : ρ.le ρ' := Rho.le_trans hle nx.le
   have hH3 : HR ρ' ⟨hp'.n, ofM (ids'.zip c ++ rids.zip rc), hp.ro⟩ W3 := by
    refine ⟨λ id ch e => ?_, λ id hid => nx.hr.lim id hid, λ l hl => by have := hH.rol l hl; show l.1 < hp'.n; omega⟩
    rcases ofM_get hbe e with ⟨_, hm, _⟩ | hr
    ·obtain ⟨c1, h1, h2⟩ := fitL_mem f2 hm
     obtain ⟨b, o', h3, h4⟩ := nx.hr.rel id c1 (zkI h1)
     refine ⟨b, o', ?_, zjm h2 h4⟩
     have hid : id ∈ ids' := (List.of_mem_zip hm).1
     have hW3 : W3 id = W' id := by
      simp only [W3]
      split
      ·rename_i hb hl
       rcases okE_mem hoe hid with ⟨a, ha⟩ | hge
       ·rw [hl] at ha; cases ha
       ·have := blt_tt hb; omega
      ·rfl
     rw [hW3]; exact h3
    ·obtain ⟨h1, h2⟩ := zipR_get hr1 e3 hr
     obtain ⟨b, o', h3, h4⟩ := hH.rel id ch h2
     obtain ⟨h5, h6⟩ := okR_mem hr2 h1
     refine ⟨b, o', ?_, h4.mono hle'⟩
     have hb : Nat.blt id hp.n = true := by simpa [Nat.blt_eq] using h6
     simp only [W3, hb, h5]
     exact h3
   refine ⟨spl hp'.n W3, hk o [] (ofE (ts.zip l)) ⟨hp'.n, ofM (ids'.zip c ++ rids.zip rc), hp.ro⟩ ρ' W3 ds' L' out ⟨hle', hH3, rfl, λ l hl => by
    have h2 := hH.rol l hl
    have hb : Nat.blt l.1 hp.n = true := by simpa [Nat.blt_eq] using h2
    cases h1 : lookA ids ids l.1 with
    | none =>
     simp only [W3, hb, h1]
     exact .refl
    | some a =>
     have hl' : l ∈ rv := by
      rcases hro l hl with h | h
      ·rw [h1] at h; cases h
      ·exact h
     have h3 := (hSx l hl').trans (nx.st l hl')
     simp only [W2, hb, h1] at h3
     simp only [W3, hb, h1]
     exact h3⟩ (RE_pk hE' hts f1) .refl ho hk'', λ y hy => ?_⟩
   rw [zqF] at hy
   refine zxH (W1 := W') (Wr := Wr) (m := hp'.n) (n0 := hp.n) (λ id hid => ?_) y hy
   simp only [W3]
   split
   ·rename_i hb hl
    refine .inr (.inr ⟨blt_tt hb, ?_⟩)
    simp only [Wr, hl]
   ·exact .inr (.inl ⟨hid, rfl⟩)
  cases o <;> cases out <;> first | exact ho.elim | skip
  ·obtain ⟨x', acts, hx', hlt, hnm, hacts, f1, f2⟩ := hk'
   have hlen := zkw hacts
   let ρ2 : Rho := λ id => match lookA ids acts id with | some a => ρ' a | none => match Nat.blt id hp.n with | true => ρ' id | false => none
   let W3 : RW := λ id => match lookA ids acts id with | some a => W' a | none => none
   have hf : ∀ id, okI ids hp.n id = true -> ρ2 id = ρ' (renF ids acts id) := by
    intro id hok
    simp only [ρ2, renF]
    cases hl : lookA ids acts id with
    | some a => rfl
    | none =>
     have : lookA ids ids id = none := by
      have := zxJ (id := id) hlen
      rw [hl] at this
      cases hh : lookA ids ids id with
      | none => rfl
      | some a => rw [hh] at this; cases this
     unfold okI at hok
     rw [this] at hok
     dsimp only at hok
     rw [hok]
   have hle2 : ρ.le ρ2 := by
    intro id z e
    have hid := old id z e
    have h1 := nx.le _ _ (hle _ _ e)
    simp only [ρ2]
    cases hl : lookA ids acts id with
    | some a =>
     rcases zqB hacts hl with ⟨_, h3⟩ | ⟨h3, _⟩
     ·rw [h3]; exact h1
     ·omega
    | none =>
     have hb : Nat.blt id hp.n = true := by simpa [Nat.blt_eq] using hid
     rw [hb]; exact h1
   have hH3 : HR ρ2 ⟨n1, ofMo (ids.zip (lm x')), rv⟩ W3 := by
    refine ⟨λ id ch e => ?_, λ id hid => ?_, λ l hl => Nat.lt_of_lt_of_le (hrv l hl) hn1⟩
    ·obtain ⟨a, c1, h1, h2, h3⟩ := fitM_get hnd hids f2 e
     obtain ⟨b, o', h4, h5⟩ := nx.hr.rel a c1 (zkI h2)
     have hm := zjs hids e
     refine ⟨b, o', by simp only [W3, h1]; exact h4, ?_⟩
     have hfa : renF ids acts id = a := by unfold renF; rw [h1]
     rcases zke hids (hc x') e with ⟨hold, hlt2⟩ | hcok
     ·rw [oldC_ren hold] at h3
      replace h5 := zjm h3 h5
      rcases zqB hacts h1 with ⟨h6, h7⟩ | ⟨h6, _⟩
      ·subst h7
       refine (oldC_ok h6 hold h5).mono λ j z hj => ?_
       by_cases hjn : j < hp.n
       ·have hb : Nat.blt j hp.n = true := by simpa [Nat.blt_eq] using hjn
        rw [zxf hb] at hj
        simp only [ρ2]
        cases hl : lookA ids acts j with
        | some a' =>
         rcases zqB hacts hl with ⟨_, h8⟩ | ⟨h8, _⟩
         ·subst h8; exact hj
         ·omega
        | none => rw [hb]; exact hj
       ·rw [cutR_ge (by omega)] at hj; cases hj
      ·omega
     refine cren_ok hf (by unfold okI; rw [zxC hm]) hcok ?_
     rw [hfa]
     exact zjm h3 h5
    ·have hid : n1 <= id := hid
     simp only [ρ2]
     cases hl : lookA ids acts id with
     | some a => have := zxO hids (zxv hl); omega
     | none =>
      have hb : Nat.blt id hp.n = false := by
       cases hb : Nat.blt id hp.n with
       | false => rfl
       | true => have := blt_tt hb; omega
      rw [hb]
   have hS3 : ∀ l ∈ rv, Same l (W2 l.1) (W3 l.1) := by
    intro l hl
    have hlt := hrv l hl
    have hb : Nat.blt l.1 hp.n = true := by simpa [Nat.blt_eq] using hlt
    have h3 := (hSx l hl).trans (nx.st l hl)
    cases h1 : lookA ids ids l.1 with
    | none =>
     have h4 : lookA ids acts l.1 = none := by
      have := zxJ (id := l.1) hlen
      rw [h1] at this
      cases hh : lookA ids acts l.1 with
      | none => rfl
      | some a => rw [hh] at this; cases this
     simp only [W2, W3, h1, h4]
     exact .refl
    | some a =>
     have h4 := zxJ (id := l.1) hlen
     rw [h1] at h4
     cases hh : lookA ids acts l.1 with
     | none => rw [hh] at h4; cases h4
     | some b =>
      rcases zqB hacts hh with ⟨_, h5⟩ | ⟨h5, _⟩
      ·subst h5
       simp only [W3, hh]
       exact h3
      ·omega
   refine ⟨spl n1 W3 ++ splR hp.n Wr, ⟨rfl, ⟨x', ρ2, W3, L'⟩, ⟨hx', hle2, hH3, hS3, RE_ren hf hE' hts (hv x') f1⟩, hlt, rfl, λ h hh => hh⟩, λ y hy => ?_⟩
   rw [zqF] at hy ⊢
   refine zqc (λ z hz => ?_) (λ _ z => z) hy
   refine zjC (g := renF ids acts) (m := hp'.n) (λ id hid => ?_) (λ id id' hid hid' h1 h2 he => ?_) z hz
   ·simp only [W3, renF]
    cases hl : lookA ids acts id with
    | some a =>
     refine .inr ⟨?_, rfl⟩
     rcases zqB hacts hl with ⟨h3, h4⟩ | ⟨_, _, h3, _⟩
     ·show a < hp'.n; omega
     ·exact h3
    | none => exact .inl rfl
   ·cases hl : lookA ids acts id with
    | none => exact absurd (by simp only [W3, hl]) h1
    | some a =>
     cases hl' : lookA ids acts id' with
     | none => exact absurd (by simp only [W3, hl']) h2
     | some a' =>
      simp only [renF, hl, hl'] at he
      subst he
      exact zkx hacts hl hl'
  ·exact leave ts _ _ hts ho hk'
  ·exact hk'.elim
  ·exact leave ts _ _ hts ho hk'
  ·obtain ⟨ids', c, h1, h2, h3, h4, h5⟩ := hk'
   exact leave [] _ _ rfl ho ⟨[], ids', c, h1, h2, h3, trivial, h4, h5⟩
 ·exact hk'.elim
theorem zxm {P : Program} {G : GQ} {fi : FI} {c : Code} {env : Tr V} {hp : Mem} {k : KK} {α : Type} (ts ids look rids : List Nat) (rc : List Chunk) (n1 : Nat) (le : α -> List V) (lm : α -> List (Option Chunk)) (φ : α -> Prop) (μ : α -> Nat) (x0 : α) (h0 : φ x0)
  (hts : smalls ts = true) (hids : below n1 ids = true) (hnd : nodupB ids = true) (hn1 : hp.n <= n1) (hro : noLk ids hp.ro = true) (hr1 : below hp.n rids = true) (hr2 : okR ids hp.n rids = true)
  (hv : ∀ x, voks (okI ids hp.n) (le x) = true) (hc : ∀ x, coks2 (okI ids hp.n) hp.n ids (lm x) = true)
  (e1 : fitV (pk ts env) (le x0)) (e2 : fitE hp.t ids (lm x0)) (e3 : pk rids hp.t = rc.map some)
  (round : ∀ x, φ x -> TaskOk P G (.code fi c [] (ofE (ts.zip (le x))) ⟨n1, ofMo (ids.zip (lm x)), []⟩ (cutM ts look (rMv hp.ro ts ids look rids rc le lm hp.n n1 φ μ k x)))) :
  TaskOk P G (.code fi (.loop c) [] env hp k) :=
 loop_fw ts ids look rids rc [] n1 le lm φ μ x0 h0 hts hids hnd hn1 (λ l hl => .inl (noLk_mem hro hl)) (λ l hl => by cases hl) hr1 hr2 hv hc e1 e2 e3 λ x hx => code_mono (round x hx) cutM_V
end
end Go.Q
namespace Go.Y
open Go.Z
noncomputable section
section
variable [Ext]
end
open Go.RowKit
end
end Go.Y
namespace Go.Q
open Go.Z Go.Y
noncomputable section
section
variable [Ext]
end
end
end Go.Q
namespace Go.Q
open Go.Z Go.Y
noncomputable section
variable [Ext]
def retV (R : V) : E -> Prop := λ e => match e with
 | .ret v => vle v R
 | _ => False
theorem sum_of1 {P : Program} {G0 G : GQ} {f : Nat} {args : List V} {hp : Mem} {k : KE} {R : V} (h : TaskOk P G0 (.call f args nomem λ e _ => retV R e)) (hg : G0.g.t = .nil) (ha : vins 0 args = true) (hR : vin 0 R = true) (hk : k (.ret R) hp) : TaskOk P G (.call f args hp k) := by
 have no : ∀ {ρ : Rho}, (cutR ρ 0).le norho := λ id x e => by rw [cutR_ge (Nat.zero_le _)] at e; cases e
 refine call_of ⟨h.1, λ ρ us hus => ⟨λ en => EndRel norho (.ret R) en, (fn_of h hg ((zkl ha hus).mono no) λ e hp en ρ' hen hk' => ?_).2, λ en hen => ⟨.ret R, ?_, hk⟩⟩⟩
 ·unfold retV at hk'
  split at hk'
  ·cases en with
   | returned u => exact Go.Y.R.mono no (vin_ok hR (vle_ok hk' hen))
   | panicked ch => exact hen.elim
   | outgrown => exact hen.elim
  ·exact hk'.elim
 ·cases en with
  | returned u => exact Go.Y.R.mono (λ id x e => by cases e) hen
  | panicked ch => exact hen.elim
  | outgrown => exact hen.elim
end
end Go.Q
namespace Go.Q
open Go.Z Go.Y
noncomputable section
variable [Ext]
/- the other way round: a value under its new numbers -/
mutual
theorem ren_up {ρ1 ρ2 : Rho} {f : Nat -> Nat} {ok : Nat -> Bool} (hf : ∀ id x, ok id = true -> ρ2 id = some x -> ρ1 (f id) = some x) : ∀ {v : V} {u : Value}, vok ok v = true -> R ρ2 v u -> R ρ1 (renV f v) u
 | .bool _, _, _, h | .int _ _, _, _, h | .str _, _, _, h | .und, _, _, h | .sle, _, _, h | .nilp, _, _, h | .nils, _, _, h | .nilm, _, _, h | .nilf, _, _, h | .nili, _, _, h | .anyI _, _, _, h | .anyB, _, _, h | .anyS, _, _, h | .sint _ _, _, _, h | .sbool _, _, _, h | .sstr _, _, _, h | .xs _ _, _, _, h | .xp _ _ _ _, _, _, h => h
 | .ptr id off, u, hn, h => by obtain ⟨b, c, e, h⟩ := h; exact ⟨b, c, hf id _ hn e, h⟩
 | .sl id .., u, hn, h => by obtain ⟨b, c, e, h⟩ := h; exact ⟨b, c, hf id _ hn e, h⟩
 | .map id, u, hn, h => by obtain ⟨b, c, e, h⟩ := h; exact ⟨b, c, hf id _ hn e, h⟩
 | .sptr id i g sz, u, hn, h => by obtain ⟨b, c, e, h⟩ := h; exact ⟨b, c, hf id _ hn e, h⟩
 | .ssl id i len sz, u, hn, h => by
  rcases h with h | ⟨b, c, e, h⟩
  ·exact .inl h
  ·exact .inr ⟨b, c, hf id _ hn e, h⟩
 | .yld id, u, hn, h => by obtain ⟨b, c, e, h⟩ := h; exact ⟨b, c, hf id _ hn e, h⟩
 | .ptrh id off, u, hn, h => by obtain ⟨b, c, base, e, h⟩ := h; exact ⟨b, c, base, hf id _ hn e, h⟩
 | .slh id i off len, u, hn, h => by obtain ⟨b, c, base, e, h⟩ := h; exact ⟨b, c, base, hf id _ hn e, h⟩
 | .fn g a b, u, hn, h => by
  simp only [vok] at hn
  split at hn
  ·obtain ⟨a', b', h1, h2, h⟩ := h
   exact ⟨a', b', h1, h2, h⟩
  ·cases hn
 | .ifc t v, u, hn, h => by obtain ⟨u', h1, h⟩ := h; exact ⟨u', ren_up hf hn h1, h⟩
 | .agg l, u, hn, h => by obtain ⟨l', h1, h⟩ := h; exact ⟨l', zvb hf hn h1, h⟩
 | .tup l, u, hn, h => by obtain ⟨l', h1, h⟩ := h; exact ⟨l', zvb hf hn h1, h⟩
theorem zvb {ρ1 ρ2 : Rho} {f : Nat -> Nat} {ok : Nat -> Bool} (hf : ∀ id x, ok id = true -> ρ2 id = some x -> ρ1 (f id) = some x) : ∀ {l : List V} {us : List Value}, voks ok l = true -> RL ρ2 l us -> RL ρ1 (renVs f l) us
 | [], _, _, h => h
 | v :: l, us, hn, h => by
  obtain ⟨u, us', h1, h2, rfl⟩ := h
  simp only [voks] at hn
  split at hn
  ·rename_i hn1
   exact .cons (ren_up hf hn1 h1) (zvb hf hn h2)
  ·cases hn
end
theorem cren_up {ρ1 ρ2 : Rho} {f : Nat -> Nat} {ok : Nat -> Bool} (hf : ∀ id x, ok id = true -> ρ2 id = some x -> ρ1 (f id) = some x) {id b : Nat} {o : Obj} {c : Chunk} (hid : ok id = true) (hc : cok ok c = true) (h : CRel ρ2 id c b o) : CRel ρ1 (f id) (renC f c) b o := by
 cases c with
 | cells l ty sz =>
  obtain ⟨c, rl, junk, fr, h1, h2, h3⟩ := h
  exact ⟨c, rl, junk, fr, hf id _ hid h1, zvb hf hc h2, h3⟩
 | cellsH l ty sz =>
  obtain ⟨c, base, pre, rl, junk, fr, h1, h2, h3⟩ := h
  exact ⟨c, base, pre, rl, junk, fr, hf id _ hid h1, zvb hf hc h2, h3⟩
 | byt l ty =>
  obtain ⟨c, junk, fr, h1, h3⟩ := h
  exact ⟨c, junk, fr, hf id _ hid h1, h3⟩
 | rows l sh ty =>
  obtain ⟨c, rl, junk, fr, h1, h2, h3, h4⟩ := h
  exact ⟨c, rl, junk, fr, hf id _ hid h1, flat_R hc h3 h2, h3, h4⟩
 | rowsO l sh ty =>
  obtain ⟨⟨c0, h0⟩, h⟩ := h
  refine ⟨⟨c0, hf id _ hid h0⟩, ?_⟩
  rcases h with h | ⟨c, rl, junk, fr, h1, h2, h3, h4⟩
  ·exact .inl h
  ·exact .inr ⟨c, rl, junk, fr, hf id _ hid h1, flat_R hc h3 h2, h3, h4⟩
 | _ => cases hc
def cloC : Chunk -> Bool
 | .map es _ => esIn 0 es
 | _ => false
theorem cloC_ok {ρ1 ρ2 : Rho} {id id' b : Nat} {o : Obj} {c : Chunk} (hc : cloC c = true) (hid : ∀ x, ρ1 id = some x -> ρ2 id' = some x) (h : CRel ρ1 id c b o) : CRel ρ2 id' c b o := by
 cases c with
 | map es clk =>
  obtain ⟨⟨c, h1⟩, es', h2, h3⟩ := h
  exact ⟨⟨c, hid _ h1⟩, es', h2, (esIn_ok hc h3).mono λ i x hi => by rw [cutR_ge (Nat.zero_le _)] at hi; cases hi⟩
 | _ => cases hc
theorem cloC_ren {c : Chunk} {f : Nat -> Nat} (hc : cloC c = true) : renC f c = c := by
 cases c <;> first | rfl | cases hc
theorem lookA_in2 {ids0 ids : List Nat} {j i : Nat} (h : lookA ids0 ids j = some i) : i ∈ ids := by
 induction ids0 generalizing ids with
 | nil => cases h
 | cons a l ih =>
  cases ids with
  | nil => cases h
  | cons b m =>
   simp only [lookA] at h
   split at h
   ·cases h; exact List.mem_cons_self
   ·exact List.mem_cons_of_mem _ (ih h)
def coks3 (ok : Nat -> Bool) : List (Option Chunk) -> Bool
 | [] => true
 | some c :: l => match cloC c, cok ok c with | false, false => false | _, _ => coks3 ok l
 | none :: l => coks3 ok l
theorem zxa {ids : List Nat} {i n1 id : Nat} {c : Option Chunk} {l : List (Option Chunk)} (hn : nodupB (i :: ids) = true) (hb : below n1 (i :: ids) = true) : (ofMo ((i :: ids).zip (c :: l))).get id = if id = i then c else (ofMo (ids.zip l)).get id := by
 simp only [below] at hb
 split at hb
 ·rename_i hs _
  simp only [nodupB] at hn
  split at hn
  ·rename_i hall
   cases c with
   | some c =>
    rw [List.zip_cons_cons, ofMo, Tr.get_set _ _ _ _ _ (zqE hs)]
   | none =>
    rw [List.zip_cons_cons, ofMo]
    by_cases h : id = i
    ·rw [if_pos h]
     cases hg : (ofMo (ids.zip l)).get id with
     | none => rfl
     | some ch =>
      have hm := zjs (n1 := n1) hb hg
      subst h
      have := List.all_eq_true.1 hall _ hm
      simp [Nat.beq_refl] at this
    ·rw [if_neg h]
  ·cases hn
 ·cases hb
theorem zxi {i : Nat} {ids : List Nat} (h : nodupB (i :: ids) = true) : nodupB ids = true /\ i ∉ ids := by
 simp only [nodupB] at h
 split at h
 ·rename_i hall
  refine ⟨h, λ hm => ?_⟩
  have := List.all_eq_true.1 hall _ hm
  simp [Nat.beq_refl] at this
 ·cases h
theorem zqU {i n : Nat} {ids : List Nat} (h : below n (i :: ids) = true) : below n ids = true /\ small i = true /\ i < n := by
 simp only [below] at h
 split at h
 ·rename_i h1 h2; exact ⟨h, h1, blt_tt h2⟩
 ·cases h
theorem zkd {ok : Nat -> Bool} : ∀ {ids : List Nat} {l : List (Option Chunk)} {n1 id : Nat} {ch : Chunk}, nodupB ids = true -> below n1 ids = true -> coks3 ok l = true -> (ofMo (ids.zip l)).get id = some ch -> cloC ch = true \/ cok ok ch = true
 | [], _, _, _, _, _, _, _, e => by cases e
 | _ :: _, [], _, _, _, _, _, _, e => by cases e
 | i :: ids, c :: l, n1, id, ch, hd, hb, hc, e => by
  rw [zxa hd hb] at e
  split at e
  ·subst e
   simp only [coks3] at hc
   split at hc
   ·cases hc
   ·rename_i hno
    cases h1 : cloC ch with
    | true => exact .inl rfl
    | false => cases h2 : cok ok ch with
     | true => exact .inr rfl
     | false => exact absurd h2 (λ h => hno h1 h)
  ·cases c with
   | none => exact zkd (l := l) (zxi hd).1 (zqU hb).1 hc e
   | some c =>
    simp only [coks3] at hc
    split at hc
    ·cases hc
    ·exact zkd (zxi hd).1 (zqU hb).1 hc e
def inI (ids : List Nat) (id : Nat) : Bool := match lookA ids ids id with
 | some _ => true
 | none => false
def renE (f : Nat -> Nat) : E -> E
 | .ret v => .ret (renV f v)
 | .pan v => .pan (renV f v)
def eok (ok : Nat -> Bool) : E -> Bool
 | .ret v => vok ok v
 | .pan v => vok ok v
mutual
def dle : V -> V -> Prop
 | .tup l, .tup m => dles l m
 | .agg l, .agg m => dles l m
 | v, w => vle v w
def dles : List V -> List V -> Prop
 | [], [] => True
 | v :: l, w :: m => dle v w /\ dles l m
 | _, _ => False
end
mutual
theorem dle_ok {ρ : Rho} : ∀ {v w : V} {u : Value}, dle v w -> R ρ v u -> R ρ w u := by
 intro v w u h hv
 unfold dle at h
 split at h
 ·obtain ⟨l', h1, rfl⟩ := hv; exact ⟨l', dles_ok h h1, rfl⟩
 ·obtain ⟨l', h1, rfl⟩ := hv; exact ⟨l', dles_ok h h1, rfl⟩
 ·exact vle_ok h hv
theorem dles_ok {ρ : Rho} : ∀ {l m : List V} {us : List Value}, dles l m -> RL ρ l us -> RL ρ m us
 | [], [], _, _, h => h
 | v :: l, w :: m, us, h, hl => by obtain ⟨u, us', h1, h2, rfl⟩ := hl; exact .cons (dle_ok h.1 h1) (dles_ok h.2 h2)
 | [], _ :: _, _, h, _ => h.elim
 | _ :: _, [], _, h, _ => h.elim
end
def ele : E -> E -> Prop
 | .ret v, .ret w => dle v w
 | .pan v, .pan w => dle v w
 | _, _ => False
def fitE2 (t : Tr Chunk) (f : Nat -> Nat) : List Nat -> List (Option Chunk) -> Prop
 | i :: ids, some c :: l => (∃ c1, t.get i = some c1 /\ chle c1 (renC f c)) /\ fitE2 t f ids l
 | _ :: ids, none :: l => fitE2 t f ids l
 | [], [] => True
 | _, _ => False
def fitX : List (Option Chunk) -> List (Option Chunk) -> Prop
 | some c1 :: t, some c :: l => chle c1 c /\ fitX t l
 | _ :: t, none :: l => fitX t l
 | [], [] => True
 | _, _ => False
def shp : List (Option Chunk) -> List Bool
 | [] => []
 | some _ :: l => true :: shp l
 | none :: l => false :: shp l
def putAll (f : Nat -> Nat) (t : Tr Chunk) : List Nat -> List (Option Chunk) -> Tr Chunk
 | i :: ids, some c :: l => Tr.set 20 (putAll f t ids l) i (some (renC f c))
 | _ :: ids, none :: l => putAll f t ids l
 | _, _ => t
theorem fitE2_get {t : Tr Chunk} {f : Nat -> Nat} : ∀ {ids0 ids : List Nat} {l : List (Option Chunk)} {n0 id : Nat} {ch : Chunk}, nodupB ids0 = true -> below n0 ids0 = true -> ids0.length = ids.length -> fitE2 t f ids l -> (ofMo (ids0.zip l)).get id = some ch -> ∃ a c1, lookA ids0 ids id = some a /\ t.get a = some c1 /\ chle c1 (renC f ch)
 | [], _, _, _, _, _, _, _, _, _, e => by cases e
 | _ :: _, [], _, _, _, _, _, _, hl, _, _ => by simp at hl
 | _ :: _, _ :: _, [], _, _, _, _, _, _, h, e => by cases e
 | i :: ids0, a :: ids, c :: l, n0, id, ch, hd, hb, hl, h, e => by
  rw [zxa hd hb] at e
  split at e
  ·rename_i hi
   subst hi e
   obtain ⟨⟨c1, h1, h2⟩, h3⟩ := h
   exact ⟨a, c1, by simp [lookA, Nat.beq_refl], h1, h2⟩
  ·rename_i hi
   have h3 : fitE2 t f ids l := by cases c <;> first | exact h | exact h.2
   obtain ⟨a', c', h4, h5⟩ := fitE2_get (zxi hd).1 (zqU hb).1 (by simpa using hl) h3 e
   refine ⟨a', c', ?_, h5⟩
   simp only [lookA]
   split
   ·rename_i hbq; exact absurd (beq_tt hbq).symm hi
   ·exact h4
theorem fitX_get {t : Tr Chunk} : ∀ {ids0 : List Nat} {l : List (Option Chunk)} {n0 id : Nat} {ch : Chunk}, nodupB ids0 = true -> below n0 ids0 = true -> fitX (pk ids0 t) l -> (ofMo (ids0.zip l)).get id = some ch -> ∃ c1, t.get id = some c1 /\ chle c1 ch
 | [], _, _, _, _, _, _, _, e => by cases e
 | _ :: _, [], _, _, _, _, _, h, e => by cases e
 | i :: ids, c :: l, n0, id, ch, hd, hb, h, e => by
  rw [zxa hd hb] at e
  simp only [pk] at h
  split at e
  ·rename_i hi
   subst hi e
   cases hg : t.get id with
   | none => rw [hg] at h; exact h.elim
   | some c1 => rw [hg] at h; exact ⟨c1, rfl, h.1⟩
  ·have h3 : fitX (pk ids t) l := by
    cases c with
    | none => cases hg : t.get i <;> rw [hg] at h <;> exact h
    | some c => cases hg : t.get i <;> rw [hg] at h <;> first | exact h.elim | exact h.2
   exact fitX_get (zxi hd).1 (zqU hb).1 h3 e
def told (ids0 : List Nat) (cs : List (Option Chunk)) (j : Nat) : Bool := match (ofMo (ids0.zip cs)).get j with
 | some _ => true
 | none => false
theorem told_shp : ∀ {ids0 : List Nat} {cs cs' : List (Option Chunk)} {n0 j : Nat}, nodupB ids0 = true -> below n0 ids0 = true -> shp cs' = shp cs -> told ids0 cs' j = told ids0 cs j
 | [], _, _, _, _, _, _, _ => rfl
 | _ :: _, [], [], _, _, _, _, _ => rfl
 | _ :: _, [], c :: _, _, _, _, _, h => by cases c <;> simp [shp] at h
 | _ :: _, c :: _, [], _, _, _, _, h => by cases c <;> simp [shp] at h
 | i :: ids, c :: l, c' :: l', n0, j, hd, hb, h => by
  have h1 : c'.isSome = c.isSome /\ shp l' = shp l := by cases c <;> cases c' <;> simp [shp] at h ⊢ <;> exact h
  have ih := told_shp (j := j) (zxi hd).1 (zqU hb).1 h1.2
  unfold told at ih ⊢
  rw [zxa hd hb, zxa hd hb]
  by_cases he : j = i
  ·rw [if_pos he, if_pos he]
   cases c <;> cases c' <;> simp at h1 ⊢
  ·rw [if_neg he, if_neg he]; exact ih
theorem putAll_get {t : Tr Chunk} {f : Nat -> Nat} : ∀ {ids0 ids : List Nat} {l : List (Option Chunk)} {n0 n id : Nat} {ch : Chunk}, nodupB ids0 = true -> nodupB ids = true -> below n0 ids0 = true -> below n ids = true -> ids0.length = ids.length -> (putAll f t ids l).get id = some ch ->
  (∃ j c, lookA ids0 ids j = some id /\ (ofMo (ids0.zip l)).get j = some c /\ ch = renC f c) \/ ((∀ j, lookA ids0 ids j = some id -> told ids0 l j = false) /\ t.get id = some ch)
 | [], [], _, _, _, _, _, _, _, _, _, _, e => by unfold putAll at e; exact .inr ⟨λ j h => (by cases h), e⟩
 | [], _ :: _, _, _, _, _, _, _, _, _, _, hl, _ => by simp at hl
 | _ :: _, [], _, _, _, _, _, _, _, _, _, hl, _ => by simp at hl
 | i0 :: ids0, i :: ids, [], n0, n, id, ch, hd0, hd, hb0, hb, hl, e => by unfold putAll at e; exact .inr ⟨λ j h => rfl, e⟩
 | i0 :: ids0, i :: ids, c :: l, n0, n, id, ch, hd0, hd, hb0, hb, hl, e => by
  have step : (putAll f t ids l).get id = some ch -> id ≠ i -> (∃ j c', lookA (i0 :: ids0) (i :: ids) j = some id /\ (ofMo ((i0 :: ids0).zip (c :: l))).get j = some c' /\ ch = renC f c') \/ ((∀ j, lookA (i0 :: ids0) (i :: ids) j = some id -> told (i0 :: ids0) (c :: l) j = false) /\ t.get id = some ch) := by
   intro e hi
   rcases putAll_get (zxi hd0).1 (zxi hd).1 (zqU hb0).1 (zqU hb).1 (by simpa using hl) e with ⟨j, c', h1, h2, h3⟩ | ⟨h1, h2⟩
   ·have hne : j ≠ i0 := λ he => (zxi hd0).2 (he ▸ zxv h1)
    refine .inl ⟨j, c', ?_, by rw [zxa hd0 hb0, if_neg hne]; exact h2, h3⟩
    simp only [lookA]
    split
    ·rename_i hbq; exact absurd (beq_tt hbq).symm hne
    ·exact h1
   ·refine .inr ⟨λ j hj => ?_, h2⟩
    simp only [lookA] at hj
    split at hj
    ·cases hj; exact absurd rfl hi
    ·rename_i hbq
     have hne : j ≠ i0 := λ he => by rw [he, Nat.beq_refl] at hbq; cases hbq
     have := h1 j hj
     unfold told at this ⊢
     rw [zxa hd0 hb0, if_neg hne]
     exact this
  have hs := (zqU hb).2.1
  cases c with
  | some c =>
   rw [putAll, Tr.get_set _ _ _ _ _ (zqE hs)] at e
   by_cases hi : id = i
   ·subst hi
    simp only [if_true, Option.some.injEq] at e
    subst e
    exact .inl ⟨i0, c, by simp [lookA, Nat.beq_refl], by rw [zxa hd0 hb0]; simp, rfl⟩
   ·rw [if_neg hi] at e; exact step e hi
  | none =>
   rw [putAll] at e
   by_cases hi : id = i
   ·subst hi
    -- not told: the old piece
    have old : t.get id = some ch := by
     have gen : ∀ {ids : List Nat} {l : List (Option Chunk)}, id ∉ ids -> below n ids = true -> (putAll f t ids l).get id = some ch -> t.get id = some ch := by
      intro ids
      induction ids with
      | nil => intro l _ _ e; unfold putAll at e; exact e
      | cons a m ih =>
       intro l hn hb e
       cases l with
       | nil => unfold putAll at e; exact e
       | cons c l =>
        have hn' : id ≠ a /\ id ∉ m := by simpa using hn
        cases c with
        | some c =>
         rw [putAll, Tr.get_set _ _ _ _ _ (zqE (zqU hb).2.1), if_neg hn'.1] at e
         exact ih hn'.2 (zqU hb).1 e
        | none => exact ih (l := l) hn'.2 (zqU hb).1 e
     exact gen (zxi hd).2 (zqU hb).1 e
    refine .inr ⟨λ j hj => ?_, old⟩
    simp only [lookA] at hj
    split at hj
    ·rename_i hbq
     rw [<- beq_tt hbq]
     unfold told
     rw [zxa hd0 hb0, if_pos rfl]
    ·have := lookA_in2 hj
     exact absurd this (zxi hd).2
   ·exact step e hi
theorem zqJ {ids0 ids : List Nat} : ∀ {j i : Nat}, nodupB ids = true -> lookA ids0 ids j = some i -> ids0.length = ids.length -> nodupB ids0 = true -> lookA ids ids0 i = some j := by
 induction ids0 generalizing ids with
 | nil => intro j i _ h; cases h
 | cons a l ih =>
  intro j i hd h hl hd0
  cases ids with
  | nil => cases h
  | cons b m =>
   simp only [nodupB] at hd hd0
   split at hd
   ·rename_i hall
    split at hd0
    ·simp only [lookA] at h ⊢
     split at h
     ·rename_i hb
      cases h
      rw [Nat.beq_refl]; simp [beq_tt hb]
     ·have h2 := ih hd h (by simpa using hl) hd0
      have hm := zxv h2
      have hne : Nat.beq b i = false := by
       cases hh : Nat.beq b i with
       | false => rfl
       | true =>
        have := beq_tt hh
        subst this
        have := List.all_eq_true.1 hall _ hm
        simp [Nat.beq_refl] at this
      rw [hne]
      exact h2
    ·cases hd0
   ·cases hd
theorem zkJ {ids0 ids : List Nat} {j i : Nat} (h : lookA ids0 ids j = some i) : i ∈ ids := by
 induction ids0 generalizing ids with
 | nil => cases h
 | cons a l ih =>
  cases ids with
  | nil => cases h
  | cons b m =>
   simp only [lookA] at h
   split at h
   ·cases h; exact List.mem_cons_self
   ·exact List.mem_cons_of_mem _ (ih h)
theorem lookA_none {ids ids0 : List Nat} (hl : ids.length = ids0.length) {i : Nat} (h : lookA ids ids i = none) : lookA ids ids0 i = none := by
 have := zxJ (ids := ids) (acts := ids0) hl (id := i)
 rw [h] at this
 cases hh : lookA ids ids0 i with
 | none => rfl
 | some a => rw [hh] at this; cases this
theorem zjH {ids ids0 : List Nat} (hl : ids.length = ids0.length) {i a : Nat} (h : lookA ids ids i = some a) : ∃ j, lookA ids ids0 i = some j := by
 have := zxJ (ids := ids) (acts := ids0) hl (id := i)
 rw [h] at this
 cases hh : lookA ids ids0 i with
 | none => rw [hh] at this; cases this
 | some a => exact ⟨a, rfl⟩
theorem lookA_ids {ids : List Nat} {i a : Nat} (h : lookA ids ids i = some a) : a = i := by
 have := zxC (zxv h)
 rw [h] at this; exact Option.some.inj this
end
end Go.Q
namespace Go.Q
open Go.Z Go.Y
noncomputable section
variable [Ext]
theorem nT {p : Prop} [Decidable p] (h : (!decide p) = true) : ¬ p := by simpa using h
theorem nF {p : Prop} [Decidable p] (h : (!decide p) = false) : p := by simpa using h
def AllS (P : Program) (G : GQ) : List (Nat × (List V -> Mem -> KE -> Prop)) -> Prop
 | [] => True
 | p :: l => (∀ args hp k, p.2 args hp k -> TaskOk P G (.call p.1 args hp k)) /\ AllS P G l
theorem fs_all {P : Program} {G : GQ} (h : AllS P G G.fs) : FsOk P G := by
 intro f s hf
 generalize hl : G.fs = l at hf h
 clear hl
 induction l with
 | nil => cases hf
 | cons p l ih =>
  simp only [lookF] at hf
  split at hf
  ·rename_i hb; cases hf; rw [<- beq_tt hb]; exact h.1
  ·exact ih hf h.2
theorem code_sameG {P : Program} {t : Tr Nat} {kn vs kn' vs' gf gl gf' gl'} {fi : FI} {c : Code} {ds : List DV} {env : Tr V} {hp : Mem} {k : KK} (h : TaskOk P ⟨⟨t, kn', vs'⟩, gf', gl'⟩ (.code fi c ds env hp k)) : TaskOk P ⟨⟨t, kn, vs⟩, gf, gl⟩ (.code fi c ds env hp k) :=
 λ ρ W ds' L K ro hG hH hE hF hk => h ρ W ds' L K ro hG hH hE hF hk
def AllL (P : Program) (G : GQ) : List (Nat × Code × (FI -> List DV -> Tr V -> Mem -> KK -> Prop)) -> Prop
 | [] => True
 | p :: l => (∀ fi ds env hp k, p.2.2 fi ds env hp k -> TaskOk P G (.code fi (.loop p.2.1) ds env hp k)) /\ AllL P G l
theorem ls_all {P : Program} {G : GQ} (h : AllL P G G.ls) : LsOk P G := by
 intro j c s hf
 generalize hl : G.ls = l at hf h
 clear hl
 induction l with
 | nil => cases hf
 | cons p l ih =>
  obtain ⟨n, c0, s0⟩ := p
  simp only [lookL] at hf
  split at hf
  ·cases hf; exact h.1
  ·exact ih hf h.2
end
end Go.Q
namespace Go.Q
open Go.Z Go.Y
noncomputable section
variable [Ext]
def nw : Chunk -> Bool
 | .byt _ _ => true
 | .rows _ sh _ => noAny sh
 | .rowsO _ sh _ => noAny sh
 | _ => false
theorem zkr {ids0 ids : List Nat} {n0 x : Nat} : ∀ {j : Nat}, ids0.length = ids.length -> lookA (ids0 ++ [n0]) (ids ++ [x]) j = match lookA ids0 ids j with | some i => some i | none => (match Nat.beq n0 j with | true => some x | false => none) := by
 induction ids0 generalizing ids with
 | nil =>
  intro j hl
  cases ids with
  | nil => rfl
  | cons b m => simp at hl
 | cons a l ih =>
  intro j hl
  cases ids with
  | nil => simp at hl
  | cons b m =>
   simp only [List.cons_append, lookA]
   split
   ·rfl
   ·exact ih (by simpa using hl)
theorem nw_put {ρ1 ρ2 : Rho} {id id' b : Nat} {o : Obj} {c : Chunk} (hc : nw c = true) (hid : ∀ x, ρ1 id = some x -> ρ2 id' = some x) (h : CRel ρ1 id c b o) : CRel ρ2 id' c b o := by
 cases c with
 | byt l ty =>
  obtain ⟨c, junk, fr, h1, h3⟩ := h
  exact ⟨c, junk, fr, hid _ h1, h3⟩
 | rows l sh ty =>
  obtain ⟨c, rl, junk, fr, h1, h2, h3, h4⟩ := h
  exact ⟨c, rl, junk, fr, hid _ h1, flat_R hc h3 h2, h3, h4⟩
 | rowsO l sh ty =>
  obtain ⟨⟨c0, h0⟩, h⟩ := h
  refine ⟨⟨c0, hid _ h0⟩, ?_⟩
  rcases h with h | ⟨c, rl, junk, fr, h1, h2, h3, h4⟩
  ·exact .inl h
  ·exact .inr ⟨c, rl, junk, fr, hid _ h1, flat_R hc h3 h2, h3, h4⟩
 | _ => cases hc
def cNn (ids0 look : List Nat) (n0 : Nat) (sh : List Bool) (K0 : E -> List (Option Chunk) -> Option Chunk -> Prop) : E -> Nat -> List (Option Chunk) -> Prop := λ e n t =>
 (∃ e' cs, ele e e' /\ eok (inI ids0) e' = true /\ fitX (t.take ids0.length) cs /\ shp cs = sh /\ coks3 (inI ids0) cs = true /\ K0 e' cs none) \/
 (∃ e' cs a c1 ch, ele e (renE (renF (ids0 ++ [n0]) (ids0 ++ [a])) e') /\ eok (inI (ids0 ++ [n0])) e' = true /\ fitX (t.take ids0.length) cs /\ shp cs = sh /\ coks3 (inI ids0) cs = true /\ Nat.ble n0 a = true /\ Nat.blt a n = true /\ lookC look t a = some c1 /\ chle c1 ch /\ nw ch = true /\ K0 e' cs (some ch))
theorem pk_take {α : Type} {t : Tr α} : ∀ {ids more : List Nat}, (pk (ids ++ more) t).take ids.length = pk ids t
 | [], more => by simp [pk]
 | i :: ids, more => by simp only [List.cons_append, pk, List.length_cons, List.take_succ_cons]; rw [pk_take]
def cutA (ids : List Nat) (N : E -> Nat -> List (Option Chunk) -> Prop) : KE := λ e hp => N e hp.n (pk ids hp.t)
def lkOk (ids0 ids : List Nat) (ro0 : List Lk) : List Lk -> Prop
 | [] => True
 | l :: ls => (match lookA ids ids0 l.1 with | none => True | some j => wh j ∈ ro0) /\ lkOk ids0 ids ro0 ls
theorem lkOk_mem {ids0 ids : List Nat} {ro0 : List Lk} : ∀ {ls : List Lk} {l : Lk}, lkOk ids0 ids ro0 ls -> l ∈ ls -> match lookA ids ids0 l.1 with | none => True | some j => wh j ∈ ro0
 | [], _, _, h => by cases h
 | a :: ls, l, h, hm => by
  cases hm with
  | head => exact h.1
  | tail _ hm => exact lkOk_mem h.2 hm
theorem call_nw {P : Program} {G0 G : GQ} {f : Nat} {args args0 : List V} {hp : Mem} {k : KE} (n0 : Nat) (ids0 more ids : List Nat) (cs : List (Option Chunk)) (ro0 : List Lk) (K0 : E -> List (Option Chunk) -> Option Chunk -> Prop)
  (h : TaskOk P G0 (.call f args0 ⟨n0, ofMo (ids0.zip cs), ro0⟩ (cutA (ids0 ++ more) (cNn ids0 (ids0 ++ more) n0 (shp cs) K0)))) (hg : ∀ g id, G0.g.get g = some id -> inI ids0 id = true /\ G.g.get g = some (renF ids0 ids id)) (hr0 : ∀ l ∈ ro0, l.1 < n0)
  (ha : vles args (renVs (renF ids0 ids) args0)) (hao : voks (inI ids0) args0 = true) (hl : ids0.length = ids.length) (hb0 : below n0 ids0 = true) (hb : below hp.n ids = true) (d0 : nodupB ids0 = true) (d1 : nodupB ids = true)
  (hco : coks3 (inI ids0) cs = true) (hm : fitE2 hp.t (renF ids0 ids) ids cs) (hlk : lkOk ids0 ids ro0 hp.ro) (hin : ∀ (ρ : Rho) W, HR ρ hp W -> ∀ i ∈ ids, ∃ x, ρ i = some x) (hsm : small hp.n = true)
  (hk : ∀ e cs', K0 e cs' none -> k (renE (renF ids0 ids) e) ⟨hp.n, putAll (renF ids0 ids) hp.t ids cs', hp.ro⟩)
  (hk2 : ∀ e cs' ch, K0 e cs' (some ch) -> k (renE (renF (ids0 ++ [n0]) (ids ++ [hp.n])) e) ⟨hp.n + 1, Tr.set 20 (putAll (renF ids0 ids) hp.t ids cs') hp.n (some ch), hp.ro⟩) : TaskOk P G (.call f args hp k) := by
 refine ⟨h.1, λ ρ W us Post hG hH hus hkk => ?_⟩
 have hl' := hl.symm
 -- the callee's numbers
 let ρ0 : Rho := λ j => match lookA ids0 ids j with | some i => ρ i | none => none
 let W0 : RW := λ j => match lookA ids0 ids j, told ids0 cs j with | some i, true => W i | _, _ => none
 let Wa : RW := λ i => match lookA ids ids0 i with | some j => (match told ids0 cs j with | true => W i | false => none) | none => none
 let Wr : RW := λ i => match lookA ids ids0 i with | some j => (match told ids0 cs j with | true => none | false => W i) | none => W i
 have renf : ∀ {j i : Nat}, lookA ids0 ids j = some i -> renF ids0 ids j = i := by intro j i e; unfold renF; rw [e]
 have hf : ∀ id, inI ids0 id = true -> ρ0 id = ρ (renF ids0 ids id) := by
  intro id hi
  unfold inI at hi
  split at hi
  ·rename_i a ha
   obtain ⟨j, hj⟩ := zjH hl ha
   simp only [ρ0, hj, renf hj]
  ·cases hi
 have inOf : ∀ {j i : Nat}, lookA ids0 ids j = some i -> inI ids0 j = true := by
  intro j i e
  unfold inI
  rw [zxC (zxv e)]
 have start : ∀ x, sep (spl hp.n W) x -> sep (spl n0 W0 ++ splR hp.n Wr) x := by
  intro x hx
  rw [zqF]
  have := zkZ (n := hp.n) (W := W) (Wa := Wa) (Wb := Wr) (λ id hid => by
   simp only [Wa, Wr]
   cases lookA ids ids0 id with
   | some j =>
    dsimp only
    cases told ids0 cs j with
    | true => exact .inl ⟨rfl, rfl⟩
    | false => exact .inr ⟨rfl, rfl⟩
   | none => exact .inr ⟨rfl, rfl⟩) x hx
  refine zqc (λ y hy => ?_) (λ _ y => y) this
  refine zjC (g := renF ids0 ids) (λ j hj => ?_) (λ j j' _ _ h1 h2 he => ?_) y hy
  ·cases hl2 : lookA ids0 ids j with
   | none => exact .inl (by simp only [W0, hl2])
   | some i =>
    refine .inr ⟨?_, ?_⟩
    ·rw [renf hl2]; exact zxO hb (zkJ hl2)
    ·rw [renf hl2]; simp only [W0, hl2, Wa, zqJ d1 hl2 hl d0]
     cases told ids0 cs j <;> rfl
  ·cases hl2 : lookA ids0 ids j with
   | none => exact absurd (by simp only [W0, hl2]) h1
   | some i =>
    cases hl3 : lookA ids0 ids j' with
    | none => exact absurd (by simp only [W0, hl3]) h2
    | some i' =>
     rw [renf hl2, renf hl3] at he
     subst he
     have a1 := zqJ d1 hl2 hl d0
     have a2 := zqJ d1 hl3 hl d0
     rw [a1] at a2
     exact Option.some.inj a2
 have hH0 : HR ρ0 ⟨n0, ofMo (ids0.zip cs), ro0⟩ W0 := by
  refine ⟨λ j ch e => ?_, λ j hj => ?_, hr0⟩
  ·obtain ⟨i, c1, h1, h2, h3⟩ := fitE2_get d0 hb0 hl hm e
   obtain ⟨b, o, h4, h5⟩ := hH.rel i c1 h2
   have ht : told ids0 cs j = true := by unfold told; rw [show (ofMo (ids0.zip cs)).get j = some ch from e]
   refine ⟨b, o, by simp only [W0, h1, ht]; exact h4, ?_⟩
   have h6 := zjm h3 h5
   rcases zkd d0 hb0 hco e with hc | hc
   ·rw [cloC_ren hc] at h6
    exact cloC_ok hc (λ x hx => by simp only [ρ0, h1]; exact hx) h6
   ·refine cren_ok hf (inOf h1) hc ?_
    rw [renf h1]; exact h6
  ·have hj : n0 <= j := hj
   simp only [ρ0]
   cases hl2 : lookA ids0 ids j with
   | none => rfl
   | some i => have := zxO hb0 (zxv hl2); omega
 have hG0 : GOk ρ0 G0.g := λ g id e => by
  obtain ⟨h1, h2⟩ := hg g id e
  obtain ⟨c, h3⟩ := hG g _ h2
  exact ⟨c, by rw [hf id h1]; exact h3⟩
 have hus0 : RL ρ0 args0 us := zkp hf hao (zjz ha hus)
 refine Fn_down (Fn.weak (Fn_frame2 (R := splR hp.n Wr) (h.2 ρ0 W0 us (λ en H' => ∃ ρ1 n1 W1 e cs' nc, ρ0.le ρ1 /\ (∀ l ∈ ro0, Same l (W0 l.1) (W1 l.1)) /\ coks3 (inI ids0) cs' = true /\ shp cs' = shp cs /\ (∀ j ch, (ofMo (ids0.zip cs')).get j = some ch -> ∃ b o, W1 j = some (b, o) /\ CRel ρ1 j ch b o) /\ K0 e cs' nc /\ (∀ j, n1 <= j -> ρ1 j = none) /\
   (match nc with | none => EndRel ρ1 e en /\ eok (inI ids0) e = true | some ch => ∃ a, EndRel ρ1 (renE (renF (ids0 ++ [n0]) (ids0 ++ [a])) e) en /\ eok (inI (ids0 ++ [n0])) e = true /\ n0 <= a /\ a < n1 /\ nw ch = true /\ ∃ b o, W1 a = some (b, o) /\ CRel ρ1 a ch b o) /\ H' = spl n1 W1) hG0 hH0 hus0 ?_)) start) ?_
 ·intro e hp1 ρ1 W1 en nx hen hcut
  have eleOk : ∀ {e'}, ele e e' -> EndRel ρ1 e' en := by
   intro e' h1
   cases e <;> cases e' <;> first | exact h1.elim | skip
   ·cases en <;> first | exact hen.elim | skip
    exact dle_ok h1 hen
   ·cases en <;> first | exact hen.elim | skip
    obtain ⟨y, hy, rfl⟩ := hen
    exact ⟨y, dle_ok h1 hy, rfl⟩
  unfold cutA at hcut
  ·rcases hcut with ⟨e', cs', h1, h2, h3, hsh, h4, h5⟩ | ⟨e', cs', a, c1, ch, h1, h2, h3, hsh, h4, ha1, ha2, ha3, ha4, ha5, h5⟩
   ·rw [pk_take] at h3
    refine ⟨ρ1, hp1.n, W1, e', cs', none, nx.le, nx.st, h4, hsh, λ j ch hj => ?_, h5, λ j hj => nx.hr.lim j hj, ⟨eleOk h1, h2⟩, rfl⟩
    obtain ⟨c1, h6, h7⟩ := fitX_get d0 hb0 h3 hj
    obtain ⟨b, o, h8, h9⟩ := nx.hr.rel j c1 h6
    exact ⟨b, o, h8, zjm h7 h9⟩
   ·rw [pk_take] at h3
    refine ⟨ρ1, hp1.n, W1, e', cs', some ch, nx.le, nx.st, h4, hsh, λ j ch hj => ?_, h5, λ j hj => nx.hr.lim j hj, ⟨a, eleOk h1, h2, Nat.le_of_ble_eq_true ha1, blt_tt ha2, ha5, ?_⟩, rfl⟩
    ·obtain ⟨c1, h6, h7⟩ := fitX_get d0 hb0 h3 hj
     obtain ⟨b, o, h8, h9⟩ := nx.hr.rel j c1 h6
     exact ⟨b, o, h8, zjm h7 h9⟩
    ·obtain ⟨b, o, h8, h9⟩ := nx.hr.rel a c1 (zkI ha3)
     exact ⟨b, o, h8, zjm ha4 h9⟩
 ·rintro en H' ⟨H1, ⟨ρ1, n1, W1, e, cs', nc, hle, hst1, hco', hsh, hrel, hK, hlim, hnc, rfl⟩, rfl⟩
  have htold : ∀ j, told ids0 cs' j = told ids0 cs j := λ j => told_shp d0 hb0 hsh
  let W2 : RW := λ i => match lookA ids ids0 i with | some j => (match told ids0 cs j with | true => W1 j | false => W i) | none => W i
  let Wx : RW := λ i => match lookA ids ids0 i with | some j => (match told ids0 cs j with | true => W1 j | false => none) | none => none
  have hlt1 : ∀ {j}, told ids0 cs j = true -> j < n1 := by
   intro j e
   rw [<- htold] at e
   unfold told at e
   split at e
   ·rename_i ch hg
    obtain ⟨b, o, h1, h2⟩ := hrel j ch hg
    obtain ⟨c, h3⟩ := h2.at
    rcases Nat.lt_or_ge j n1 with h | h
    ·exact h
    ·rw [hlim j h] at h3; cases h3
   ·cases e
  have up : ∀ id x, inI ids0 id = true -> ρ1 id = some x -> ρ (renF ids0 ids id) = some x := by
   intro id x hi hx
   unfold inI at hi
   split at hi
   ·rename_i a ha
    obtain ⟨i, hj⟩ := zjH hl ha
    obtain ⟨y, hy⟩ := hin ρ W hH i (zkJ hj)
    have h5 : ρ0 id = some y := by simp only [ρ0, hj]; exact hy
    have h6 := hle _ _ h5
    rw [hx] at h6; cases h6
    rw [renf hj]; exact hy
   ·cases hi
  have hH2 : HR ρ ⟨hp.n, putAll (renF ids0 ids) hp.t ids cs', hp.ro⟩ W2 := by
   refine ⟨λ id ch e => ?_, hH.lim, hH.rol⟩
   rcases putAll_get d0 d1 hb0 hb hl e with ⟨j, c, h1, h2, rfl⟩ | ⟨h1, h2⟩
   ·have h3 := zqJ d1 h1 hl d0
    have ht : told ids0 cs j = true := by rw [<- htold]; unfold told; rw [h2]
    obtain ⟨b, o, h4, h5⟩ := hrel j c h2
    refine ⟨b, o, by simp only [W2, h3, ht]; exact h4, ?_⟩
    rw [<- renf h1]
    rcases zkd d0 hb0 hco' h2 with hc | hc
    ·rw [cloC_ren hc]
     exact cloC_ok hc (λ x hx => up j x (inOf h1) hx) h5
    ·exact cren_up up (inOf h1) hc h5
   ·obtain ⟨b, o, h3, h4⟩ := hH.rel id ch h2
    refine ⟨b, o, ?_, h4⟩
    simp only [W2]
    cases h5 : lookA ids ids0 id with
    | none => exact h3
    | some j =>
     have h6 := h1 j (zqJ d0 h5 hl' d1)
     rw [htold] at h6
     dsimp only
     rw [h6]
     exact h3
  have st : ∀ l ∈ hp.ro, Same l (W l.1) (W2 l.1) := by
   intro l hm2
   have h1 := lkOk_mem hlk hm2
   simp only [W2]
   cases h2 : lookA ids ids0 l.1 with
   | none => exact .refl
   | some j =>
    rw [h2] at h1
    dsimp only at h1 ⊢
    cases h3 : told ids0 cs j with
    | false => exact .refl
    | true =>
     dsimp only
     have h4 := (hst1 _ h1).eq
     have h5 := zqJ d0 h2 hl' d1
     simp only [wh, W0, h5, h3] at h4
     rw [<- h4]
     exact .refl
  have rg : ∀ {i j}, lookA ids ids0 i = some j -> renF ids ids0 i = j := by intro i j e; unfold renF; rw [e]
  cases nc with
  | none =>
   obtain ⟨hen, heo⟩ := hnc
   refine ⟨spl hp.n W2, hkk _ ⟨hp.n, putAll (renF ids0 ids) hp.t ids cs', hp.ro⟩ ρ W2 en ⟨Rho.le_refl _, hH2, rfl, st⟩ ?_ (hk e cs' hK), λ x hx => ?_⟩
   ·cases e with
    | ret v =>
     cases en <;> first | exact hen.elim | skip
     exact ren_up up heo hen
    | pan v =>
     cases en <;> first | exact hen.elim | skip
     obtain ⟨y, hy, rfl⟩ := hen
     exact ⟨y, ren_up up heo hy, rfl⟩
   ·rw [zqF] at hx
    have h1 := zqc (λ y hy => zjC (g := renF ids ids0) (n1 := hp.n) (W2 := Wx) (λ i hi => by
     simp only [Wx]
     cases h2 : lookA ids ids0 i with
     | none => exact .inl rfl
     | some j =>
      dsimp only
      cases h3 : told ids0 cs j with
      | false => exact .inl rfl
      | true => exact .inr ⟨by rw [rg h2]; exact hlt1 h3, by rw [rg h2]⟩) (λ i i' _ _ h2 h3 he => by
     cases h4 : lookA ids ids0 i with
     | none => exact absurd (by simp only [Wx, h4]) h2
     | some j =>
      cases h5 : lookA ids ids0 i' with
      | none => exact absurd (by simp only [Wx, h5]) h3
      | some j' =>
       rw [rg h4, rg h5] at he
       subst he
       have a1 := zqJ d0 h4 hl' d1
       have a2 := zqJ d0 h5 hl' d1
       rw [a1] at a2
       exact Option.some.inj a2) y hy) (λ _ y => y) hx
    refine zxH (λ id hid => ?_) x h1
    simp only [W2, Wx]
    cases h2 : lookA ids ids0 id with
    | some j =>
     dsimp only
     cases h3 : told ids0 cs j with
     | true => exact .inr (.inl ⟨hid, rfl⟩)
     | false => exact .inr (.inr ⟨hid, by simp only [Wr, h2, h3]⟩)
    | none => exact .inr (.inr ⟨hid, by simp only [Wr, h2]⟩)
  | some ch =>
   obtain ⟨a, hen, heo, hna, han, hnw, b, o, hWa, hCa⟩ := hnc
   obtain ⟨ca, hra⟩ := hCa.at
   let ρ3 : Rho := upd ρ hp.n (some (b, ca))
   let W3 : RW := upd W2 hp.n (some (b, o))
   have hle3 : ρ.le ρ3 := zqm hH2 (b, ca)
   have hC3 : CRel ρ3 hp.n ch b o := nw_put hnw (λ x hx => by
    rw [hra] at hx; cases hx; exact zqb) hCa
   have hH3 : HR ρ3 ⟨hp.n + 1, Tr.set 20 (putAll (renF ids0 ids) hp.t ids cs') hp.n (some ch), hp.ro⟩ W3 := HR.new hH2 (hp := ⟨hp.n, putAll (renF ids0 ids) hp.t ids cs', hp.ro⟩) hsm hC3
   have st3 : ∀ l ∈ hp.ro, Same l (W l.1) (W3 l.1) := by
    intro l hm2
    have h1 := hH.rol l hm2
    have h2 := st l hm2
    simp only [W3]
    rw [zqk (by omega)]
    exact h2
   have up3 : ∀ id x, inI (ids0 ++ [n0]) id = true -> ρ1 (renF (ids0 ++ [n0]) (ids0 ++ [a]) id) = some x -> ρ3 (renF (ids0 ++ [n0]) (ids ++ [hp.n]) id) = some x := by
    intro id x hi hx
    unfold inI at hi
    rw [zkr rfl] at hi
    unfold renF at hx ⊢
    rw [zkr rfl] at hx
    rw [zkr hl]
    cases h2 : lookA ids0 ids0 id with
    | some j =>
     rw [h2] at hx
     dsimp only at hx
     obtain ⟨i, hj⟩ := zjH hl h2
     rw [hj]
     dsimp only
     have h3 := lookA_ids h2
     subst h3
     have h5 := up j x (inOf hj) hx
     rw [renf hj] at h5
     exact hle3 _ _ h5
    | none =>
     rw [h2] at hx hi
     dsimp only at hx hi
     rw [lookA_none hl h2]
     dsimp only
     cases hb1 : Nat.beq n0 id with
     | true =>
      rw [hb1] at hx
      dsimp only at hx ⊢
      rw [hra] at hx; cases hx
      exact zqb
     | false => rw [hb1] at hi; cases hi
   have tr : ∀ {v : V} {u : Value}, vok (inI (ids0 ++ [n0])) v = true -> R ρ1 (renV (renF (ids0 ++ [n0]) (ids0 ++ [a])) v) u -> R ρ3 (renV (renF (ids0 ++ [n0]) (ids ++ [hp.n])) v) u := λ {v u} hv h =>
    ren_up (ρ2 := λ id => ρ1 (renF (ids0 ++ [n0]) (ids0 ++ [a]) id)) up3 hv (ren_ok (f := renF (ids0 ++ [n0]) (ids0 ++ [a])) (λ id _ => rfl) hv h)
   refine ⟨spl (hp.n + 1) W3, hkk _ ⟨hp.n + 1, Tr.set 20 (putAll (renF ids0 ids) hp.t ids cs') hp.n (some ch), hp.ro⟩ ρ3 W3 en ⟨hle3, hH3, rfl, st3⟩ ?_ (hk2 e cs' ch hK), λ x hx => ?_⟩
   ·cases e with
    | ret v =>
     cases en <;> first | exact hen.elim | skip
     exact tr heo hen
    | pan v =>
     cases en <;> first | exact hen.elim | skip
     obtain ⟨y, hy, rfl⟩ := hen
     exact ⟨y, tr heo hy, rfl⟩
   ·rw [zqF] at hx
    let Wy : RW := upd Wx hp.n (some (b, o))
    let g : Nat -> Nat := λ i => match Nat.beq i hp.n with | true => a | false => renF ids ids0 i
    have gn : g hp.n = a := by show (match Nat.beq hp.n hp.n with | true => a | false => _) = a; rw [Nat.beq_refl]
    have go' : ∀ i, i ≠ hp.n -> g i = renF ids ids0 i := by
     intro i hi
     show (match Nat.beq i hp.n with | true => a | false => _) = _
     cases hb1 : Nat.beq i hp.n with
     | true => exact absurd (beq_tt hb1) hi
     | false => rfl
    have wxlt : ∀ i j, lookA ids ids0 i = some j -> told ids0 cs j = true -> j < n0 := λ i j h2 h3 => zxO hb0 (zkJ h2)
    have h1 := zqc (λ y hy => zjC (g := g) (n1 := hp.n + 1) (W2 := Wy) (λ i hi => by
     simp only [Wy]
     by_cases hin : i = hp.n
     ·subst hin
      rw [zqb, gn]
      exact .inr ⟨han, hWa.symm⟩
     ·rw [zqk hin, go' i hin]
      simp only [Wx]
      cases h2 : lookA ids ids0 i with
      | none => exact .inl rfl
      | some j =>
       dsimp only
       cases h3 : told ids0 cs j with
       | false => exact .inl rfl
       | true => exact .inr ⟨by rw [rg h2]; exact hlt1 h3, by rw [rg h2]⟩) (λ i i' _ _ h2 h3 he => by
     have key : ∀ i, Wy i ≠ none -> i ≠ hp.n -> ∃ j, lookA ids ids0 i = some j /\ j < n0 := by
      intro i hw hin
      simp only [Wy] at hw
      rw [zqk hin] at hw
      cases h4 : lookA ids ids0 i with
      | none => exact absurd (by simp only [Wx, h4]) hw
      | some j => exact ⟨j, rfl, zxO hb0 (zkJ h4)⟩
     by_cases hi : i = hp.n
     ·by_cases hi' : i' = hp.n
      ·rw [hi, hi']
      ·obtain ⟨j', h5, h6⟩ := key i' h3 hi'
       rw [hi, gn, go' i' hi', rg h5] at he
       omega
     ·obtain ⟨j, h4, h7⟩ := key i h2 hi
      by_cases hi' : i' = hp.n
      ·rw [hi', gn, go' i hi, rg h4] at he
       omega
      ·obtain ⟨j', h5, h6⟩ := key i' h3 hi'
       rw [go' i hi, go' i' hi', rg h4, rg h5] at he
       subst he
       have a1 := zqJ d0 h4 hl' d1
       have a2 := zqJ d0 h5 hl' d1
       rw [a1] at a2
       exact Option.some.inj a2) y hy) (λ _ y => y) hx
    refine zxH (m := hp.n + 1) (n0 := hp.n) (W1 := Wy) (Wr := Wr) (λ id hid => ?_) x h1
    simp only [W3, Wy]
    by_cases hin : id = hp.n
    ·subst hin
     rw [zqb, zqb]
     exact .inr (.inl ⟨hid, rfl⟩)
    ·rw [zqk hin, zqk hin]
     simp only [W2, Wx]
     cases h2 : lookA ids ids0 id with
     | some j =>
      dsimp only
      cases h3 : told ids0 cs j with
      | true => exact .inr (.inl ⟨hid, rfl⟩)
      | false => exact .inr (.inr ⟨by omega, by simp only [Wr, h2, h3]⟩)
     | none => exact .inr (.inr ⟨by omega, by simp only [Wr, h2]⟩)
end
end Go.Q
namespace Go.Q
open Go.Z Go.Y
noncomputable section
variable [Ext]
end
end Go.Q
namespace Go.Q
open Go.Z Go.Y
noncomputable section
section
variable [Ext]
theorem ext_at {Γ w : World} {H : List SP} {F : SP} (hh : Hold Γ H F w) (hs : ∀ x, sep H x -> sep [extSP] x) : ∀ b o, Ext.x b = some o -> w.heap[b]? = some o := by
 intro b o e
 obtain ⟨h1, h2, d, e2, ha, hb⟩ := (hh.weaken hs).heap
 obtain ⟨x, y, d2, rfl, hx, _⟩ := hb
 have h3 : Hp.un x y b = some o := by simp [Hp.un, hx b o e]
 show Z.hp w b = some o
 rw [e2]
 rcases d b with h | h
 ·show (h1 b).or (Hp.un x y b) = some o
  rw [h, h3]; rfl
 ·rw [h3] at h; cases h
end
end
end Go.Q
namespace Go.Q
open Go.Z Go.Y
noncomputable section
variable [Ext]
abbrev nilG : GQ := ⟨⟨.nil, [], []⟩, [], []⟩
def I64 (n : Int) : Prop := -9223372036854775808 <= n /\ n <= 9223372036854775807
def int64 : V -> Option Int
 | .int .i64 n => some n
 | .sint .i64 n => some n
 | _ => none
theorem zql {v : V} {n : Int} (h : int64 v = some n) : vle v (.sint .i64 n) := by
 unfold int64 at h
 split at h
 ·cases h; exact ⟨rfl, rfl⟩
 ·cases h; exact ⟨rfl, rfl⟩
 ·cases h
def pkS : List Nat -> Tr Chunk -> Option (List Chunk)
 | [], _ => some []
 | i :: ids, t => match t.get i, pkS ids t with | some c, some l => some (c :: l) | _, _ => none
theorem pkS_ok : ∀ {ids : List Nat} {t : Tr Chunk} {l : List Chunk}, pkS ids t = some l -> pk ids t = l.map some
 | [], t, l, h => by cases h; rfl
 | i :: ids, t, l, h => by
  unfold pkS at h
  split at h
  ·rename_i c l' h1 h2
   cases h
   simp only [pk, h1, pkS_ok h2, List.map_cons]
  ·cases h
theorem zqP {P : Program} {gv gf gl gf' gl'} {fi : FI} {c : Code} {ds : List DV} {env : Tr V} {hp : Mem} {k : KK} (h : TaskOk P ⟨⟨.nil, [], []⟩, gf', gl'⟩ (.code fi c ds env hp k)) : TaskOk P ⟨gv, gf, gl⟩ (.code fi c ds env hp k) :=
 λ ρ W ds' L K ro hG hH hE hF hk => h ρ W ds' L K ro (λ g id e => by cases e) hH hE hF hk
theorem zqd (c : Chunk) : chle c c := by
 cases c <;> first | rfl | exact ⟨rfl, rfl, zjK _⟩ | exact ⟨⟨rfl, rfl, rfl, rfl, rfl, rfl, rfl⟩, λ _ _ h => h⟩
def atV (nt n : Nat) (ids rids : List Nat) (fi : FI) (ds : List DV) (hp : Mem) (p : List Chunk -> Prop) : Prop := match Nat.beq fi.nt nt, fi.ro, ds, Nat.beq hp.n n, noLk ids hp.ro, pkS rids hp.t with
 | true, none, [], true, true, some rc => p rc
 | _, _, _, _, _, _ => False
theorem zxo {nt n : Nat} {ids rids : List Nat} {fi : FI} {ds : List DV} {hp : Mem} {p : List Chunk -> Prop} (h : atV nt n ids rids fi ds hp p) : fi = ⟨nt, none⟩ /\ ds = [] /\ hp.n = n /\ noLk ids hp.ro = true /\ ∃ rc, pk rids hp.t = rc.map some /\ p rc := by
 obtain ⟨a, b⟩ := fi
 unfold atV at h
 split at h
 ·rename_i h1 h2 h3 h4 h5
  dsimp only at h1 h2
  exact ⟨by rw [beq_tt h1, h2], rfl, beq_tt h3, h4, _, pkS_ok h5, h⟩
 ·exact h.elim
theorem fitE_of {t : Tr Chunk} : ∀ {ids : List Nat} {l : List Chunk}, pk ids t = l.map some -> fitE t ids (l.map some)
 | [], [], _ => trivial
 | [], _ :: _, h => by cases h
 | _ :: _, [], h => by cases h
 | i :: ids, c :: l, h => by
  simp only [pk, List.map_cons, List.cons.injEq] at h
  exact ⟨⟨c, h.1, zqd _⟩, fitE_of h.2⟩
theorem getD_map {α β : Type} {f : α -> β} {l : List α} {i : Nat} {d : β} (h : i < l.length) : (l.map f).getD i d = f (l[i]'h) := by
 rw [List.getD_eq_getElem?_getD, List.getElem?_map, List.getElem?_eq_getElem h]; rfl
end
end Go.Q
namespace Go.Q
open Go.Z Go.Y
open Go.ChangeShapes Go.WideShapes Go.Deep
noncomputable section
section
variable (P : Program) (u8 : Bool)
def shFs (r : TypeId -> Option (List Sh)) : List Field -> Nat -> Option (List Sh)
 | [], _ => some []
 | f :: fs, off => match r f.type with
  | some a => match decide (f.offset = off /\ a.length = P.cellsOf f.type) with
   | true => match shFs r fs (off + a.length) with
    | some b => some (a ++ b)
    | none => none
   | false => none
  | none => none
def notB : List Sh -> Bool
 | .int .u8 :: l => notB l
 | .any :: l => notB l
 | _ :: _ => true
 | [] => false
def shT : Nat -> TypeId -> Option (List Sh)
 | 0, _ => none
 | m + 1, t => match P.underlying t with
  | some .bool => some [.bool]
  | some (.int k) => some [.int k]
  | some .string => some [.str]
  | some (.slice e) => match shT m e with
   | some sh => match decide (sh.length = P.cellsOf e /\ 0 < sh.length), u8 || notB sh with
    | true, true => some [.xs sh]
    | _, _ => none
   | none => none
  | some (.struct fs) => match shFs P (shT m) fs.toList 0 with
   | some sh => match decide (sh.length = P.cellsOf t) with | true => some sh | false => none
   | none => none
  | _ => none
end
mutual
/-- open values, numbers in range, strings and lists that are not too long -/
def okX : V -> Prop
 | .sint k n => k.min <= n /\ n <= k.max
 | .sstr l => l.length <= maxLen
 | .sbool _ => True
 | .xs l _ => l.length <= maxLen /\ okXLL l
 | _ => False
def okXL : List V -> Prop
 | [] => True
 | v :: l => okX v /\ okXL l
def okXLL : List (List V) -> Prop
 | [] => True
 | r :: l => okXL r /\ okXLL l
end
theorem okXL_app : ∀ {l m : List V}, okXL l -> okXL m -> okXL (l ++ m)
 | [], _, _, h => h
 | v :: l, m, h, h' => ⟨h.1, okXL_app h.2 h'⟩
theorem okXLL_get : ∀ {l : List (List V)} {i : Nat}, okXLL l -> i < l.length -> okXL (l.getD i [])
 | [], i, _, hi => by cases hi
 | r :: l, 0, h, _ => h.1
 | r :: l, i + 1, h, hi => by
  have := okXLL_get (i := i) h.2 (by simpa using hi)
  simpa [List.getD_eq_getElem?_getD] using this
section
variable [Ext]
theorem RXL_app : ∀ {l m : List V} {a b : List Value}, RXL l a -> RXL m b -> RXL (l ++ m) (a ++ b)
 | [], _, _, _, h, h' => by rw [show _ = [] from h]; exact h'
 | v :: l, m, _, _, h, h' => by
  obtain ⟨u, us, h1, h2, rfl⟩ := h
  exact ⟨u, us ++ _, h1, RXL_app h2 h', rfl⟩
theorem RXLL_snoc : ∀ {l : List (List V)} {r : List V} {a b : List Value}, RXLL l a -> RXL r b -> RXLL (l ++ [r]) (a ++ b)
 | [], r, _, b, h, h' => by
  rw [show _ = [] from h]
  exact ⟨b, [], h', rfl, by simp⟩
 | q :: l, r, _, b, h, h' => by
  obtain ⟨x, y, h1, h2, rfl⟩ := h
  exact ⟨x, y ++ b, h1, RXLL_snoc h2 h', by rw [List.append_assoc]⟩
theorem okXLL_snoc : ∀ {l : List (List V)} {r : List V}, okXLL l -> okXL r -> okXLL (l ++ [r])
 | [], r, _, h => ⟨h, trivial⟩
 | q :: l, r, h, h' => ⟨h.1, okXLL_snoc h.2 h'⟩
theorem shR_app : ∀ {s t : List Sh} {l m : List V}, shR s l -> shR t m -> shR (s ++ t) (l ++ m)
 | [], _, _, _, h, h' => by rw [show _ = [] from h]; exact h'
 | q :: s, t, _, m, h, h' => by
  obtain ⟨v, r, rfl, h1, h2⟩ := h
  exact ⟨v, r ++ m, rfl, h1, shR_app h2 h'⟩
end
theorem wf_int {k : IntKind} {n : Int} (h : (Lit.int k n).wf = true) : k.min <= n /\ n <= k.max := by
 unfold Lit.wf at h
 simpa using h
section
variable {H : Type} {enc : TypeId × Value -> H} {P : Program} {w : World} {base : Nat} {spare : Nat -> Bool} {held : Bool} {u8 : Bool}
theorem notB_cell [Ext] : ∀ {sh : List Sh} {r : List V} {us : List Value}, notB sh = true -> shR sh r -> RXL r us -> ∃ (i : Nat) (v : Value), i < us.length /\ us[i]? = some v /\ ∀ n, v ≠ .int .u8 n
 | [], _, _, h, _, _ => by cases h
 | s :: sh, r, us, h, hs, hr => by
  obtain ⟨v, r', rfl, h1, h2⟩ := hs
  obtain ⟨u, us', h3, h4, rfl⟩ := hr
  have onw : notB sh = true -> ∃ (i : Nat) (w : Value), i < (u :: us').length /\ (u :: us')[i]? = some w /\ ∀ n, w ≠ .int .u8 n := λ h => by
   obtain ⟨i, w, g1, g2, g3⟩ := notB_cell h h2 h4
   exact ⟨i + 1, w, by simpa using g1, by simpa using g2, g3⟩
  have here : (∀ n, u ≠ .int .u8 n) -> ∃ (i : Nat) (w : Value), i < (u :: us').length /\ (u :: us')[i]? = some w /\ ∀ n, w ≠ .int .u8 n := λ h => ⟨0, u, by simp, rfl, h⟩
  cases s with
  | int k =>
   obtain ⟨n, hv⟩ := h1
   have hu : u = .int k n := by rcases hv with rfl | rfl <;> exact h3
   cases k <;> first | exact onw h | exact here (λ n e => by rw [hu] at e; cases e)
  | str =>
   obtain ⟨l, hv⟩ := h1
   have hu : u = .string (bs l) := by rcases hv with rfl | rfl <;> exact h3
   exact here (λ n e => by rw [hu] at e; cases e)
  | bool =>
   obtain ⟨l, hv⟩ := h1
   have hu : u = .bool l := by rcases hv with rfl | rfl <;> exact h3
   exact here (λ n e => by rw [hu] at e; cases e)
  | any => exact onw h
  | xs q =>
   obtain ⟨l, rfl⟩ := h1
   obtain ⟨A, c, us2, rfl, _⟩ := h3
   exact here (λ n e => by cases e)
def InExt [Ext] (w : World) (u8 : Bool) : Prop := ∀ b cs ty fr, w.heap[b]? = some (.cells cs ty fr) -> (u8 = true \/ ∃ (i : Nat) (v : Value), cs[i]? = some v /\ ∀ n, v ≠ .int .u8 n) -> Ext.x b = some (.cells cs ty fr)
theorem cells_at {a : Addr} {us : List Value} (hpos : 0 < us.length) (h : ∀ j, j < us.length -> w.cell? (a.add j) = us[j]?) :
  ∃ b off cs ty fr, a = ⟨b, off, none⟩ /\ w.heap[b]? = some (.cells cs ty fr) /\ (cs.toList.drop off).take us.length = us := by
 obtain ⟨b, off, sp⟩ := a
 have h0 := h 0 hpos
 have h0 : w.cell? ⟨b, off, sp⟩ = us[0]? := h0
 rw [List.getElem?_eq_getElem hpos] at h0
 unfold World.cell? at h0
 dsimp only at h0
 split at h0
 ·rename_i c ty fr hb
  cases sp with
  | some s => simp at h0
  | none =>
   refine ⟨b, off, c, ty, fr, rfl, hb, List.ext_getElem? λ i => ?_⟩
   rcases Nat.lt_or_ge i us.length with hi | hi
   ·have := h i hi
    have e : (Addr.add ⟨b, off, none⟩ i) = ⟨b, off + i, none⟩ := by
     unfold Addr.add
     split
     ·rename_i h; rw [h]; rfl
     ·rfl
    rw [e] at this
    unfold World.cell? at this
    dsimp only at this
    rw [hb] at this
    have this : c[off + i]? = us[i]? := by simpa using this
    rw [List.getElem?_take_of_lt hi, List.getElem?_drop, Array.getElem?_toList, this]
   ·rw [List.getElem?_eq_none (by rw [List.length_take]; omega), List.getElem?_eq_none hi]
 ·cases h0
theorem trod_fs [Ext] {r : TypeId -> Option (List Sh)} (ih : ∀ {n : Nat} {t : TypeId} {cs : List Value} {x : DataW H × List MemPlace} {sh : List Sh}, DataW.trod enc P w base spare held n t cs = some x -> r t = some sh -> ∃ vs, RXL vs cs /\ shR sh vs /\ okXL vs) {n : Nat} {cs : List Value} {xs : List (DataW H × List MemPlace)} :
  ∀ {fs : List Field} {k off : Nat} {sh : List Sh}, shFs P r fs off = some sh -> (∀ (i : Nat) (f : Field), fs[i]? = some f -> DataW.trod enc P w base spare held n f.type ((cs.drop f.offset).take (P.cellsOf f.type)) = xs[k + i]?) -> k + fs.length <= xs.length ->
   ∃ vs, RXL vs ((cs.drop off).take sh.length) /\ shR sh vs /\ okXL vs /\ vs.length = sh.length
 | [], k, off, sh, h, _, _ => by cases h; exact ⟨[], by simp [RXL], rfl, trivial, rfl⟩
 | f :: fs, k, off, sh, h, hf, hk => by
  simp only [shFs] at h
  split at h
  ·rename_i a ha
   split at h
   ·rename_i hd
    obtain ⟨h1, h2⟩ := of_decide_eq_true hd
    split at h
    ·rename_i b hb
     cases h
     have g0 := hf 0 f rfl
     simp only [List.length_cons] at hk
     rw [Nat.add_zero, List.getElem?_eq_getElem (by omega)] at g0
     obtain ⟨vs, v1, v2, v3⟩ := ih g0 ha
     obtain ⟨us, u1, u2, u3, u4⟩ := trod_fs ih (k := k + 1) hb (λ i f' hf' => by
      have := hf (i + 1) f' (by simpa using hf')
      rw [this]; congr 1; omega) (by omega)
     have hvl : vs.length = a.length := zxE v2
     refine ⟨vs ++ us, ?_, shR_app v2 u2, okXL_app v3 u3, by simp [hvl, u4]⟩
     rw [h1, <- h2] at v1
     have e : (cs.drop off).take (a ++ b).length = (cs.drop off).take a.length ++ (cs.drop (off + a.length)).take b.length := by
      rw [List.length_append, List.take_add, List.drop_drop]
     rw [e]
     exact RXL_app v1 u1
    ·cases h
   ·cases h
  ·cases h
theorem trod_sh [Ext] (hx : InExt w u8) : ∀ {m n : Nat} {t : TypeId} {cs : List Value} {x : DataW H × List MemPlace} {sh : List Sh}, DataW.trod enc P w base spare held n t cs = some x -> shT P u8 m t = some sh -> ∃ vs, RXL vs cs /\ shR sh vs /\ okXL vs
 | 0, _, _, _, _, _, _, h => by cases h
 | m + 1, n, t, cs, x, sh, ht, h => by
  simp only [shT] at h
  split at h
  ·rename_i hu
   cases h
   obtain ⟨b, rfl, _⟩ := DataW.trod_bool hu ht
   exact ⟨[.sbool b], ⟨_, [], rfl, rfl, rfl⟩, ⟨_, [], rfl, ⟨b, .inl rfl⟩, rfl⟩, trivial, trivial⟩
  ·rename_i k hu
   cases h
   obtain ⟨i, rfl, _, hw⟩ := DataW.trod_int hu ht
   exact ⟨[.sint k i], ⟨_, [], rfl, rfl, rfl⟩, ⟨_, [], rfl, ⟨i, .inl rfl⟩, rfl⟩, wf_int hw, trivial⟩
  ·rename_i hu
   cases h
   obtain ⟨s, rfl, _, hw⟩ := DataW.trod_string hu ht
   refine ⟨[.sstr s.data.toList], ⟨_, [], congrArg Value.string (bs_data _).symm, rfl, rfl⟩, ⟨_, [], rfl, ⟨_, .inl rfl⟩, rfl⟩, ?_, trivial⟩
   show s.data.toList.length <= maxLen
   simpa using hw
  ·rename_i e hu
   split at h
   ·rename_i sh' hs
    split at h
    ·rename_i hd hb
     cases h
     obtain ⟨h1, h2⟩ := of_decide_eq_true hd
     rcases open_slice hu ht with ⟨rfl, _⟩ | ⟨a, len, cap, mm, n', D, Pl, rfl, _, hle, hmx, hmm, _, hel⟩
     ·exact ⟨[.xs [] sh'], ⟨_, [], ⟨none, 0, [], rfl, Nat.le_refl 0, rfl, λ r h => (by cases h), .inl rfl⟩, rfl, rfl⟩, ⟨_, [], rfl, ⟨[], rfl⟩, rfl⟩, ⟨Nat.zero_le _, trivial⟩, trivial⟩
     ·have hlm : len <= mm := by rw [hmm]; split <;> omega
      have key : ∀ k, k <= len -> ∃ (l : List (List V)) (us : List Value), l.length = k /\ us.length = k * sh'.length /\ RXLL l us /\ (∀ r ∈ l, shR sh' r) /\ okXLL l /\ ∀ j, j < us.length -> w.cell? (a.add j) = us[j]? := by
       intro k
       induction k with
       | zero => exact λ _ => ⟨[], [], rfl, by simp, rfl, λ r h => (by cases h), trivial, λ j hj => by simp at hj⟩
       | succ k ihk =>
        intro hk
        obtain ⟨l, us, l1, l2, l3, l4, l5, l6⟩ := ihk (by omega)
        obtain ⟨cs', c1, c2⟩ := hel k (by omega)
        obtain ⟨_, c3, c4⟩ := World.cells?_some c1
        obtain ⟨r, r1, r2, r3⟩ := trod_sh hx c2 hs
        have hrl : r.length = sh'.length := zxE r2
        have hcl : cs'.length = sh'.length := by rw [c3, h1]
        refine ⟨l ++ [r], us ++ cs', by simp [l1], by rw [List.length_append, l2, hcl, Nat.add_mul, Nat.one_mul], RXLL_snoc l3 r1, λ q hq => ?_, okXLL_snoc l5 r3, λ j hj => ?_⟩
        ·rcases List.mem_append.1 hq with hq | hq
         ·exact l4 q hq
         ·rw [List.mem_singleton.1 hq]; exact r2
        ·rw [List.length_append] at hj
         rcases Nat.lt_or_ge j us.length with hj' | hj'
         ·rw [List.getElem?_append_left hj']; exact l6 j hj'
         ·rw [List.getElem?_append_right hj', <- c4 (j - us.length) (by omega), add_add, <- h1, <- l2]
          congr 2; omega
      obtain ⟨l, us, l1, l2, l3, l4, l5, l6⟩ := key len (Nat.le_refl _)
      refine ⟨[.xs l sh'], ⟨_, [], ⟨some a, cap, us, by rw [l1], by rw [l1]; exact hle, l3, l4, ?_⟩, rfl, rfl⟩, ⟨_, [], rfl, ⟨l, rfl⟩, rfl⟩, ⟨by rw [l1]; omega, l5⟩, trivial⟩
      rcases Nat.eq_zero_or_pos us.length with h0 | h0
      ·exact .inl (List.eq_nil_of_length_eq_zero h0)
      ·obtain ⟨b, off, c, ty, fr, rfl, g1, g2⟩ := cells_at h0 l6
       refine .inr ⟨b, off, c, ty, fr, rfl, hx b c ty fr g1 ?_, g2⟩
       rcases (show u8 = true \/ notB sh' = true by simpa using hb) with hb | hb
       ·exact .inl hb
       ·refine .inr ?_
        cases l with
        | nil => rw [show us = [] from l3] at h0; cases h0
        | cons r l =>
         obtain ⟨x1, x2, y1, y2, rfl⟩ := l3
         obtain ⟨i, v, i1, i2, i3⟩ := notB_cell hb (l4 r List.mem_cons_self) y1
         refine ⟨off + i, v, ?_, i3⟩
         have e1 : ((c.toList.drop off).take (x1 ++ x2).length)[i]? = some v := by
          rw [g2, List.getElem?_append_left i1]; exact i2
         rw [List.getElem?_take_of_lt (by rw [List.length_append]; omega), List.getElem?_drop, Array.getElem?_toList] at e1
         exact e1
    ·cases h
   ·cases h
  ·rename_i fs hu
   split at h
   ·rename_i sh' hs
    split at h
    ·rename_i hd
     cases h
     have hd := of_decide_eq_true hd
     obtain ⟨xs, n', _, _, hcl, hxl, hf⟩ := DataW.trod_struct hu ht
     obtain ⟨vs, v1, v2, v3, v4⟩ := trod_fs (λ h1 h2 => trod_sh hx h1 h2) (k := 0) hs (λ i f hi => by
      rw [Nat.zero_add]
      exact hf i f (by simpa using hi)) (by simp [hxl])
     rw [List.drop_zero, List.take_of_length_le (by omega)] at v1
     exact ⟨vs, v1, v2, v3⟩
    ·cases h
   ·cases h
  ·cases h
theorem arg_slice [Ext] (hx : InExt w u8) {r : Reach} {b0 : Nat} {t e : TypeId} {v : Value} {d : DataW H} {ps : List MemPlace} {m : Nat} {sh : List Sh} (hu : P.underlying t = some (.slice e)) (hv : Value.okWide P w r b0 t v) (h : DataW.Trod enc P w base spare held t v d ps) (hs : shT P u8 m t = some [.xs sh]) :
  ∃ l, RX (.xs l sh) v /\ (∀ r ∈ l, shR sh r) /\ okX (.xs l sh) := by
 obtain ⟨A, len, cap, rfl⟩ := okWide_slice hu hv
 obtain ⟨n, h⟩ := h
 obtain ⟨vs, h1, h2, h3⟩ := trod_sh hx h hs
 obtain ⟨q, r', rfl, ⟨l, rfl⟩, h4⟩ := h2
 have h4 : r' = [] := h4
 subst h4
 obtain ⟨u, us, g1, g2, g3⟩ := h1
 have g2 : us = [] := g2
 subst g2
 simp [Value.cells] at g3
 subst g3
 refine ⟨l, g1, ?_, h3.1⟩
 obtain ⟨_, _, _, _, _, _, g, _⟩ := g1
 exact g
theorem arg_struct [Ext] (hx : InExt w u8) {r : Reach} {b0 : Nat} {t : TypeId} {fs : Array Field} {v : Value} {d : DataW H} {ps : List MemPlace} {m : Nat} {sh : List Sh} (hu : P.underlying t = some (.struct fs)) (hv : Value.okWide P w r b0 t v) (h : DataW.Trod enc P w base spare held t v d ps) (hs : shT P u8 m t = some sh) :
  ∃ l, (∀ ρ, R ρ (.agg l) v) /\ shR sh l /\ okXL l := by
 obtain ⟨cs, rfl, _⟩ := okWide_struct hu hv
 obtain ⟨n, h⟩ := h
 obtain ⟨vs, h1, h2, h3⟩ := trod_sh hx h hs
 refine ⟨vs, λ ρ => ⟨cs.toList, RXL_RL h1, by simp⟩, h2, h3⟩
end
abbrev extW (W : World) : Ext := ⟨λ i => W.heap[i]?⟩
theorem inExt_W (W : World) (u8 : Bool) : @InExt (extW W) W u8 := λ b cs ty fr h _ => h
open Go.RowKit in
theorem calls_X {P : Program} {f : Nat} {us : List Value} (W : World) (h : Z.Fn P f us [@extSP (extW W)] λ e H' => e = .returned (.bool true) /\ ∀ x, sep H' x -> sep [@extSP (extW W)] x) : Calls P f us.toArray W λ e w' => e = .returned (.bool true) /\ Below W.heap.size W w' := by
 letI : Ext := extW W
 have hh : Hold W [extSP] (λ x => x = Hp.nil) W :=
  ⟨rfl, rfl, rfl, Hp.nil, _, λ _ => .inl rfl, (Hp.nil_un _).symm, rfl, ⟨Z.hp W, Hp.nil, Hp.disj_nil _, (Hp.un_nil _).symm, λ b o e => e, trivial⟩⟩
 refine (callsIn_wide (n := 0)).1 (((callsIn_wide (n := 0)).2 (h W _ W hh)).mono λ e w' ⟨H', ⟨p, hH⟩, hh'⟩ => ⟨p, ?_⟩)
 have hh2 : Hold W [extSP] (λ x => x = Hp.nil) w' := hh'.weaken hH
 have hx := ext_at hh2 λ x hx => hx
 have hb : ∀ k, k < W.heap.size -> w'.heap[k]? = W.heap[k]? := by
  intro k hk
  have e : W.heap[k]? = some W.heap[k] := Array.getElem?_eq_getElem hk
  rw [e]
  exact hx k _ e
 refine ⟨hh2.os, hh2.tape, hh2.output, ?_, hb⟩
 rcases Nat.eq_zero_or_pos W.heap.size with h0 | h0
 ·omega
 ·have := hb (W.heap.size - 1) (by omega)
  rw [Array.getElem?_eq_getElem (by omega : W.heap.size - 1 < W.heap.size)] at this
  have := (Array.getElem?_eq_some_iff.1 this).1
  omega
end
end Go.Q
