/- Loops over open terms: a round looked at through the temporaries and pieces that matter. -/
import Derived.Test.YtiilaimcmkdfjaaGreatDoorM8
import Derived.Test.YtiilaimcmkdfjaaGreatDoorM6
import Derived.Below
import Derived.ChangeArms
import Derived.DataReads
import Derived.Deep.Slices
import Derived.WideShapes
set_option linter.unusedVariables false
set_option linter.unusedSimpArgs false
set_option linter.unusedSectionVars false
namespace Go.Q
open Go.Z Go.Y
noncomputable section
def pk {α : Type} : List Nat -> Tr α -> List (Option α)
 | [], _ => []
 | t :: ts, env => env.get t :: pk ts env
def fitV : List (Option V) -> List V -> Prop
 | [], [] => True
 | some v :: l, w :: m => vle v w /\ fitV l m
 | _, _ => False
def smalls : List Nat -> Bool
 | [] => true
 | t :: l => match small t with | true => smalls l | false => false
def below (n : Nat) : List Nat -> Bool
 | [] => true
 | t :: l => match small t, Nat.blt t n with | true, true => below n l | _, _ => false
def loops : Code -> List Code
 | .seq a b => loops a ++ loops b
 | .cond _ a b => loops a ++ loops b
 | .block _ c => loops c
 | .scope c => loops c
 | .loop c => c :: loops c
 | _ => []
def lp (P : Program) (f i : Nat) : Code := match P.funcs[f]? with
 | some fn => match fn.body with
  | some c => (loops c).getD i .skip
  | none => .skip
 | none => .skip
theorem ls_one {P : Program} {G : GQ} {i : Nat} {c0 : Code} {s : FI -> List DV -> Tr V -> Mem -> KK -> Prop} (hl : G.ls = [(i, c0, s)]) (h : ∀ fi ds env hp k, s fi ds env hp k -> TaskOk P G (.code fi (.loop c0) ds env hp k)) : LsOk P G := by
 intro j c s' hj
 rw [hl] at hj
 simp only [lookL] at hj
 split at hj
 ·cases hj; exact h
 ·cases hj
theorem zqN {P : Program} {G : GQ} (hl : G.ls = []) : LsOk P G := by
 intro j c s' hj
 rw [hl] at hj
 cases hj
theorem zxl {P : Program} {G : GQ} (hl : G.fs = []) : FsOk P G := by
 intro j s' hj
 rw [hl] at hj
 cases hj
end
end Go.Q
namespace Go.Q
open Go.Z Go.Y
noncomputable section
theorem Go_frame {P : Program} {ro : Option Nat} {n : Nat} {c : Code} {ds : List Deferred} {L : Lo} {H B : List SP} {K : Kont} (h : Z.Go P ro n c ds L H K) : Z.Go P ro n c ds L (H ++ B) (λ e ds' L' H' => ∃ H1, K e ds' L' H1 /\ H' = H1 ++ B) := by
 intro Γ F a w Q he hh hq
 refine h Γ _ a w Q he (hh.inn (Hc := H) (Hr := B) λ x hx => hx) ?_
 intro e ds' L' H1 a' w' k he' hh'
 exact hq e ds' L' (H1 ++ B) a' w' ⟨H1, k, rfl⟩ he' hh'.out
theorem Go_close {P : Program} {ro : Option Nat} {n : Nat} {c : Code} {ds : List Deferred} {L : Lo} {H : List SP} {K : Kont} (h : Z.Go P ro n c ds L H (λ e ds' L' H' => ∃ H'', K e ds' L' H'' /\ ∀ x, sep H' x -> sep H'' x)) : Z.Go P ro n c ds L H K := by
 intro Γ F a w Q he hh hq
 refine h Γ F a w Q he hh ?_
 intro e ds' L' H' a' w' ⟨H'', k, s⟩ he' hh'
 exact hq e ds' L' H'' a' w' k he' (hh'.weaken s)
theorem Go_up {P : Program} {ro : Option Nat} {n : Nat} {c : Code} {ds : List Deferred} {L : Lo} {H : List SP} {K K' : Kont} (h : Z.Go P ro n c ds L H K) (up : ∀ e ds' L' H', K e ds' L' H' -> K' e ds' L' H') : Z.Go P ro n c ds L H K' := by
 intro Γ F a w Q he hh hq
 refine h Γ F a w Q he hh ?_
 intro e ds' L' H' a' w' k he' hh'
 exact hq e ds' L' H' a' w' (up _ _ _ _ k) he' hh'
mutual
def renV (f : Nat -> Nat) : V -> V
 | .ptr id off => .ptr (f id) off
 | .sl id i off len cap => .sl (f id) i off len cap
 | .map id => .map (f id)
 | .yld id => .yld (f id)
 | .ssl id i len sz => .ssl (f id) i len sz
 | .sptr id i g sz => .sptr (f id) i g sz
 | .ptrh id off => .ptrh (f id) off
 | .slh id i off len => .slh (f id) i off len
 | .fn g a b => .fn g (renVs f a) (renVs f b)
 | .ifc t v => .ifc t (renV f v)
 | .agg l => .agg (renVs f l)
 | .tup l => .tup (renVs f l)
 | v => v
def renVs (f : Nat -> Nat) : List V -> List V
 | [] => []
 | v :: l => renV f v :: renVs f l
end
mutual
def vok (ok : Nat -> Bool) : V -> Bool
 | .ptr id _ => ok id
 | .sl id _ _ _ _ => ok id
 | .map id => ok id
 | .yld id => ok id
 | .ssl id _ _ _ => ok id
 | .sptr id _ _ _ => ok id
 | .ptrh id _ => ok id
 | .slh id _ _ _ => ok id
 | .fn _ a b => match voks ok a with | true => voks ok b | false => false
 | .ifc _ v => vok ok v
 | .agg l => voks ok l
 | .tup l => voks ok l
 | _ => true
def voks (ok : Nat -> Bool) : List V -> Bool
 | [] => true
 | v :: l => match vok ok v with | true => voks ok l | false => false
end
mutual
theorem ren_ok {ρ1 ρ2 : Rho} {f : Nat -> Nat} {ok : Nat -> Bool} (hf : ∀ id, ok id = true -> ρ2 id = ρ1 (f id)) (hx : Hp.le ρ1.x ρ2.x) : ∀ {v : V} {u : Value}, vok ok v = true -> R ρ1 (renV f v) u -> R ρ2 v u
 | .bool _, _, _, h | .int _ _, _, _, h | .str _, _, _, h | .und, _, _, h | .sle, _, _, h | .nilp, _, _, h | .nils, _, _, h | .nilm, _, _, h | .nilf, _, _, h | .nili, _, _, h | .anyI _, _, _, h | .anyB, _, _, h | .anyS, _, _, h | .sint _ _, _, _, h | .sbool _, _, _, h | .sstr _, _, _, h => h
 | .xs _ _, _, _, h => RX.mono hx h
 | .xp l i f sh, u, _, h => by obtain ⟨b, off, us, h1, h2, h3, h4⟩ := h; exact ⟨b, off, us, h1, RXLL.mono hx h2, h3, h4.mono hx⟩
 | .ptr id off, u, hn, h => by obtain ⟨b, c, e, h⟩ := h; exact ⟨b, c, by rw [hf id hn]; exact e, h⟩
 | .sl id .., u, hn, h => by obtain ⟨b, c, e, h⟩ := h; exact ⟨b, c, by rw [hf id hn]; exact e, h⟩
 | .map id, u, hn, h => by obtain ⟨b, c, e, h⟩ := h; exact ⟨b, c, by rw [hf id hn]; exact e, h⟩
 | .sptr id i g sz, u, hn, h => by obtain ⟨b, c, e, h⟩ := h; exact ⟨b, c, by rw [hf id hn]; exact e, h⟩
 | .ssl id i len sz, u, hn, h => by
  rcases h with h | ⟨b, c, e, h⟩
  ·exact .inl h
  ·exact .inr ⟨b, c, by rw [hf id hn]; exact e, h⟩
 | .yld id, u, hn, h => by obtain ⟨b, c, e, h⟩ := h; exact ⟨b, c, by rw [hf id hn]; exact e, h⟩
 | .ptrh id off, u, hn, h => by obtain ⟨b, c, base, e, h⟩ := h; exact ⟨b, c, base, by rw [hf id hn]; exact e, h⟩
 | .slh id i off len, u, hn, h => by obtain ⟨b, c, base, e, h⟩ := h; exact ⟨b, c, base, by rw [hf id hn]; exact e, h⟩
 | .fn g a b, u, hn, h => by
  simp only [vok] at hn
  split at hn
  ·rename_i hn1
   obtain ⟨a', b', h1, h2, h⟩ := h
   exact ⟨a', b', zjH hf hx hn1 h1, zjH hf hx hn h2, h⟩
  ·cases hn
 | .ifc t v, u, hn, h => by obtain ⟨u', h1, h⟩ := h; exact ⟨u', ren_ok hf hx hn h1, h⟩
 | .agg l, u, hn, h => by obtain ⟨l', h1, h⟩ := h; exact ⟨l', zjH hf hx hn h1, h⟩
 | .tup l, u, hn, h => by obtain ⟨l', h1, h⟩ := h; exact ⟨l', zjH hf hx hn h1, h⟩
theorem zjH {ρ1 ρ2 : Rho} {f : Nat -> Nat} {ok : Nat -> Bool} (hf : ∀ id, ok id = true -> ρ2 id = ρ1 (f id)) (hx : Hp.le ρ1.x ρ2.x) : ∀ {l : List V} {us : List Value}, voks ok l = true -> RL ρ1 (renVs f l) us -> RL ρ2 l us
 | [], _, _, h => h
 | v :: l, us, hn, h => by
  obtain ⟨u, us', h1, h2, rfl⟩ := h
  simp only [voks] at hn
  split at hn
  ·rename_i hn1
   exact .cons (ren_ok hf hx hn1 h1) (zjH hf hx hn h2)
  ·cases hn
end
def renC (f : Nat -> Nat) : Chunk -> Chunk
 | .cells l ty sz => .cells (renVs f l) ty sz
 | .cellsH l ty sz => .cellsH (renVs f l) ty sz
 | c => c
def cok (ok : Nat -> Bool) : Chunk -> Bool
 | .cells l _ _ => voks ok l
 | .cellsH l _ _ => voks ok l
 | .byt _ _ => true
 | .rows _ sh _ => noAny sh
 | .rowsO _ sh _ => noAny sh
 | _ => false
theorem noAny_R {ρ ρ' : Rho} (hx : Hp.le ρ.x ρ'.x) : ∀ {sh : List Sh} {r : List V} {us : List Value}, noAny sh = true -> shR sh r -> RL ρ r us -> RL ρ' r us
 | [], r, us, _, hs, h => by rw [show r = [] from hs] at h ⊢; exact h
 | s :: sh, r, us, hn, hs, h => by
  obtain ⟨v, r', rfl, hs1, hs2⟩ := hs
  obtain ⟨u, us', h1, h2, rfl⟩ := h
  have hn' : noAny sh = true := by cases s <;> first | exact hn | cases hn
  refine .cons ?_ (noAny_R hx hn' hs2 h2)
  cases s with
  | int k => obtain ⟨i, rfl | rfl⟩ := hs1 <;> exact h1
  | str => obtain ⟨i, rfl | rfl⟩ := hs1 <;> exact h1
  | bool => obtain ⟨i, rfl | rfl⟩ := hs1 <;> exact h1
  | any => cases hn
  | xs q => obtain ⟨l, rfl⟩ := hs1; exact RX.mono hx h1
  | kids => obtain ⟨l, rfl⟩ := hs1; exact RX.mono hx h1
theorem flat_R {ρ ρ' : Rho} (hx : Hp.le ρ.x ρ'.x) {sh : List Sh} (hn : noAny sh = true) : ∀ {l : List (List V)} {us : List Value}, (∀ r ∈ l, shR sh r) -> RL ρ l.flatten us -> RL ρ' l.flatten us
 | [], us, _, h => h
 | r :: l, us, hs, h => by
  rw [List.flatten_cons] at h ⊢
  have h1 := h.take r.length
  have h2 := h.drop r.length
  rw [List.take_left'] at h1
  rw [List.drop_left'] at h2
  have := (noAny_R hx hn (hs r List.mem_cons_self) h1).append (flat_R hx hn (λ x hx => hs x (List.mem_cons_of_mem _ hx)) h2)
  rwa [List.take_append_drop] at this
  all_goals rfl
theorem cren_ok {ρ1 ρ2 : Rho} {f : Nat -> Nat} {ok : Nat -> Bool} (hf : ∀ id, ok id = true -> ρ2 id = ρ1 (f id)) (hx : Hp.le ρ1.x ρ2.x) {id b : Nat} {o : Obj} {c : Chunk} (hid : ok id = true) (hc : cok ok c = true) (h : CRel ρ1 (f id) (renC f c) b o) : CRel ρ2 id c b o := by
 cases c with
 | cells l ty sz =>
  obtain ⟨c, rl, junk, fr, h1, h2, h3⟩ := h
  exact ⟨c, rl, junk, fr, by rw [hf id hid]; exact h1, zjH hf hx hc h2, h3⟩
 | cellsH l ty sz =>
  obtain ⟨c, base, pre, rl, junk, fr, h1, h2, h3⟩ := h
  exact ⟨c, base, pre, rl, junk, fr, by rw [hf id hid]; exact h1, zjH hf hx hc h2, h3⟩
 | byt l ty =>
  obtain ⟨c, junk, fr, h1, h3⟩ := h
  exact ⟨c, junk, fr, by rw [hf id hid]; exact h1, h3⟩
 | rows l sh ty =>
  obtain ⟨c, rl, junk, fr, h1, h2, h3, h4⟩ := h
  exact ⟨c, rl, junk, fr, by rw [hf id hid]; exact h1, flat_R hx hc h3 h2, h3, h4⟩
 | rowsO l sh ty =>
  obtain ⟨⟨c0, h0⟩, h⟩ := h
  refine ⟨⟨c0, by rw [hf id hid]; exact h0⟩, ?_⟩
  rcases h with h | ⟨c, rl, junk, fr, h1, h2, h3, h4⟩
  ·exact .inl h
  ·exact .inr ⟨c, rl, junk, fr, by rw [hf id hid]; exact h1, flat_R hx hc h3 h2, h3, h4⟩
 | _ => cases hc
theorem spl_ren {g : Nat -> Nat} {m : Nat} : ∀ {n1 : Nat} {W1 W2 : RW}, Hp.le W2.x W1.x -> (∀ id, id < n1 -> W2 id = none \/ (g id < m /\ W2 id = W1 (g id))) -> (∀ id id', id < n1 -> id' < n1 -> W2 id ≠ none -> W2 id' ≠ none -> g id = g id' -> id = id') -> ∀ x, sep (spl m W1) x -> sep (spl n1 W2) x
 | 0, W1, W2, hX, _, _, x, hx => zkw hX (zkt x hx)
 | k + 1, W1, W2, hX, h1, h2, x, hx => by
  show sep (optSP (W2 k) :: spl k W2) x
  cases hw : W2 k with
  | none => exact zjt (spl_ren hX (λ id hid => h1 id (by omega)) (λ id id' a b => h2 id id' (by omega) (by omega)) x hx)
  | some q =>
   obtain ⟨b, o⟩ := q
   rcases h1 k (by omega) with h | ⟨h3, h4⟩
   ·rw [hw] at h; cases h
   ·rw [hw] at h4
    refine zqd (λ _ y => y) (λ y hy => ?_) (zqf h3 h4.symm x hx)
    refine spl_ren (W1 := upd W1 (g k) none) hX (λ id hid => ?_) (λ id id' a b => h2 id id' (by omega) (by omega)) y hy
    rcases h1 id (by omega) with h | ⟨h5, h6⟩
    ·exact .inl h
    ·by_cases hn : W2 id = none
     ·exact .inl hn
     ·refine .inr ⟨h5, ?_⟩
      rw [zqo, h6]
      intro e
      have := h2 id k (by omega) (by omega) hn (by rw [hw]; simp) e
      omega
def lookA : List Nat -> List Nat -> Nat -> Option Nat
 | i :: ids, a :: acts, id => match Nat.beq i id with | true => some a | false => lookA ids acts id
 | _, _, _ => none
def renF (ids acts : List Nat) (id : Nat) : Nat := match lookA ids acts id with
 | some a => a
 | none => id
def okI (ids : List Nat) (n0 : Nat) (id : Nat) : Bool := match lookA ids ids id with
 | some _ => true
 | none => Nat.blt id n0
def ofMo : List (Nat × Option Chunk) -> Tr Chunk
 | [] => .nil
 | (t, some v) :: l => Tr.set 20 (ofMo l) t (some v)
 | (t, none) :: l => ofMo l
def lookC : List Nat -> List (Option Chunk) -> Nat -> Option Chunk
 | i :: ids, c :: cs, id => match Nat.beq i id with | true => c | false => lookC ids cs id
 | _, _, _ => none
def cutM (ts look : List Nat) (N : O -> List (Option V) -> Nat -> List (Option Chunk) -> Prop) : KK := λ o dv env hp => match dv, hp.ro with
 | [], [] => N o (pk ts env) hp.n (pk look hp.t)
 | _, _ => False
def fitR (f : Nat -> Nat) : List (Option V) -> List V -> Prop
 | [], [] => True
 | some v :: l, w :: m => vle v (renV f w) /\ fitR f l m
 | _, _ => False
def fitM (f : Nat -> Nat) (look : List Nat) (cs : List (Option Chunk)) : List Nat -> List Nat -> List (Option Chunk) -> Prop
 | i :: ids, a :: acts, some c :: l => (∃ c1, lookC look cs a = some c1 /\ chle c1 (renC f c)) /\ fitM f look cs ids acts l
 | _ :: ids, _ :: acts, none :: l => fitM f look cs ids acts l
 | [], [], [] => True
 | _, _, _ => False
def actsOk (n0 m : Nat) : List Nat -> List Nat -> Bool
 | i :: ids, a :: acts => match Nat.blt i n0 with
  | true => match Nat.beq i a with | true => actsOk n0 m ids acts | false => false
  | false => match Nat.ble n0 a, Nat.blt a m, acts.all (λ b => !(Nat.beq b a)) with | true, true, true => actsOk n0 m ids acts | _, _, _ => false
 | [], [] => true
 | _, _ => false
theorem lookC_pk {t : Tr Chunk} {id : Nat} {c : Chunk} : ∀ {look : List Nat}, lookC look (pk look t) id = some c -> t.get id = some c
 | [], h => by cases h
 | i :: look, h => by
  simp only [pk, lookC] at h
  split at h
  ·rename_i hb; rw [<- beq_tt hb]; exact h
  ·exact lookC_pk h
theorem zkz {ids acts : List Nat} (hl : ids.length = acts.length) {id : Nat} : (lookA ids acts id).isSome = (lookA ids ids id).isSome := by
 induction ids generalizing acts with
 | nil => cases acts <;> rfl
 | cons i ids ih =>
  cases acts with
  | nil => simp at hl
  | cons a acts =>
   simp only [lookA]
   split
   ·rfl
   ·exact ih (by simpa using hl)
theorem zkJ {n0 m : Nat} : ∀ {ids acts : List Nat}, actsOk n0 m ids acts = true -> ids.length = acts.length
 | [], [], _ => rfl
 | [], _ :: _, h => by cases h
 | _ :: _, [], h => by cases h
 | i :: ids, a :: acts, h => by
  simp only [actsOk] at h
  split at h
  ·split at h
   ·simp [zkJ h]
   ·cases h
  ·split at h
   ·simp [zkJ h]
   ·cases h
theorem zqE {n0 m : Nat} : ∀ {ids acts : List Nat} {id a : Nat}, actsOk n0 m ids acts = true -> lookA ids acts id = some a -> (id < n0 /\ a = id) \/ (n0 <= id /\ n0 <= a /\ a < m /\ a ∈ acts)
 | [], _, _, _, _, h => by cases h
 | _ :: _, [], _, _, h, _ => by cases h
 | i :: ids, b :: acts, id, a, h, hl => by
  simp only [actsOk] at h
  simp only [lookA] at hl
  split at h
  ·rename_i hi
   split at h
   ·rename_i hb
    split at hl
    ·rename_i he
     cases hl
     have e1 := beq_tt he
     have e2 := beq_tt hb
     subst e1 e2
     exact .inl ⟨blt_tt hi, rfl⟩
    ·rcases zqE h hl with h1 | ⟨h1, h2, h3, h4⟩
     ·exact .inl h1
     ·exact .inr ⟨h1, h2, h3, List.mem_cons_of_mem _ h4⟩
   ·cases h
  ·rename_i hi
   split at h
   ·rename_i h1 h2 h3
    split at hl
    ·rename_i he
     cases hl
     have e1 := beq_tt he
     subst e1
     have : ¬ i < n0 := λ hh => by
      have : Nat.blt i n0 = true := by simpa [Nat.blt_eq] using hh
      rw [this] at hi; cases hi
     exact .inr ⟨by omega, Nat.le_of_ble_eq_true h1, blt_tt h2, List.mem_cons_self⟩
    ·rcases zqE h hl with h1 | ⟨h1, h2, h3, h4⟩
     ·exact .inl h1
     ·exact .inr ⟨h1, h2, h3, List.mem_cons_of_mem _ h4⟩
   ·cases h
theorem zkK {n0 m : Nat} : ∀ {ids acts : List Nat} {id id' a : Nat}, actsOk n0 m ids acts = true -> lookA ids acts id = some a -> lookA ids acts id' = some a -> id = id'
 | [], _, _, _, _, _, h, _ => by cases h
 | _ :: _, [], _, _, _, h, _, _ => by cases h
 | i :: ids, b :: acts, id, id', a, h, hl, hl' => by
  have h0 := h
  simp only [actsOk] at h
  simp only [lookA] at hl hl'
  have other : ∀ {x : Nat}, actsOk n0 m ids acts = true -> lookA ids acts x = some b -> i = x \/ b < n0 \/ b ∈ acts := by
   intro x hx hlx
   rcases zqE hx hlx with ⟨h1, h2⟩ | ⟨_, _, _, h4⟩
   ·exact .inr (.inl (by omega))
   ·exact .inr (.inr h4)
  split at h
  ·rename_i hi
   split at h
   ·rename_i hb
    have hb := beq_tt hb
    subst hb
    have hin := blt_tt hi
    split at hl
    ·rename_i he
     have he := beq_tt he
     subst he
     cases hl
     split at hl'
     ·rename_i he'; exact beq_tt he'
     ·rcases zqE h hl' with ⟨_, h2⟩ | ⟨_, h2, _⟩
      ·exact h2
      ·omega
    ·split at hl'
     ·rename_i he'
      have he' := beq_tt he'
      subst he'
      cases hl'
      rcases zqE h hl with ⟨_, h2⟩ | ⟨_, h2, _⟩
      ·exact h2.symm
      ·omega
     ·exact zkK h hl hl'
   ·cases h
  ·rename_i hi
   split at h
   ·rename_i h1 h2 h3
    have hnot : b ∉ acts := by
     intro hm
     have := List.all_eq_true.1 h3 b hm
     simp at this
    have hge := Nat.le_of_ble_eq_true h1
    split at hl
    ·rename_i he
     have he := beq_tt he
     subst he
     cases hl
     split at hl'
     ·rename_i he'; exact beq_tt he'
     ·rcases zqE h hl' with ⟨h5, h6⟩ | ⟨_, _, _, h6⟩
      ·omega
      ·exact absurd h6 hnot
    ·split at hl'
     ·rename_i he'
      have he' := beq_tt he'
      subst he'
      cases hl'
      rcases zqE h hl with ⟨h5, h6⟩ | ⟨_, _, _, h6⟩
      ·omega
      ·exact absurd h6 hnot
     ·exact zkK h hl hl'
   ·cases h
def trAll {α : Type} (p : α -> Bool) : Tr α -> Bool
 | .nil => true
 | .node l c r => match trAll p l, trAll p r with
  | true, true => match c with | some v => p v | none => true
  | _, _ => false
theorem zjP {α : Type} {p : α -> Bool} {t : Tr α} (h : trAll p t = true) : trAll p t.lft = true /\ trAll p t.rgt = true /\ ∀ v, t.mid = some v -> p v = true := by
 cases t with
 | nil => exact ⟨rfl, rfl, λ v e => by cases e⟩
 | node l c r =>
  simp only [trAll] at h
  split at h
  ·rename_i hl hr
   exact ⟨hl, hr, λ v e => by have e : c = some v := e; subst e; exact h⟩
  ·cases h
theorem zxs {α : Type} {p : α -> Bool} : ∀ {t : Tr α} {k m i : Nat} {v : α}, trAll p t = true -> t.getI k m i = some v -> p v = true
 | .nil, k, m, i, v, _, e => by cases e
 | .node l c r, k, m, i, v, h, e => by
  obtain ⟨hl, hr, hc⟩ := zjP h
  rw [Tr.getI_eq] at e
  split at e
  ·exact hc _ e
  ·split at e
   ·exact zxs hl e
   ·exact zxs hr e
theorem trAll_get {α : Type} {p : α -> Bool} {t : Tr α} {i : Nat} {v : α} (h : trAll p t = true) (e : t.get i = some v) : p v = true := by
 obtain ⟨h1, h2, _⟩ := zjP h
 obtain ⟨h3, h4, _⟩ := zjP h2
 obtain ⟨h5, h6, _⟩ := zjP h4
 rw [Tr.get_eq] at e
 split at e
 ·exact zxs h1 e
 ·split at e
  ·exact zxs h3 e
  ·split at e
   ·exact zxs h5 e
   ·exact zxs h6 e
def esIn (n : Nat) : List (V × V × Nat) -> Bool
 | [] => true
 | (a, b, _) :: l => match vin n a, vin n b with | true, true => esIn n l | _, _ => false
def oldC (n : Nat) : Chunk -> Bool
 | .map es _ => esIn n es
 | .loop _ _ env _ _ _ _ d => match Nat.blt d n with | true => trAll (vin n) env | false => false
 | .defr => true
 | _ => false
theorem esIn_ok {ρ : Rho} {n : Nat} : ∀ {l : List (V × V × Nat)} {es : List MapEntry}, esIn n l = true -> REs ρ l es -> REs (cutR ρ n) l es
 | [], _, _, h => h
 | (a, b, c) :: l, es, hn, h => by
  obtain ⟨k', v', l', h1, h2, h3, h⟩ := h
  simp only [esIn] at hn
  split at hn
  ·rename_i ha hb
   exact ⟨k', v', l', vin_ok ha h1, vin_ok hb h2, esIn_ok hn h3, h⟩
  ·cases hn
theorem oldC_ok {ρ : Rho} {n id b : Nat} {o : Obj} {c : Chunk} (hid : id < n) (hc : oldC n c = true) (h : CRel ρ id c b o) : CRel (cutR ρ n) id c b o := by
 have hb : Nat.blt id n = true := by simpa [Nat.blt_eq] using hid
 cases c with
 | map es clk => obtain ⟨⟨c, h1⟩, es', h2, h3⟩ := h; exact ⟨⟨c, by rw [zqG hb]; exact h1⟩, es', h2, esIn_ok hc h3⟩
 | defr => obtain ⟨⟨c, h1⟩, h2⟩ := h; exact ⟨⟨c, by rw [zqG hb]; exact h1⟩, h2⟩
 | loop st pend env nt params assign body d =>
  simp only [oldC] at hc
  split at hc
  ·rename_i hd
   obtain ⟨⟨c, h1⟩, fn, ts, db, dc, h2, h3, h4, h5⟩ := h
   refine ⟨⟨c, by rw [zqG hb]; exact h1⟩, fn, ts, db, dc, h2, λ t v e => ?_, by rw [zqG hd]; exact h4, h5⟩
   obtain ⟨u, h6, h7⟩ := h3 t v e
   exact ⟨u, h6, vin_ok (trAll_get hc e) h7⟩
  ·cases hc
 | _ => cases hc
theorem oldC_ren {n : Nat} {c : Chunk} {f : Nat -> Nat} (hc : oldC n c = true) : renC f c = c := by
 cases c <;> first | rfl | cases hc
def coks2 (ok : Nat -> Bool) (n0 : Nat) : List Nat -> List (Option Chunk) -> Bool
 | i :: ids, some c :: l => match oldC n0 c, Nat.blt i n0 with
  | true, true => coks2 ok n0 ids l
  | _, _ => match cok ok c with | true => coks2 ok n0 ids l | false => false
 | _ :: ids, none :: l => coks2 ok n0 ids l
 | _, _ => true
theorem zkm {ok : Nat -> Bool} {n0 : Nat} : ∀ {ids : List Nat} {l : List (Option Chunk)} {n1 id : Nat} {ch : Chunk}, below n1 ids = true -> coks2 ok n0 ids l = true -> (ofMo (ids.zip l)).get id = some ch -> (oldC n0 ch = true /\ id < n0) \/ cok ok ch = true
 | [], _, _, _, _, _, _, e => by cases e
 | _ :: _, [], _, _, _, _, _, e => by cases e
 | i :: ids, some c :: l, n1, id, ch, hb, hc, e => by
  simp only [below] at hb
  split at hb
  ·rename_i hs _
   rw [List.zip_cons_cons, ofMo, Tr.get_set _ _ _ _ _ (zqz hs)] at e
   simp only [coks2] at hc
   by_cases hi : id = i
   ·subst hi; simp only [if_true, Option.some.injEq] at e; subst e
    split at hc
    ·rename_i h1 h2; exact .inl ⟨h1, blt_tt h2⟩
    ·split at hc
     ·rename_i h1; exact .inr h1
     ·cases hc
   ·rw [if_neg hi] at e
    split at hc
    ·exact zkm hb hc e
    ·split at hc
     ·exact zkm hb hc e
     ·cases hc
  ·cases hb
 | i :: ids, none :: l, n1, id, ch, hb, hc, e => by
  simp only [below] at hb
  split at hb
  ·exact zkm (l := l) hb hc e
  ·cases hb
end
end Go.Q
namespace Go.Q
open Go.Z Go.Y
noncomputable section
theorem spl_split : ∀ {n : Nat} {W Wa Wb : RW}, Wa.x = W.x -> (∀ id, id < n -> (Wa id = W id /\ Wb id = none) \/ (Wa id = none /\ Wb id = W id)) -> ∀ x, sep (spl n W) x -> star (sep (spl n Wa)) (sep (splR n Wb)) x
 | 0, W, Wa, Wb, hX, _, x, hx => ⟨x, Hp.nil, λ _ => .inr rfl, (Hp.un_nil _).symm, by show sep [extSP Wa.x] x; rw [hX]; exact hx, trivial⟩
 | n + 1, W, Wa, Wb, hX, h, x, hx => by
  have ih : ∀ y, sep (spl n W) y -> star (sep (spl n Wa)) (sep (splR n Wb)) y := spl_split hX λ id hid => h id (by omega)
  have hx : star (optSP (W n)) (sep (spl n W)) x := hx
  rcases h n (Nat.lt_succ_self n) with ⟨h1, h2⟩ | ⟨h1, h2⟩
  ·have := zqd (λ _ y => y) (λ y hy => ih y hy) hx
   have := zxU this
   refine zqd (λ y hy => ?_) (λ y hy => ?_) this
   ·show star (optSP (Wa n)) (sep (spl n Wa)) y
    rw [h1]; exact hy
   ·show star (optSP (Wb n)) (sep (splR n Wb)) y
    rw [h2]; exact zjt hy
  ·have := zqd (λ _ y => y) (λ y hy => ih y hy) hx
   have := zqk this
   refine zqd (λ y hy => ?_) (λ y hy => ?_) this
   ·show star (optSP (Wa n)) (sep (spl n Wa)) y
    rw [h1]; exact zjt hy
   ·show star (optSP (Wb n)) (sep (splR n Wb)) y
    rw [h2]; exact hy
theorem splR_pick {b : Nat} {o : Obj} : ∀ {n : Nat} {W : RW} {id : Nat}, id < n -> W id = some (b, o) -> Pick (splR n W) (pt b o) (splR n (upd W id none))
 | 0, _, _, h, _ => absurd h (Nat.not_lt_zero _)
 | n + 1, W, id, h, hw => by
  intro x hx
  by_cases e : id = n
  ·subst e
   simp only [splR, hw, optSP] at hx
   simp only [splR, zqe, optSP]
   have hc : ∀ {k : Nat} {W W' : RW}, (∀ id, id < k -> W id = W' id) -> splR k W = splR k W' := by
    intro k
    induction k with
    | zero => intro W W' _; rfl
    | succ k ih => intro W W' h; simp only [splR]; rw [h k (by omega), ih (W' := W') λ id hid => h id (by omega)]
   rw [hc (W' := W) λ j hj => zqo (by omega)]
   exact zqd (λ _ y => y) (λ _ y => zjt y) hx
  ·simp only [splR] at hx ⊢
   rw [zqo (Ne.symm e)]
   exact zqk (zqd (λ _ y => y) (λ _ y => splR_pick (by omega) hw _ y) hx)
theorem zjg {m n0 : Nat} {W2 : RW} : ∀ {k : Nat} {W1 Wr : RW}, Hp.le W2.x W1.x -> (∀ id, id < k -> W2 id = none \/ (id < m /\ W2 id = W1 id) \/ (id < n0 /\ W2 id = Wr id)) -> ∀ x, star (sep (spl m W1)) (sep (splR n0 Wr)) x -> sep (spl k W2) x
 | 0, _, _, hX, _, x, hx => by
  obtain ⟨h1, h2, d, rfl, a, _⟩ := hx
  have := sep_up [extSP W2.x] (h1 := h2) (h2 := h1) (λ i => (d i).symm) (zkw hX (zkt _ a))
  rw [Hp.un_comm d]; exact this
 | k + 1, W1, Wr, hX, h, x, hx => by
  show star (optSP (W2 k)) (sep (spl k W2)) x
  cases hw : W2 k with
  | none => exact zjt (zjg hX (λ id hid => h id (by omega)) x hx)
  | some q =>
   obtain ⟨b, o⟩ := q
   rcases h k (Nat.lt_succ_self k) with h1 | ⟨h1, h2⟩ | ⟨h1, h2⟩
   ·rw [hw] at h1; cases h1
   ·rw [hw] at h2
    have := zqd (λ y hy => zqf h1 h2.symm y hy) (λ _ y => y) hx
    have := zxt this
    refine zqd (λ _ y => y) (λ y hy => ?_) this
    refine zjg (W1 := upd W1 k none) hX (λ id hid => ?_) y hy
    rcases h id (by omega) with h3 | ⟨h3, h4⟩ | h3
    ·exact .inl h3
    ·exact .inr (.inl ⟨h3, by rw [zqo (by omega)]; exact h4⟩)
    ·exact .inr (.inr h3)
   ·rw [hw] at h2
    have := zqd (λ _ y => y) (λ y hy => splR_pick h1 h2.symm y hy) hx
    have := zqk this
    refine zqd (λ _ y => y) (λ y hy => ?_) this
    refine zjg (Wr := upd Wr k none) hX (λ id hid => ?_) y hy
    rcases h id (by omega) with h3 | h3 | ⟨h3, h4⟩
    ·exact .inl h3
    ·exact .inr (.inl h3)
    ·exact .inr (.inr ⟨h3, by rw [zqo (by omega)]; exact h4⟩)
theorem RE_pk {ρ : Rho} {env : Tr V} {L : Lo} (hE : RE ρ env L) : ∀ {ts : List Nat} {l : List V}, smalls ts = true -> fitV (pk ts env) l -> RE ρ (ofE (ts.zip l)) L
 | [], _, _, _, t, v, e => by cases e
 | _ :: _, [], _, h, _, _, _ => by simp only [pk] at h; cases hh : env.get _ <;> rw [hh] at h <;> exact h.elim
 | t0 :: ts, w :: m, hs, h, t, v, e => by
  simp only [smalls] at hs
  split at hs
  ·rename_i hs1
   simp only [pk] at h
   cases he : env.get t0 with
   | none => rw [he] at h; exact h.elim
   | some v0 =>
    rw [he] at h
    rw [List.zip_cons_cons, ofE, Tr.get_set _ _ _ _ _ (zqz hs1)] at e
    by_cases ht : t = t0
    ·subst ht
     simp only [if_true, Option.some.injEq] at e
     subst e
     obtain ⟨u, h1, h2⟩ := hE _ _ he
     exact ⟨u, h1, vle_ok h.1 h2⟩
    ·rw [if_neg ht] at e
     exact RE_pk hE hs h.2 t v e
  ·cases hs
theorem RE_ren {ρ ρ2 : Rho} {f : Nat -> Nat} {ok : Nat -> Bool} (hf : ∀ id, ok id = true -> ρ2 id = ρ (f id)) (hx : Hp.le ρ.x ρ2.x) {env : Tr V} {L : Lo} (hE : RE ρ env L) : ∀ {ts : List Nat} {l : List V}, smalls ts = true -> voks ok l = true -> fitR f (pk ts env) l -> RE ρ2 (ofE (ts.zip l)) L
 | [], _, _, _, _, t, v, e => by cases e
 | _ :: _, [], _, _, h, _, _, _ => by simp only [pk] at h; cases hh : env.get _ <;> rw [hh] at h <;> exact h.elim
 | t0 :: ts, w :: m, hs, hv, h, t, v, e => by
  simp only [smalls] at hs
  split at hs
  ·rename_i hs1
   simp only [voks] at hv
   split at hv
   ·rename_i hv1
    simp only [pk] at h
    cases he : env.get t0 with
    | none => rw [he] at h; exact h.elim
    | some v0 =>
     rw [he] at h
     rw [List.zip_cons_cons, ofE, Tr.get_set _ _ _ _ _ (zqz hs1)] at e
     by_cases ht : t = t0
     ·subst ht
      simp only [if_true, Option.some.injEq] at e
      subst e
      obtain ⟨u, h1, h2⟩ := hE _ _ he
      exact ⟨u, h1, ren_ok hf hx hv1 (vle_ok h.1 h2)⟩
     ·rw [if_neg ht] at e
      exact RE_ren hf hx hE hs hv h.2 t v e
   ·cases hv
  ·cases hs
def nodupB : List Nat -> Bool
 | [] => true
 | i :: l => match l.all (λ j => !(Nat.beq j i)) with | true => nodupB l | false => false
theorem zjZ : ∀ {ids : List Nat} {l : List (Option Chunk)} {n1 id : Nat} {ch : Chunk}, below n1 ids = true -> (ofMo (ids.zip l)).get id = some ch -> id ∈ ids
 | [], _, _, _, _, _, e => by cases e
 | _ :: _, [], _, _, _, _, e => by cases e
 | i :: ids, some c :: l, n1, id, ch, hb, e => by
  simp only [below] at hb
  split at hb
  ·rename_i hs _
   rw [List.zip_cons_cons, ofMo, Tr.get_set _ _ _ _ _ (zqz hs)] at e
   by_cases hi : id = i
   ·subst hi; exact List.mem_cons_self
   ·rw [if_neg hi] at e; exact List.mem_cons_of_mem _ (zjZ hb e)
  ·cases hb
 | i :: ids, none :: l, n1, id, ch, hb, e => by
  simp only [below] at hb
  split at hb
  ·exact List.mem_cons_of_mem _ (zjZ hb e)
  ·cases hb
theorem below_mem {n1 : Nat} : ∀ {ids : List Nat} {id : Nat}, below n1 ids = true -> id ∈ ids -> id < n1
 | [], _, _, h => by cases h
 | i :: ids, id, hb, h => by
  simp only [below] at hb
  split at hb
  ·rename_i _ h2
   cases h with
   | head => exact blt_tt h2
   | tail _ h => exact below_mem hb h
  ·cases hb
theorem lookA_mem : ∀ {ids acts : List Nat} {id a : Nat}, lookA ids acts id = some a -> id ∈ ids
 | [], _, _, _, h => by cases h
 | _ :: _, [], _, _, h => by cases h
 | i :: ids, b :: acts, id, a, h => by
  simp only [lookA] at h
  split at h
  ·rename_i hb; rw [beq_tt hb]; exact List.mem_cons_self
  ·exact List.mem_cons_of_mem _ (lookA_mem h)
theorem zkP : ∀ {ids : List Nat} {id : Nat}, id ∈ ids -> lookA ids ids id = some id
 | [], _, h => by cases h
 | i :: ids, id, h => by
  simp only [lookA]
  split
  ·rename_i hb; rw [beq_tt hb]
  ·rename_i hb
   have go : ∀ {l : List Nat}, id ∈ l -> lookA l l id = some id := by
    intro l hl
    induction l with
    | nil => cases hl
    | cons j l ih =>
     simp only [lookA]
     split
     ·rename_i hj; rw [beq_tt hj]
     ·rename_i hj
      cases hl with
      | head => rw [Nat.beq_refl] at hj; cases hj
      | tail _ hl => exact ih hl
   cases h with
   | head => rw [Nat.beq_refl] at hb; cases hb
   | tail _ h => exact go h
theorem fitM_get {f : Nat -> Nat} {look : List Nat} {cs : List (Option Chunk)} : ∀ {ids acts : List Nat} {l : List (Option Chunk)} {n1 id : Nat} {ch : Chunk}, nodupB ids = true -> below n1 ids = true -> fitM f look cs ids acts l -> (ofMo (ids.zip l)).get id = some ch ->
  ∃ a c1, lookA ids acts id = some a /\ lookC look cs a = some c1 /\ chle c1 (renC f ch)
 | [], _, _, _, _, _, _, _, _, e => by cases e
 | _ :: _, [], _, _, _, _, _, _, h, e => by cases h
 | _ :: _, _ :: _, [], _, _, _, _, _, h, e => by cases h
 | i :: ids, a :: acts, some c :: l, n1, id, ch, hn, hb, h, e => by
  simp only [nodupB] at hn
  split at hn
  ·simp only [below] at hb
   split at hb
   ·rename_i hs _
    rw [List.zip_cons_cons, ofMo, Tr.get_set _ _ _ _ _ (zqz hs)] at e
    obtain ⟨⟨c1, h1, h2⟩, h3⟩ := h
    by_cases hi : id = i
    ·subst hi
     simp only [if_true, Option.some.injEq] at e
     subst e
     exact ⟨a, c1, by simp [lookA, Nat.beq_refl], h1, h2⟩
    ·rw [if_neg hi] at e
     obtain ⟨a', c', h4, h5⟩ := fitM_get hn hb h3 e
     refine ⟨a', c', ?_, h5⟩
     simp only [lookA]
     split
     ·rename_i hbq; exact absurd (beq_tt hbq).symm hi
     ·exact h4
   ·cases hb
  ·cases hn
 | i :: ids, a :: acts, none :: l, n1, id, ch, hn, hb, h, e => by
  simp only [nodupB] at hn
  split at hn
  ·rename_i hall
   simp only [below] at hb
   split at hb
   ·have hm := zjZ (n1 := n1) hb (by exact e)
    obtain ⟨a', c', h4, h5⟩ := fitM_get hn hb h e
    refine ⟨a', c', ?_, h5⟩
    simp only [lookA]
    split
    ·rename_i hbq
     have := beq_tt hbq
     subst this
     have := List.all_eq_true.1 hall _ hm
     simp [Nat.beq_refl] at this
    ·exact h4
   ·cases hb
  ·cases hn
def fitL (look : List Nat) (cs : List (Option Chunk)) : List Nat -> List Chunk -> Prop
 | i :: ids, c :: l => (∃ c1, lookC look cs i = some c1 /\ chle c1 c) /\ fitL look cs ids l
 | [], [] => True
 | _, _ => False
def okE (ids : List Nat) (n0 : Nat) : List Nat -> Bool
 | [] => true
 | i :: l => match lookA ids ids i with
  | some _ => okE ids n0 l
  | none => match Nat.ble n0 i with | true => okE ids n0 l | false => false
def okR (ids : List Nat) (n0 : Nat) : List Nat -> Bool
 | [] => true
 | i :: l => match lookA ids ids i, Nat.blt i n0 with
  | none, true => okR ids n0 l
  | _, _ => false
def fitE (t : Tr Chunk) : List Nat -> List (Option Chunk) -> Prop
 | i :: ids, some c :: l => (∃ c1, t.get i = some c1 /\ chle c1 c) /\ fitE t ids l
 | _ :: ids, none :: l => fitE t ids l
 | [], [] => True
 | _, _ => False
theorem fitE_get {t : Tr Chunk} : ∀ {ids : List Nat} {l : List (Option Chunk)} {n1 id : Nat} {ch : Chunk}, below n1 ids = true -> fitE t ids l -> (ofMo (ids.zip l)).get id = some ch -> ∃ c1, t.get id = some c1 /\ chle c1 ch
 | [], _, _, _, _, _, _, e => by cases e
 | _ :: _, [], _, _, _, _, h, e => by cases h
 | i :: ids, some c :: l, n1, id, ch, hb, h, e => by
  simp only [below] at hb
  split at hb
  ·rename_i hs _
   rw [List.zip_cons_cons, ofMo, Tr.get_set _ _ _ _ _ (zqz hs)] at e
   by_cases hi : id = i
   ·subst hi; simp only [if_true, Option.some.injEq] at e; subst e; exact h.1
   ·rw [if_neg hi] at e; exact fitE_get hb h.2 e
  ·cases hb
 | i :: ids, none :: l, n1, id, ch, hb, h, e => by
  simp only [below] at hb
  split at hb
  ·exact fitE_get hb h e
  ·cases hb
def rMv (rv : List Lk) {α : Type} (ts ids look rids : List Nat) (rc : List Chunk) (le : α -> List V) (lm : α -> List (Option Chunk)) (n0 n1 : Nat) (φ : α -> Prop) (μ : α -> Nat) (k : KK) (x : α) (o : O) (vs : List (Option V)) (m : Nat) (cs : List (Option Chunk)) : Prop := match o with
 | .normal => ∃ x' acts, φ x' /\ μ x' < μ x /\ n1 <= m /\ actsOk n0 m ids acts = true /\ fitR (renF ids acts) vs (le x') /\ fitM (renF ids acts) look cs ids acts (lm x')
 | .exit i => ∃ l ids' c, n1 <= m /\ okE ids n0 ids' = true /\ below m ids' = true /\ fitV vs l /\ fitL look cs ids' c /\ k (.exit i) [] (ofE (ts.zip l)) ⟨m, ofM (ids'.zip c ++ rids.zip rc), rv⟩
 | .ret => ∃ l ids' c, n1 <= m /\ okE ids n0 ids' = true /\ below m ids' = true /\ fitV vs l /\ fitL look cs ids' c /\ k .ret [] (ofE (ts.zip l)) ⟨m, ofM (ids'.zip c ++ rids.zip rc), rv⟩
 | .panic v => ∃ ids' c, n1 <= m /\ okE ids n0 ids' = true /\ below m ids' = true /\ fitL look cs ids' c /\ k (.panic v) [] .nil ⟨m, ofM (ids'.zip c ++ rids.zip rc), rv⟩
 | _ => False
def noLk (ids : List Nat) : List Lk -> Bool
 | [] => true
 | l :: ls => match lookA ids ids l.1 with | some _ => false | none => noLk ids ls
theorem noLk_mem {ids : List Nat} : ∀ {ls : List Lk} {l : Lk}, noLk ids ls = true -> l ∈ ls -> lookA ids ids l.1 = none
 | [], _, _, h => by cases h
 | a :: ls, l, h, hm => by
  simp only [noLk] at h
  split at h
  ·cases h
  ·rename_i hn
   cases hm with
   | head => exact hn
   | tail _ hm => exact noLk_mem h hm
theorem ofM_get : ∀ {ids : List Nat} {c : List Chunk} {rest : List (Nat × Chunk)} {n1 id : Nat} {ch : Chunk}, below n1 ids = true -> (ofM (ids.zip c ++ rest)).get id = some ch -> (∃ P, (id, ch) ∈ ids.zip c /\ P = True) \/ (ofM rest).get id = some ch
 | [], c, rest, _, id, ch, _, e => .inr (by simpa using e)
 | _ :: _, [], rest, _, id, ch, _, e => .inr (by simpa using e)
 | i :: ids, x :: c, rest, n1, id, ch, hb, e => by
  simp only [below] at hb
  split at hb
  ·rename_i hs _
   rw [List.zip_cons_cons, List.cons_append, ofM, Tr.get_set _ _ _ _ _ (zqz hs)] at e
   by_cases hi : id = i
   ·subst hi; simp only [if_true, Option.some.injEq] at e; subst e
    exact .inl ⟨True, List.mem_cons_self, rfl⟩
   ·rw [if_neg hi] at e
    rcases ofM_get hb e with ⟨P, h1, h2⟩ | h
    ·exact .inl ⟨P, List.mem_cons_of_mem _ h1, h2⟩
    ·exact .inr h
  ·cases hb
theorem fitL_mem {look : List Nat} {cs : List (Option Chunk)} : ∀ {ids : List Nat} {c : List Chunk} {id : Nat} {ch : Chunk}, fitL look cs ids c -> (id, ch) ∈ ids.zip c -> ∃ c1, lookC look cs id = some c1 /\ chle c1 ch
 | [], _, _, _, _, h => by cases h
 | _ :: _, [], _, _, h, _ => by cases h
 | i :: ids, x :: c, id, ch, h, hm => by
  rw [List.zip_cons_cons] at hm
  cases hm with
  | head => exact h.1
  | tail _ hm => exact fitL_mem h.2 hm
theorem okE_mem {ids : List Nat} {n0 : Nat} : ∀ {l : List Nat} {i : Nat}, okE ids n0 l = true -> i ∈ l -> (∃ a, lookA ids ids i = some a) \/ n0 <= i
 | [], _, _, h => by cases h
 | j :: l, i, h, hm => by
  simp only [okE] at h
  split at h
  ·rename_i a ha
   cases hm with
   | head => exact .inl ⟨a, ha⟩
   | tail _ hm => exact okE_mem h hm
  ·split at h
   ·rename_i hle
    cases hm with
    | head => exact .inr (Nat.le_of_ble_eq_true hle)
    | tail _ hm => exact okE_mem h hm
   ·cases h
theorem okR_mem {ids : List Nat} {n0 : Nat} : ∀ {l : List Nat} {i : Nat}, okR ids n0 l = true -> i ∈ l -> lookA ids ids i = none /\ i < n0
 | [], _, _, h => by cases h
 | j :: l, i, h, hm => by
  simp only [okR] at h
  split at h
  ·rename_i h1 h2
   cases hm with
   | head => exact ⟨h1, blt_tt h2⟩
   | tail _ hm => exact okR_mem h hm
  ·cases h
theorem zipR_get {t : Tr Chunk} : ∀ {rids : List Nat} {rc : List Chunk} {n0 id : Nat} {ch : Chunk}, below n0 rids = true -> pk rids t = rc.map some -> (ofM (rids.zip rc)).get id = some ch -> id ∈ rids /\ t.get id = some ch
 | [], _, _, _, _, _, _, e => by cases e
 | _ :: _, [], _, _, _, _, h, e => by cases e
 | i :: ids, x :: c, n0, id, ch, hb, h, e => by
  simp only [below] at hb
  split at hb
  ·rename_i hs _
   simp only [pk, List.map_cons, List.cons.injEq] at h
   rw [List.zip_cons_cons, ofM, Tr.get_set _ _ _ _ _ (zqz hs)] at e
   by_cases hi : id = i
   ·subst hi; simp only [if_true, Option.some.injEq] at e; subst e
    exact ⟨List.mem_cons_self, h.1⟩
   ·rw [if_neg hi] at e
    obtain ⟨h1, h2⟩ := zipR_get hb h.2 e
    exact ⟨List.mem_cons_of_mem _ h1, h2⟩
  ·cases hb
def cutV (ts look : List Nat) (N : O -> List (Option V) -> Nat -> List (Option Chunk) -> Prop) : KK := λ o dv env hp => match dv with
 | [] => N o (pk ts env) hp.n (pk look hp.t)
 | _ => False
theorem code_mono {P : Program} {G : GQ} {fi : FI} {c : Code} {ds : List DV} {env : Tr V} {hp : Mem} {k k' : KK} (h : TaskOk P G (.code fi c ds env hp k)) (up : ∀ o dv env hp, k o dv env hp -> k' o dv env hp) : TaskOk P G (.code fi c ds env hp k') :=
 λ ρ W ds' L K ro hG hH hE hF hk => h ρ W ds' L K ro hG hH hE hF λ o dv env' hp' ρ' W' ds2 L' out nx hE' dx ho hkk => hk o dv env' hp' ρ' W' ds2 L' out nx hE' dx ho (up o dv env' hp' hkk)
theorem cutM_V {ts look : List Nat} {N : O -> List (Option V) -> Nat -> List (Option Chunk) -> Prop} : ∀ o dv env hp, cutM ts look N o dv env hp -> cutV ts look N o dv env hp := by
 intro o dv env hp h
 unfold cutM at h
 split at h
 ·exact h
 ·exact h.elim
theorem loop_fw {P : Program} {G : GQ} {fi : FI} {c : Code} {env : Tr V} {hp : Mem} {k : KK} {α : Type} (ts ids look rids : List Nat) (rc : List Chunk) (rv : List Lk) (n1 : Nat) (le : α -> List V) (lm : α -> List (Option Chunk)) (φ : α -> Prop) (μ : α -> Nat) (x0 : α) (h0 : φ x0)
  (hts : smalls ts = true) (hids : below n1 ids = true) (hnd : nodupB ids = true) (hn1 : hp.n <= n1) (hro : ∀ l ∈ hp.ro, lookA ids ids l.1 = none \/ l ∈ rv) (hrv : ∀ l ∈ rv, l.1 < hp.n) (hr1 : below hp.n rids = true) (hr2 : okR ids hp.n rids = true)
  (hv : ∀ x, voks (okI ids hp.n) (le x) = true) (hc : ∀ x, coks2 (okI ids hp.n) hp.n ids (lm x) = true)
  (e1 : fitV (pk ts env) (le x0)) (e2 : fitE hp.t ids (lm x0)) (e3 : pk rids hp.t = rc.map some)
  (round : ∀ x, φ x -> TaskOk P G (.code fi c [] (ofE (ts.zip (le x))) ⟨n1, ofMo (ids.zip (lm x)), rv⟩ (cutV ts look (rMv hp.ro ts ids look rids rc le lm hp.n n1 φ μ k x)))) :
  TaskOk P G (.code fi (.loop c) [] env hp k) := by
 intro ρ W ds L K ro hG hH hE hF hk
 have old : ∀ id x, ρ id = some x -> id < hp.n := λ id x e => by
  rcases Nat.lt_or_ge id hp.n with h | h
  ·exact h
  ·rw [hH.lim id h] at e; cases e
 -- the rest
 let Wr : RW := ⟨λ id => match lookA ids ids id with | some _ => none | none => W id, W.x⟩
 let W2 : RW := ⟨λ id => match lookA ids ids id, Nat.blt id hp.n with | some _, true => W id | _, _ => none, W.x⟩
 have start : ∀ x, sep (spl hp.n W) x -> sep (spl n1 W2 ++ splR hp.n Wr) x := by
  intro x hx
  rw [zqD]
  have := spl_split (n := hp.n) (W := W) (Wa := W2) (Wb := Wr) rfl (λ id hid => by
   have hb : Nat.blt id hp.n = true := by simpa [Nat.blt_eq] using hid
   simp only [W2, Wr, hb]
   cases lookA ids ids id with
   | some a => exact .inl ⟨rfl, rfl⟩
   | none => exact .inr ⟨rfl, rfl⟩) x hx
  refine zqd (λ y hy => ?_) (λ _ y => y) this
  refine spl_ren (W1 := W2) (W2 := W2) (g := λ i => i) (λ _ _ e => e) (λ id hid => ?_) (λ id id' _ _ _ _ h => h) y hy
  by_cases hid : id < hp.n
  ·exact .inr ⟨hid, rfl⟩
  ·have hb : Nat.blt id hp.n = false := by
    cases hb : Nat.blt id hp.n with
    | false => rfl
    | true => exact absurd (blt_tt hb) hid
   left
   simp only [W2, hb]
   cases lookA ids ids id <;> rfl
 have hH2 : HR ρ ⟨n1, ofMo (ids.zip (lm x0)), rv⟩ W2 := by
  refine ⟨λ id ch e => ?_, λ id hid => hH.lim id (Nat.le_trans hn1 hid), λ l hl => Nat.lt_of_lt_of_le (hrv l hl) hn1, hH.ext⟩
  obtain ⟨c1, h1, h2⟩ := fitE_get hids e2 e
  obtain ⟨b, o, h3, h4⟩ := hH.rel id c1 h1
  have hm := zjZ hids e
  have hid := hH.lt h1
  refine ⟨b, o, ?_, zkH h2 h4⟩
  have hb : Nat.blt id hp.n = true := by simpa [Nat.blt_eq] using hid
  simp only [W2, zkP hm, hb]
  exact h3
 have hE2 : RE ρ (ofE (ts.zip (le x0))) L := RE_pk hE hts e1
 refine Go.weak ?_ start
 refine Go.loopE (α := LSt α) LSt.L (λ s => spl n1 s.W ++ splR hp.n Wr) (λ s => φ s.x /\ ρ.le s.ρ /\ HR s.ρ ⟨n1, ofMo (ids.zip (lm s.x)), rv⟩ s.W /\ (∀ l ∈ rv, Same l (W2 l.1) (s.W l.1)) /\ RE s.ρ (ofE (ts.zip (le s.x))) s.L) (λ s => μ s.x) ⟨x0, ρ, W2, L⟩ ⟨h0, Rho.le_refl _, hH2, λ _ _ => .refl, hE2⟩ ?_
 rintro ⟨x, ρ1, W1, L1⟩ ⟨hx, hle, hHx, hSx, hEx⟩
 simp only at hx hle hHx hSx hEx ⊢
 refine Go_close (Go_up (Go_frame (round x hx ρ1 W1 ds L1 (λ out ds' L' H' => ∃ H'', (Kont.seq (λ ds' L' H' => ds' = ds /\ ∃ x', (φ x'.x /\ ρ.le x'.ρ /\ HR x'.ρ ⟨n1, ofMo (ids.zip (lm x'.x)), rv⟩ x'.W /\ (∀ l ∈ rv, Same l (W2 l.1) (x'.W l.1)) /\ RE x'.ρ (ofE (ts.zip (le x'.x))) x'.L) /\ μ x'.x < μ x /\ L' = LSt.L x' /\ ∀ h, sep H' h -> sep (spl n1 x'.W ++ splR hp.n Wr) h) K) out ds' L' H'' /\ ∀ y, sep (H' ++ splR hp.n Wr) y -> sep H'' y) ro (hG.mono hle) hHx hEx (hF.mono hle) ?_)) λ e ds' L' H' ⟨H1, ⟨H2, h1, h2⟩, h3⟩ => ⟨H2, h1, λ y hy => h2 y (by rw [<- h3]; exact hy)⟩)
 intro o dv' env' hp' ρ' W' ds' L' out nx hE' dx ho hk'
 unfold cutV at hk'
 split at hk'
 ·have hds := (dx.same rfl).2
  subst hds
  have leave : ∀ (ts : List Nat) (o : O) (out : Out), smalls ts = true -> OutRel ρ' o out -> (∃ l ids' c, n1 <= hp'.n /\ okE ids hp.n ids' = true /\ below hp'.n ids' = true /\ fitV (pk ts env') l /\ fitL look (pk look hp'.t) ids' c /\ k o [] (ofE (ts.zip l)) ⟨hp'.n, ofM (ids'.zip c ++ rids.zip rc), hp.ro⟩) ->
    ∃ H'', K out ds' L' H'' /\ ∀ y, sep (spl hp'.n W' ++ splR hp.n Wr) y -> sep H'' y := by
   rintro ts o out hts ho ⟨l, ids', c, hnm, hoe, hbe, f1, f2, hk''⟩
   let W3 : RW := ⟨λ id => match Nat.blt id hp.n, lookA ids ids id with | true, none => W id | _, _ => W' id, W'.x⟩
   have hle' : ρ.le ρ' := Rho.le_trans hle nx.le
   have hH3 : HR ρ' ⟨hp'.n, ofM (ids'.zip c ++ rids.zip rc), hp.ro⟩ W3 := by
    refine ⟨λ id ch e => ?_, λ id hid => nx.hr.lim id hid, λ l hl => by have := hH.rol l hl; show l.1 < hp'.n; omega, nx.hr.ext⟩
    rcases ofM_get hbe e with ⟨_, hm, _⟩ | hr
    ·obtain ⟨c1, h1, h2⟩ := fitL_mem f2 hm
     obtain ⟨b, o', h3, h4⟩ := nx.hr.rel id c1 (lookC_pk h1)
     refine ⟨b, o', ?_, zkH h2 h4⟩
     have hid : id ∈ ids' := (List.of_mem_zip hm).1
     have hW3 : W3 id = W' id := by
      simp only [W3]
      split
      ·rename_i hb hl
       rcases okE_mem hoe hid with ⟨a, ha⟩ | hge
       ·rw [hl] at ha; cases ha
       ·have := blt_tt hb; omega
      ·rfl
     rw [hW3]; exact h3
    ·obtain ⟨h1, h2⟩ := zipR_get hr1 e3 hr
     obtain ⟨b, o', h3, h4⟩ := hH.rel id ch h2
     obtain ⟨h5, h6⟩ := okR_mem hr2 h1
     refine ⟨b, o', ?_, h4.mono hle'⟩
     have hb : Nat.blt id hp.n = true := by simpa [Nat.blt_eq] using h6
     simp only [W3, hb, h5]
     exact h3
   refine ⟨spl hp'.n W3, hk o [] (ofE (ts.zip l)) ⟨hp'.n, ofM (ids'.zip c ++ rids.zip rc), hp.ro⟩ ρ' W3 ds' L' out ⟨hle', hH3, rfl, λ l hl => by
    have h2 := hH.rol l hl
    have hb : Nat.blt l.1 hp.n = true := by simpa [Nat.blt_eq] using h2
    cases h1 : lookA ids ids l.1 with
    | none =>
     simp only [W3, hb, h1]
     exact .refl
    | some a =>
     have hl' : l ∈ rv := by
      rcases hro l hl with h | h
      ·rw [h1] at h; cases h
      ·exact h
     have h3 := (hSx l hl').trans (nx.st l hl')
     simp only [W2, hb, h1] at h3
     simp only [W3, hb, h1]
     exact h3⟩ (RE_pk hE' hts f1) .refl ho hk'', λ y hy => ?_⟩
   rw [zqD] at hy
   refine zjg (W2 := W3) (W1 := W') (Wr := Wr) (m := hp'.n) (n0 := hp.n) (λ _ _ e => e) (λ id hid => ?_) y hy
   simp only [W3]
   split
   ·rename_i hb hl
    refine .inr (.inr ⟨blt_tt hb, ?_⟩)
    simp only [Wr, hl]
   ·exact .inr (.inl ⟨hid, rfl⟩)
  cases o <;> cases out <;> first | exact ho.elim | skip
  ·obtain ⟨x', acts, hx', hlt, hnm, hacts, f1, f2⟩ := hk'
   have hlen := zkJ hacts
   let ρ2 : Rho := ⟨λ id => match lookA ids acts id with | some a => ρ' a | none => match Nat.blt id hp.n with | true => ρ' id | false => none, ρ'.x⟩
   let W3 : RW := ⟨λ id => match lookA ids acts id with | some a => W' a | none => none, W'.x⟩
   have hf : ∀ id, okI ids hp.n id = true -> ρ2 id = ρ' (renF ids acts id) := by
    intro id hok
    simp only [ρ2, renF]
    cases hl : lookA ids acts id with
    | some a => rfl
    | none =>
     have : lookA ids ids id = none := by
      have := zkz (id := id) hlen
      rw [hl] at this
      cases hh : lookA ids ids id with
      | none => rfl
      | some a => rw [hh] at this; cases this
     unfold okI at hok
     rw [this] at hok
     dsimp only at hok
     rw [hok]
   have hle2 : ρ.le ρ2 := by
    refine ⟨λ id z e => ?_, (Rho.le_trans hle nx.le).e⟩
    have hid := old id z e
    have h1 := nx.le _ _ (hle _ _ e)
    simp only [ρ2]
    cases hl : lookA ids acts id with
    | some a =>
     rcases zqE hacts hl with ⟨_, h3⟩ | ⟨h3, _⟩
     ·rw [h3]; exact h1
     ·omega
    | none =>
     have hb : Nat.blt id hp.n = true := by simpa [Nat.blt_eq] using hid
     rw [hb]; exact h1
   have hH3 : HR ρ2 ⟨n1, ofMo (ids.zip (lm x')), rv⟩ W3 := by
    refine ⟨λ id ch e => ?_, λ id hid => ?_, λ l hl => Nat.lt_of_lt_of_le (hrv l hl) hn1, nx.hr.ext⟩
    ·obtain ⟨a, c1, h1, h2, h3⟩ := fitM_get hnd hids f2 e
     obtain ⟨b, o', h4, h5⟩ := nx.hr.rel a c1 (lookC_pk h2)
     have hm := zjZ hids e
     refine ⟨b, o', by simp only [W3, h1]; exact h4, ?_⟩
     have hfa : renF ids acts id = a := by unfold renF; rw [h1]
     rcases zkm hids (hc x') e with ⟨hold, hlt2⟩ | hcok
     ·rw [oldC_ren hold] at h3
      replace h5 := zkH h3 h5
      rcases zqE hacts h1 with ⟨h6, h7⟩ | ⟨h6, _⟩
      ·subst h7
       refine CRel.mono (show (cutR ρ' hp.n).le ρ2 from ⟨λ j z hj => ?_, λ _ _ e => e⟩) (oldC_ok h6 hold h5)
       by_cases hjn : j < hp.n
       ·have hb : Nat.blt j hp.n = true := by simpa [Nat.blt_eq] using hjn
        rw [zqG hb] at hj
        simp only [ρ2]
        cases hl : lookA ids acts j with
        | some a' =>
         rcases zqE hacts hl with ⟨_, h8⟩ | ⟨h8, _⟩
         ·subst h8; exact hj
         ·omega
        | none => rw [hb]; exact hj
       ·rw [zjN (by omega)] at hj; cases hj
      ·omega
     refine cren_ok hf (λ _ _ e => e) (by unfold okI; rw [zkP hm]) hcok ?_
     rw [hfa]
     exact zkH h3 h5
    ·have hid : n1 <= id := hid
     simp only [ρ2]
     cases hl : lookA ids acts id with
     | some a => have := below_mem hids (lookA_mem hl); omega
     | none =>
      have hb : Nat.blt id hp.n = false := by
       cases hb : Nat.blt id hp.n with
       | false => rfl
       | true => have := blt_tt hb; omega
      rw [hb]
   have hS3 : ∀ l ∈ rv, Same l (W2 l.1) (W3 l.1) := by
    intro l hl
    have hlt := hrv l hl
    have hb : Nat.blt l.1 hp.n = true := by simpa [Nat.blt_eq] using hlt
    have h3 := (hSx l hl).trans (nx.st l hl)
    cases h1 : lookA ids ids l.1 with
    | none =>
     have h4 : lookA ids acts l.1 = none := by
      have := zkz (id := l.1) hlen
      rw [h1] at this
      cases hh : lookA ids acts l.1 with
      | none => rfl
      | some a => rw [hh] at this; cases this
     simp only [W2, W3, h1, h4]
     exact .refl
    | some a =>
     have h4 := zkz (id := l.1) hlen
     rw [h1] at h4
     cases hh : lookA ids acts l.1 with
     | none => rw [hh] at h4; cases h4
     | some b =>
      rcases zqE hacts hh with ⟨_, h5⟩ | ⟨h5, _⟩
      ·subst h5
       simp only [W3, hh]
       exact h3
      ·omega
   refine ⟨spl n1 W3 ++ splR hp.n Wr, ⟨rfl, ⟨x', ρ2, W3, L'⟩, ⟨hx', hle2, hH3, hS3, RE_ren hf (λ _ _ e => e) hE' hts (hv x') f1⟩, hlt, rfl, λ h hh => hh⟩, λ y hy => ?_⟩
   rw [zqD] at hy ⊢
   refine zqd (λ z hz => ?_) (λ _ z => z) hy
   refine spl_ren (W1 := W') (W2 := W3) (g := renF ids acts) (m := hp'.n) (λ _ _ e => e) (λ id hid => ?_) (λ id id' hid hid' h1 h2 he => ?_) z hz
   ·simp only [W3, renF]
    cases hl : lookA ids acts id with
    | some a =>
     refine .inr ⟨?_, rfl⟩
     rcases zqE hacts hl with ⟨h3, h4⟩ | ⟨_, _, h3, _⟩
     ·show a < hp'.n; omega
     ·exact h3
    | none => exact .inl rfl
   ·cases hl : lookA ids acts id with
    | none => exact absurd (by simp only [W3, hl]) h1
    | some a =>
     cases hl' : lookA ids acts id' with
     | none => exact absurd (by simp only [W3, hl']) h2
     | some a' =>
      simp only [renF, hl, hl'] at he
      subst he
      exact zkK hacts hl hl'
  ·exact leave ts _ _ hts ho hk'
  ·exact hk'.elim
  ·exact leave ts _ _ hts ho hk'
  ·obtain ⟨ids', c, h1, h2, h3, h4, h5⟩ := hk'
   exact leave [] _ _ rfl ho ⟨[], ids', c, h1, h2, h3, trivial, h4, h5⟩
 ·exact hk'.elim
theorem zxA {P : Program} {G : GQ} {fi : FI} {c : Code} {env : Tr V} {hp : Mem} {k : KK} {α : Type} (ts ids look rids : List Nat) (rc : List Chunk) (n1 : Nat) (le : α -> List V) (lm : α -> List (Option Chunk)) (φ : α -> Prop) (μ : α -> Nat) (x0 : α) (h0 : φ x0)
  (hts : smalls ts = true) (hids : below n1 ids = true) (hnd : nodupB ids = true) (hn1 : hp.n <= n1) (hro : noLk ids hp.ro = true) (hr1 : below hp.n rids = true) (hr2 : okR ids hp.n rids = true)
  (hv : ∀ x, voks (okI ids hp.n) (le x) = true) (hc : ∀ x, coks2 (okI ids hp.n) hp.n ids (lm x) = true)
  (e1 : fitV (pk ts env) (le x0)) (e2 : fitE hp.t ids (lm x0)) (e3 : pk rids hp.t = rc.map some)
  (round : ∀ x, φ x -> TaskOk P G (.code fi c [] (ofE (ts.zip (le x))) ⟨n1, ofMo (ids.zip (lm x)), []⟩ (cutM ts look (rMv hp.ro ts ids look rids rc le lm hp.n n1 φ μ k x)))) :
  TaskOk P G (.code fi (.loop c) [] env hp k) :=
 loop_fw ts ids look rids rc [] n1 le lm φ μ x0 h0 hts hids hnd hn1 (λ l hl => .inl (noLk_mem hro hl)) (λ l hl => by cases hl) hr1 hr2 hv hc e1 e2 e3 λ x hx => code_mono (round x hx) cutM_V
end
end Go.Q
namespace Go.Y
open Go.Z
noncomputable section
def varG (g : Nat) : Tr Nat := Tr.set 20 .nil g (some 0)
def varM (cells : List V) (ty : Nat) : Mem := ⟨1, Tr.set 20 .nil 0 (some (.cells cells ty 1)), [wh 0]⟩
def varO (us junk : List Value) (ty : Nat) (fr : Nat × Nat) : Obj := .cells (us ++ junk).toArray ty fr
def varR (g c : Nat) (X : Hp := Hp.nil) : Rho := ⟨λ id => if id = 0 then some (g, c) else none, X⟩
def varW (g : Nat) (o : Obj) (X : Hp := Hp.nil) : RW := ⟨λ id => if id = 0 then some (g, o) else none, X⟩
theorem var_GOk {g c : Nat} {X : Hp} (hs : small g = true) {kn : List (Nat × List V × KRes)} {vs0 : List (Nat × List V)} : GOk (varR g c X) ⟨varG g, kn, vs0⟩ := by
 intro g' id h
 have h : (Tr.set 20 .nil g (some 0)).get g' = some id := h
 rw [Tr.get_set _ _ _ _ _ (zqz hs)] at h
 split at h
 ·rename_i e; cases h; rw [e]; exact ⟨c, rfl⟩
 ·rw [Tr.get_nil] at h; cases h
theorem var_HR {X : Hp} {g ty : Nat} {cells : List V} {us junk : List Value} {fr : Nat × Nat} (hfr : FrOk fr (us ++ junk).length) (hl : RL (norhoX X) cells us) : HR (varR g (us ++ junk).length X) (varM cells ty) (varW g (varO us junk ty fr) X) where
 ext := rfl
 rel := λ id ch e => by
  have e : (Tr.set 20 .nil 0 (some (Chunk.cells cells ty 1))).get id = some ch := e
  rw [Tr.get_set _ _ _ _ _ (by decide)] at e
  by_cases h0 : id = 0
  ·subst h0
   simp only [if_true, Option.some.injEq] at e
   subst e
   refine ⟨g, varO us junk ty fr, rfl, (us ++ junk).length, us, junk, fr, rfl, hl.mono (zja λ _ _ e => e), rfl, by simp, hfr⟩
  ·rw [if_neg h0, Tr.get_nil] at e; cases e
 lim := λ id h => by
  have : id ≠ 0 := by
   have h : 1 <= id := h
   omega
  simp [varR, this]
 rol := λ l hl => by
  have : l = wh 0 := by simpa [varM] using hl
  subst this
  exact Nat.zero_lt_one
theorem stay_var {n : Nat} {W : RW} {g : Nat} {o : Obj} (hn : 0 < n) (h : W 0 = some (g, o)) : ∀ x, sep (spl n W) x -> sep [pt g o] x := by
 intro x hx
 have h1 := zqf hn h x hx
 exact zqd (λ _ y => y) (λ y _ => trivial) h1
mutual
def eqP : V -> V -> Bool
 | .int k a, .int k' b => match ikeq k k' with | true => eqI a b | false => false
 | .bool a, .bool b => a == b
 | .str a, .str b => eqB a b
 | .agg l, .agg m => eqPs l m
 | _, _ => false
def eqPs : List V -> List V -> Bool
 | [], [] => true
 | a :: l, b :: m => match eqP a b with | true => eqPs l m | false => false
 | _, _ => false
end
mutual
theorem eqP_ok : ∀ {a b : V}, eqP a b = true -> a = b /\ ∀ {ρ ρ' : Rho} {u : Value}, R ρ a u -> R ρ' a u
 | .int k a, b, h => by
  cases b <;> simp only [eqP] at h <;> first | (cases h; done) | skip
  split at h
  ·rename_i hk; rw [eqI_ok, decide_eq_true_eq] at h; exact ⟨by rw [zqZ hk, h], λ h => h⟩
  ·cases h
 | .bool a, b, h => by
  cases b <;> simp only [eqP] at h <;> first | (cases h; done) | skip
  rw [beq_iff_eq] at h; exact ⟨by rw [h], λ h => h⟩
 | .str a, b, h => by
  cases b <;> simp only [eqP] at h <;> first | (cases h; done) | skip
  rw [eqB_ok, decide_eq_true_eq] at h; exact ⟨by rw [h], λ h => h⟩
 | .agg l, b, h => by
  cases b <;> simp only [eqP] at h <;> first | (cases h; done) | skip
  obtain ⟨h1, h2⟩ := zkF h
  exact ⟨by rw [h1], λ ⟨l', hl, e⟩ => ⟨l', h2 hl, e⟩⟩
 | .und, b, h => by simp [eqP] at h
 | .nilp, b, h => by simp [eqP] at h
 | .ptr .., b, h => by simp [eqP] at h
 | .nils, b, h => by simp [eqP] at h
 | .sl .., b, h => by simp [eqP] at h
 | .sle, b, h => by simp [eqP] at h
 | .nilm, b, h => by simp [eqP] at h
 | .map _, b, h => by simp [eqP] at h
 | .nilf, b, h => by simp [eqP] at h
 | .fn .., b, h => by simp [eqP] at h
 | .yld _, b, h => by simp [eqP] at h
 | .nili, b, h => by simp [eqP] at h
 | .ifc .., b, h => by simp [eqP] at h
 | .tup _, b, h => by simp [eqP] at h
 | .anyI _, b, h => by simp [eqP] at h
 | .anyB, b, h => by simp [eqP] at h
 | .anyS, b, h => by simp [eqP] at h
 | .sint .., b, h => by simp [eqP] at h
 | .sbool _, b, h => by simp [eqP] at h
 | .sstr _, b, h => by simp [eqP] at h
 | .ssl .., b, h => by simp [eqP] at h
 | .sptr .., b, h => by simp [eqP] at h
 | .ptrh .., b, h => by simp [eqP] at h
 | .slh .., b, h => by simp [eqP] at h
theorem zkF : ∀ {l m : List V}, eqPs l m = true -> l = m /\ ∀ {ρ ρ' : Rho} {us : List Value}, RL ρ l us -> RL ρ' l us
 | [], [], _ => ⟨rfl, λ h => h⟩
 | a :: l, b :: m, h => by
  simp only [eqPs] at h
  split at h
  ·rename_i ha
   obtain ⟨h1, h2⟩ := eqP_ok ha
   obtain ⟨h3, h4⟩ := zkF h
   exact ⟨by rw [h1, h3], λ ⟨u, us', k1, k2, e⟩ => ⟨u, us', h2 k1, h4 k2, e⟩⟩
  ·cases h
 | [], _ :: _, h => by simp [eqPs] at h
 | _ :: _, [], h => by simp [eqPs] at h
end
def eqEs : List (V × V × Nat) -> List (V × V × Nat) -> Bool
 | [], [] => true
 | (k, v, b) :: l, (k', v', b') :: m => match eqP k k', eqP v v', Nat.beq b b' with | true, true, true => eqEs l m | _, _, _ => false
 | _, _ => false
theorem eqEs_ok : ∀ {l m : List (V × V × Nat)}, eqEs l m = true -> l = m /\ ∀ {ρ ρ' : Rho} {es : List MapEntry}, REs ρ l es -> REs ρ' l es
 | [], [], _ => ⟨rfl, λ h => h⟩
 | (k, v, b) :: l, (k', v', b') :: m, h => by
  simp only [eqEs] at h
  split at h
  ·rename_i h1 h2 h3
   obtain ⟨a1, a2⟩ := eqP_ok h1
   obtain ⟨b1, b2⟩ := eqP_ok h2
   obtain ⟨c1, c2⟩ := eqEs_ok h
   exact ⟨by rw [a1, b1, beq_tt h3, c1], λ ⟨k', v', l', k1, k2, k3, e⟩ => ⟨k', v', l', a2 k1, b2 k2, c2 k3, e⟩⟩
  ·cases h
 | [], _ :: _, h => by simp [eqEs] at h
 | _ :: _, [], h => by simp [eqEs] at h
theorem eqIs_ok : ∀ {l m : List V}, eqIs l m = true -> l = m
 | [], [], _ => rfl
 | a :: l, b :: m, h => by
  cases a <;> cases b <;> simp only [eqIs] at h <;> first | (cases h; done) | skip
  split at h
  ·rename_i hk hi
   rw [eqI_ok, decide_eq_true_eq] at hi
   rw [zqZ hk, hi, eqIs_ok h]
  ·cases h
 | [], _ :: _, h => by simp [eqIs] at h
 | a :: _, [], h => by cases a <;> simp [eqIs] at h
def isRes (r : KRes) : KE := λ e hp => match r with
 | .val v => match e with
  | .ret v' => eqP v' v
  | _ => false
 | .map es clk => match e with
  | .ret (.map id) => match hp.t.get id with
   | some (.map es' clk') => match eqEs es' es, Nat.beq clk' clk, Nat.beq id 0 with | true, true, false => true | _, _, _ => false
   | _ => false
  | _ => false
theorem two_pick {n id : Nat} {W : RW} {b g : Nat} {o og : Obj} (hn : 0 < n) (hid : id < n) (h0 : id ≠ 0) (hW : W id = some (b, o)) (hg : W 0 = some (g, og)) : ∀ x, sep (spl n W) x -> sep [pt b o, pt g og] x := by
 intro x hx
 have h1 := zqf hid hW x hx
 refine zqd (λ _ y => y) (λ y hy => ?_) h1
 exact stay_var hn (by rw [zqo (Ne.symm h0)]; exact hg) y hy
def CorePost (b : Nat) (o : Obj) (r : KRes) : Ending -> List SP -> Prop := λ e H' => match r with
 | .val v => ∃ u, e = .returned u /\ (∀ (ρ : Rho), R ρ v u) /\ ∀ x, sep H' x -> sep [pt b o] x
 | .map es clk => ∃ b2 es', e = .returned (.map (some b2)) /\ (∀ (ρ : Rho), REs ρ es es') /\ ∀ x, sep H' x -> sep [pt b2 (.map es'.toArray clk), pt b o] x
theorem known_core {P : Program} {kn : List (Nat × List V × KRes)} {vs0 : List (Nat × List V)} (hmix : P.follows .mixedOrders = true) (hNG : (P.funcs.all λ fn => !(fn.name == "runtime.NumGoroutine")) = true) {g n f : Nat} (hs : small g = true) (hKN : KnOk P ⟨varG g, kn, vs0⟩) {cells args : List V} {r : KRes}
  (h : ∀ ty, go P ⟨varG g, kn, vs0⟩ n (.call f args (varM cells ty) (isRes r)) = true) : zqK P f /\ ∀ (rl junk : List Value) (ty : Nat) (fr : Nat × Nat) (us : List Value), FrOk fr (rl ++ junk).length -> RL norho cells rl -> RL norho args us -> Z.Fn P f us [pt g (varO rl junk ty fr)] (CorePost g (varO rl junk ty fr) r) := by
 have hNG' : ∀ (f : Nat) (fn : Func), P.funcs[f]? = some fn -> (fn.name == "runtime.NumGoroutine") = false := by
  intro f fn hf
  have h1 := Array.all_eq_true.1 hNG f (Array.getElem?_eq_some_iff.1 hf).1
  rw [(Array.getElem?_eq_some_iff.1 hf).2] at h1
  simpa using h1
 refine ⟨(go_sound hmix hNG' hKN n _ (h 0)).1, λ rl junk ty fr us hfr hrl hus => ?_⟩
 have hHv : HR (varR g (rl ++ junk).length) (varM cells ty) (varW g (varO rl junk ty fr)) := var_HR hfr hrl
 have spec := (go_sound hmix hNG' hKN n _ (h ty)).2 (varR g (rl ++ junk).length) (varW g (varO rl junk ty fr)) us (CorePost g (varO rl junk ty fr) r) (var_GOk hs) hHv (hus.mono norho_le0) ?_
 ·exact Fn.weak spec λ x hx => zqd (λ _ y => y) (λ y hy => sep_noExt hy) hx
 ·intro e hp2 ρ2 W2 en nx hen hk
  have h0 : W2 0 = some (g, varO rl junk ty fr) := (nx.st (wh 0) (by simp [varM])).eq.symm
  have hn : 0 < hp2.n := nx.hr.rol (wh 0) (by rw [nx.ro]; simp [varM])
  unfold isRes at hk
  cases r with
  | val v =>
   dsimp only at hk ⊢
   split at hk
   ·rename_i v'
    have hpl : ∀ (ρ : Rho) (u : Value), R ρ2 v' u -> R ρ v u := λ ρ u hu => by
     have := (eqP_ok hk)
     rw [<- this.1]; exact this.2 hu
    cases en with
    | returned u => exact ⟨u, rfl, λ ρ => hpl ρ u hen, stay_var hn h0⟩
    | panicked ch => exact hen.elim
    | outgrown => exact hen.elim
   ·cases hk
  | map es clk =>
   dsimp only at hk ⊢
   split at hk
   ·rename_i id
    split at hk
    ·rename_i es' clk' hid
     split at hk
     ·rename_i h1 h2 h3
      have hpl : ∀ (ρ : Rho) (l : List MapEntry), REs ρ2 es' l -> REs ρ es l := λ ρ l hl => by
       have := (eqEs_ok h1)
       rw [<- this.1]; exact this.2 hl
      obtain rfl := beq_tt h2
      have h3 := beq_ff h3
      obtain ⟨b2, c2, es2, hW2, hr2, hes⟩ := nx.hr.map hid
      cases en with
      | returned u =>
       obtain ⟨b3, c3, hr3, rfl⟩ := hen
       rw [hr2] at hr3; cases hr3
       exact ⟨b2, es2, rfl, λ ρ => hpl ρ _ hes, two_pick hn (nx.hr.lt hid) h3 hW2 h0⟩
      | panicked ch => exact hen.elim
      | outgrown => exact hen.elim
     ·cases hk
    ·cases hk
   ·cases hk
section
theorem zkc {P : Program} {kn : List (Nat × List V × KRes)} {vs0 : List (Nat × List V)} (hmix : P.follows .mixedOrders = true) (hNG : (P.funcs.all λ fn => !(fn.name == "runtime.NumGoroutine")) = true) {g n f : Nat} (hs : small g = true) (hKN : KnOk P ⟨varG g, kn, vs0⟩) {cells args : List V} {r : KRes}
  (hcl : eqPs cells cells = true) (har : eqPs args args = true) (h : ∀ ty, go P ⟨varG g, kn, vs0⟩ n (.call f args (varM cells ty) (isRes r)) = true) (kn' : List (Nat × List V × KRes)) : KnC P ⟨varG g, kn', [(0, cells)]⟩ f args r := by
 obtain ⟨hcal, core⟩ := known_core hmix hNG hs hKN h
 refine ⟨hcal, λ ρ W hp us hG hH hm hus => ?_⟩
 simp only [knMem] at hm
 split at hm
 ·rename_i l ty hc
  split at hm
  ·rename_i hl
   obtain rfl := eqIs_ok hl
   obtain ⟨b, o, hW, c, rl, junk, fr, hr, hrl, rfl, hlen, hfr⟩ := hH.rel 0 _ hc
   have hb : b = g := by
    have hg : (⟨varG g, kn', [(0, l)]⟩ : GV).get g = some 0 := by
     show (Tr.set 20 .nil g (some 0)).get g = some 0
     rw [Tr.get_set _ _ _ _ _ (zqz hs)]; simp
    obtain ⟨c', hc'⟩ := hG g 0 hg
    rw [hr] at hc'; cases hc'; rfl
   subst hb
   have hn0 := hH.lt hc
   have spec := core rl junk ty fr us hfr ((zkF hcl).2 hrl) ((zkF har).2 hus)
   have sp2 := zks (R := spl hp.n (upd W 0 none)) spec
   refine Fn_down (Fn.weak sp2 λ x hx => ?_) λ e H' hp' => ?_
   ·have := zqf hn0 hW x hx
    exact this
   ·obtain ⟨H1, hq, rfl⟩ := hp'
    have back : ∀ x, sep ([pt b (varO rl junk ty fr)] ++ spl hp.n (upd W 0 none)) x -> sep (spl hp.n W) x := by
     intro x hx
     have := zxx (W := upd W 0 none) (o := varO rl junk ty fr) hn0 x hx
     rwa [zxT, upd_id (x := some (b, varO rl junk ty fr)) hW] at this
    cases r with
    | val v =>
     obtain ⟨u, rfl, hu, s⟩ := hq
     refine ⟨[pt b (varO rl junk ty fr)] ++ spl hp.n (upd W 0 none), ⟨u, rfl, hu ρ, back⟩, λ x hx => ?_⟩
     rw [zqD] at hx ⊢
     exact zqd (λ _ => s _) (λ _ y => y) hx
    | map es clk =>
     obtain ⟨b2, es', rfl, hes, s⟩ := hq
     refine ⟨[pt b2 (.map es'.toArray clk), pt b (varO rl junk ty fr)] ++ spl hp.n (upd W 0 none), ⟨b2, es', rfl, hes ρ, λ x hx => ?_⟩, λ x hx => ?_⟩
     ·exact zqd (λ _ y => y) (λ y hy => back y hy) hx
     ·rw [zqD] at hx ⊢
      exact zqd (λ _ => s _) (λ _ y => y) hx
  ·cases hm
 ·cases hm
end
open Go.RowKit
end
end Go.Y
namespace Go.Q
open Go.Z Go.Y
noncomputable section
section
theorem eqA_ok : ∀ {a b : List V}, eqA a b = true -> a = b
 | [], [], _ => rfl
 | [], _ :: _, h => by simp [eqA] at h
 | a :: l, [], h => by cases a <;> simp [eqA] at h
 | a :: l, b :: m, h => by
  cases a <;> cases b <;> simp only [eqA] at h <;> first | (cases h; done) | skip
  split at h
  ·rename_i hb
   rw [eqB_ok, decide_eq_true_eq] at hb
   rw [hb, eqA_ok h]
  ·cases h
theorem kn_one {P : Program} {g : Nat} {kn' : List (Nat × List V × KRes)} {vs : List (Nat × List V)} {f : Nat} {args : List V} {r : KRes} {kn : List (Nat × List V × KRes)} (h : KnC P ⟨varG g, kn', vs⟩ f args r)
  (hr : ∀ f' a r', lookK kn f' a = some r' -> KnC P ⟨varG g, kn', vs⟩ f' a r') : ∀ f' a r', lookK ((f, args, r) :: kn) f' a = some r' -> KnC P ⟨varG g, kn', vs⟩ f' a r' := by
 intro f' a r' hl
 simp only [lookK] at hl
 split at hl
 ·rename_i hb
  obtain rfl := beq_tt hb
  split at hl
  ·rename_i ha
   obtain rfl := eqA_ok ha
   cases hl
   exact h
  ·exact hr _ _ _ hl
 ·exact hr _ _ _ hl
end
end
end Go.Q
namespace Go.Q
open Go.Z Go.Y
noncomputable section
theorem end_closed {R v : V} {ρ : Rho} {X2 : Hp} {en : Ending} (hR : vin 0 R = true) (hv : ∀ u, Go.Y.R ρ v u -> Go.Y.R ρ R u) (hen : EndRel ρ (.ret v) en) (hX : Hp.le ρ.x X2) : EndRel (norhoX X2) (.ret R) en := by
 cases en with
 | returned u => exact Go.Y.R.mono ⟨λ id x e => (by rw [zjN (Nat.zero_le _)] at e; cases e), hX⟩ (vin_ok hR (hv u hen))
 | panicked ch => exact hen.elim
 | outgrown => exact hen.elim
def retV (R : V) : E -> Prop := λ e => match e with
 | .ret v => vle v R
 | _ => False
theorem zxJ {P : Program} {G0 G : GQ} {f : Nat} {args : List V} {hp : Mem} {k : KE} {R : V} (h : TaskOk P G0 (.call f args nomem λ e _ => retV R e)) (hg : G0.g.t = .nil) (ha : vins 0 args = true) (hR : vin 0 R = true) (hk : k (.ret R) hp) : TaskOk P G (.call f args hp k) := by
 refine sum_gen h hg (zxp _) ha λ e hp1 hk' => ⟨R, λ ρ W X2 en hH hen hX _ => ?_, hk⟩
 unfold retV at hk'
 split at hk'
 ·exact end_closed hR (λ u hu => vle_ok hk' hu) hen hX
 ·exact hk'.elim
end
end Go.Q
namespace Go.Q
open Go.Z Go.Y
noncomputable section
def told (ids0 : List Nat) (cs : List (Option Chunk)) (j : Nat) : Bool := match (ofMo (ids0.zip cs)).get j with
 | some _ => true
 | none => false
end
end Go.Q
namespace Go.Q
open Go.Z Go.Y
noncomputable section
def AllS (P : Program) (G : GQ) : List (Nat × (List V -> Mem -> KE -> Prop)) -> Prop
 | [] => True
 | p :: l => (∀ args hp k, p.2 args hp k -> TaskOk P G (.call p.1 args hp k)) /\ AllS P G l
theorem fs_all {P : Program} {G : GQ} (h : AllS P G G.fs) : FsOk P G := by
 intro f s hf
 generalize hl : G.fs = l at hf h
 clear hl
 induction l with
 | nil => cases hf
 | cons p l ih =>
  simp only [lookF] at hf
  split at hf
  ·rename_i hb; cases hf; rw [<- beq_tt hb]; exact h.1
  ·exact ih hf h.2
end
end Go.Q
namespace Go.Q
open Go.Z Go.Y
noncomputable section
end
end Go.Q
namespace Go.Q
open Go.Z Go.Y
noncomputable section
end
end Go.Q
namespace Go.Q
open Go.Z Go.Y
noncomputable section
section
theorem ext_at {Γ w : World} {H : List SP} {F : SP} {X : Hp} (hh : Hold Γ H F w) (hs : ∀ x, sep H x -> sep [extSP X] x) : ∀ b o, X b = some o -> w.heap[b]? = some o := by
 intro b o e
 obtain ⟨h1, h2, d, e2, ha, hb⟩ := (hh.weaken hs).heap
 obtain ⟨x, y, d2, rfl, hx, _⟩ := hb
 have h3 : Hp.un x y b = some o := by simp [Hp.un, hx b o e]
 show Z.hp w b = some o
 rw [e2]
 rcases d b with h | h
 ·show (h1 b).or (Hp.un x y b) = some o
  rw [h, h3]; rfl
 ·rw [h3] at h; cases h
def TrulyX (X : Hp) (g : Nat) (o : Obj) : Ending -> List SP -> Prop := λ e H' => e = .returned (.bool true) /\ ∀ x, sep H' x -> sep [pt g o, extSP X] x
theorem var_fnX {X : Hp} {P : Program} {G : GQ} {g f : Nat} {kn : List (Nat × List V × KRes)} {vs0 : List (Nat × List V)} (hs : small g = true) (hg : G.g = ⟨varG g, kn, vs0⟩) {cells args : List V} {vs us : List Value}
  (h : ∀ ty, TaskOk P G (.call f args (varM cells ty) λ e _ => e = .ret (.bool true))) (hc : RL (norhoX X) cells vs) (hus : RL (norhoX X) args us) (junk : List Value) (ty : Nat) :
  Z.Fn P f us [pt g (varO vs junk ty (0, 0)), extSP X] (TrulyX X g (varO vs junk ty (0, 0))) := by
 refine (h ty).2 (varR g (vs ++ junk).length X) (varW g (varO vs junk ty (0, 0)) X) us (TrulyX X g (varO vs junk ty (0, 0))) (by rw [hg]; exact var_GOk hs) (var_HR .zero hc) (hus.mono (zja λ _ _ e => e)) ?_
 intro e hp ρ W en nx hen hk
 subst hk
 cases en with
 | returned u =>
  have hen : u = .bool true := hen
  subst hen
  have h0 := (nx.st (wh 0) (by simp [varM])).eq
  have hn : 0 < hp.n := nx.hr.rol (wh 0) (by rw [nx.ro]; simp [varM])
  exact ⟨rfl, λ x hx => zqd (λ _ y => y) (λ y hy => zkw (show Hp.le X W.x from nx.x rfl) (zkt (W := upd W 0 none) y hy)) (zqf hn h0.symm x hx)⟩
 | panicked ch => exact hen.elim
 | outgrown => exact hen.elim
end
abbrev extG (W : World) (g : Nat) : Hp := λ i => if i = g then none else W.heap[i]?
open Go.RowKit in
theorem calls_varX {P : Program} {f g : Nat} {us : List Value} {o : Obj} (W : World) (hg : W.heap[g]? = some o) (h : Z.Fn P f us [pt g o, extSP (extG W g)] (TrulyX (extG W g) g o)) : Calls P f us.toArray W λ e w' => e = .returned (.bool true) /\ Below W.heap.size W w' := by
 have hlt : g < W.heap.size := (Array.getElem?_eq_some_iff.1 hg).1
 let rest : Hp := λ i => if i = g then none else W.heap[i]?
 have hd : Hp.disj (λ i => if i = g then some o else none) rest := λ i => by
  by_cases hi : i = g
  ·exact .inr (by simp [rest, hi])
  ·exact .inl (by simp [hi])
 have hun : Z.hp W = Hp.un (λ i => if i = g then some o else none) rest := by
  funext i
  by_cases hi : i = g
  ·subst hi; simp only [Hp.un, rest, if_true]; show W.heap[i]? = _; rw [hg]; rfl
  ·simp only [Hp.un, rest, hi, if_false, Option.none_or]; rfl
 have hh : Hold W [pt g o, extSP (extG W g)] (λ x => x = Hp.nil) W :=
  ⟨rfl, rfl, rfl, Hp.nil, _, λ _ => .inl rfl, (Hp.nil_un _).symm, rfl, by rw [hun]; exact ⟨_, rest, hd, rfl, rfl, rest, Hp.nil, Hp.disj_nil _, (Hp.un_nil _).symm, λ b o e => e, trivial⟩⟩
 refine (callsIn_wide (n := 0)).1 (((callsIn_wide (n := 0)).2 (h W _ W hh)).mono λ e w' ⟨H', ⟨p, hH⟩, hh'⟩ => ⟨p, ?_⟩)
 have hh2 : Hold W [pt g o, extSP (extG W g)] (λ x => x = Hp.nil) w' := hh'.weaken hH
 have hb0 := hh2.block Pick.head
 have hx := ext_at hh2 λ x hx => by
  obtain ⟨a, b, d, rfl, _, hb⟩ := hx
  exact sep_up _ d hb
 have hb : ∀ k, k < W.heap.size -> w'.heap[k]? = W.heap[k]? := by
  intro k hk
  by_cases hkg : k = g
  ·subst hkg; rw [hb0, hg]
  ·have e : W.heap[k]? = some W.heap[k] := Array.getElem?_eq_getElem hk
   rw [e]
   exact hx k _ (by show (if k = g then none else W.heap[k]?) = _; rw [if_neg hkg, e])
 refine ⟨hh2.os, hh2.tape, hh2.output, ?_, hb⟩
 rcases Nat.eq_zero_or_pos W.heap.size with h0 | h0
 ·omega
 ·have := hb (W.heap.size - 1) (by omega)
  rw [Array.getElem?_eq_getElem (by omega : W.heap.size - 1 < W.heap.size)] at this
  have := (Array.getElem?_eq_some_iff.1 this).1
  omega
end
end Go.Q
namespace Go.Q
open Go.Z Go.Y
noncomputable section
abbrev nilG : GQ := ⟨⟨.nil, [], []⟩, [], []⟩
def I64 (n : Int) : Prop := -9223372036854775808 <= n /\ n <= 9223372036854775807
def int64 : V -> Option Int
 | .int .i64 n => some n
 | .sint .i64 n => some n
 | _ => none
theorem zqq {v : V} {n : Int} (h : int64 v = some n) : vle v (.sint .i64 n) := by
 unfold int64 at h
 split at h
 ·cases h; exact ⟨rfl, rfl⟩
 ·cases h; exact ⟨rfl, rfl⟩
 ·cases h
def pkS : List Nat -> Tr Chunk -> Option (List Chunk)
 | [], _ => some []
 | i :: ids, t => match t.get i, pkS ids t with | some c, some l => some (c :: l) | _, _ => none
theorem pkS_ok : ∀ {ids : List Nat} {t : Tr Chunk} {l : List Chunk}, pkS ids t = some l -> pk ids t = l.map some
 | [], t, l, h => by cases h; rfl
 | i :: ids, t, l, h => by
  unfold pkS at h
  split at h
  ·rename_i c l' h1 h2
   cases h
   simp only [pk, h1, pkS_ok h2, List.map_cons]
  ·cases h
theorem zqT {P : Program} {gv gf gl gf' gl'} {fi : FI} {c : Code} {ds : List DV} {env : Tr V} {hp : Mem} {k : KK} (h : TaskOk P ⟨⟨.nil, [], []⟩, gf', gl'⟩ (.code fi c ds env hp k)) : TaskOk P ⟨gv, gf, gl⟩ (.code fi c ds env hp k) :=
 λ ρ W ds' L K ro hG hH hE hF hk => h ρ W ds' L K ro (λ g id e => by cases e) hH hE hF hk
theorem zqb (c : Chunk) : chle c c := by
 cases c <;> first | rfl | exact ⟨rfl, rfl, zxp _⟩ | exact ⟨⟨rfl, rfl, rfl, rfl, rfl, rfl, rfl⟩, λ _ _ h => h⟩
def atV (nt n : Nat) (ids rids : List Nat) (fi : FI) (ds : List DV) (hp : Mem) (p : List Chunk -> Prop) : Prop := match Nat.beq fi.nt nt, fi.ro, ds, Nat.beq hp.n n, noLk ids hp.ro, pkS rids hp.t with
 | true, none, [], true, true, some rc => p rc
 | _, _, _, _, _, _ => False
theorem zxD {nt n : Nat} {ids rids : List Nat} {fi : FI} {ds : List DV} {hp : Mem} {p : List Chunk -> Prop} (h : atV nt n ids rids fi ds hp p) : fi = ⟨nt, none⟩ /\ ds = [] /\ hp.n = n /\ noLk ids hp.ro = true /\ ∃ rc, pk rids hp.t = rc.map some /\ p rc := by
 obtain ⟨a, b⟩ := fi
 unfold atV at h
 split at h
 ·rename_i h1 h2 h3 h4 h5
  dsimp only at h1 h2
  exact ⟨by rw [beq_tt h1, h2], rfl, beq_tt h3, h4, _, pkS_ok h5, h⟩
 ·exact h.elim
theorem sum_of1v {P : Program} {G0 G : GQ} {f : Nat} {args args0 : List V} {hp : Mem} {k : KE} {R : V} (h : TaskOk P G0 (.call f args0 nomem λ e _ => retV R e)) (hg : G0.g.t = .nil) (hle : vles args args0) (ha : vins 0 args0 = true) (hR : vin 0 R = true) (hk : k (.ret R) hp) : TaskOk P G (.call f args hp k) := by
 have := zxJ (G := G) (hp := hp) h hg ha hR hk
 exact ⟨this.1, λ ρ W us Post hG hH hus hkk => this.2 ρ W us Post hG hH (zxS hle hus) hkk⟩
end
end Go.Q
namespace Go.Q
open Go.Z Go.Y
open Go.ChangeShapes Go.WideShapes Go.Deep
noncomputable section
section
variable (P : Program) (u8 : Bool)
def shFs (r : TypeId -> Option (List Sh)) : List Field -> Nat -> Option (List Sh)
 | [], _ => some []
 | f :: fs, off => match r f.type with
  | some a => match decide (f.offset = off /\ a.length = P.cellsOf f.type) with
   | true => match shFs r fs (off + a.length) with
    | some b => some (a ++ b)
    | none => none
   | false => none
  | none => none
def notB : List Sh -> Bool
 | .int .u8 :: l => notB l
 | .any :: l => notB l
 | _ :: _ => true
 | [] => false
def shT : Nat -> TypeId -> Option (List Sh)
 | 0, _ => none
 | m + 1, t => match P.underlying t with
  | some .bool => some [.bool]
  | some (.int k) => some [.int k]
  | some .string => some [.str]
  | some (.slice e) => match shT m e with
   | some sh => match decide (sh.length = P.cellsOf e /\ 0 < sh.length), u8 || notB sh with
    | true, true => some [.xs sh]
    | _, _ => none
   | none => none
  | some (.struct fs) => match shFs P (shT m) fs.toList 0 with
   | some sh => match decide (sh.length = P.cellsOf t) with | true => some sh | false => none
   | none => none
  | _ => none
end
mutual
/-- open values, numbers in range, strings and lists that are not too long -/
def okX : V -> Prop
 | .sint k n => k.min <= n /\ n <= k.max
 | .sstr l => l.length <= maxLen
 | .sbool _ => True
 | .xs l _ => l.length <= maxLen /\ okXLL l
 | _ => False
def okXL : List V -> Prop
 | [] => True
 | v :: l => okX v /\ okXL l
def okXLL : List (List V) -> Prop
 | [] => True
 | r :: l => okXL r /\ okXLL l
end
theorem okXL_app : ∀ {l m : List V}, okXL l -> okXL m -> okXL (l ++ m)
 | [], _, _, h => h
 | v :: l, m, h, h' => ⟨h.1, okXL_app h.2 h'⟩
section
theorem RXL_app {X : Hp} : ∀ {l m : List V} {a b : List Value}, RXL X l a -> RXL X m b -> RXL X (l ++ m) (a ++ b)
 | [], _, _, _, h, h' => by rw [show _ = [] from h]; exact h'
 | v :: l, m, _, _, h, h' => by
  obtain ⟨u, us, h1, h2, rfl⟩ := h
  exact ⟨u, us ++ _, h1, RXL_app h2 h', rfl⟩
theorem RXLL_snoc {X : Hp} : ∀ {l : List (List V)} {r : List V} {a b : List Value}, RXLL X l a -> RXL X r b -> RXLL X (l ++ [r]) (a ++ b)
 | [], r, _, b, h, h' => by
  rw [show _ = [] from h]
  exact ⟨b, [], h', rfl, by simp⟩
 | q :: l, r, _, b, h, h' => by
  obtain ⟨x, y, h1, h2, rfl⟩ := h
  exact ⟨x, y ++ b, h1, RXLL_snoc h2 h', by rw [List.append_assoc]⟩
theorem okXLL_snoc : ∀ {l : List (List V)} {r : List V}, okXLL l -> okXL r -> okXLL (l ++ [r])
 | [], r, _, h => ⟨h, trivial⟩
 | q :: l, r, h, h' => ⟨h.1, okXLL_snoc h.2 h'⟩
theorem shR_app : ∀ {s t : List Sh} {l m : List V}, shR s l -> shR t m -> shR (s ++ t) (l ++ m)
 | [], _, _, _, h, h' => by rw [show _ = [] from h]; exact h'
 | q :: s, t, _, m, h, h' => by
  obtain ⟨v, r, rfl, h1, h2⟩ := h
  exact ⟨v, r ++ m, rfl, h1, shR_app h2 h'⟩
end
theorem wf_int {k : IntKind} {n : Int} (h : (Lit.int k n).wf = true) : k.min <= n /\ n <= k.max := by
 unfold Lit.wf at h
 simpa using h
section
variable {H : Type} {enc : TypeId × Value -> H} {P : Program} {w : World} {base : Nat} {spare : Nat -> Bool} {held : Bool} {u8 : Bool}
theorem notB_cell {X : Hp} : ∀ {sh : List Sh} {r : List V} {us : List Value}, notB sh = true -> shR sh r -> RXL X r us -> ∃ (i : Nat) (v : Value), i < us.length /\ us[i]? = some v /\ ∀ n, v ≠ .int .u8 n
 | [], _, _, h, _, _ => by cases h
 | s :: sh, r, us, h, hs, hr => by
  obtain ⟨v, r', rfl, h1, h2⟩ := hs
  obtain ⟨u, us', h3, h4, rfl⟩ := hr
  have onw : notB sh = true -> ∃ (i : Nat) (w : Value), i < (u :: us').length /\ (u :: us')[i]? = some w /\ ∀ n, w ≠ .int .u8 n := λ h => by
   obtain ⟨i, w, g1, g2, g3⟩ := notB_cell h h2 h4
   exact ⟨i + 1, w, by simpa using g1, by simpa using g2, g3⟩
  have here : (∀ n, u ≠ .int .u8 n) -> ∃ (i : Nat) (w : Value), i < (u :: us').length /\ (u :: us')[i]? = some w /\ ∀ n, w ≠ .int .u8 n := λ h => ⟨0, u, by simp, rfl, h⟩
  cases s with
  | int k =>
   obtain ⟨n, hv⟩ := h1
   have hu : u = .int k n := by rcases hv with rfl | rfl <;> exact h3
   cases k <;> first | exact onw h | exact here (λ n e => by rw [hu] at e; cases e)
  | str =>
   obtain ⟨l, hv⟩ := h1
   have hu : u = .string (bs l) := by rcases hv with rfl | rfl <;> exact h3
   exact here (λ n e => by rw [hu] at e; cases e)
  | bool =>
   obtain ⟨l, hv⟩ := h1
   have hu : u = .bool l := by rcases hv with rfl | rfl <;> exact h3
   exact here (λ n e => by rw [hu] at e; cases e)
  | any => exact onw h
  | xs q =>
   obtain ⟨l, rfl⟩ := h1
   obtain ⟨A, c, us2, rfl, _⟩ := h3
   exact here (λ n e => by cases e)
  | kids =>
   obtain ⟨l, rfl⟩ := h1
   obtain ⟨A, c, us2, rfl, _⟩ := h3
   exact here (λ n e => by cases e)
def InExt (X : Hp) (w : World) (u8 : Bool) : Prop := ∀ b cs ty fr, w.heap[b]? = some (.cells cs ty fr) -> (u8 = true \/ ∃ (i : Nat) (v : Value), cs[i]? = some v /\ ∀ n, v ≠ .int .u8 n) -> X b = some (.cells cs ty fr)
theorem cells_at {a : Addr} {us : List Value} (hpos : 0 < us.length) (h : ∀ j, j < us.length -> w.cell? (a.add j) = us[j]?) :
  ∃ b off cs ty fr, a = ⟨b, off, none⟩ /\ w.heap[b]? = some (.cells cs ty fr) /\ (cs.toList.drop off).take us.length = us := by
 obtain ⟨b, off, sp⟩ := a
 have h0 := h 0 hpos
 have h0 : w.cell? ⟨b, off, sp⟩ = us[0]? := h0
 rw [List.getElem?_eq_getElem hpos] at h0
 unfold World.cell? at h0
 dsimp only at h0
 split at h0
 ·rename_i c ty fr hb
  cases sp with
  | some s => simp at h0
  | none =>
   refine ⟨b, off, c, ty, fr, rfl, hb, List.ext_getElem? λ i => ?_⟩
   rcases Nat.lt_or_ge i us.length with hi | hi
   ·have := h i hi
    have e : (Addr.add ⟨b, off, none⟩ i) = ⟨b, off + i, none⟩ := by
     unfold Addr.add
     split
     ·rename_i h; rw [h]; rfl
     ·rfl
    rw [e] at this
    unfold World.cell? at this
    dsimp only at this
    rw [hb] at this
    have this : c[off + i]? = us[i]? := by simpa using this
    rw [List.getElem?_take_of_lt hi, List.getElem?_drop, Array.getElem?_toList, this]
   ·rw [List.getElem?_eq_none (by rw [List.length_take]; omega), List.getElem?_eq_none hi]
 ·cases h0
theorem trod_fs {X : Hp} {r : TypeId -> Option (List Sh)} (ih : ∀ {n : Nat} {t : TypeId} {cs : List Value} {x : DataW H × List MemPlace} {sh : List Sh}, DataW.trod enc P w base spare held n t cs = some x -> r t = some sh -> ∃ vs, RXL X vs cs /\ shR sh vs /\ okXL vs) {n : Nat} {cs : List Value} {xs : List (DataW H × List MemPlace)} :
  ∀ {fs : List Field} {k off : Nat} {sh : List Sh}, shFs P r fs off = some sh -> (∀ (i : Nat) (f : Field), fs[i]? = some f -> DataW.trod enc P w base spare held n f.type ((cs.drop f.offset).take (P.cellsOf f.type)) = xs[k + i]?) -> k + fs.length <= xs.length ->
   ∃ vs, RXL X vs ((cs.drop off).take sh.length) /\ shR sh vs /\ okXL vs /\ vs.length = sh.length
 | [], k, off, sh, h, _, _ => by cases h; exact ⟨[], by simp [RXL], rfl, trivial, rfl⟩
 | f :: fs, k, off, sh, h, hf, hk => by
  simp only [shFs] at h
  split at h
  ·rename_i a ha
   split at h
   ·rename_i hd
    obtain ⟨h1, h2⟩ := of_decide_eq_true hd
    split at h
    ·rename_i b hb
     cases h
     have g0 := hf 0 f rfl
     simp only [List.length_cons] at hk
     rw [Nat.add_zero, List.getElem?_eq_getElem (by omega)] at g0
     obtain ⟨vs, v1, v2, v3⟩ := ih g0 ha
     obtain ⟨us, u1, u2, u3, u4⟩ := trod_fs ih (k := k + 1) hb (λ i f' hf' => by
      have := hf (i + 1) f' (by simpa using hf')
      rw [this]; congr 1; omega) (by omega)
     have hvl : vs.length = a.length := zxz v2
     refine ⟨vs ++ us, ?_, shR_app v2 u2, okXL_app v3 u3, by simp [hvl, u4]⟩
     rw [h1, <- h2] at v1
     have e : (cs.drop off).take (a ++ b).length = (cs.drop off).take a.length ++ (cs.drop (off + a.length)).take b.length := by
      rw [List.length_append, List.take_add, List.drop_drop]
     rw [e]
     exact RXL_app v1 u1
    ·cases h
   ·cases h
  ·cases h
theorem trod_sh {X : Hp} (hx : InExt X w u8) : ∀ {m n : Nat} {t : TypeId} {cs : List Value} {x : DataW H × List MemPlace} {sh : List Sh}, DataW.trod enc P w base spare held n t cs = some x -> shT P u8 m t = some sh -> ∃ vs, RXL X vs cs /\ shR sh vs /\ okXL vs
 | 0, _, _, _, _, _, _, h => by cases h
 | m + 1, n, t, cs, x, sh, ht, h => by
  simp only [shT] at h
  split at h
  ·rename_i hu
   cases h
   obtain ⟨b, rfl, _⟩ := DataW.trod_bool hu ht
   exact ⟨[.sbool b], ⟨_, [], rfl, rfl, rfl⟩, ⟨_, [], rfl, ⟨b, .inl rfl⟩, rfl⟩, trivial, trivial⟩
  ·rename_i k hu
   cases h
   obtain ⟨i, rfl, _, hw⟩ := DataW.trod_int hu ht
   exact ⟨[.sint k i], ⟨_, [], rfl, rfl, rfl⟩, ⟨_, [], rfl, ⟨i, .inl rfl⟩, rfl⟩, wf_int hw, trivial⟩
  ·rename_i hu
   cases h
   obtain ⟨s, rfl, _, hw⟩ := DataW.trod_string hu ht
   refine ⟨[.sstr s.data.toList], ⟨_, [], congrArg Value.string (bs_data _).symm, rfl, rfl⟩, ⟨_, [], rfl, ⟨_, .inl rfl⟩, rfl⟩, ?_, trivial⟩
   show s.data.toList.length <= maxLen
   simpa using hw
  ·rename_i e hu
   split at h
   ·rename_i sh' hs
    split at h
    ·rename_i hd hb
     cases h
     obtain ⟨h1, h2⟩ := of_decide_eq_true hd
     rcases open_slice hu ht with ⟨rfl, _⟩ | ⟨a, len, cap, mm, n', D, Pl, rfl, _, hle, hmx, hmm, _, hel⟩
     ·exact ⟨[.xs [] sh'], ⟨_, [], ⟨none, 0, [], rfl, Nat.le_refl 0, rfl, λ r h => (by cases h), .inl rfl⟩, rfl, rfl⟩, ⟨_, [], rfl, ⟨[], rfl⟩, rfl⟩, ⟨Nat.zero_le _, trivial⟩, trivial⟩
     ·have hlm : len <= mm := by rw [hmm]; split <;> omega
      have key : ∀ k, k <= len -> ∃ (l : List (List V)) (us : List Value), l.length = k /\ us.length = k * sh'.length /\ RXLL X l us /\ (∀ r ∈ l, shR sh' r) /\ okXLL l /\ ∀ j, j < us.length -> w.cell? (a.add j) = us[j]? := by
       intro k
       induction k with
       | zero => exact λ _ => ⟨[], [], rfl, by simp, rfl, λ r h => (by cases h), trivial, λ j hj => by simp at hj⟩
       | succ k ihk =>
        intro hk
        obtain ⟨l, us, l1, l2, l3, l4, l5, l6⟩ := ihk (by omega)
        obtain ⟨cs', c1, c2⟩ := hel k (by omega)
        obtain ⟨_, c3, c4⟩ := World.cells?_some c1
        obtain ⟨r, r1, r2, r3⟩ := trod_sh hx c2 hs
        have hrl : r.length = sh'.length := zxz r2
        have hcl : cs'.length = sh'.length := by rw [c3, h1]
        refine ⟨l ++ [r], us ++ cs', by simp [l1], by rw [List.length_append, l2, hcl, Nat.add_mul, Nat.one_mul], RXLL_snoc l3 r1, λ q hq => ?_, okXLL_snoc l5 r3, λ j hj => ?_⟩
        ·rcases List.mem_append.1 hq with hq | hq
         ·exact l4 q hq
         ·rw [List.mem_singleton.1 hq]; exact r2
        ·rw [List.length_append] at hj
         rcases Nat.lt_or_ge j us.length with hj' | hj'
         ·rw [List.getElem?_append_left hj']; exact l6 j hj'
         ·rw [List.getElem?_append_right hj', <- c4 (j - us.length) (by omega), add_add, <- h1, <- l2]
          congr 2; omega
      obtain ⟨l, us, l1, l2, l3, l4, l5, l6⟩ := key len (Nat.le_refl _)
      refine ⟨[.xs l sh'], ⟨_, [], ⟨some a, cap, us, by rw [l1], by rw [l1]; exact hle, l3, l4, ?_⟩, rfl, rfl⟩, ⟨_, [], rfl, ⟨l, rfl⟩, rfl⟩, ⟨by rw [l1]; omega, l5⟩, trivial⟩
      rcases Nat.eq_zero_or_pos us.length with h0 | h0
      ·exact .inl (List.eq_nil_of_length_eq_zero h0)
      ·obtain ⟨b, off, c, ty, fr, rfl, g1, g2⟩ := cells_at h0 l6
       refine .inr ⟨b, off, c, ty, fr, rfl, hx b c ty fr g1 ?_, g2⟩
       rcases (show u8 = true \/ notB sh' = true by simpa using hb) with hb | hb
       ·exact .inl hb
       ·refine .inr ?_
        cases l with
        | nil => rw [show us = [] from l3] at h0; cases h0
        | cons r l =>
         obtain ⟨x1, x2, y1, y2, rfl⟩ := l3
         obtain ⟨i, v, i1, i2, i3⟩ := notB_cell hb (l4 r List.mem_cons_self) y1
         refine ⟨off + i, v, ?_, i3⟩
         have e1 : ((c.toList.drop off).take (x1 ++ x2).length)[i]? = some v := by
          rw [g2, List.getElem?_append_left i1]; exact i2
         rw [List.getElem?_take_of_lt (by rw [List.length_append]; omega), List.getElem?_drop, Array.getElem?_toList] at e1
         exact e1
    ·cases h
   ·cases h
  ·rename_i fs hu
   split at h
   ·rename_i sh' hs
    split at h
    ·rename_i hd
     cases h
     have hd := of_decide_eq_true hd
     obtain ⟨xs, n', _, _, hcl, hxl, hf⟩ := DataW.trod_struct hu ht
     obtain ⟨vs, v1, v2, v3, v4⟩ := trod_fs (λ h1 h2 => trod_sh hx h1 h2) (k := 0) hs (λ i f hi => by
      rw [Nat.zero_add]
      exact hf i f (by simpa using hi)) (by simp [hxl])
     rw [List.drop_zero, List.take_of_length_le (by omega)] at v1
     exact ⟨vs, v1, v2, v3⟩
    ·cases h
   ·cases h
  ·cases h
theorem arg_slice {X : Hp} (hx : InExt X w u8) {r : Reach} {b0 : Nat} {t e : TypeId} {v : Value} {d : DataW H} {ps : List MemPlace} {m : Nat} {sh : List Sh} (hu : P.underlying t = some (.slice e)) (hv : Value.okWide P w r b0 t v) (h : DataW.Trod enc P w base spare held t v d ps) (hs : shT P u8 m t = some [.xs sh]) :
  ∃ l, RX X (.xs l sh) v /\ (∀ r ∈ l, shR sh r) /\ okX (.xs l sh) := by
 obtain ⟨A, len, cap, rfl⟩ := okWide_slice hu hv
 obtain ⟨n, h⟩ := h
 obtain ⟨vs, h1, h2, h3⟩ := trod_sh hx h hs
 obtain ⟨q, r', rfl, ⟨l, rfl⟩, h4⟩ := h2
 have h4 : r' = [] := h4
 subst h4
 obtain ⟨u, us, g1, g2, g3⟩ := h1
 have g2 : us = [] := g2
 subst g2
 simp [Value.cells] at g3
 subst g3
 refine ⟨l, g1, ?_, h3.1⟩
 obtain ⟨_, _, _, _, _, _, g, _⟩ := g1
 exact g
end
theorem inExt_G {W : World} {g : Nat} (hg : ∀ cs ty fr, W.heap[g]? = some (.cells cs ty fr) -> ∀ (i : Nat) v, cs[i]? = some v -> ∃ n, v = .int .u8 n) : InExt (extG W g) W false := λ b cs ty fr h h' => by
 show (if b = g then none else W.heap[b]?) = _
 rcases h' with h' | ⟨i, v, h1, h2⟩
 ·cases h'
 ·rw [if_neg λ e => by
   subst e
   obtain ⟨n, hn⟩ := hg cs ty fr h i v h1
   exact h2 n hn]
  exact h
end
end Go.Q
namespace Go.Q
open Go.Z Go.Y
noncomputable section
theorem RL_RXL {ρ : Rho} {X : Hp} (hX : Hp.le ρ.x X) : ∀ {sh : List Sh} {r : List V} {us : List Value}, noAny sh = true -> shR sh r -> RL ρ r us -> RXL X r us
 | [], r, us, _, hs, h => by rw [show r = [] from hs] at h ⊢; exact h
 | s :: sh, r, us, hn, hs, h => by
  obtain ⟨v, r', rfl, hs1, hs2⟩ := hs
  obtain ⟨u, us', h1, h2, rfl⟩ := h
  have hn' : noAny sh = true := by cases s <;> first | exact hn | cases hn
  refine ⟨u, us', ?_, RL_RXL hX hn' hs2 h2, rfl⟩
  cases s with
  | int k => obtain ⟨i, rfl | rfl⟩ := hs1 <;> exact h1
  | str => obtain ⟨i, rfl | rfl⟩ := hs1 <;> exact h1
  | bool => obtain ⟨i, rfl | rfl⟩ := hs1 <;> exact h1
  | any => cases hn
  | xs q => obtain ⟨l, rfl⟩ := hs1; exact RX.mono hX h1
  | kids => obtain ⟨l, rfl⟩ := hs1; exact RX.mono hX h1
theorem RL_RXLL {ρ : Rho} {X : Hp} (hX : Hp.le ρ.x X) {sh : List Sh} (hn : noAny sh = true) : ∀ {l : List (List V)} {us : List Value}, (∀ r ∈ l, shR sh r) -> RL ρ l.flatten us -> RXLL X l us
 | [], us, _, h => h
 | r :: l, us, hs, h => by
  rw [List.flatten_cons] at h
  have h1 := h.take r.length
  have h2 := h.drop r.length
  rw [List.take_left'] at h1
  rw [List.drop_left'] at h2
  ·exact ⟨_, _, RL_RXL hX hn (hs r List.mem_cons_self) h1, RL_RXLL hX hn (λ x hx => hs x (List.mem_cons_of_mem _ hx)) h2, (List.take_append_drop _ _).symm⟩
  all_goals rfl
mutual
/-- a value, as one that needs no numbers: what its slices lie in stays -/
def frz (t : Tr Chunk) : V -> V -> Prop
 | .ssl id i len sz, .xs l sh => ∃ c1 L ty, t.get id = some c1 /\ chle c1 (.rowsO L sh ty) /\ sh.length = sz /\ noAny sh = true /\ l = (L.drop i).take len /\ l.length = len
 | .nils, .xs l sh => l = []
 | .agg l, .agg m => frzs t l m
 | .tup l, .tup m => frzs t l m
 | v, w => vle v w /\ vin 0 w = true
def frzs (t : Tr Chunk) : List V -> List V -> Prop
 | [], [] => True
 | v :: l, w :: m => frz t v w /\ frzs t l m
 | _, _ => False
end
mutual
theorem frz_ok {ρ : Rho} {hp : Mem} {W : RW} {X : Hp} (hH : HR ρ hp W) (hX : Hp.le ρ.x X) (hp2 : ∀ id b o, id < hp.n -> W id = some (b, o) -> X b = some o) : ∀ {v w : V} {u : Value}, frz hp.t v w -> R ρ v u -> R (norhoX X) w u := by
 intro v w u h hv
 unfold frz at h
 split at h
 ·rename_i id i len sz l sh
  obtain ⟨c1, L, ty, h1, h2, rfl, h4, rfl, h6⟩ := h
  have nil : (L.drop i).take len = [] -> ∀ (A : Option Addr) c, u = .slice A 0 c -> R (norhoX X) (.xs ((L.drop i).take len) sh) u := λ e A c hu => by
   rw [e]
   exact ⟨A, c, [], hu, Nat.zero_le _, rfl, λ r hr => (by cases hr), .inl rfl⟩
  rcases hv with ⟨h0, hu⟩ | ⟨b, c, hr, hu, hle⟩
  ·exact nil (List.eq_nil_of_length_eq_zero (by omega)) none 0 hu
  ·obtain ⟨b2, o, hW, hc⟩ := hH.rel id c1 h1
   obtain ⟨⟨c0, hc0⟩, hc⟩ := zkH h2 hc
   rcases hc with rfl | ⟨c2, rl, junk, fr, g1, g2, g3, rfl, g5, g6⟩
   ·have : len = 0 := by simpa using h6.symm
    subst this
    exact nil (by simp) _ _ hu
   ·rw [g1] at hr; cases hr
    have hl : ∀ r ∈ L, r.length = sh.length := λ r hr => zxz (g3 r hr)
    have hs : ∀ r ∈ (L.drop i).take len, shR sh r := λ r hr => g3 r (List.mem_of_mem_drop (List.mem_of_mem_take hr))
    have hrl : rl.length = L.length * sh.length := by rw [g2.length, zkg hl]
    have hr2 : RL ρ ((L.drop i).take len).flatten ((rl.drop (i * sh.length)).take (len * sh.length)) := by
     rw [zjo λ r hr => hl r (List.mem_of_mem_drop hr), zxB hl]
     exact (g2.drop _).take _
    have hlen : ((rl.drop (i * sh.length)).take (len * sh.length)).length = len * sh.length := by
     rw [hr2.length, zkg λ r hr => hl r (List.mem_of_mem_drop (List.mem_of_mem_take hr)), h6]
    refine ⟨some ⟨b, i * sh.length, none⟩, c - i, _, by rw [hu, h6], by rw [h6]; exact hle, RL_RXLL hX h4 hs hr2, hs, ?_⟩
    rcases Nat.eq_zero_or_pos (len * sh.length) with hz | hz
    ·exact .inl (List.eq_nil_of_length_eq_zero (by rw [hlen, hz]))
    ·refine .inr ⟨b, i * sh.length, _, ty, fr, rfl, hp2 id _ _ (hH.lt h1) hW, ?_⟩
     rw [hlen, List.toList_toArray]
     have hroom : i * sh.length + len * sh.length <= rl.length := by
      rw [List.length_take, List.length_drop] at hlen
      omega
     rw [zqs hroom]
 ·rename_i l sh
  subst h
  exact ⟨none, 0, [], hv, Nat.le_refl 0, rfl, λ r hr => (by cases hr), .inl rfl⟩
 ·obtain ⟨l', h1, rfl⟩ := hv; exact ⟨l', frzs_ok hH hX hp2 h h1, rfl⟩
 ·obtain ⟨l', h1, rfl⟩ := hv; exact ⟨l', frzs_ok hH hX hp2 h h1, rfl⟩
 ·exact Go.Y.R.mono ⟨λ id x e => (by rw [zjN (Nat.zero_le _)] at e; cases e), hX⟩ (vin_ok h.2 (vle_ok h.1 hv))
theorem frzs_ok {ρ : Rho} {hp : Mem} {W : RW} {X : Hp} (hH : HR ρ hp W) (hX : Hp.le ρ.x X) (hp2 : ∀ id b o, id < hp.n -> W id = some (b, o) -> X b = some o) : ∀ {l m : List V} {us : List Value}, frzs hp.t l m -> RL ρ l us -> RL (norhoX X) m us
 | [], [], _, _, h => h
 | v :: l, w :: m, us, h, hl => by obtain ⟨u, us', h1, h2, rfl⟩ := hl; exact .cons (frz_ok hH hX hp2 h.1 h1) (frzs_ok hH hX hp2 h.2 h2)
 | [], _ :: _, _, h, _ => h.elim
 | _ :: _, [], _, h, _ => h.elim
end
theorem call_fz {P : Program} {G0 G : GQ} {f : Nat} {args args0 : List V} {hp : Mem} {k : KE} {K0 : V -> Prop} (h : TaskOk P G0 (.call f args0 nomem λ e hp1 => ∃ v R, e = .ret v /\ frz hp1.t v R /\ K0 R)) (hg : G0.g.t = .nil) (hle : vles args args0) (ha : vins 0 args0 = true)
  (hk : ∀ R, K0 R -> k (.ret R) hp) : TaskOk P G (.call f args hp k) := by
 refine sum_gen h hg hle ha λ e hp1 ⟨v, R, he, hf, hK⟩ => ⟨R, λ ρ W X2 en hH hen hX h2 => ?_, hk R hK⟩
 subst he
 cases en with
 | returned u => exact frz_ok hH hX h2 hf hen
 | panicked ch => exact hen.elim
 | outgrown => exact hen.elim
end
end Go.Q
namespace Go.Q
open Go.Z Go.Y
noncomputable section
def rowB (f : Sh -> V -> V -> Bool) : List Sh -> List V -> List V -> Bool
 | [], [], _ => true
 | s :: sh, w :: r, v :: cs => match f s v w with | true => rowB f sh r cs | false => false
 | _, _, _ => false
def rowsB (f : Sh -> V -> V -> Bool) (sh : List Sh) : List (List V) -> List V -> Bool
 | [], _ => true
 | r :: l, cs => match rowB f sh r cs with | true => rowsB f sh l (cs.drop sh.length) | false => false
def fzB : Nat -> Tr Chunk -> Sh -> V -> V -> Bool
 | 0, _, _, _, _ => false
 | n + 1, t, .int k, .int k1 a, .int k2 b => match ikeq k k1, ikeq k k2 with | true, true => eqI a b | _, _ => false
 | n + 1, t, .str, .str a, .str b => eqB a b
 | n + 1, t, .bool, .bool a, .bool b => a == b
 | n + 1, t, .kids, .nils, .xs l sh => match l with | [] => sheqs sh nodeSh | _ => false
 | n + 1, t, .kids, .sle, .xs l sh => match l with | [] => sheqs sh nodeSh | _ => false
 | n + 1, t, .kids, .sl id i off len cap, .xs l sh => match sheqs sh nodeSh, id, t.get id with
  | true, id + 1, some (.cells cs ty 5) => match Nat.beq l.length len with | true => rowsB (fzB n t) nodeSh l (cs.drop off) | false => false
  | _, _, _ => false
 | _ + 1, _, _, _, _ => false
def Keeps (n : Nat) (W : RW) (X : Hp) : Prop := ∀ id b o, id ≠ 0 -> id < n -> W id = some (b, o) -> X b = some o
theorem rowB_ok {f : Sh -> V -> V -> Bool} {ρ : Rho} {X : Hp} (hf : ∀ {s v w u}, f s v w = true -> R ρ v u -> RX X w u /\ shV s w) : ∀ {sh : List Sh} {r cs : List V} {us : List Value}, rowB f sh r cs = true -> RL ρ cs us -> RXL X r (us.take sh.length) /\ shR sh r /\ sh.length <= us.length
 | [], [], cs, us, _, _ => ⟨rfl, rfl, Nat.zero_le _⟩
 | s :: sh, w :: r, v :: cs, us, h, hl => by
  simp only [rowB] at h
  split at h
  ·rename_i h1
   obtain ⟨u, us', hu, hl', rfl⟩ := hl
   obtain ⟨a1, a2, a3⟩ := rowB_ok hf h hl'
   obtain ⟨b1, b2⟩ := hf h1 hu
   exact ⟨⟨u, _, b1, a1, rfl⟩, ⟨w, r, rfl, b2, a2⟩, by simpa using a3⟩
  ·cases h
 | [], _ :: _, _, _, h, _ => by simp [rowB] at h
 | _ :: _, [], _, _, h, _ => by simp [rowB] at h
 | _ :: _, _ :: _, [], _, h, _ => by simp [rowB] at h
theorem rowsB_ok {f : Sh -> V -> V -> Bool} {ρ : Rho} {X : Hp} (hf : ∀ {s v w u}, f s v w = true -> R ρ v u -> RX X w u /\ shV s w) {sh : List Sh} : ∀ {l : List (List V)} {cs : List V} {us : List Value}, rowsB f sh l cs = true -> RL ρ cs us -> RXLL X l (us.take (l.length * sh.length)) /\ (∀ r ∈ l, shR sh r) /\ l.length * sh.length <= us.length
 | [], cs, us, _, _ => ⟨by simp only [List.length_nil, Nat.zero_mul, List.take_zero]; rfl, λ r hr => (by cases hr), by simp⟩
 | r :: l, cs, us, h, hl => by
  simp only [rowsB] at h
  split at h
  ·rename_i h1
   obtain ⟨a1, a2, a3⟩ := rowB_ok hf h1 hl
   obtain ⟨b1, b2, b3⟩ := rowsB_ok hf h (hl.drop _)
   rw [List.length_drop] at b3
   have e : (r :: l).length * sh.length = sh.length + l.length * sh.length := by rw [List.length_cons, Nat.succ_mul, Nat.add_comm]
   refine ⟨⟨_, _, a1, b1, by rw [e, List.take_add]⟩, λ x hx => ?_, by rw [e]; omega⟩
   cases hx with
   | head => exact a2
   | tail _ hx => exact b2 x hx
  ·cases h
theorem xat_of {X : Hp} {b off m ty : Nat} {fr : Nat × Nat} {rl junk : List Value} (a3 : m <= rl.length - off) (hX : X b = some (.cells (rl ++ junk).toArray ty fr)) : Xat X (some ⟨b, off, none⟩) ((rl.drop off).take m) := by
 by_cases hz : rl.drop off = []
 ·rw [hz]; exact .inl (by simp)
 ·refine .inr ⟨_, _, _, _, fr, rfl, hX, ?_⟩
  rw [List.toList_toArray, List.length_take, List.length_drop, Nat.min_eq_left (by omega)]
  have hlt : off <= rl.length := by
   rcases Nat.lt_or_ge rl.length off with hh | hh
   ·exact absurd (List.drop_eq_nil_of_le (Nat.le_of_lt hh)) hz
   ·exact hh
  rw [List.drop_append_of_le_length hlt, List.take_append_of_le_length (by rw [List.length_drop]; omega)]
theorem fzB_ok {ρ : Rho} {hp : Mem} {W : RW} {X : Hp} (hH : HR ρ hp W) (hk : Keeps hp.n W X) : ∀ {n : Nat} {s : Sh} {v w : V} {u : Value}, fzB n hp.t s v w = true -> R ρ v u -> RX X w u /\ shV s w := by
 intro n
 induction n with
 | zero => intro s v w u h; simp [fzB] at h
 | succ n ih =>
  have nil : ∀ {A c sh}, sheqs sh nodeSh = true -> RX X (.xs [] sh) (.slice A 0 c) /\ shV .kids (.xs [] sh) := λ {A c sh} e =>
   ⟨⟨A, c, [], rfl, Nat.zero_le _, rfl, λ r hr => (by cases hr), .inl rfl⟩, ⟨[], by rw [zxV e]⟩⟩
  intro s v w u h hv
  unfold fzB at h
  split at h
  ·cases h
  ·rename_i hn; cases hn
   split at h
   ·rename_i h1 h2
    rw [eqI_ok, decide_eq_true_eq] at h
    obtain rfl := zqZ h1; obtain rfl := zqZ h2; subst h
    exact ⟨hv, ⟨_, .inr rfl⟩⟩
   ·cases h
  ·rw [eqB_ok, decide_eq_true_eq] at h; subst h
   exact ⟨hv, ⟨_, .inr rfl⟩⟩
  ·rw [beq_iff_eq] at h; subst h
   exact ⟨hv, ⟨_, .inr rfl⟩⟩
  ·split at h
   ·rw [show u = _ from hv]; exact nil h
   ·cases h
  ·split at h
   ·obtain ⟨A, c, rfl⟩ := hv; exact nil h
   ·cases h
  ·rename_i hn; cases hn
   split at h
   ·rename_i h1 h2
    split at h
    ·rename_i h3
     obtain rfl := beq_tt h3
     obtain rfl := zxV h1
     obtain ⟨b, c, hr, rfl, hle⟩ := hv
     obtain ⟨b2, o, hW, c2, rl, junk, fr, g1, g2, rfl, g4, g5⟩ := hH.rel _ _ h2
     rw [g1] at hr; cases hr
     obtain ⟨a1, a2, a3⟩ := rowsB_ok (ih) h (g2.drop _)
     rw [List.length_drop] at a3
     refine ⟨⟨_, _, _, rfl, hle, a1, a2, ?_⟩, ⟨_, rfl⟩⟩
     exact xat_of a3 (hk _ _ _ (Nat.succ_ne_zero _) (hH.lt h2) hW)
    ·cases h
   ·cases h
  ·cases h
def fz1 (t : Tr Chunk) : V -> V -> Bool
 | .agg l, .agg m => rowB (fzB 40 t) nodeSh m l && Nat.beq l.length 5
 | .nils, .xs [] _ => true
 | .int k a, .int k2 b => fzB 1 t (.int k) (.int k a) (.int k2 b)
 | .bool a, .bool b => a == b
 | _, _ => false
def fzs (t : Tr Chunk) : List V -> List V -> Bool
 | [], [] => true
 | v :: l, w :: m => match fz1 t v w with | true => fzs t l m | false => false
 | _, _ => false
theorem fz1_ok {ρ : Rho} {hp : Mem} {W : RW} {X : Hp} (hH : HR ρ hp W) (hk : Keeps hp.n W X) {v w : V} {u : Value} (h : fz1 hp.t v w = true) (hv : R ρ v u) : R (norhoX X) w u := by
 have RXR : ∀ {s : Sh} {w : V} {u : Value}, s ≠ .any -> shV s w -> RX X w u -> R (norhoX X) w u := by
  intro s w u hne hs hx
  cases s with
  | int k => obtain ⟨i, rfl | rfl⟩ := hs <;> exact hx
  | str => obtain ⟨i, rfl | rfl⟩ := hs <;> exact hx
  | bool => obtain ⟨i, rfl | rfl⟩ := hs <;> exact hx
  | any => exact absurd rfl hne
  | xs q => obtain ⟨l, rfl⟩ := hs; exact hx
  | kids => obtain ⟨l, rfl⟩ := hs; exact hx
 have RXLR : ∀ {sh : List Sh} {r : List V} {us : List Value}, noAny sh = true -> shR sh r -> RXL X r us -> RL (norhoX X) r us := by
  intro sh
  induction sh with
  | nil => intro r us _ hs h; rw [show r = [] from hs] at h ⊢; exact h
  | cons s sh ih =>
   intro r us hn hs h
   obtain ⟨w, r', rfl, h1, h2⟩ := hs
   obtain ⟨u, us', g1, g2, rfl⟩ := h
   have hn' : noAny sh = true := by cases s <;> first | exact hn | cases hn
   exact .cons (RXR (λ e => by subst e; cases hn) h1 g1) (ih hn' h2 g2)
 unfold fz1 at h
 split at h
 ·rename_i l m
  rw [Bool.and_eq_true] at h
  obtain ⟨us, hl, rfl⟩ := hv
  obtain ⟨a1, a2, a3⟩ := rowB_ok (fzB_ok hH hk) h.1 hl
  have : us.length = 5 := by rw [hl.length]; exact Nat.eq_of_beq_eq_true h.2
  rw [List.take_of_length_le (by rw [this]; exact Nat.le_refl 5)] at a1
  exact ⟨us, RXLR rfl a2 a1, rfl⟩
 ·exact ⟨none, 0, [], hv, Nat.le_refl 0, rfl, λ r hr => (by cases hr), .inl rfl⟩
 ·obtain ⟨h1, h2⟩ := fzB_ok hH hk h hv
  exact RXR (by simp) h2 h1
 ·rw [beq_iff_eq] at h; subst h; exact hv
 ·cases h
def isFz (w : List V) : Go.Y.KE := λ e hp => match e with
 | .ret (.tup l) => fzs hp.t l w
 | _ => false
theorem fzs_ok {ρ : Rho} {hp : Mem} {W : RW} {X : Hp} (hH : HR ρ hp W) (hk : Keeps hp.n W X) : ∀ {l m : List V} {us : List Value}, fzs hp.t l m = true -> RL ρ l us -> RL (norhoX X) m us
 | [], [], us, _, h => h
 | v :: l, w :: m, us, h, hl => by
  simp only [fzs] at h
  split at h
  ·rename_i h1
   obtain ⟨u, us', g1, g2, rfl⟩ := hl
   exact .cons (fz1_ok hH hk h1 g1) (fzs_ok hH hk h g2)
  ·cases h
 | [], _ :: _, _, h, _ => by simp [fzs] at h
 | _ :: _, [], _, h, _ => by simp [fzs] at h
theorem core_fz {P : Program} {f g : Nat} {us : List Value} {k : E -> Mem -> Prop} {o : Obj} {W0 : RW} {w : V}
  (spec : ∀ Post : Ending -> List SP -> Prop, (∀ e hp ρ W en, HR ρ hp W -> Hp.le W0.x W.x -> 0 < hp.n -> W 0 = some (g, o) -> EndRel ρ e en -> k e hp -> Post en (spl hp.n W)) -> Z.Fn P f us (spl 1 W0) Post) (hW0 : W0 0 = some (g, o))
  (hk : ∀ e hp ρ W X2 en, HR ρ hp W -> Hp.le ρ.x X2 -> Keeps hp.n W X2 -> EndRel ρ e en -> k e hp -> EndRel (norhoX X2) (.ret w) en) :
  Z.Fn P f us [pt g o, extSP W0.x] (λ e H' => ∃ X2, Hp.le W0.x X2 /\ EndRel (norhoX X2) (.ret w) e /\ ∀ x, sep H' x -> sep [pt g o, extSP X2] x) := by
 have s1 := spec (λ e H' => ∃ ev hp ρ W, HR ρ hp W /\ Hp.le W0.x W.x /\ 0 < hp.n /\ W 0 = some (g, o) /\ EndRel ρ ev e /\ k ev hp /\ H' = spl hp.n W) λ e hp ρ W en h1 h2 h3 h4 h5 h6 => ⟨e, hp, ρ, W, h1, h2, h3, h4, h5, h6, rfl⟩
 have hs : spl 1 W0 = [pt g o, extSP W0.x] := by
  show optSP (W0 0) :: [extSP W0.x] = _
  rw [hW0]; rfl
 rw [hs] at s1
 intro Γ F w' hh
 refine (callsIn_wide (n := 0)).1 (((callsIn_wide (n := 0)).2 (s1 Γ F w' hh)).mono λ e w2 ⟨H1, ⟨ev, hp, ρ, W, hH, hX, hn, hW, hen, hkk, hH1⟩, hh'⟩ => ?_)
 subst hH1
 obtain ⟨h1, h2, d, e2, ha, hb⟩ := hh'.heap
 obtain ⟨x, y, d2, rfl, hx, hy⟩ := zqf hn hW h2 hb
 have hle : Hp.le W.x y := by
  obtain ⟨x2, y2, d3, rfl, hx2, _⟩ := zkt y hy
  intro b o e
  simp [Hp.un, hx2 b o e]
 have hpc : Keeps hp.n W y := λ id b o h0 hid hW2 => by
  obtain ⟨x2, y2, d3, rfl, hx2, _⟩ := zqf (W := upd W 0 none) hid (by rw [zqo h0]; exact hW2) y hy
  have hx2 : x2 = _ := hx2
  rw [hx2]
  simp [Hp.un]
 refine ⟨[pt g o, extSP y], ⟨y, λ b o e => hle b o (hX b o e), hk ev hp ρ W y e hH (by rw [<- hH.ext]; exact hle) hpc hen hkk, λ x hx => hx⟩, hh'.os, hh'.tape, hh'.output, h1, _, d, e2, ha, ?_⟩
 exact ⟨x, y, d2, rfl, hx, y, Hp.nil, Hp.disj_nil _, (Hp.un_nil _).symm, λ b o e => e, trivial⟩
theorem call_core {P : Program} {G : GQ} {f g : Nat} {args cells : List V} {hp : Mem} {k : KE} {w : V} (hc : zqK P f) (hg : G.g.get g = some 0) {ty : Nat} (hm : hp.t.get 0 = some (.cells cells ty 1)) (hcl : eqPs cells cells = true) (har : eqPs args args = true)
  (core : ∀ X rl junk fr us, FrOk fr (rl ++ junk).length -> RL (norhoX X) cells rl -> RL (norhoX X) args us -> Z.Fn P f us [pt g (varO rl junk ty fr), extSP X] (λ e H' => ∃ X2, Hp.le X X2 /\ EndRel (norhoX X2) (.ret w) e /\ ∀ x, sep H' x -> sep [pt g (varO rl junk ty fr), extSP X2] x))
  (hk : k (.ret w) hp) : TaskOk P G (.call f args hp k) := by
 refine ⟨hc, λ ρ W us Post hG hH hus hkk => ?_⟩
 obtain ⟨b, o, hW, c, rl, junk, fr, hr, hrl, rfl, hlen, hfr⟩ := hH.rel 0 _ hm
 have hb : b = g := by
  obtain ⟨c', hc'⟩ := hG g 0 hg
  rw [hr] at hc'; cases hc'; rfl
 subst hb
 have hn0 := hH.lt hm
 have spec := core ρ.x rl junk fr us hfr ((zkF hcl).2 hrl) ((zkF har).2 hus)
 refine Fn_down (Fn.weak (zks (R := splR hp.n (upd W 0 none)) spec) λ x hx => ?_) λ e H' hh => ?_
 ·refine zqd (λ _ y => y) (λ y hy => ?_) (zqf hn0 hW x hx)
  have := (zxg y).1 hy
  rwa [show (upd W 0 none).x = ρ.x from hH.ext] at this
 ·obtain ⟨H1, ⟨X2, hle, he, hb⟩, rfl⟩ := hh
  refine ⟨spl hp.n ⟨W.f, X2⟩, hkk (.ret w) hp ⟨ρ.f, X2⟩ ⟨W.f, X2⟩ e ⟨⟨λ _ _ e => e, hle⟩, hH.grow hle, rfl, λ _ _ => .refl⟩ (he.mono (zja λ _ _ e => e)) hk, λ x hx => ?_⟩
  rw [zqD] at hx
  have h2 := zqd (λ y hy => hb y hy) (λ _ y => y) hx
  rw [<- zqD] at h2
  have h3 : star (pt b (varO rl junk ty fr)) (sep (spl hp.n ⟨(upd W 0 none).f, X2⟩)) x := by
   refine zqd (λ _ y => y) (λ y hy => ?_) h2
   refine (zxg y).2 ?_
   rw [splR_x (Y := W.x)]
   exact hy
  have h4 := zxx (W := ⟨(upd W 0 none).f, X2⟩) hn0 x h3
  have e1 : upd (⟨(upd W 0 none).f, X2⟩ : RW) 0 (some (b, varO rl junk ty fr)) = ⟨W.f, X2⟩ := by
   refine Fm.ext (funext λ j => ?_) rfl
   show (if j = 0 then some (b, varO rl junk ty fr) else if j = 0 then none else W.f j) = W.f j
   by_cases hj : j = 0
   ·subst hj; rw [if_pos rfl]; exact hW.symm
   ·rw [if_neg hj, if_neg hj]
  rwa [e1] at h4
theorem zjA {P : Program} {kn : List (Nat × List V × KRes)} {vs0 : List (Nat × List V)} (hmix : P.follows .mixedOrders = true) (hNG : ∀ (f : Nat) (fn : Func), P.funcs[f]? = some fn -> (fn.name == "runtime.NumGoroutine") = false) {g n f : Nat} (hs : small g = true) (hKN : KnOk P ⟨varG g, kn, vs0⟩) {cells args w : List V}
  (hcl : eqPs cells cells = true) (har : eqPs args args = true) (h : ∀ ty, Go.Y.go P ⟨varG g, kn, vs0⟩ n (.call f args (varM cells ty) (isFz w)) = true)
  {G : GQ} {hp : Mem} {k : KE} (hg : G.g.get g = some 0) {ty : Nat} (hm : hp.t.get 0 = some (.cells cells ty 1)) (hk : k (.ret (.tup w)) hp) : TaskOk P G (.call f args hp k) := by
 refine call_core (Go.Y.go_sound hmix hNG hKN n _ (h 0)).1 hg hm hcl har (λ X rl junk fr us hfr hrl hus => ?_) hk
 refine core_fz (W0 := varW g (varO rl junk ty fr) X) (k := λ e hp => isFz w e hp = true) (λ Post hPost => ?_) rfl λ e hp ρ W X2 en hH hle hkp hen hz => ?_
 ·refine (Go.Y.go_sound hmix hNG hKN n _ (h ty)).2 (varR g (rl ++ junk).length X) (varW g (varO rl junk ty fr) X) us Post (var_GOk hs) (var_HR hfr hrl) (hus.mono (zja λ _ _ e => e)) ?_
  intro e hp ρ W en nx hen hz
  have h0 : W 0 = some (g, varO rl junk ty fr) := (nx.st (wh 0) (by simp [varM])).eq.symm
  have hn : 0 < hp.n := nx.hr.rol (wh 0) (by rw [nx.ro]; simp [varM])
  exact hPost e hp ρ W en nx.hr (nx.x rfl) hn h0 hen hz
 ·unfold isFz at hz
  split at hz
  ·cases en with
   | returned u =>
    obtain ⟨us, hl, rfl⟩ := hen
    exact ⟨us, fzs_ok hH hkp hz hl, rfl⟩
   | panicked ch => exact hen.elim
   | outgrown => exact hen.elim
  ·cases hz
theorem call_qv {P : Program} {G0 : GQ} {kn : List (Nat × List V × KRes)} {vs0 : List (Nat × List V)} {g f : Nat} (hs : small g = true) (h0 : G0.g = ⟨varG g, kn, vs0⟩) {cells args : List V} {w : V} (hcl : eqPs cells cells = true) (har : eqPs args args = true) (hR : vin 0 w = true)
  (h : ∀ ty, TaskOk P G0 (.call f args (varM cells ty) λ e _ => retV w e)) {G : GQ} {hp : Mem} {k : KE} (hg : G.g.get g = some 0) {ty : Nat} (hm : hp.t.get 0 = some (.cells cells ty 1)) (hk : k (.ret w) hp) : TaskOk P G (.call f args hp k) := by
 refine call_core (h 0).1 hg hm hcl har (λ X rl junk fr us hfr hrl hus => ?_) hk
 refine core_fz (W0 := varW g (varO rl junk ty fr) X) (k := λ e hp => retV w e) (λ Post hPost => ?_) rfl λ e hp ρ W X2 en hH hle hkp hen hz => ?_
 ·refine (h ty).2 (varR g (rl ++ junk).length X) (varW g (varO rl junk ty fr) X) us Post (by rw [h0]; exact var_GOk hs) (var_HR hfr hrl) (hus.mono (zja λ _ _ e => e)) ?_
  intro e hp ρ W en nx hen hz
  have h0 : W 0 = some (g, varO rl junk ty fr) := (nx.st (wh 0) (by simp [varM])).eq.symm
  have hn : 0 < hp.n := nx.hr.rol (wh 0) (by rw [nx.ro]; simp [varM])
  exact hPost e hp ρ W en nx.hr (nx.x rfl) hn h0 hen hz
 ·unfold retV at hz
  split at hz
  ·refine end_closed hR (λ u hu => vle_ok hz hu) hen hle
  ·exact hz.elim
end
end Go.Q
namespace Go.Q
open Go.Z Go.Y
noncomputable section
def cin (n : Nat) (c : Chunk) : Bool := match chin n c with
 | true => true
 | false => match c with
  | .rowsO [] _ _ => true
  | c => oldC n c
theorem cin_ok {ρ : Rho} {n id b : Nat} {o : Obj} {ch : Chunk} (hid : Nat.blt id n = true) (h : cin n ch = true) (hc : CRel ρ id ch b o) : CRel (cutR ρ n) id ch b o := by
 unfold cin at h
 split at h
 ·rename_i h1; exact chin_ok hid h1 hc
 ·split at h
  ·obtain ⟨⟨c, h1⟩, _⟩ := hc
   exact ⟨⟨c, by rw [zqG hid]; exact h1⟩, .inl rfl⟩
  ·exact oldC_ok (blt_tt hid) h hc
def okM (n : Nat) (t1 : Tr Chunk) : List (Nat × Chunk) -> Prop
 | [] => True
 | (i, c) :: l => (small i = true /\ Nat.blt i n = true /\ cin n c = true /\ ∃ c1, t1.get i = some c1 /\ chle c1 c) /\ okM n t1 l
theorem okM_ok {ρ : Rho} {t1 : Tr Chunk} {n : Nat} {W : RW} (hH : ∀ id ch, t1.get id = some ch -> ∃ b o, W id = some (b, o) /\ CRel ρ id ch b o) : ∀ {l : List (Nat × Chunk)}, okM n t1 l ->
  ∀ id ch, (ofM l).get id = some ch -> id < n /\ ∃ b o, W id = some (b, o) /\ CRel (cutR ρ n) id ch b o
 | [], _, id, ch, e => by cases e
 | (t0, c0) :: l, h, id, ch, e => by
  obtain ⟨⟨hs, hlt, hn, c1, hc1, hle⟩, h⟩ := h
  rw [ofM, Tr.get_set _ _ _ _ _ (zqz hs)] at e
  by_cases ht : id = t0
  ·subst ht
   simp only [if_true, Option.some.injEq] at e
   subst e
   obtain ⟨b, o, h1, h2⟩ := hH _ _ hc1
   exact ⟨blt_tt hlt, b, o, h1, cin_ok hlt hn (zkH hle h2)⟩
  ·rw [if_neg ht] at e
   exact okM_ok hH h id ch e
def keys (l : List (Nat × Chunk)) : List Nat := l.map Prod.fst
theorem keys_get {n : Nat} {t1 : Tr Chunk} : ∀ {l : List (Nat × Chunk)}, okM n t1 l -> ∀ id, ((ofM l).get id).isSome = decide (id ∈ keys l)
 | [], _, id => by simp [ofM, keys, Tr.get_nil]
 | (t0, c0) :: l, h, id => by
  obtain ⟨⟨hs, _⟩, h⟩ := h
  rw [ofM, Tr.get_set _ _ _ _ _ (zqz hs)]
  have := keys_get h id
  by_cases ht : id = t0
  ·simp [ht, keys]
  ·rw [if_neg ht, this]
   have : id ∈ keys ((t0, c0) :: l) ↔ id ∈ keys l := by simp [keys, ht]
   rw [decide_eq_decide.2 this]
def putM (t : Tr Chunk) : List (Nat × Chunk) -> Tr Chunk
 | [] => t
 | (i, c) :: l => Tr.set 20 (putM t l) i (some c)
theorem putM_get {n : Nat} {t t1 : Tr Chunk} : ∀ {l : List (Nat × Chunk)}, okM n t1 l -> ∀ id ch, (putM t l).get id = some ch -> (ofM l).get id = some ch \/ ((ofM l).get id = none /\ t.get id = some ch)
 | [], _, id, ch, e => .inr ⟨Tr.get_nil _, e⟩
 | (t0, c0) :: l, h, id, ch, e => by
  obtain ⟨⟨hs, _⟩, h⟩ := h
  rw [putM, Tr.get_set _ _ _ _ _ (zqz hs)] at e
  rw [ofM, Tr.get_set _ _ _ _ _ (zqz hs)]
  by_cases ht : id = t0
  ·rw [if_pos ht] at e ⊢; exact .inl e
  ·rw [if_neg ht] at e ⊢; exact putM_get h id ch e
def zkI (t : Tr Chunk) : Nat -> Bool
 | 0 => true
 | n + 1 => match t.get n with | some _ => zkI t n | none => false
theorem allTold_ok {t : Tr Chunk} : ∀ {n : Nat}, zkI t n = true -> ∀ id, id < n -> ∃ c, t.get id = some c
 | 0, _, id, h => absurd h (Nat.not_lt_zero _)
 | n + 1, hn, id, h => by
  simp only [zkI] at hn
  split at hn
  ·rename_i c hc
   by_cases e : id = n
   ·subst e; exact ⟨c, hc⟩
   ·exact allTold_ok hn id (by omega)
  ·cases hn
def cutL (n0 : Nat) (l : List (Nat × Chunk)) (K0 : V -> List (Nat × Chunk) -> Prop) : KE := λ e hp => match e with
 | .ret v => ∃ v' l', vle v v' /\ vin n0 v' = true /\ keys l' = keys l /\ okM n0 hp.t l' /\ K0 v' l'
 | _ => False
theorem call_lo {P : Program} {G0 G : GQ} {f : Nat} {args args0 : List V} {hp : Mem} {k : KE} (n0 : Nat) (l : List (Nat × Chunk)) (K0 : V -> List (Nat × Chunk) -> Prop)
  (h : TaskOk P G0 (.call f args0 ⟨n0, ofM l, []⟩ (cutL n0 l K0))) (hg : G0.g.t = .nil) (ha : vles args args0) (hao : vins n0 args0 = true) (hn : n0 <= hp.n) (hro : hp.ro = []) (hm : okM n0 hp.t l) (hin : zkI hp.t n0 = true)
  (hk : ∀ v l', keys l' = keys l -> K0 v l' -> k (.ret v) ⟨hp.n, putM hp.t l', hp.ro⟩) : TaskOk P G (.call f args hp k) := by
 refine ⟨h.1, λ ρ W us Post hG hH hus hkk => ?_⟩
 let told : Nat -> Bool := λ i => ((ofM l).get i).isSome
 let W0 : RW := ⟨λ i => if told i then W i else none, W.x⟩
 let Wr : RW := ⟨λ i => if told i then none else W i, W.x⟩
 have hlt : ∀ {i}, told i = true -> i < n0 := λ {i} e => by
  obtain ⟨ch, hc⟩ := Option.isSome_iff_exists.1 e
  exact (okM_ok hH.rel hm i ch hc).1
 have hH0 : HR (cutR ρ n0) ⟨n0, ofM l, []⟩ W0 := by
  refine ⟨λ id ch e => ?_, λ id hid => zjN hid, λ l hl => (by cases hl), hH.ext⟩
  obtain ⟨_, b, o, h1, h2⟩ := okM_ok hH.rel hm id ch e
  have e : (ofM l).get id = some ch := e
  exact ⟨b, o, by show (if told id = true then W id else none) = _; rw [if_pos (by show ((ofM l).get id).isSome = true; rw [e]; rfl)]; exact h1, h2⟩
 have start : ∀ x, sep (spl hp.n W) x -> sep (spl n0 W0 ++ splR hp.n Wr) x := by
  intro x hx
  rw [zqD]
  refine zqd (λ y hy => spl_down hn y hy) (λ _ y => y) (spl_split (n := hp.n) (W := W) (Wa := W0) (Wb := Wr) rfl (λ id hid => ?_) x hx)
  cases ht : told id with
  | true => exact .inl ⟨by show (if told id = true then W id else none) = _; rw [ht]; rfl, by show (if told id = true then none else W id) = _; rw [ht]; rfl⟩
  | false => exact .inr ⟨by show (if told id = true then W id else none) = _; rw [ht]; rfl, by show (if told id = true then none else W id) = _; rw [ht]; rfl⟩
 refine Fn_down (Fn.weak (zks (R := splR hp.n Wr) (h.2 (cutR ρ n0) W0 us (λ en H' => ∃ ρ1 hp1 W1 v' l', (cutR ρ n0).le ρ1 /\ HR ρ1 hp1 W1 /\ R ρ1 v' (match en with | .returned u => u | _ => .bool true) /\ (∃ u, en = .returned u) /\ vin n0 v' = true /\ keys l' = keys l /\ okM n0 hp1.t l' /\ K0 v' l' /\ H' = spl hp1.n W1) (λ g id e => by unfold GV.get at e; rw [hg] at e; cases e) hH0 (zjd hao (zxS ha hus)) ?_)) start) ?_
 ·intro e hp1 ρ1 W1 en nx hen hcut
  unfold cutL at hcut
  split at hcut
  ·obtain ⟨v', l', h1, h2, h3, h4, h5⟩ := hcut
   cases en with
   | returned u => exact ⟨ρ1, hp1, W1, v', l', nx.le, nx.hr, vle_ok h1 hen, ⟨u, rfl⟩, h2, h3, h4, h5, rfl⟩
   | panicked ch => exact hen.elim
   | outgrown => exact hen.elim
  ·exact hcut.elim
 ·rintro en H' ⟨H1, ⟨ρ1, hp1, W1, v', l', hle, hr1, hv, ⟨u, rfl⟩, h2, h3, h4, h5, rfl⟩, rfl⟩
  have htold : ∀ i, ((ofM l').get i).isSome = told i := λ i => by
   show _ = ((ofM l).get i).isSome
   rw [keys_get h4, keys_get hm, h3]
  let ρg : Rho := ⟨ρ.f, ρ1.x⟩
  let W2 : RW := ⟨λ i => if told i then W1 i else W i, W1.x⟩
  let Wx : RW := ⟨λ i => if told i then W1 i else none, W1.x⟩
  have hleg : ρ.le ρg := ⟨λ _ _ e => e, hle.e⟩
  have hdown : (cutR ρ1 n0).le ρg := by
   refine ⟨λ id x e => ?_, λ _ _ e => e⟩
   have hid : id < n0 := by
    rcases Nat.lt_or_ge id n0 with hh | hh
    ·exact hh
    ·rw [zjN hh] at e; cases e
   have hb : Nat.blt id n0 = true := by simpa [Nat.blt_eq] using hid
   rw [zqG hb] at e
   obtain ⟨c, hc⟩ := allTold_ok hin id hid
   obtain ⟨b, o, g1, g2⟩ := hH.rel id c hc
   obtain ⟨c2, g3⟩ := g2.at
   have g4 := hle.i id _ (by rw [zqG hb]; exact g3)
   rw [e] at g4; cases g4
   exact g3
  have hrel := λ id ch e => okM_ok (n := n0) hr1.rel h4 id ch e
  have hlt1 : ∀ {i}, told i = true -> i < hp1.n := λ {i} e => by
   rw [<- htold] at e
   obtain ⟨ch, hc⟩ := Option.isSome_iff_exists.1 e
   obtain ⟨hi, b, o, g1, g2⟩ := hrel i ch hc
   obtain ⟨c, g3⟩ := g2.at
   rw [zqG (by simpa [Nat.blt_eq] using hi)] at g3
   rcases Nat.lt_or_ge i hp1.n with hh | hh
   ·exact hh
   ·rw [hr1.lim i hh] at g3; cases g3
  have hH2 : HR ρg ⟨hp.n, putM hp.t l', hp.ro⟩ W2 := by
   refine ⟨λ id ch e => ?_, hH.lim, hH.rol, hr1.ext⟩
   rcases putM_get h4 id ch e with e | ⟨e1, e2⟩
   ·obtain ⟨_, b, o, g1, g2⟩ := hrel id ch e
    have ht : told id = true := by rw [<- htold, e]; rfl
    exact ⟨b, o, by show (if told id = true then W1 id else W id) = _; rw [if_pos ht]; exact g1, g2.mono hdown⟩
   ·obtain ⟨b, o, g1, g2⟩ := hH.rel id ch e2
    have ht : told id = false := by rw [<- htold, e1]; rfl
    exact ⟨b, o, by show (if told id = true then W1 id else W id) = _; rw [ht]; exact g1, g2.mono hleg⟩
  refine ⟨spl hp.n W2, hkk (.ret v') ⟨hp.n, putM hp.t l', hp.ro⟩ ρg W2 (.returned u) ⟨hleg, hH2, rfl, λ l hl => (by rw [hro] at hl; cases hl)⟩ (Go.Y.R.mono hdown (vin_ok h2 hv)) (hk v' l' h3 h5), λ x hx => ?_⟩
  rw [zqD] at hx
  have g1 := zqd (λ y hy => spl_ren (g := id) (n1 := hp.n) (W1 := W1) (W2 := Wx) (λ _ _ e => e) (λ i hi => by
   cases ht : told i with
   | true => exact .inr ⟨hlt1 ht, by show (if told i = true then W1 i else none) = W1 i; rw [if_pos ht]⟩
   | false => exact .inl (by show (if told i = true then W1 i else none) = none; rw [ht]; rfl)) (λ i i' _ _ _ _ he => he) y hy) (λ _ y => y) hx
  refine zjg (W2 := W2) (W1 := Wx) (λ _ _ e => e) (λ i hi => ?_) x g1
  cases ht : told i with
  | true => exact .inr (.inl ⟨hi, by show (if told i = true then W1 i else W i) = (if told i = true then W1 i else none); rw [ht]; rfl⟩)
  | false => exact .inr (.inr ⟨hi, by show (if told i = true then W1 i else W i) = (if told i = true then none else W i); rw [ht]; rfl⟩)
end
end Go.Q
