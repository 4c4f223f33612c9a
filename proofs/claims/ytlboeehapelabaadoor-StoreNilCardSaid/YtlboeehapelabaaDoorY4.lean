/- Parts of values; equality. -/
import Derived.Test.YtlboeehapelabaaDoorY3
import Derived.Laws.StructEq
import Derived.ChangeKeysEq
set_option linter.unusedVariables false
set_option linter.unusedSimpArgs false
namespace Go.Y
open Go.Z
noncomputable section
def nth {α : Type} (l : List α) : Nat → Option α :=
  @List.rec α (fun _ => Nat → Option α) (fun _ => none) (fun x _ ih i => ifB (Nat.beq i 0) (some x) (ih (Nat.pred i))) l
theorem nth_eq {α : Type} : ∀ (l : List α) (i : Nat), nth l i = l[i]?
  | [], i => rfl
  | x :: l, 0 => rfl
  | x :: l, i + 1 => by
    have : nth (x :: l) (i + 1) = nth l i := rfl
    rw [this, nth_eq l i]; simp
def dropN {α : Type} (n : Nat) : List α → List α :=
  @Nat.rec (fun _ => List α → List α) (fun l => l) (fun _ ih l => ih l.tail) n
theorem dropN_eq {α : Type} : ∀ (n : Nat) (l : List α), dropN n l = l.drop n
  | 0, l => rfl
  | n + 1, l => by
    have : dropN (n + 1) l = dropN n l.tail := rfl
    rw [this, dropN_eq n, List.drop_tail]
def consO {α : Type} (x : α) : Option (List α) → Option (List α)
  | some r => some (x :: r)
  | none => none
def takeN {α : Type} (n : Nat) : List α → Option (List α) :=
  @Nat.rec (fun _ => List α → Option (List α)) (fun _ => some []) (fun _ ih l => @List.rec α (fun _ => Option (List α)) none (fun x l _ => consO x (ih l)) l) n
theorem takeN_ok {α : Type} : ∀ {n : Nat} {l r : List α}, takeN n l = some r → r = l.take n ∧ r.length = n
  | 0, l, r, h => by
    have : some [] = some r := h
    cases this; simp
  | n + 1, [], r, h => by cases h
  | n + 1, x :: l, r, h => by
    have h : consO x (takeN n l) = some r := h
    unfold consO at h
    split at h
    · rename_i r' hr; cases h; obtain ⟨h1, h2⟩ := takeN_ok hr; simp [← h1, h2]
    · cases h
def partV (P : Program) (t : TypeId) (l : List V) (off : Nat) : Option V :=
  match P.underlying t with
  | none => none
  | some sd => match scDesc sd with
    | true => nth l off
    | false => match sizeP P t with
      | none => none
      | some k => match takeN k (dropN off l) with | some r => some (.agg r) | none => none
theorem partV_ok {P : Program} {ρ : Rho} {t : TypeId} {l : List V} {off : Nat} {v : V} {us : List Value} (h : partV P t l off = some v) (hl : RL ρ l us) :
    ∃ u, R ρ v u ∧ ∀ w, (part t us.toArray off).run P w = .ok u w := by
  unfold partV at h
  split at h
  · cases h
  · rename_i sd hu
    split at h
    · rename_i hs
      rw [nth_eq] at h
      obtain ⟨u, h1, h2⟩ := hl.get h
      exact ⟨u, h2, fun w => by simp [part, isAgg_sc w hu hs, h1]⟩
    · rename_i hs
      split at h
      · cases h
      · rename_i k hk
        split at h
        · rename_i r hr
          cases h
          rw [dropN_eq] at hr
          obtain ⟨h1, h2⟩ := takeN_ok hr
          have h3 := RL.take k (RL.drop off hl)
          rw [← h1] at h3
          refine ⟨.agg ((us.drop off).take k).toArray, ⟨_, h3, rfl⟩, fun w => ?_⟩
          simp [part, isAgg_ag w hu hs, sizeOf_run w hk, List.extract_eq_take_drop]
        · cases h
def eqFl (P : Program) (g : TypeId → V → V → Option Bool) (xs ys : List V) : List Field → Option Bool
  | [] => some true
  | f :: fs => match f.name == "_" with
    | true => eqFl P g xs ys fs
    | false => match partV P f.type xs f.offset, partV P f.type ys f.offset with
      | some a, some b => match g f.type a b with
        | some true => eqFl P g xs ys fs
        | some false => some false
        | none => none
      | _, _ => none
def eqIl (P : Program) (g : TypeId → V → V → Option Bool) (e sz : Nat) (xs ys : List V) : List Nat → Option Bool
  | [] => some true
  | j :: js => match partV P e xs (j * sz), partV P e ys (j * sz) with
    | some a, some b => match g e a b with
      | some true => eqIl P g e sz xs ys js
      | some false => some false
      | none => none
    | _, _ => none
def eqV (P : Program) : Nat → TypeId → V → V → Option Bool
  | 0, _, _, _ => none
  | f + 1, t, x, y => match P.underlying t with
    | some .bool => match x, y with | .bool a, .bool b => some (a == b) | _, _ => none
    | some (.int _) => match x, y with | .int k a, .int k' b => (match ikeq k k' with | true => some (eqI a b) | false => none) | _, _ => none
    | some .string => match x, y with | .str a, .str b => some (eqB a b) | _, _ => none
    | some (.pointer _) => match x, y with
      | .nilp, .nilp => some true | .nilp, .ptr _ _ => some false | .ptr _ _, .nilp => some false | _, _ => none
    | some (.slice _) => match x, y with
      | .nils, .nils => some true | .nils, .sl .. => some false | .sl .., .nils => some false | _, _ => none
    | some (.map _ _) => match x, y with
      | .nilm, .nilm => some true | .nilm, .map .. => some false | .map .., .nilm => some false | _, _ => none
    | some (.func _ _ _) => match x, y with
      | .nilf, .nilf => some true | .nilf, .fn .. => some false | .fn .., .nilf => some false | _, _ => none
    | some (.interface _) => match x, y with
      | .nili, .nili => some true | .nili, .ifc .. => some false | .ifc .., .nili => some false
      | .ifc tx vx, .ifc ty vy => match Nat.beq tx ty with
        | false => some false
        | true => match P.info? tx with
          | some i => match i.comparable with | true => eqV P f tx vx vy | false => none
          | none => none
      | _, _ => none
    | some (.struct fs) => match x, y with
      | .agg xs, .agg ys => match P.stoodInHeld t with | true => none | false => eqFl P (eqV P f) xs ys fs.toList
      | _, _ => none
    | some (.array len e) => match x, y with
      | .agg xs, .agg ys => match P.info? e with | some i => eqIl P (eqV P f) e i.size xs ys (List.range len) | none => none
      | _, _ => none
    | _ => none
section
variable {P : Program} {ρ : Rho}
theorem eqFl_ok {g : TypeId → V → V → Option Bool} {d : Nat} {xs ys : List V} {us vs : List Value} (hx : RL ρ xs us) (hy : RL ρ ys vs)
    (hg : ∀ t x y b u v, g t x y = some b → R ρ x u → R ρ y v → ∀ w, (Op.equalIn d t u v).run P w = .ok b w) :
    ∀ {fs : List Field} {b : Bool}, eqFl P g xs ys fs = some b → ∀ w, (Op.eqFields d us.toArray vs.toArray fs).run P w = .ok b w
  | [], b, h, w => by simp only [eqFl, Option.some.injEq] at h; subst h; simp [Op.eqFields]
  | f :: fs, b, h, w => by
    simp only [eqFl] at h
    split at h
    · rename_i hn
      have hn' : ¬ f.name ≠ "_" := by simpa using hn
      simp only [Op.eqFields, if_neg hn']
      exact eqFl_ok hx hy hg h w
    · rename_i hn
      have hn' : f.name ≠ "_" := by simpa using hn
      simp only [Op.eqFields, if_pos hn']
      split at h
      · rename_i a b' ha hb
        obtain ⟨u, h1, h2⟩ := partV_ok ha hx
        obtain ⟨v, h3, h4⟩ := partV_ok hb hy
        split at h
        · rename_i hgt
          have := hg _ _ _ _ _ _ hgt h1 h3 w
          simp only [Sem.run_bind, h2, h4, Result.andThen_ok, this, Bool.not_true, Bool.false_eq_true, if_false]
          exact eqFl_ok hx hy hg h w
        · rename_i hgt
          have := hg _ _ _ _ _ _ hgt h1 h3 w
          cases h
          simp only [Sem.run_bind, h2, h4, Result.andThen_ok, this, Bool.not_false, if_true, Sem.run_pure]
        · cases h
      · cases h
theorem eqIl_ok {g : TypeId → V → V → Option Bool} {d e sz : Nat} {xs ys : List V} {us vs : List Value} (hx : RL ρ xs us) (hy : RL ρ ys vs)
    (hg : ∀ t x y b u v, g t x y = some b → R ρ x u → R ρ y v → ∀ w, (Op.equalIn d t u v).run P w = .ok b w) :
    ∀ {js : List Nat} {b : Bool}, eqIl P g e sz xs ys js = some b → ∀ w, (Op.eqItems d e sz us.toArray vs.toArray js).run P w = .ok b w
  | [], b, h, w => by simp only [eqIl, Option.some.injEq] at h; subst h; simp [Op.eqItems]
  | j :: js, b, h, w => by
    simp only [eqIl] at h
    split at h
    · rename_i a b' ha hb
      obtain ⟨u, h1, h2⟩ := partV_ok ha hx
      obtain ⟨v, h3, h4⟩ := partV_ok hb hy
      split at h
      · rename_i hgt
        have := hg _ _ _ _ _ _ hgt h1 h3 w
        simp only [Op.eqItems, Sem.run_bind, h2, h4, Result.andThen_ok, this, Bool.not_true, Bool.false_eq_true, if_false]
        exact eqIl_ok hx hy hg h w
      · rename_i hgt
        have := hg _ _ _ _ _ _ hgt h1 h3 w
        cases h
        simp only [Op.eqItems, Sem.run_bind, h2, h4, Result.andThen_ok, this, Bool.not_false, if_true, Sem.run_pure]
      · cases h
    · cases h
theorem eqV_ok : ∀ (f : Nat) (d : Nat) (t : TypeId) (x y : V) (b : Bool) (u v : Value), f ≤ d → eqV P f t x y = some b → R ρ x u → R ρ y v → ∀ w, (Op.equalIn d t u v).run P w = .ok b w := by
  intro f
  induction f with
  | zero => intro d t x y b u v _ h; cases h
  | succ f ih =>
    intro d t x y b u v hd h hx hy w
    obtain ⟨d, rfl⟩ : ∃ d', d = d' + 1 := ⟨d - 1, by omega⟩
    have hd : f ≤ d := by omega
    simp only [eqV] at h
    split at h
    · rename_i hu
      split at h
      · cases h; cases hx; cases hy; simp [Op.equalIn, run_underlying hu]
      · cases h
    · rename_i hu
      split at h
      · split at h
        · rename_i hk; have hk := ikeq_ok hk; subst hk; cases h; cases hx; cases hy; simp [Op.equalIn, run_underlying hu, eqI_ok]; rfl
        · cases h
      · cases h
    · rename_i hu
      split at h
      · cases h; cases hx; cases hy; simp [Op.equalIn, run_underlying hu, beq_toListBytes, bs_toList, eqB_ok, beq_dec]
      · cases h
    · rename_i hu
      split at h
      · cases h; cases hx; cases hy; simp [Op.equalIn, run_underlying hu]
      · cases h; cases hx; obtain ⟨_, _, _, rfl⟩ := hy; simp [Op.equalIn, run_underlying hu]
      · cases h; cases hy; obtain ⟨_, _, _, rfl⟩ := hx; simp [Op.equalIn, run_underlying hu]
      · cases h
    · rename_i hu
      split at h
      · cases h; cases hx; cases hy; simp [Op.equalIn, run_underlying hu]
      · cases h; cases hx; obtain ⟨_, _, _, rfl, _⟩ := hy; simp [Op.equalIn, run_underlying hu]
      · cases h; cases hy; obtain ⟨_, _, _, rfl, _⟩ := hx; simp [Op.equalIn, run_underlying hu]
      · cases h
    · rename_i hu
      split at h
      · cases h; cases hx; cases hy; simp [Op.equalIn, run_underlying hu]
      · cases h; cases hx; obtain ⟨_, _, _, rfl⟩ := hy; simp [Op.equalIn, run_underlying hu]
      · cases h; cases hy; obtain ⟨_, _, _, rfl⟩ := hx; simp [Op.equalIn, run_underlying hu]
      · cases h
    · rename_i hu
      split at h
      · cases h; cases hx; cases hy; simp [Op.equalIn, run_underlying hu]
      · cases h; cases hx; obtain ⟨_, _, _, _, rfl⟩ := hy; simp [Op.equalIn, run_underlying hu]
      · cases h; cases hy; obtain ⟨_, _, _, _, rfl⟩ := hx; simp [Op.equalIn, run_underlying hu]
      · cases h
    · rename_i hu
      split at h
      · cases h; cases hx; cases hy; simp [Op.equalIn, run_underlying hu]
      · cases h; cases hx; obtain ⟨_, _, rfl⟩ := hy; simp [Op.equalIn, run_underlying hu]
      · cases h; cases hy; obtain ⟨_, _, rfl⟩ := hx; simp [Op.equalIn, run_underlying hu]
      · obtain ⟨vx', hvx, rfl⟩ := hx
        obtain ⟨vy', hvy, rfl⟩ := hy
        split at h
        · rename_i hne
          have hne := beq_ff hne
          cases h; simp [Op.equalIn, run_underlying hu, hne]
        · rename_i heq
          have heq := beq_tt heq
          subst heq
          split at h
          · rename_i i hi
            split at h
            · rename_i hc
              have := ih d _ _ _ _ _ _ hd h hvx hvy w
              simp [Op.equalIn, run_underlying hu, typeInfo, hi, hc, this]
            · cases h
          · cases h
      · cases h
    · rename_i fs hu
      split at h
      · obtain ⟨us, hus, rfl⟩ := hx
        obtain ⟨vs, hvs, rfl⟩ := hy
        split at h
        · cases h
        · rename_i hsi
          have hf : P.fieldsOf t = fs := by simp [Program.fieldsOf, hu]
          rw [run_equalIn_struct w d t _ _ (by rw [hf]; exact hu) hsi, hf]
          exact eqFl_ok hus hvs (fun t x y b u v h1 h2 h3 w => ih d t x y b u v hd h1 h2 h3 w) h w
      · cases h
    · rename_i len e hu
      split at h
      · obtain ⟨us, hus, rfl⟩ := hx
        obtain ⟨vs, hvs, rfl⟩ := hy
        split at h
        · rename_i i hi
          have hc : P.cellsOf e = i.size := by simp [Program.cellsOf, hi]
          rw [run_equalIn_array w d _ _ hu hi, hc]
          exact eqIl_ok hus hvs (fun t x y b u v h1 h2 h3 w => ih d t x y b u v hd h1 h2 h3 w) h w
        · cases h
      · cases h
    · cases h
/-- '==' and '!=' where neither side is a number or a string. -/
def isAggV : V → Bool
  | .agg _ => true
  | _ => false
def bothNil : V → V → Bool
  | .nili, .nili => true
  | _, _ => false
def eqBin (P : Program) (t : TypeId) (x y : V) : Option Bool :=
  match bothNil x y with
  | true => none
  | false => match isAggV x with
    | true => match P.eqGuardType P.depth t with | true => none | false => eqV P 30 t x y
    | false => eqV P 30 t x y
end
end
end Go.Y
