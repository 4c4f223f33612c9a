/- A machine that runs closed calls on virtual values, so that the kernel can reckon them; its soundness over the rules of Z1..Za. Here: values, memory, relations. -/
import Derived.Test.YtlboeehapelabaaDoorZa
set_option linter.unusedVariables false
set_option linter.unusedSimpArgs false
namespace Go.Y
open Go.Z
noncomputable section

/-! ### Trees indexed by numbers -/
inductive Tr (α : Type) where
  | nil
  | node (l : Tr α) (c : Option α) (r : Tr α)
/-- written with the recursors themselves: the kernel reckons them quicker. -/
def ifB {α : Type} (b : Bool) (t e : α) : α := @Bool.rec (fun _ => α) e t b
def Tr.get0 {α : Type} (c : Option α) (l r : Nat → Option α) (i : Nat) : Option α :=
  ifB (Nat.beq i 0) c (ifB (Nat.beq (Nat.mod i 2) 1) (l (Nat.div i 2)) (r (Nat.sub (Nat.div i 2) 1)))
def Tr.get {α : Type} (t : Tr α) : Nat → Option α :=
  @Tr.rec α (fun _ => Nat → Option α) (fun _ => none) (fun _ c _ l r => Tr.get0 c l r) t
def Tr.set1 {α : Type} (ih : Tr α → Nat → Option α → Tr α) (l : Tr α) (c : Option α) (r : Tr α) (i : Nat) (x : Option α) : Tr α :=
  ifB (Nat.beq i 0) (.node l x r) (ifB (Nat.beq (Nat.mod i 2) 1) (.node (ih l (Nat.div i 2) x) c r) (.node l c (ih r (Nat.sub (Nat.div i 2) 1) x)))
def Tr.set0 {α : Type} (ih : Tr α → Nat → Option α → Tr α) (t : Tr α) : Nat → Option α → Tr α :=
  @Tr.rec α (fun _ => Nat → Option α → Tr α) (Tr.set1 ih .nil none .nil) (fun l c r _ _ => Tr.set1 ih l c r) t
def Tr.set {α : Type} (f : Nat) : Tr α → Nat → Option α → Tr α :=
  @Nat.rec (fun _ => Tr α → Nat → Option α → Tr α) (fun t _ _ => t) (fun _ ih => Tr.set0 ih) f
theorem ifB_true {α : Type} (t e : α) : ifB true t e = t := rfl
theorem ifB_false {α : Type} (t e : α) : ifB false t e = e := rfl
theorem beq_tt {a b : Nat} (h : Nat.beq a b = true) : a = b := Nat.eq_of_beq_eq_true h
theorem beq_ff {a b : Nat} (h : Nat.beq a b = false) : a ≠ b := fun e => by rw [e, Nat.beq_refl] at h; cases h
theorem Tr.get_nil {α : Type} (i : Nat) : (Tr.nil : Tr α).get i = none := rfl
theorem ifB_nat {α : Type} (i k : Nat) (t e : α) : ifB (Nat.beq i k) t e = if i = k then t else e := by
  cases h : Nat.beq i k with
  | true => rw [if_pos (beq_tt h)]; rfl
  | false => rw [if_neg (beq_ff h)]; rfl
theorem Tr.get_node {α : Type} (l r : Tr α) (c : Option α) (i : Nat) : (Tr.node l c r).get i = if i = 0 then c else if i % 2 = 1 then l.get (i / 2) else r.get (i / 2 - 1) := by
  show ifB (Nat.beq i 0) c (ifB (Nat.beq (Nat.mod i 2) 1) (l.get (Nat.div i 2)) (r.get (Nat.sub (Nat.div i 2) 1))) = _
  rw [ifB_nat, ifB_nat]
  rfl
theorem Tr.set1_eq {α : Type} (f : Nat) (l r : Tr α) (c : Option α) (i : Nat) (x : Option α) : Tr.set1 (Tr.set f) l c r i x = if i = 0 then .node l x r else if i % 2 = 1 then .node (Tr.set f l (i / 2) x) c r else .node l c (Tr.set f r (i / 2 - 1) x) := by
  unfold Tr.set1
  rw [ifB_nat, ifB_nat]
  rfl
theorem Tr.set_succ {α : Type} (f : Nat) (t : Tr α) (i : Nat) (x : Option α) : ∃ l c r, (∀ j, t.get j = (Tr.node l c r).get j) ∧
    Tr.set (f + 1) t i x = if i = 0 then .node l x r else if i % 2 = 1 then .node (Tr.set f l (i / 2) x) c r else .node l c (Tr.set f r (i / 2 - 1) x) := by
  cases t with
  | nil =>
    refine ⟨.nil, none, .nil, fun j => ?_, Tr.set1_eq f .nil .nil none i x⟩
    rw [Tr.get_node]; simp [Tr.get_nil]
  | node l c r => exact ⟨l, c, r, fun _ => rfl, Tr.set1_eq f l r c i x⟩
theorem Tr.get_set {α : Type} : ∀ (f : Nat) (t : Tr α) (i : Nat) (x : Option α) (j : Nat), i + 1 < 2 ^ f → (Tr.set f t i x).get j = if j = i then x else t.get j := by
  intro f
  induction f with
  | zero => intro t i x j h; simp at h
  | succ f ih =>
    intro t i x j h
    obtain ⟨l, c, r, h1, h2⟩ := Tr.set_succ f t i x
    rw [h2, h1]
    rw [Nat.pow_succ] at h
    by_cases hi0 : i = 0
    · simp only [hi0, if_true]
      rw [Tr.get_node, Tr.get_node]
      by_cases hj : j = 0 <;> simp [hj]
    · by_cases hi1 : i % 2 = 1
      · simp only [hi0, hi1, if_false, if_true]
        rw [Tr.get_node, Tr.get_node, ih _ _ _ _ (by omega)]
        by_cases hj : j = 0
        · simp [hj]; omega
        · simp only [hj, if_false]
          by_cases hj1 : j % 2 = 1
          · simp only [hj1, if_true]
            by_cases e : j = i
            · simp [e]
            · rw [if_neg e, if_neg (by omega)]
          · simp only [hj1, if_false]
            rw [if_neg (by rintro rfl; exact hj1 hi1)]
      · simp only [hi0, hi1, if_false]
        rw [Tr.get_node, Tr.get_node, ih _ _ _ _ (by omega)]
        by_cases hj : j = 0
        · simp [hj]; omega
        · simp only [hj, if_false]
          by_cases hj1 : j % 2 = 1
          · simp only [hj1, if_true]
            rw [if_neg (by rintro rfl; exact hi1 hj1)]
          · simp only [hj1, if_false]
            by_cases e : j = i
            · simp [e]
            · rw [if_neg e, if_neg (by omega)]

/-! ### Values -/
inductive V where
  | bool (b : Bool)
  | int (k : IntKind) (n : Int)
  | str (l : List UInt8)
  | und
  | nilp
  | ptr (id off : Nat)
  | nils
  | sl (id i off len : Nat) (cap : Option Nat)
  | sle
  | nilm
  | map (id : Nat)
  | nilf
  | fn (f : Go.Fn) (a b : List V)
  | yld (id : Nat)
  | nili
  | ifc (t : Nat) (v : V)
  | agg (l : List V)
  | tup (l : List V)
  | anyI (k : IntKind)
  | anyB
  | anyS
/-- where a piece of memory lies: its block; how many elements it has room for. -/
abbrev Rho := Nat → Option (Nat × Nat)
mutual
def R (ρ : Rho) : V → Value → Prop
  | .bool b, u => u = .bool b
  | .int k n, u => u = .int k n
  | .str l, u => u = .string (bs l)
  | .und, u => u = undef
  | .nilp, u => u = .pointer none
  | .ptr id off, u => ∃ b c, ρ id = some (b, c) ∧ u = .pointer (some ⟨b, off, none⟩)
  | .nils, u => u = .slice none 0 0
  | .sl id i off len cap, u => ∃ b c, ρ id = some (b, c) ∧ u = .slice (some ⟨b, off, none⟩) len (cap.getD (c - i)) ∧ len ≤ cap.getD (c - i)
  | .sle, u => ∃ A c, u = .slice A 0 c
  | .nilm, u => u = .map none
  | .map id, u => ∃ b c, ρ id = some (b, c) ∧ u = .map (some b)
  | .nilf, u => u = .nilFunc
  | .fn f a b, u => ∃ a' b', RL ρ a a' ∧ RL ρ b b' ∧ u = .func f a'.toArray b'.toArray
  | .yld id, u => ∃ b c, ρ id = some (b, c) ∧ u = .func (.yield b) #[] #[]
  | .nili, u => u = .nilIface
  | .ifc t v, u => ∃ u', R ρ v u' ∧ u = .iface t u'
  | .agg l, u => ∃ l', RL ρ l l' ∧ u = .agg l'.toArray
  | .tup l, u => ∃ l', RL ρ l l' ∧ u = .tuple l'.toArray
  | .anyI k, u => ∃ n, u = .int k n
  | .anyB, u => ∃ b, u = .bool b
  | .anyS, u => ∃ l, u = .string (bs l)
def RL (ρ : Rho) : List V → List Value → Prop
  | [], us => us = []
  | v :: vs, us => ∃ u us', R ρ v u ∧ RL ρ vs us' ∧ us = u :: us'
end
def Rho.le (ρ ρ' : Rho) : Prop := ∀ id x, ρ id = some x → ρ' id = some x
theorem Rho.le_refl (ρ : Rho) : ρ.le ρ := fun _ _ h => h
theorem Rho.le_trans {a b c : Rho} (h : a.le b) (h' : b.le c) : a.le c := fun id x e => h' id x (h id x e)
mutual
theorem R.mono {ρ ρ' : Rho} (le : ρ.le ρ') : ∀ {v : V} {u : Value}, R ρ v u → R ρ' v u
  | .bool _, _, h | .int _ _, _, h | .str _, _, h | .und, _, h | .sle, _, h | .nilp, _, h | .nils, _, h | .nilm, _, h | .nilf, _, h | .nili, _, h | .anyI _, _, h | .anyB, _, h | .anyS, _, h => h
  | .ptr id off, u, h => by obtain ⟨b, c, e, h⟩ := h; exact ⟨b, c, le _ _ e, h⟩
  | .sl .., u, h => by obtain ⟨b, c, e, h⟩ := h; exact ⟨b, c, le _ _ e, h⟩
  | .map id, u, h => by obtain ⟨b, c, e, h⟩ := h; exact ⟨b, c, le _ _ e, h⟩
  | .yld id, u, h => by obtain ⟨b, c, e, h⟩ := h; exact ⟨b, c, le _ _ e, h⟩
  | .fn f a b, u, h => by obtain ⟨a', b', h1, h2, h⟩ := h; exact ⟨a', b', RL.mono le h1, RL.mono le h2, h⟩
  | .ifc t v, u, h => by obtain ⟨u', h1, h⟩ := h; exact ⟨u', R.mono le h1, h⟩
  | .agg l, u, h => by obtain ⟨l', h1, h⟩ := h; exact ⟨l', RL.mono le h1, h⟩
  | .tup l, u, h => by obtain ⟨l', h1, h⟩ := h; exact ⟨l', RL.mono le h1, h⟩
theorem RL.mono {ρ ρ' : Rho} (le : ρ.le ρ') : ∀ {vs : List V} {us : List Value}, RL ρ vs us → RL ρ' vs us
  | [], _, h => h
  | v :: vs, us, h => by obtain ⟨u, us', h1, h2, h⟩ := h; exact ⟨u, us', R.mono le h1, RL.mono le h2, h⟩
end
section
variable {ρ : Rho}
theorem RL.nil : RL ρ [] [] := rfl
theorem RL.cons {v : V} {u : Value} {vs : List V} {us : List Value} (h : R ρ v u) (h' : RL ρ vs us) : RL ρ (v :: vs) (u :: us) := ⟨u, us, h, h', rfl⟩
theorem RL.length : ∀ {vs : List V} {us : List Value}, RL ρ vs us → us.length = vs.length
  | [], _, h => by rw [show _ = [] from h]; rfl
  | v :: vs, us, h => by obtain ⟨u, us', h1, h2, rfl⟩ := h; simp [RL.length h2]
theorem RL.get : ∀ {vs : List V} {us : List Value} {i : Nat} {v : V}, RL ρ vs us → vs[i]? = some v → ∃ u, us[i]? = some u ∧ R ρ v u
  | [], _, _, _, _, e => by cases e
  | v :: vs, us, i, w, h, e => by
    obtain ⟨u, us', h1, h2, rfl⟩ := h
    cases i with
    | zero => simp only [List.getElem?_cons_zero, Option.some.injEq] at e; subst e; exact ⟨u, rfl, h1⟩
    | succ i => simp only [List.getElem?_cons_succ] at e ⊢; exact RL.get h2 e
theorem RL.append : ∀ {vs : List V} {us : List Value} {vs' : List V} {us' : List Value}, RL ρ vs us → RL ρ vs' us' → RL ρ (vs ++ vs') (us ++ us')
  | [], _, _, _, h, h' => by rw [show _ = [] from h]; exact h'
  | v :: vs, us, _, _, h, h' => by obtain ⟨u, us', h1, h2, rfl⟩ := h; exact .cons h1 (RL.append h2 h')
theorem RL.take : ∀ {vs : List V} {us : List Value} (n : Nat), RL ρ vs us → RL ρ (vs.take n) (us.take n)
  | [], _, n, h => by rw [show _ = [] from h]; simpa using RL.nil
  | v :: vs, us, 0, h => by simpa using RL.nil
  | v :: vs, us, n + 1, h => by obtain ⟨u, us', h1, h2, rfl⟩ := h; exact .cons h1 (RL.take n h2)
theorem RL.drop : ∀ {vs : List V} {us : List Value} (n : Nat), RL ρ vs us → RL ρ (vs.drop n) (us.drop n)
  | [], _, n, h => by rw [show _ = [] from h]; simpa using RL.nil
  | v :: vs, us, 0, h => h
  | v :: vs, us, n + 1, h => by obtain ⟨u, us', h1, h2, rfl⟩ := h; exact RL.drop n h2
theorem RL.rep {v : V} {u : Value} (h : R ρ v u) : ∀ n, RL ρ (List.replicate n v) (List.replicate n u)
  | 0 => .nil
  | n + 1 => .cons h (RL.rep h n)
end
end
end Go.Y
