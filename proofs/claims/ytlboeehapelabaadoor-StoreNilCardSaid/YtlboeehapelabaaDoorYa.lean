/- Filling structs; slices that own their memory, laid open among the numbered blocks. -/
import Derived.Test.YtlboeehapelabaaDoorY9
set_option linter.unusedVariables false
set_option linter.unusedSimpArgs false
namespace Go.Y
open Go.Z
noncomputable section
def cellsV : V → List V
  | .agg l => l
  | v => [v]
theorem cellsV_ok {ρ : Rho} {v : V} {u : Value} (h : R ρ v u) : ∃ us, u.cells = us.toArray ∧ RL ρ (cellsV v) us := by
  cases v
  case agg l => obtain ⟨l', h1, rfl⟩ := h; exact ⟨l', rfl, h1⟩
  all_goals
    refine ⟨[u], ?_, .cons h .nil⟩
    first
      | (cases h; rfl)
      | (obtain ⟨_, _, _, rfl⟩ := h; rfl)
      | (obtain ⟨_, _, _, rfl, _⟩ := h; rfl)
      | (obtain ⟨_, _, _, _, rfl⟩ := h; rfl)
      | (obtain ⟨_, _, rfl⟩ := h; rfl)
      | (obtain ⟨_, rfl⟩ := h; rfl)
def scalV : V → Bool
  | .agg _ => false
  | .tup _ => false
  | .und => false
  | _ => true
theorem scalV_ok {ρ : Rho} {v : V} {u : Value} (h : R ρ v u) (hs : scalV v = true) : u.oneCell' = true := by
  cases v
  case agg l => cases hs
  case tup l => cases hs
  case und => cases hs
  all_goals
    first
      | (cases h; rfl)
      | (obtain ⟨_, _, _, rfl⟩ := h; rfl)
      | (obtain ⟨_, _, _, rfl, _⟩ := h; rfl)
      | (obtain ⟨_, _, _, _, rfl⟩ := h; rfl)
      | (obtain ⟨_, _, rfl⟩ := h; rfl)
      | (obtain ⟨_, rfl⟩ := h; rfl)
def allScal : List V → Bool
  | [] => true
  | v :: l => match scalV v with | true => allScal l | false => false
theorem allScal_ok {ρ : Rho} : ∀ {vs : List V} {us : List Value}, RL ρ vs us → allScal vs = true → scal us = true
  | [], us, h, _ => by rw [show us = [] from h]; rfl
  | v :: vs, us, h, hs => by
    obtain ⟨u, us', h1, h2, rfl⟩ := h
    simp only [allScal] at hs
    split at hs
    · rename_i h3
      have := allScal_ok h2 hs
      simp only [scal, List.all_cons, Bool.and_eq_true] at this ⊢
      exact ⟨scalV_ok h1 h3, this⟩
    · cases hs
/-- cells laid over others -/
def overV (l : List V) (off : Nat) (vs : List V) : Option (List V) :=
  match Nat.ble (off + vs.length) l.length with
  | true => some (l.take off ++ vs ++ l.drop (off + vs.length))
  | false => none
theorem overV_ok {ρ : Rho} {l r vs : List V} {off : Nat} {rl us : List Value} (h : overV l off vs = some r) (hl : RL ρ l rl) (hv : RL ρ vs us) : RL ρ r (putAt rl off us) ∧ off + us.length ≤ rl.length ∧ r.length = l.length := by
  unfold overV at h
  split at h
  · rename_i hb
    have hb := Nat.le_of_ble_eq_true hb
    cases h
    refine ⟨?_, by rw [hl.length, hv.length]; exact hb, by simp; omega⟩
    unfold putAt
    rw [hv.length]
    exact ((hl.take off).append hv).append (hl.drop _)
  · cases h
theorem putAt_length {l vs : List Value} {off : Nat} (h : off + vs.length ≤ l.length) : (putAt l off vs).length = l.length := by
  simp [putAt]; omega
theorem fold_put : ∀ (vs : List Value) (i off : Nat) (l : List Value), off + i + vs.length ≤ l.length →
    ((vs.zipIdx i).foldl (fun (cs : Array Value) (q : Value × Nat) => cs.setIfInBounds (off + q.2) q.1) l.toArray) = (putAt l (off + i) vs).toArray
  | [], i, off, l, _ => by simp [putAt]
  | v :: vs, i, off, l, h => by
    simp only [List.length_cons] at h
    simp only [List.zipIdx_cons, List.foldl_cons]
    have e1 : l.toArray.setIfInBounds (off + i) v = (l.set (off + i) v).toArray := by simp
    rw [e1, fold_put vs (i + 1) off _ (by simp; omega)]
    congr 1
    unfold putAt
    apply List.ext_getElem?
    intro j
    simp only [List.getElem?_append, List.length_append, List.length_take, List.length_set, List.length_cons, List.getElem?_take, List.getElem?_drop, List.getElem?_set]
    have h2 : min (off + (i + 1)) l.length = off + i + 1 := by omega
    have h3 : min (off + i) l.length = off + i := by omega
    simp only [h2, h3]
    rcases Nat.lt_trichotomy j (off + i) with h | h | h
    · simp [show j < off + i + 1 + vs.length by omega, show j < off + i + 1 by omega, show j < off + (i + 1) by omega, show ¬ off + i = j by omega, show j < off + i + (vs.length + 1) by omega, h]
    · subst h
      simp [show off + i < off + i + 1 + vs.length by omega, show off + i < off + (i + 1) by omega, show off + i < l.length by omega]
    · by_cases h4 : j < off + i + 1 + vs.length
      · simp [h4, show ¬ j < off + i + 1 by omega, show ¬ j < off + i by omega, show j < off + i + (vs.length + 1) by omega]
        rw [show j - (off + i) = (j - (off + i + 1)) + 1 by omega]
        simp
      · simp [h4, show ¬ j < off + i by omega, show ¬ j < off + i + (vs.length + 1) by omega]
        have h5 : ¬ off + i = off + (i + 1) + vs.length + (j - (off + i + 1 + vs.length)) := by omega
        simp [h5]
        congr 1
        omega
def fillV (place : Nat → Option (Nat × Nat)) : List V → List (Nat × V) → Option (List V)
  | l, [] => some l
  | l, (i, v) :: r => match place i with
    | none => none
    | some (off, size) => match Nat.beq (cellsV v).length size with
      | false => none
      | true => match overV l off (cellsV v) with
        | some l' => fillV place l' r
        | none => none
def RPs (ρ : Rho) : List (Nat × V) → List (Nat × Value) → Prop
  | [], us => us = []
  | (i, v) :: r, us => ∃ u us', R ρ v u ∧ RPs ρ r us' ∧ us = (i, u) :: us'
theorem RPs.zip {ρ : Rho} : ∀ {is : List Nat} {vs : List V} {us : List Value}, RL ρ vs us → is.length = vs.length → RPs ρ (is.zip vs) (is.zip us)
  | [], [], us, h, _ => by rw [show us = [] from h]; exact rfl
  | i :: is, v :: vs, us, h, hl => by obtain ⟨u, us', h1, h2, rfl⟩ := h; exact ⟨u, _, h1, RPs.zip h2 (by simpa using hl), rfl⟩
theorem fillV_ok {ρ : Rho} {place : Nat → Option (Nat × Nat)} : ∀ {pv : List (Nat × V)} {l r : List V} {rl : List Value} {ru : List (Nat × Value)}, fillV place l pv = some r → RL ρ l rl → RPs ρ pv ru →
    ∃ rr, Instr.fill place rl.toArray ru = some rr.toArray ∧ RL ρ r rr ∧ r.length = l.length
  | [], l, r, rl, ru, h, hl, hp => by
    simp only [fillV, Option.some.injEq] at h
    subst h
    rw [show ru = [] from hp]
    exact ⟨rl, rfl, hl, rfl⟩
  | (i, v) :: pv, l, r, rl, ru, h, hl, hp => by
    obtain ⟨u, us', h1, h2, rfl⟩ := hp
    simp only [fillV] at h
    split at h
    · cases h
    · rename_i off size hpl
      split at h
      · cases h
      · rename_i hsz
        have hsz := beq_tt hsz
        split at h
        · rename_i l' ho
          obtain ⟨cs, hc1, hc2⟩ := cellsV_ok h1
          obtain ⟨h3, h4, h5⟩ := overV_ok ho hl hc2
          obtain ⟨rr, h6, h7, h8⟩ := fillV_ok h h3 h2
          refine ⟨rr, ?_, h7, by omega⟩
          have hcl : cs.length = size := by rw [hc2.length, hsz]
          simp only [Instr.fill, hpl, hc1]
          have hnot : ¬ ((decide (cs.toArray.size ≠ size) || decide (off + cs.toArray.size > rl.toArray.size)) = true) := by
            simp [hcl]; omega
          rw [if_neg (by simpa using hnot)]
          rw [← h6]
          congr 1
          have := fold_put cs 0 off rl (by omega)
          rw [Nat.add_zero] at this
          rw [← this]
          rw [← Array.foldl_toList]
          simp
        · cases h
end
end Go.Y
