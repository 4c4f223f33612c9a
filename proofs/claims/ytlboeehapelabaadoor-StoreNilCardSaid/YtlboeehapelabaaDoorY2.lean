/- Memory of the virtual machine and what it says of the real one. -/
import Derived.Test.YtlboeehapelabaaDoorY1
set_option linter.unusedVariables false
set_option linter.unusedSimpArgs false
namespace Go.Y
open Go.Z
noncomputable section

inductive Chunk where
  | cells (l : List V) (ty sz : Nat)
  | map (es : List (V × V × Nat)) (clock : Nat)
  | iterS (l : List UInt8) (pos : Nat)
  | iterM (m : Option Nat) (since : Nat) (seen : List Nat) (stepped : Nat)
  | defr
  | loop (st : LoopState) (pend : Option Code) (env : Tr V) (nt : Nat) (params : Array Tmp) (assign body : Code) (d : Nat)
/-- 'ro': pieces that must not be turned for the time being. -/
structure Mem where
  n : Nat
  t : Tr Chunk
  ro : List Nat
def REs (ρ : Rho) : List (V × V × Nat) → List MapEntry → Prop
  | [], es => es = []
  | (k, v, b) :: l, es => ∃ k' v' l', R ρ k k' ∧ R ρ v v' ∧ REs ρ l l' ∧ es = ⟨k', v', b⟩ :: l'
theorem REs.mono {ρ ρ' : Rho} (le : ρ.le ρ') : ∀ {l : List (V × V × Nat)} {es : List MapEntry}, REs ρ l es → REs ρ' l es
  | [], _, h => h
  | (k, v, b) :: l, es, h => by obtain ⟨k', v', l', h1, h2, h3, h⟩ := h; exact ⟨k', v', l', h1.mono le, h2.mono le, REs.mono le h3, h⟩
/-- temporaries -/
def RE (ρ : Rho) (env : Tr V) (L : Lo) : Prop := ∀ t v, env.get t = some v → ∃ u, lk L t = some u ∧ R ρ v u
theorem RE.mono {ρ ρ' : Rho} (le : ρ.le ρ') {env : Tr V} {L : Lo} (h : RE ρ env L) : RE ρ' env L := fun t v e => let ⟨u, h1, h2⟩ := h t v e; ⟨u, h1, h2.mono le⟩
/-- what a table of temporaries holds (a loop's record) -/
def RT (ρ : Rho) (env : Tr V) (ts : Array Value) : Prop := ∀ t v, env.get t = some v → ∃ u, ts[t]? = some u ∧ R ρ v u
theorem RT.mono {ρ ρ' : Rho} (le : ρ.le ρ') {env : Tr V} {L : Array Value} (h : RT ρ env L) : RT ρ' env L := fun t v e => let ⟨u, h1, h2⟩ := h t v e; ⟨u, h1, h2.mono le⟩
def CRel (ρ : Rho) (id : Nat) : Chunk → Nat → Obj → Prop
  | .cells l ty sz, b, o => ∃ c rl junk fr, ρ id = some (b, c) ∧ RL ρ l rl ∧ o = .cells (rl ++ junk).toArray ty fr ∧ (rl ++ junk).length = c * sz ∧ FrOk fr (rl ++ junk).length
  | .map es clk, b, o => (∃ c, ρ id = some (b, c)) ∧ ∃ es', o = .map es'.toArray clk ∧ REs ρ es es'
  | .iterS l pos, b, o => (∃ c, ρ id = some (b, c)) ∧ o = .stringIter (bs l) pos
  | .iterM m since seen st, b, o => (∃ c, ρ id = some (b, c)) ∧ ∃ m', o = .mapIter m' since seen.toArray st ∧ (match m with | none => m' = none | some mid => ∃ mb mc, ρ mid = some (mb, mc) ∧ m' = some mb)
  | .defr, b, o => (∃ c, ρ id = some (b, c)) ∧ o = .deferred (some [])
  | .loop st pend env nt params assign body d, b, o => (∃ c, ρ id = some (b, c)) ∧ ∃ fn ts db dc, ts.size = nt ∧ RT ρ env ts ∧ ρ d = some (db, dc) ∧ o = .loop { state := st, pending := pend, fn := fn, tmps := ts, params := params, assign := assign, body := body, defers := db }
theorem CRel.mono {ρ ρ' : Rho} (le : ρ.le ρ') {id : Nat} {ch : Chunk} {b : Nat} {o : Obj} (h : CRel ρ id ch b o) : CRel ρ' id ch b o := by
  cases ch with
  | cells l ty sz => obtain ⟨c, rl, junk, fr, h1, h2, h3⟩ := h; exact ⟨c, rl, junk, fr, le _ _ h1, h2.mono le, h3⟩
  | map es clk => obtain ⟨⟨c, h1⟩, es', h2, h3⟩ := h; exact ⟨⟨c, le _ _ h1⟩, es', h2, h3.mono le⟩
  | iterS l pos => obtain ⟨⟨c, h1⟩, h2⟩ := h; exact ⟨⟨c, le _ _ h1⟩, h2⟩
  | iterM m since seen st =>
    obtain ⟨⟨c, h1⟩, m', h2, h3⟩ := h
    refine ⟨⟨c, le _ _ h1⟩, m', h2, ?_⟩
    cases m with
    | none => exact h3
    | some mid => obtain ⟨mb, mc, h4, h5⟩ := h3; exact ⟨mb, mc, le _ _ h4, h5⟩
  | defr => obtain ⟨⟨c, h1⟩, h2⟩ := h; exact ⟨⟨c, le _ _ h1⟩, h2⟩
  | loop st pend env nt params assign body d => obtain ⟨⟨c, h1⟩, fn, ts, db, dc, h2, h3, h4, h5⟩ := h; exact ⟨⟨c, le _ _ h1⟩, fn, ts, db, dc, h2, h3.mono le, le _ _ h4, h5⟩
theorem CRel.at {ρ : Rho} {id : Nat} {ch : Chunk} {b : Nat} {o : Obj} (h : CRel ρ id ch b o) : ∃ c, ρ id = some (b, c) := by
  cases ch with
  | cells l ty sz => obtain ⟨c, rl, junk, fr, h1, _⟩ := h; exact ⟨c, h1⟩
  | _ => exact h.1

/-! ### Real blocks, by number -/
abbrev RW := Nat → Option (Nat × Obj)
def upd {α : Type} (f : Nat → Option α) (id : Nat) (x : Option α) : Nat → Option α := fun j => if j = id then x else f j
theorem upd_same {α : Type} {f : Nat → Option α} {id : Nat} {x : Option α} : upd f id x id = x := by simp [upd]
theorem upd_other {α : Type} {f : Nat → Option α} {id j : Nat} {x : Option α} (h : j ≠ id) : upd f id x j = f j := by simp [upd, h]
theorem upd_upd {α : Type} {f : Nat → Option α} {id : Nat} {x y : Option α} : upd (upd f id x) id y = upd f id y := by funext j; simp only [upd]; split <;> rfl
theorem upd_id {α : Type} {f : Nat → Option α} {id : Nat} {x : Option α} (h : f id = x) : upd f id x = f := by funext j; simp only [upd]; split <;> simp_all
def optSP : Option (Nat × Obj) → SP
  | some (b, o) => pt b o
  | none => tru
def spl : Nat → RW → List SP
  | 0, _ => []
  | n + 1, W => optSP (W n) :: spl n W
theorem spl_congr {W W' : RW} : ∀ {n : Nat}, (∀ id, id < n → W id = W' id) → spl n W = spl n W'
  | 0, _ => rfl
  | n + 1, h => by simp only [spl]; rw [h n (by omega), spl_congr (W' := W') fun id hid => h id (by omega)]
theorem tru_star {A : SP} {h : Hp} (H : A h) : star tru A h := ⟨Hp.nil, h, fun _ => .inl rfl, (Hp.nil_un _).symm, trivial, H⟩
theorem spl_pick {b : Nat} {o : Obj} : ∀ {n : Nat} {W : RW} {id : Nat}, id < n → W id = some (b, o) → Pick (spl n W) (pt b o) (spl n (upd W id none))
  | 0, _, _, h, _ => absurd h (Nat.not_lt_zero _)
  | n + 1, W, id, h, hw => by
    intro x hx
    by_cases e : id = n
    · subst e
      simp only [spl, hw, optSP] at hx
      simp only [spl, upd_same, optSP]
      rw [spl_congr (W' := W) fun j hj => upd_other (by omega)]
      exact star_mono (fun _ y => y) (fun _ y => tru_star y) hx
    · simp only [spl] at hx ⊢
      rw [upd_other (Ne.symm e)]
      exact star_left_comm (star_mono (fun _ y => y) (fun _ y => spl_pick (by omega) hw _ y) hx)
theorem spl_put {b : Nat} {o : Obj} : ∀ {n : Nat} {W : RW} {id : Nat}, id < n → ∀ x, star (pt b o) (sep (spl n W)) x → sep (spl n (upd W id (some (b, o)))) x
  | 0, _, _, h => absurd h (Nat.not_lt_zero _)
  | n + 1, W, id, h => by
    intro x hx
    by_cases e : id = n
    · subst e
      simp only [spl] at hx
      simp only [spl, upd_same, optSP]
      rw [spl_congr (W' := W) fun j hj => upd_other (by omega)]
      refine star_mono (fun _ y => y) (fun _ y => ?_) hx
      obtain ⟨h1, h2, d, rfl, _, h⟩ := y
      exact sep_up _ d h
    · simp only [spl] at hx ⊢
      rw [upd_other (Ne.symm e)]
      exact star_mono (fun _ y => y) (fun _ y => spl_put (by omega) _ y) (star_left_comm hx)
theorem spl_new {b : Nat} {o : Obj} {n : Nat} {W : RW} : ∀ x, sep (pt b o :: spl n W) x → sep (spl (n + 1) (upd W n (some (b, o)))) x := by
  intro x hx
  simp only [spl, upd_same, optSP]
  rw [spl_congr (W' := W) fun j hj => upd_other (by omega)]
  exact hx
theorem spl_eqv {b : Nat} {o : Obj} {n : Nat} {W : RW} {id : Nat} (h : id < n) (hw : W id = some (b, o)) : Eqv (spl n W) (pt b o :: spl n (upd W id none)) := fun x =>
  ⟨spl_pick h hw x, fun y => by
    have := spl_put (W := upd W id none) h x y
    rwa [upd_upd, upd_id hw] at this⟩

structure HR (ρ : Rho) (hp : Mem) (W : RW) : Prop where
  rel : ∀ id ch, hp.t.get id = some ch → ∃ b o, W id = some (b, o) ∧ CRel ρ id ch b o
  lim : ∀ id, hp.n ≤ id → ρ id = none
  rol : ∀ id ∈ hp.ro, id < hp.n
theorem HR.lt {ρ : Rho} {hp : Mem} {W : RW} (h : HR ρ hp W) {id : Nat} {ch : Chunk} (e : hp.t.get id = some ch) : id < hp.n := by
  obtain ⟨b, o, h1, h2⟩ := h.rel id ch e
  obtain ⟨c, h3⟩ := h2.at
  rcases Nat.lt_or_ge id hp.n with h4 | h4
  · exact h4
  · rw [h.lim id h4] at h3; cases h3
/-- a piece of memory is turned -/
def Mem.put (hp : Mem) (id : Nat) (x : Option Chunk) : Mem := { hp with t := Tr.set 20 hp.t id x }
def small (id : Nat) : Bool := Nat.blt id 1000000
theorem small_lt {id : Nat} (h : small id = true) : id + 1 < 2 ^ 20 := by
  have : id < 1000000 := by simpa [small, Nat.blt_eq] using h
  omega
theorem HR.put {ρ : Rho} {hp : Mem} {W : RW} (h : HR ρ hp W) {id : Nat} {ch : Chunk} {b : Nat} {o : Obj} (hs : small id = true) (hc : CRel ρ id ch b o) : HR ρ (hp.put id (some ch)) (upd W id (some (b, o))) := by
  refine ⟨fun j ch' e => ?_, h.lim, h.rol⟩
  simp only [Mem.put] at e
  rw [Tr.get_set _ _ _ _ _ (small_lt hs)] at e
  by_cases hj : j = id
  · subst hj; simp only [if_true, Option.some.injEq] at e; subst e; exact ⟨b, o, upd_same, hc⟩
  · rw [if_neg hj] at e; rw [upd_other hj]; exact h.rel j ch' e
theorem HR.kill {ρ : Rho} {hp : Mem} {W : RW} (h : HR ρ hp W) {id : Nat} (hs : small id = true) : HR ρ (hp.put id none) (upd W id none) := by
  refine ⟨fun j ch' e => ?_, h.lim, h.rol⟩
  simp only [Mem.put] at e
  rw [Tr.get_set _ _ _ _ _ (small_lt hs)] at e
  by_cases hj : j = id
  · subst hj; simp at e
  · rw [if_neg hj] at e; rw [upd_other hj]; exact h.rel j ch' e
/-- a new piece of memory -/
def Mem.new (hp : Mem) (ch : Chunk) : Mem := { n := hp.n + 1, t := Tr.set 20 hp.t hp.n (some ch), ro := hp.ro }
theorem rho_new {ρ : Rho} {hp : Mem} {W : RW} (h : HR ρ hp W) (x : Nat × Nat) : ρ.le (upd ρ hp.n (some x)) := fun id y e => by
  by_cases hi : id = hp.n
  · subst hi; rw [h.lim _ (Nat.le_refl _)] at e; cases e
  · rw [upd_other hi]; exact e
theorem HR.new {ρ : Rho} {hp : Mem} {W : RW} (h : HR ρ hp W) {ch : Chunk} {b c : Nat} {o : Obj} (hs : small hp.n = true) (hc : CRel (upd ρ hp.n (some (b, c))) hp.n ch b o) : HR (upd ρ hp.n (some (b, c))) (hp.new ch) (upd W hp.n (some (b, o))) := by
  have le := rho_new h (b, c)
  refine ⟨fun j ch' e => ?_, fun id hid => ?_, fun id hid => Nat.lt_succ_of_lt (h.rol id hid)⟩
  · simp only [Mem.new] at e
    rw [Tr.get_set _ _ _ _ _ (small_lt hs)] at e
    by_cases hj : j = hp.n
    · subst hj; simp only [if_true, Option.some.injEq] at e; subst e; exact ⟨b, o, upd_same, hc⟩
    · rw [if_neg hj] at e; rw [upd_other hj]
      obtain ⟨b', o', h1, h2⟩ := h.rel j ch' e
      exact ⟨b', o', h1, h2.mono le⟩
  · simp only [Mem.new] at hid
    rw [upd_other (by omega)]; exact h.lim id (by omega)
theorem RE.put {ρ : Rho} {env : Tr V} {L : Lo} (h : RE ρ env L) {d : Nat} {v : V} {u : Value} (hs : small d = true) (hv : R ρ v u) : RE ρ (Tr.set 20 env d (some v)) ((d, u) :: L) := by
  intro t w e
  rw [Tr.get_set _ _ _ _ _ (small_lt hs)] at e
  simp only [lk]
  by_cases ht : t = d
  · subst ht; simp only [if_true, Option.some.injEq] at e; subst e; exact ⟨u, by simp, hv⟩
  · rw [if_neg ht] at e
    have : Nat.beq d t = false := by
      cases hb : Nat.beq d t with
      | false => rfl
      | true => exact absurd (beq_tt hb).symm ht
    rw [this]
    exact h t w e
end
end Go.Y
