/- A run of the machine as a function's contract; a law's contract as what its row asks. -/
import Derived.Test.YtlboeehapelabaaDoorYq
import Derived.ProofKit
import Derived.OpenShut
import Derived.Carry
set_option linter.unusedVariables false
set_option linter.unusedSimpArgs false
namespace Go.Y
open Go.Z
noncomputable section
def nomem : Mem := ⟨0, .nil, []⟩
def norho : Rho := fun _ => none
/-- the call returns 'true' -/
def isT : KE := fun e _ => match e with
  | .ret v => match v with
    | .bool b => b
    | _ => false
  | .pan _ => false
def Truly : Ending → List SP → Prop := fun e _ => e = .returned (.bool true)
theorem run_true {P : Program} {kn : List (Nat × V)} (hmix : P.follows .mixedOrders = true) (hNG : (P.funcs.all fun fn => !(fn.name == "runtime.NumGoroutine")) = true) (hKN : KnOk P ⟨.nil, kn⟩) {n f : Nat} {args : List V} {us : List Value}
    (h : go P ⟨.nil, kn⟩ n (.call f args nomem isT) = true) (hus : RL norho args us) : Callable P f ∧ Z.Fn P f us [] Truly := by
  have hNG' : ∀ (f : Nat) (fn : Func), P.funcs[f]? = some fn → (fn.name == "runtime.NumGoroutine") = false := by
    intro f fn hf
    have h1 := Array.all_eq_true.1 hNG f (Array.getElem?_eq_some_iff.1 hf).1
    rw [(Array.getElem?_eq_some_iff.1 hf).2] at h1
    simpa using h1
  obtain ⟨hc, spec⟩ := go_sound hmix hNG' hKN n _ h
  refine ⟨hc, spec norho (fun _ => none) us Truly (fun g id e => by cases e) { rel := fun id ch e => (by cases e), lim := fun _ _ => rfl, rol := fun id hid => (by cases hid) } hus ?_⟩
  intro e hp ρ W en nx hen hk
  unfold isT at hk
  split at hk
  · split at hk
    · rename_i b
      cases en with
      | returned u =>
        cases hen
        subst hk
        rfl
      | panicked ch => exact hen.elim
      | outgrown => exact hen.elim
    · cases hk
  · cases hk
theorem known_nil {P : Program} : KnOk P ⟨.nil, []⟩ := fun f v h => by cases h
theorem known_true {P : Program} {f : Nat} (h : Callable P f ∧ Z.Fn P f [] [] Truly) : KnOk P ⟨.nil, [(f, .bool true)]⟩ := fun g v hl => by
  simp only [lookK] at hl
  split at hl
  · rename_i hb
    cases hl
    cases beq_tt hb
    exact ⟨h.1, h.2.mono fun e H' he => ⟨.bool true, he, fun ρ => rfl⟩⟩
  · cases hl
/-! ### What a row asks -/
open Go.RowKit
theorem below_of {W w' : World} {H : List SP} (h : Hold W H (fun x => x = Z.hp W) w') : Below W.heap.size W w' := by
  obtain ⟨h1, h2, d, e, ha, _⟩ := h.heap
  have hb : ∀ k, k < W.heap.size → w'.heap[k]? = W.heap[k]? := by
    intro k hk
    have he := congrFun e k
    have h1e : h1 = Z.hp W := ha
    subst h1e
    have hs : Z.hp W k = some W.heap[k] := by simp [Z.hp, hk]
    simp only [Hp.un, hs, Option.some_or] at he
    show Z.hp w' k = Z.hp W k
    rw [he, hs]
  refine ⟨h.os, h.tape, h.output, ?_, hb⟩
  rcases Nat.eq_zero_or_pos W.heap.size with h0 | h0
  · omega
  · have := hb (W.heap.size - 1) (by omega)
    rw [Array.getElem?_eq_getElem (by omega : W.heap.size - 1 < W.heap.size)] at this
    have := (Array.getElem?_eq_some_iff.1 this).1
    omega
/-- A law's contract in a world: it answers 'true', and what was there is there. -/
theorem calls_of {P : Program} {f : Nat} {us : List Value} (h : Z.Fn P f us [] Truly) (W : World) : Calls P f us.toArray W fun e w' => e = .returned (.bool true) ∧ Below W.heap.size W w' := by
  have hh : Hold W [] (fun x => x = Z.hp W) W := ⟨rfl, rfl, rfl, Z.hp W, Hp.nil, Hp.disj_nil _, (Hp.un_nil _).symm, rfl, trivial⟩
  refine (callsIn_wide (n := 0)).1 (((callsIn_wide (n := 0)).2 (h W _ W hh)).mono fun e w' ⟨H', p, hh'⟩ => ⟨p, below_of hh'⟩)
section
open Go.RowKit Go.ChangeShapes
variable {H : Type} {enc : TypeId × Value → H} {P : Program}
theorem trodAll_below (hl : laidOutB P = true) {W W' : World} (hb : Below W.heap.size W W') : ∀ {ts : List TypeId} {vs : List Value} {ds : List (DataW H)} {ps : List MemPlace}, (ts.all fun t => P.readableRec t && decide (t < P.types.size)) = true →
    DataW.TrodAll enc P W 0 (fun _ => true) true ts vs ds ps → (∀ x ∈ ps, x.block < W.heap.size) → DataW.TrodAll enc P W' 0 (fun b => decide (b < W.heap.size)) true ts vs ds ps
  | [], [], [], ps, _, h, _ => h
  | t :: ts, v :: vs, d :: ds, ps, hr, h, hlt => by
    obtain ⟨p, q, h1, h2, rfl⟩ := h
    simp only [List.all_cons, Bool.and_eq_true, decide_eq_true_eq] at hr
    exact ⟨p, q, Below.trod hl hr.1.1 hr.1.2 h1 hb (fun x hx => hlt x (by simp [hx])), trodAll_below hl hb hr.2 h2 (fun x hx => hlt x (by simp [hx])), rfl⟩
  | [], _ :: _, _, _, _, h, _ => h.elim
  | [], [], _ :: _, _, _, h, _ => h.elim
  | _ :: _, [], _, _, _, h, _ => h.elim
  | _ :: _, _ :: _, [], _, _, h, _ => h.elim
/-- **What a law's row asks behind the call.** -/
theorem law_post {f : Func} {s : ChangeSpec} {apart fresh handsOn : Bool} {W W' : World} {args : Array Value} {ds gs : List (DataW H)} {before : List MemPlace} {tb : TypeId}
    (hl : laidOutB P = true) (hr : (f.params.toList.all fun t => P.readableRec t && decide (t < P.types.size)) = true) (hres : f.resultTypes = #[tb]) (htb : P.underlying tb = some .bool) (hv : s.vars = [])
    (hW : DataW.Whole enc P f.params.toList s.vars apart W args.toList ds gs before) (hs : s.fn H (ds ++ gs) = { results := [.lit (.bool true)], args := ds }) (hb : Below W.heap.size W W') :
    s.post enc P f apart fresh handsOn false W args (.bool true) W' := by
  have hlt : ∀ x ∈ before, x.block < W.heap.size := fun x hx => by simpa using hW.lt x hx
  have hW' := hW
  obtain ⟨p, q, hA, hV, rfl, _, _⟩ := hW
  rw [hv] at hV
  have hq : q = [] := by
    cases gs with
    | nil => exact hV
    | cons g r => exact absurd hV (by intro h; cases h)
  subst hq
  refine ⟨ds, gs, _, [], p, [], hW', ?_, ?_, ?_, hb.frame _, fun h => by cases h⟩
  · rw [hs, hres]; exact trodAll_mk1 (shut_bool htb true)
  · rw [hs]; exact trodAll_below hl hb hr hA (fun x hx => hlt x (by simp [hx]))
  · rw [hs, hv]; rfl
end
end
end Go.Y
