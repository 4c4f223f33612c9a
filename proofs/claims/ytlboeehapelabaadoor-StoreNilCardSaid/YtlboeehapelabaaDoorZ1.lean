/- A separation logic over the machine's fenced walk: heaplets, assertions, environments of temporaries, and the rules for code. -/
import Derived.OrdersIn
import Derived.Below
set_option linter.unusedVariables false
namespace Go.Z

/-! ### Heaplets and assertions -/
abbrev Hp := Nat → Option Obj
abbrev SP := Hp → Prop
def Hp.nil : Hp := fun _ => none
def Hp.disj (h1 h2 : Hp) : Prop := ∀ i, h1 i = none ∨ h2 i = none
def Hp.un (h1 h2 : Hp) : Hp := fun i => (h1 i).or (h2 i)
def star (A B : SP) : SP := fun h => ∃ h1 h2, Hp.disj h1 h2 ∧ h = Hp.un h1 h2 ∧ A h1 ∧ B h2
def pt (b : Nat) (o : Obj) : SP := fun h => h = fun i => if i = b then some o else none
def emp : SP := fun h => h = Hp.nil
def tru : SP := fun _ => True
def ex {α : Type} (A : α → SP) : SP := fun h => ∃ x, A x h
def lft (p : Prop) (A : SP) : SP := fun h => p ∧ A h
def sep : List SP → SP
  | [] => tru
  | A :: l => star A (sep l)

theorem Hp.disj_comm {a b : Hp} (h : Hp.disj a b) : Hp.disj b a := fun i => (h i).symm
theorem Hp.un_comm {a b : Hp} (h : Hp.disj a b) : Hp.un a b = Hp.un b a := by
  funext i; rcases h i with e | e <;> simp [Hp.un, e]
theorem Hp.un_assoc (a b c : Hp) : Hp.un (Hp.un a b) c = Hp.un a (Hp.un b c) := by
  funext i; simp [Hp.un, Option.or_assoc]
theorem Hp.un_nil (a : Hp) : Hp.un a Hp.nil = a := by funext i; simp [Hp.un, Hp.nil]
theorem Hp.nil_un (a : Hp) : Hp.un Hp.nil a = a := by funext i; simp [Hp.un, Hp.nil]
theorem Hp.un_none {a b : Hp} {i : Nat} : Hp.un a b i = none ↔ a i = none ∧ b i = none := by simp [Hp.un]
theorem Hp.disj_un {a b c : Hp} : Hp.disj (Hp.un a b) c ↔ Hp.disj a c ∧ Hp.disj b c := by
  constructor
  · intro h
    refine ⟨fun i => ?_, fun i => ?_⟩ <;> rcases h i with e | e
    · exact .inl (Hp.un_none.1 e).1
    · exact .inr e
    · exact .inl (Hp.un_none.1 e).2
    · exact .inr e
  · intro ⟨h1, h2⟩ i
    rcases h1 i with e | e
    · rcases h2 i with e' | e'
      · exact .inl (Hp.un_none.2 ⟨e, e'⟩)
      · exact .inr e'
    · exact .inr e
theorem Hp.disj_nil (a : Hp) : Hp.disj a Hp.nil := fun _ => .inr rfl

theorem star_comm {A B : SP} {h : Hp} (H : star A B h) : star B A h := by
  obtain ⟨h1, h2, d, rfl, a, b⟩ := H
  exact ⟨h2, h1, Hp.disj_comm d, Hp.un_comm d, b, a⟩
theorem star_assoc {A B C : SP} {h : Hp} (H : star (star A B) C h) : star A (star B C) h := by
  obtain ⟨h12, h3, d, rfl, ⟨h1, h2, d', rfl, a, b⟩, c⟩ := H
  obtain ⟨d1, d2⟩ := Hp.disj_un.1 d
  refine ⟨h1, Hp.un h2 h3, ?_, Hp.un_assoc _ _ _, a, h2, h3, d2, rfl, b, c⟩
  exact Hp.disj_comm (Hp.disj_un.2 ⟨Hp.disj_comm d', Hp.disj_comm d1⟩)
theorem star_assoc' {A B C : SP} {h : Hp} (H : star A (star B C) h) : star (star A B) C h := by
  have h1 := star_comm H
  have h2 := star_assoc h1
  have h3 := star_comm h2
  have h4 := star_assoc h3
  exact star_comm h4
theorem star_mono {A A' B B' : SP} {h : Hp} (ha : ∀ h, A h → A' h) (hb : ∀ h, B h → B' h) (H : star A B h) : star A' B' h := by
  obtain ⟨h1, h2, d, e, a, b⟩ := H
  exact ⟨h1, h2, d, e, ha _ a, hb _ b⟩
theorem star_left_comm {A B C : SP} {h : Hp} (H : star A (star B C) h) : star B (star A C) h :=
  star_assoc (star_mono (fun _ => star_comm) (fun _ x => x) (star_assoc' H))
theorem sep_up (l : List SP) {h1 h2 : Hp} (d : Hp.disj h1 h2) (H : sep l h2) : sep l (Hp.un h1 h2) := by
  induction l generalizing h1 h2 with
  | nil => trivial
  | cons A l ih =>
    obtain ⟨a, b, d', rfl, ha, hb⟩ := H
    have d'' := Hp.disj_un.1 (Hp.disj_comm d)
    refine ⟨a, Hp.un h1 b, Hp.disj_comm (Hp.disj_un.2 ⟨Hp.disj_comm d''.1, Hp.disj_comm d'⟩), ?_, ha, ih (Hp.disj_comm d''.2) hb⟩
    rw [← Hp.un_assoc, ← Hp.un_assoc, Hp.un_comm (Hp.disj_comm d''.1)]
theorem tru_sep (l : List SP) {h : Hp} (H : star tru (sep l) h) : sep l h := by
  obtain ⟨h1, h2, d, rfl, _, H⟩ := H
  exact sep_up l d H
theorem sep_tru (l : List SP) {h : Hp} (H : sep l h) : star tru (sep l) h := ⟨Hp.nil, h, fun _ => .inl rfl, (Hp.nil_un _).symm, trivial, H⟩
theorem sep_app (l l' : List SP) {h : Hp} : sep (l ++ l') h ↔ star (sep l) (sep l') h := by
  induction l generalizing h with
  | nil => exact ⟨sep_tru l', tru_sep l'⟩
  | cons A l ih =>
    constructor
    · intro H; exact star_assoc' (star_mono (fun _ x => x) (fun _ x => ih.1 x) H)
    · intro H; exact star_mono (fun _ x => x) (fun _ x => ih.2 x) (star_assoc H)

/-- 'H' can be told as 'Hc' and the rest 'Hr'. -/
def Split (H Hc Hr : List SP) : Prop := ∀ h, sep H h → sep (Hc ++ Hr) h
def Pick (H : List SP) (A : SP) (H' : List SP) : Prop := ∀ h, sep H h → star A (sep H') h
theorem Pick.head {A : SP} {H : List SP} : Pick (A :: H) A H := fun _ x => x
theorem Pick.tail {A B : SP} {H H' : List SP} (p : Pick H A H') : Pick (B :: H) A (B :: H') :=
  fun _ x => star_left_comm (star_mono (fun _ y => y) (fun _ y => p _ y) x)
theorem Split.nil {H : List SP} : Split H [] H := fun _ x => x
theorem Split.cons {A : SP} {H H' Hc Hr : List SP} (p : Pick H A H') (s : Split H' Hc Hr) : Split H (A :: Hc) Hr :=
  fun h x => star_mono (fun _ y => y) (fun _ y => s _ y) (p h x)
theorem Split.weak {H Hc Hr : List SP} (s : Split H Hc Hr) : ∀ h, sep H h → sep Hc h := fun h x => by
  obtain ⟨a, b, d, rfl, ha, hb⟩ := (sep_app Hc Hr).1 (s h x)
  rw [Hp.un_comm d]; exact sep_up Hc (Hp.disj_comm d) ha

/-! ### The world: a frame (an older world's files and draws, an assertion on what is not ours) -/
def hp (w : World) : Hp := fun i => w.heap[i]?
structure Hold (Γ : World) (H : List SP) (F : SP) (w : World) : Prop where
  os : w.os = Γ.os
  tape : w.tape = Γ.tape
  output : w.output = Γ.output
  heap : star F (sep H) (hp w)

theorem Hold.weaken {Γ w : World} {H H' : List SP} {F : SP} (h : Hold Γ H F w) (hs : ∀ x, sep H x → sep H' x) : Hold Γ H' F w :=
  ⟨h.os, h.tape, h.output, star_mono (fun _ x => x) (fun _ x => hs _ x) h.heap⟩
theorem Hold.drew {Γ w : World} {H : List SP} {F : SP} (h : Hold Γ H F w) (n : Nat) : Hold Γ H F { w with drawn := n } := ⟨h.os, h.tape, h.output, h.heap⟩
/-- Into a callee: what it needs, the rest into the frame. -/
theorem Hold.inn {Γ w : World} {H Hc Hr : List SP} {F : SP} (h : Hold Γ H F w) (s : Split H Hc Hr) : Hold Γ Hc (star F (sep Hr)) w := by
  refine ⟨h.os, h.tape, h.output, ?_⟩
  have := star_mono (fun _ x => x) (fun _ x => star_comm ((sep_app Hc Hr).1 (s _ x))) h.heap
  exact star_assoc' this
theorem Hold.out {Γ w : World} {Hc Hr : List SP} {F : SP} (h : Hold Γ Hc (star F (sep Hr)) w) : Hold Γ (Hc ++ Hr) F w := by
  refine ⟨h.os, h.tape, h.output, ?_⟩
  have := star_assoc h.heap
  exact star_mono (fun _ x => x) (fun _ x => (sep_app Hc Hr).2 (star_comm x)) this
theorem Hold.pick {Γ w : World} {H H' : List SP} {F A : SP} (h : Hold Γ H F w) (p : Pick H A H') : ∃ h1 h2, Hp.disj h1 h2 ∧ hp w = Hp.un h1 h2 ∧ A h1 ∧ star F (sep H') h2 := by
  have := star_mono (fun _ x => x) (fun _ x => p _ x) h.heap
  exact star_left_comm this
theorem Hold.block {Γ w : World} {H H' : List SP} {F : SP} {b : Nat} {o : Obj} (h : Hold Γ H F w) (p : Pick H (pt b o) H') : w.heap[b]? = some o := by
  obtain ⟨h1, h2, d, e, a, _⟩ := h.pick p
  have a' : h1 = _ := a
  have := congrFun e b
  simp only [hp, Hp.un, a'] at this
  simpa using this
/-- One block is turned. -/
theorem Hold.turn {Γ w w' : World} {H H' : List SP} {F : SP} {b : Nat} {o o' : Obj} (h : Hold Γ H F w) (p : Pick H (pt b o) H')
    (ho : w'.os = w.os) (ht : w'.tape = w.tape) (hou : w'.output = w.output) (hb : w'.heap[b]? = some o') (hn : ∀ i, i ≠ b → w'.heap[i]? = w.heap[i]?) : Hold Γ (pt b o' :: H') F w' := by
  obtain ⟨h1, h2, d, e, a', r⟩ := h.pick p
  have a : h1 = _ := a'
  refine ⟨ho.trans h.os, ht.trans h.tape, hou.trans h.output, star_left_comm ⟨fun i => if i = b then some o' else none, h2, fun i => ?_, ?_, rfl, r⟩⟩
  · by_cases hi : i = b
    · rcases d i with e1 | e1
      · rw [a] at e1; simp [hi] at e1
      · exact .inr e1
    · exact .inl (by simp [hi])
  · funext i
    have := congrFun e i
    by_cases hi : i = b
    · subst hi; simp only [hp, Hp.un, hb]; simp
    · simp only [hp, Hp.un, a, hn i hi] at this ⊢
      simpa [hi] using this
/-- A new block. -/
theorem Hold.newb {Γ w : World} {H : List SP} {F : SP} (h : Hold Γ H F w) (o : Obj) : Hold Γ (pt w.heap.size o :: H) F { w with heap := w.heap.push o } := by
  refine ⟨h.os, h.tape, h.output, star_left_comm ⟨fun i => if i = w.heap.size then some o else none, hp w, fun i => ?_, ?_, rfl, h.heap⟩⟩
  · by_cases hi : i = w.heap.size
    · exact .inr (by simp [hp, hi])
    · exact .inl (by simp [hi])
  · funext i
    by_cases hi : i = w.heap.size
    · simp [hp, Hp.un, hi]
    · simp only [hp, Hp.un, hi, if_false, Option.none_or]
      rw [Array.getElem?_push]; simp [hi]

/-! ### Temporaries -/
abbrev Lo := List (Nat × Value)
def lk : Lo → Nat → Option Value
  | [], _ => none
  | (u, v) :: l, t => if Nat.beq u t then some v else lk l t
structure Env (a : Act) (n : Nat) (ds : List Deferred) (L : Lo) : Prop where
  size : a.tmps.size = n
  defs : a.defers = ds
  get : ∀ t v, lk L t = some v → a.tmps[t]? = some v
def evalL (L : Lo) : Operand → Option Value
  | .tmp t => lk L t
  | .const v => some v
  | .global g => some (.pointer (some ⟨g, 0, none⟩))
  | .func f => some (.func (.func f) #[] #[])
def evalAll (L : Lo) : List Operand → Option (List Value)
  | [] => some []
  | x :: xs => match evalL L x, evalAll L xs with | some v, some vs => some (v :: vs) | _, _ => none
theorem Env.eval {a : Act} {n : Nat} {ds : List Deferred} {L : Lo} (h : Env a n ds L) {x : Operand} {v : Value} (e : evalL L x = some v) : a.eval x = v := by
  cases x with
  | tmp t => simp only [Act.eval, Array.getD_eq_getD_getElem?, h.get t v e, Option.getD_some]
  | const c => simp only [evalL, Option.some.injEq] at e; exact e
  | global g => simp only [evalL, Option.some.injEq] at e; exact e
  | func f => simp only [evalL, Option.some.injEq] at e; exact e
theorem Env.evalAll {a : Act} {n : Nat} {ds : List Deferred} {L : Lo} (h : Env a n ds L) : ∀ {xs : List Operand} {vs : List Value}, evalAll L xs = some vs → xs.map a.eval = vs
  | [], vs, e => by simp [Z.evalAll] at e; simp [e]
  | x :: xs, vs, e => by
    simp only [Z.evalAll] at e
    split at e
    · rename_i v vs' h1 h2
      cases e
      simp [h.eval h1, h.evalAll h2]
    · cases e
theorem Env.put {a : Act} {n : Nat} {ds : List Deferred} {L : Lo} (h : Env a n ds L) {t : Nat} (v : Value) (ht : Nat.blt t n = true) : Env (a.put (some t) v) n ds ((t, v) :: L) := by
  have hlt : t < n := by simpa [Nat.blt_eq] using ht
  refine ⟨by simp [Act.put, h.size], h.defs, fun u x e => ?_⟩
  simp only [lk] at e
  by_cases hu : t = u
  · subst hu
    simp only [Nat.beq_refl, if_true, Option.some.injEq] at e
    simp [Act.put, h.size, hlt, e]
  · have : Nat.beq t u = false := by
      cases hb : Nat.beq t u with
      | false => rfl
      | true => exact absurd (Nat.eq_of_beq_eq_true hb) hu
    rw [this] at e
    simp only [Bool.false_eq_true, if_false] at e
    have hg := h.get u x e
    simp only [Act.put, Array.getElem?_setIfInBounds, hu, if_false]
    exact hg
theorem Env.putD {a : Act} {n : Nat} {ds : List Deferred} {L : Lo} (h : Env a n ds L) (v : Value) : Env (a.put none v) n ds L := h
def putL (d : Option Nat) (v : Value) (L : Lo) : Lo := match d with | some t => (t, v) :: L | none => L
def dstOk (d : Option Nat) (n : Nat) : Bool := match d with | some t => Nat.blt t n | none => true
theorem Env.putO {a : Act} {n : Nat} {ds : List Deferred} {L : Lo} (h : Env a n ds L) {d : Option Nat} (v : Value) (ht : dstOk d n = true) : Env (a.put d v) n ds (putL d v L) := by
  cases d with
  | none => exact h
  | some t => exact h.put v ht
/-- What of the temporaries is still to be told. -/
def Sub (L L' : Lo) : Prop := ∀ t v, lk L' t = some v → lk L t = some v
theorem Sub.nil {L : Lo} : Sub L [] := fun _ _ e => by cases e
theorem Sub.cons {L L' : Lo} {t : Nat} {v : Value} (h : lk L t = some v) (s : Sub L L') : Sub L ((t, v) :: L') := fun u x e => by
  simp only [lk] at e
  split at e
  · rename_i hb
    cases Nat.eq_of_beq_eq_true hb; cases e; exact h
  · exact s u x e
theorem Sub.refl (L : Lo) : Sub L L := fun _ _ e => e
theorem Sub.trans {L L' L'' : Lo} (s : Sub L L') (s' : Sub L' L'') : Sub L L'' := fun t v e => s t v (s' t v e)
theorem Env.sub {a : Act} {n : Nat} {ds : List Deferred} {L L' : Lo} (h : Env a n ds L) (s : Sub L L') : Env a n ds L' := ⟨h.size, h.defs, fun t v e => h.get t v (s t v e)⟩

/-! ### Judgements -/
/-- How a piece of code is left. -/
inductive Out where
  | normal | exit (id : Nat) | goto (l : Nat) | ret | panic (chain : List PanicEntry)
def Out.exitOf : Out → Exit
  | .normal => .normal | .exit i => .exit i | .goto l => .goto l | .ret => .ret | .panic c => .panic c
abbrev Kont := Out → List Deferred → Lo → List SP → Prop
def fw (ro : Option Nat) : Fence := { Fence.wide with round := ro }
/-- The meaning of a continuation at the level of the walk. -/
def Kont.le (K : Kont) (n : Nat) (Γ : World) (F : SP) (Q : Exit → Act → World → Prop) : Prop :=
  ∀ e ds L H a w, K e ds L H → Env a n ds L → Hold Γ H F w → Q e.exitOf a w
def Go (P : Program) (ro : Option Nat) (n : Nat) (c : Code) (ds : List Deferred) (L : Lo) (H : List SP) (K : Kont) : Prop :=
  ∀ Γ F a w Q, Env a n ds L → Hold Γ H F w → K.le n Γ F Q → c.wpIn (fw ro) 0 P Q a w
def Kont.seq (k : List Deferred → Lo → List SP → Prop) (K : Kont) : Kont
  | .normal, ds, L, H => k ds L H
  | e, ds, L, H => K e ds L H
section rules
variable {P : Program} {ro : Option Nat} {n : Nat} {ds : List Deferred} {L : Lo} {H : List SP} {K : Kont}

theorem Go.mono {c : Code} {K' : Kont} (h : Go P ro n c ds L H K) (hk : ∀ e ds L H, K e ds L H → K' e ds L H) : Go P ro n c ds L H K' :=
  fun Γ F a w Q he hh hq => h Γ F a w Q he hh fun e ds L H a w k => hq e ds L H a w (hk _ _ _ _ k)
theorem Go.sub {c : Code} {L' : Lo} (h : Go P ro n c ds L' H K) (s : Sub L L') : Go P ro n c ds L H K :=
  fun Γ F a w Q he hh hq => h Γ F a w Q (he.sub s) hh hq
theorem Go.weak {c : Code} {H' : List SP} (h : Go P ro n c ds L H' K) (s : ∀ x, sep H x → sep H' x) : Go P ro n c ds L H K :=
  fun Γ F a w Q he hh hq => h Γ F a w Q he (hh.weaken s) hq
theorem Go.skip (k : K .normal ds L H) : Go P ro n .skip ds L H K := fun Γ F a w Q he hh hq => wpIn_skip (hq .normal _ _ _ _ _ k he hh)
theorem Go.label {l : Nat} (k : K .normal ds L H) : Go P ro n (.label l) ds L H K := fun Γ F a w Q he hh hq => wpIn_label (hq .normal _ _ _ _ _ k he hh)
theorem Go.exit {id : Nat} (k : K (.exit id) ds L H) : Go P ro n (.exit id) ds L H K := fun Γ F a w Q he hh hq => wpIn_exit (hq (.exit id) _ _ _ _ _ k he hh)
theorem Go.ret (k : K .ret ds L H) : Go P ro n .ret ds L H K := fun Γ F a w Q he hh hq => wpIn_ret (hq .ret _ _ _ _ _ k he hh)
theorem Go.seq {x y : Code} (h : Go P ro n x ds L H (Kont.seq (fun ds L H => Go P ro n y ds L H K) K)) : Go P ro n (.seq x y) ds L H K := by
  intro Γ F a w Q he hh hq
  refine wpIn_seq (h Γ F a w _ he hh ?_)
  intro e ds' L' H' a' w' k he' hh'
  cases e with
  | normal => exact k Γ F a' w' Q he' hh' hq
  | exit i => exact hq (.exit i) _ _ _ _ _ k he' hh'
  | goto i => exact hq (.goto i) _ _ _ _ _ k he' hh'
  | ret => exact hq .ret _ _ _ _ _ k he' hh'
  | panic c => exact hq (.panic c) _ _ _ _ _ k he' hh'
theorem Go.cond {c : Operand} {x y : Code} {t : Bool} (hc : evalL L c = some (.bool t)) (ht : t = true → Go P ro n x ds L H K) (hf : t = false → Go P ro n y ds L H K) : Go P ro n (.cond c x y) ds L H K := by
  intro Γ F a w Q he hh hq
  refine wpIn_cond_split (he.eval hc) (fun e => ht e Γ F a w Q he hh hq) (fun e => hf e Γ F a w Q he hh hq)
theorem Go.cond_dec {c : Operand} {x y : Code} {p : Prop} [Decidable p] (hc : evalL L c = some (.bool (decide p))) (ht : p → Go P ro n x ds L H K) (hf : ¬ p → Go P ro n y ds L H K) : Go P ro n (.cond c x y) ds L H K :=
  Go.cond hc (fun e => ht (of_decide_eq_true e)) (fun e => hf (of_decide_eq_false e))
theorem Go.cond_not {c : Operand} {x y : Code} {p : Prop} [Decidable p] (hc : evalL L c = some (.bool (!decide p))) (ht : ¬ p → Go P ro n x ds L H K) (hf : p → Go P ro n y ds L H K) : Go P ro n (.cond c x y) ds L H K :=
  Go.cond hc (fun e => ht (of_decide_eq_false (by simpa using e))) (fun e => hf (of_decide_eq_true (by simpa using e)))
theorem Go.cond_true {c : Operand} {x y : Code} (hc : evalL L c = some (.bool true)) (ht : Go P ro n x ds L H K) : Go P ro n (.cond c x y) ds L H K := Go.cond hc (fun _ => ht) (fun e => by cases e)
theorem Go.cond_false {c : Operand} {x y : Code} (hc : evalL L c = some (.bool false)) (hf : Go P ro n y ds L H K) : Go P ro n (.cond c x y) ds L H K := Go.cond hc (fun e => by cases e) (fun _ => hf)
def Kont.block (id : Nat) (K : Kont) : Kont
  | .exit i, ds, L, H => if i = id then K .normal ds L H else K (.exit i) ds L H
  | e, ds, L, H => K e ds L H
theorem Go.block {id : Nat} {c : Code} (h : Go P ro n c ds L H (Kont.block id K)) : Go P ro n (.block id c) ds L H K := by
  intro Γ F a w Q he hh hq
  refine wpIn_block (h Γ F a w _ he hh ?_)
  intro e ds' L' H' a' w' k he' hh'
  cases e with
  | normal => exact hq .normal _ _ _ _ _ k he' hh'
  | exit i =>
    simp only [Kont.block] at k
    simp only [Out.exitOf, Exit.inBlock]
    split at k <;> rename_i hi
    · simp only [hi, if_true]; exact hq .normal _ _ _ _ _ k he' hh'
    · simp only [hi, if_false]; exact hq (.exit i) _ _ _ _ _ k he' hh'
  | goto i => exact hq (.goto i) _ _ _ _ _ k he' hh'
  | ret => exact hq .ret _ _ _ _ _ k he' hh'
  | panic c => exact hq (.panic c) _ _ _ _ _ k he' hh'
/-- The walk's loop rule, the state told by an index. -/
theorem wpIn_loop_ix {F : Fence} {m : Nat} {α : Type} {c : Code} {a : Act} {w : World} {Q : Exit → Act → World → Prop} (I : α → Act → World → Prop) (μ : α → Nat) (x0 : α) (h0 : I x0 a w)
    (round : ∀ x a w, I x a w → c.wpIn F m P (Exit.then (fun a' w' => ∃ x', I x' a' w' ∧ μ x' < μ x) Q) a w) : (Code.loop c).wpIn F m P Q a w := by
  intro b k cs hro hb hr
  have key : ∀ j x a w, μ x = j → I x a w →
      ∃ e a' w', Q e a' w' ∧ ArrivesIn (Machine.fenced P F) P (lone (b.atR a (.code c :: .inLoop c :: k)) cs w) b k cs e a' w' := by
    intro j
    induction j using Nat.strongRecOn with
    | _ j ih =>
      intro x a w hn hI
      obtain ⟨e, a₁, w₁, hq, harr⟩ := round x a w hI b (.inLoop c :: k) cs hro hb hr
      cases e with
      | normal =>
        obtain ⟨x', hI₁, hlt⟩ := hq
        obtain ⟨e₂, a₂, w₂, hq₂, harr₂⟩ := ih (μ x') (hn ▸ hlt) x' a₁ w₁ rfl hI₁
        exact ⟨e₂, a₂, w₂, hq₂, .of_steps (StepsIn.trans harr (.one (fenced_calm hb hr rfl) stepR_inLoop)) harr₂⟩
      | exit id => exact ⟨_, a₁, w₁, hq, .pass (x := .inLoop c) rfl (fun _ _ => .inl (by simp)) harr⟩
      | goto l => exact ⟨_, a₁, w₁, hq, .pass (x := .inLoop c) rfl (fun _ _ => .inl (by simp)) harr⟩
      | ret => exact ⟨_, a₁, w₁, hq, .pass (x := .inLoop c) rfl (fun _ _ => .inl (by simp)) harr⟩
      | panic ch => exact ⟨_, a₁, w₁, hq, .pass (x := .inLoop c) rfl (fun _ _ => .inl (by simp)) harr⟩
      | outgrown => exact ⟨_, a₁, w₁, hq, .pass (x := .inLoop c) rfl (fun _ _ => .inl (by simp)) harr⟩
  obtain ⟨e, a', w', hq, harr⟩ := key _ x0 a w rfl h0
  exact ⟨e, a', w', hq, .of_steps (.one (fenced_calm hb hr rfl) stepR_loop) harr⟩
/-- A loop: 'x' tells the state at a round's head. -/
theorem Go.loop {α : Type} {c : Code} (Lx : α → Lo) (Hx : α → List SP) (φ : α → Prop) (μ : α → Nat) (x0 : α) (h0 : φ x0) (hL : Sub L (Lx x0)) (hH : ∀ h, sep H h → sep (Hx x0) h)
    (round : ∀ x, φ x → Go P ro n c ds (Lx x) (Hx x) (Kont.seq (fun ds' L' H' => ∃ x', φ x' ∧ μ x' < μ x ∧ ds' = ds ∧ Sub L' (Lx x') ∧ ∀ h, sep H' h → sep (Hx x') h) K)) : Go P ro n (.loop c) ds L H K := by
  intro Γ F a w Q he hh hq
  refine wpIn_loop_ix (P := P) (fun x a w => φ x ∧ Env a n ds (Lx x) ∧ Hold Γ (Hx x) F w) μ x0 ⟨h0, he.sub hL, hh.weaken hH⟩ ?_
  rintro x a w ⟨hx, he, hh⟩
  refine round x hx Γ F a w _ he hh ?_
  intro e ds' L' H' a' w' k he' hh'
  cases e with
  | normal =>
    obtain ⟨x', hx', hlt, rfl, hs, hw⟩ := k
    exact ⟨x', ⟨hx', he'.sub hs, hh'.weaken hw⟩, hlt⟩
  | exit i => exact hq (.exit i) _ _ _ _ _ k he' hh'
  | goto i => exact hq (.goto i) _ _ _ _ _ k he' hh'
  | ret => exact hq .ret _ _ _ _ _ k he' hh'
  | panic c => exact hq (.panic c) _ _ _ _ _ k he' hh'
end rules

/-! ### Operations -/
/-- A list of operations, one behind the other. -/
def lw (P : Program) (ro : Option Nat) (ops : Array Oper) (Q : Exit → Act → World → Prop) : List Oper → Act → World → (Act → World → Prop) → Prop
  | [], a, w, nx => nx a w
  | o :: r, a, w, nx =>
    if Region.wanted o (yielded ops a.tmps) then o.wpIn (fw ro) 0 P a w (fun a' w' => lw P ro ops Q r a' w' nx) Q
    else lw P ro ops Q r (a.put o.dst undef) w nx
theorem lw_ops {P : Program} {ro : Option Nat} {ops : Array Oper} {Q : Exit → Act → World → Prop} (is : List Nat) : ∀ (l : List Oper) (a : Act) (w : World), is.map (ops[·]?) = l.map some → lw P ro ops Q l a w (Q .normal) → wpOpsIn (fw ro) 0 P ops Q is a w := by
  induction is with
  | nil => intro l a w e h; cases l with | nil => exact h | cons o l => simp at e
  | cons i is ih =>
    intro l a w e h
    cases l with
    | nil => simp at e
    | cons o l =>
      simp only [List.map_cons, List.cons.injEq] at e
      obtain ⟨e1, e2⟩ := e
      simp only [wpOpsIn, e1]
      simp only [lw] at h
      split at h <;> rename_i hw
      · simp only [hw, if_true]
        exact Oper.wpIn_mono (fun a w h => ih l a w e2 h) h
      · simp only [hw, Bool.false_eq_true, if_false]
        exact ⟨fun _ _ => trivial, ih l _ w e2 h⟩
def Ops (P : Program) (ro : Option Nat) (n : Nat) (ops : Array Oper) (l : List Oper) (ds : List Deferred) (L : Lo) (H : List SP) (K : Kont) : Prop :=
  ∀ Γ F a w (Q : Exit → Act → World → Prop), Env a n ds L → Hold Γ H F w → K.le n Γ F Q → lw P ro ops Q l a w (Q .normal)
section ops
variable {P : Program} {ro : Option Nat} {n : Nat} {ops : Array Oper} {r : List Oper} {ds : List Deferred} {L : Lo} {H : List SP} {K : Kont}
theorem range_map {α : Type} (l : List α) : (List.range l.length).map (l.toArray[·]?) = l.map some := by
  apply List.ext_getElem?
  intro i
  by_cases hi : i < l.length
  · simp [List.getElem?_range hi, List.getElem?_eq_getElem hi]
  · simp [Nat.le_of_not_lt hi]
theorem Go.region {id : Nat} {l : List Oper} (h : Ops P ro n l.toArray l ds L H K) : Go P ro n (.region id l.toArray false) ds L H K := by
  intro Γ F a w Q he hh hq
  refine wpIn_region (lw_ops _ l a w ?_ (h Γ F a w Q he hh hq))
  simp only [List.size_toArray]
  exact range_map l
theorem Ops.nil (k : K .normal ds L H) : Ops P ro n ops [] ds L H K := fun Γ F a w Q he hh hq => hq .normal _ _ _ _ _ k he hh
theorem Ops.sub {l : List Oper} {L' : Lo} (h : Ops P ro n ops l ds L' H K) (s : Sub L L') : Ops P ro n ops l ds L H K := fun Γ F a w Q he hh hq => h Γ F a w Q (he.sub s) hh hq
theorem Ops.weak {l : List Oper} {H' : List SP} (h : Ops P ro n ops l ds L H' K) (s : ∀ x, sep H x → sep H' x) : Ops P ro n ops l ds L H K := fun Γ F a w Q he hh hq => h Γ F a w Q he (hh.weaken s) hq
/-- What an operation is guarded by: 'tt' it is carried out. -/
def wants (ops : Array Oper) (L : Lo) (o : Oper) : Option Bool :=
  match o.guard with
  | none => some true
  | some (j, b) => match (ops[j]?).bind (·.dst) with
    | some t => match lk L t with | some (.bool c) => some (c == b) | some (.tuple _) => some false | _ => none
    | none => none
theorem wants_ok {a : Act} {o : Oper} {b : Bool} (he : Env a n ds L) (h : wants ops L o = some b) : Region.wanted o (yielded ops a.tmps) = b := by
  unfold wants at h
  unfold Region.wanted
  split at h
  · rename_i hg; rw [hg]; cases h; rfl
  · rename_i j c hg
    rw [hg]
    dsimp only
    split at h
    · rename_i t ht
      split at h
      · rename_i d hl
        have hget := he.get t _ hl
        cases h
        have : yielded ops a.tmps j = some d := by
          unfold yielded
          rw [ht]
          simp [hget]
        rw [this]
        cases d <;> cases c <;> rfl
      · rename_i d hl
        have hget := he.get t _ hl
        cases h
        have : yielded ops a.tmps j = none := by
          unfold yielded
          rw [ht]
          simp [hget]
        rw [this]
        rfl
      · cases h
    · cases h
theorem Ops.off {o : Oper} (hw : wants ops L o = some false) (ht : dstOk o.dst n = true) (k : Ops P ro n ops r ds (putL o.dst undef L) H K) : Ops P ro n ops (o :: r) ds L H K := by
  intro Γ F a w Q he hh hq
  simp only [lw, wants_ok he hw, Bool.false_eq_true, if_false]
  exact k Γ F _ w Q (he.putO undef ht) hh hq
/-- The rule on which the rules for single operations stand: a value. -/
theorem Ops.val {o : Oper} (hw : wants ops L o = some true) (hd : ∀ c, o.op ≠ .defer c) (ht : dstOk o.dst n = true)
    (h : ∀ Γ F a w, Env a n ds L → Hold Γ H F w → ∃ v w' H', (execOp a.eval o).run P w = .ok (.value v) w' ∧ Hold Γ H' F w' ∧ Ops P ro n ops r ds (putL o.dst v L) H' K) : Ops P ro n ops (o :: r) ds L H K := by
  intro Γ F a w Q he hh hq
  simp only [lw, wants_ok he hw, if_true]
  obtain ⟨v, w', H', hrun, hh', k⟩ := h Γ F a w he hh
  refine ⟨fun _ _ => trivial, ?_⟩
  rw [Oper.semAt_eq _ _ _ hd, hrun]
  exact k Γ F _ w' Q (he.putO v ht) hh' hq
theorem Ops.skp {o : Oper} (hw : wants ops L o = some true) (hd : ∀ c, o.op ≠ .defer c) (ht : dstOk o.dst n = true)
    (h : ∀ Γ F a w, Env a n ds L → Hold Γ H F w → ∃ w' H', (execOp a.eval o).run P w = .ok .skip w' ∧ Hold Γ H' F w' ∧ Ops P ro n ops r ds (putL o.dst undef L) H' K) : Ops P ro n ops (o :: r) ds L H K := by
  intro Γ F a w Q he hh hq
  simp only [lw, wants_ok he hw, if_true]
  obtain ⟨w', H', hrun, hh', k⟩ := h Γ F a w he hh
  refine ⟨fun _ _ => trivial, ?_⟩
  rw [Oper.semAt_eq _ _ _ hd, hrun]
  exact k Γ F _ w' Q (he.putO undef ht) hh' hq
/-- A pure operation: its value hangs on its operands alone. -/
theorem Ops.pure {o : Oper} (v : Value) (hw : wants ops L o = some true) (hd : ∀ c, o.op ≠ .defer c) (ht : dstOk o.dst n = true)
    (h : ∀ a w, Env a n ds L → (execOp a.eval o).run P w = .ok (.value v) w) (k : Ops P ro n ops r ds (putL o.dst v L) H K) : Ops P ro n ops (o :: r) ds L H K :=
  Ops.val hw hd ht fun Γ F a w he hh => ⟨v, w, H, h a w he, hh, k⟩
end ops

/-! ### Functions -/
def Fn (P : Program) (f : FuncId) (args : List Value) (H : List SP) (Post : Ending → List SP → Prop) : Prop :=
  ∀ Γ F w, Hold Γ H F w → Calls P f args.toArray w fun e w' => ∃ H', Post e H' ∧ Hold Γ H' F w'
theorem Fn.mono {P : Program} {f : FuncId} {args : List Value} {H : List SP} {Post Post' : Ending → List SP → Prop} (h : Fn P f args H Post) (hp : ∀ e H, Post e H → Post' e H) : Fn P f args H Post' := by
  intro Γ F w hh
  refine (callsIn_wide (n := 0)).1 ?_
  have h' := (callsIn_wide (n := 0)).2 (h Γ F w hh)
  refine ⟨h'.1, fun cs hr => ?_⟩
  obtain ⟨e, w', fr, ⟨H', p, hh'⟩, c, d, l⟩ := h'.2 cs hr
  exact ⟨e, w', fr, ⟨H', hp _ _ p, hh'⟩, c, d, l⟩
theorem Fn.weak {P : Program} {f : FuncId} {args : List Value} {H H' : List SP} {Post : Ending → List SP → Prop} (h : Fn P f args H' Post) (s : ∀ x, sep H x → sep H' x) : Fn P f args H Post :=
  fun Γ F w hh => h Γ F w (hh.weaken s)
/-- How a function's results are read where its body is left. -/
def ResV (P : Program) (fn : Func) (n : Nat) (L : Lo) (H : List SP) (v : Value) : Prop :=
  ∀ Γ F a w, Env a n [] L → Hold Γ H F w → (results fn a.tmps).run P w = .ok v w
theorem Env.getD {a : Act} {n : Nat} {ds : List Deferred} {L : Lo} (h : Env a n ds L) {t : Nat} {v : Value} (e : lk L t = some v) : (a.tmps[t]?).getD undef = v := by
  simp [h.get t v e]
theorem res0 {P : Program} {fn : Func} {n : Nat} {L : Lo} {H : List SP} (h : fn.results = #[]) : ResV P fn n L H (.tuple #[]) := fun _ _ a w _ _ => by simp [results, h]
theorem res1 {P : Program} {fn : Func} {n t : Nat} {L : Lo} {H : List SP} {v : Value} (h : fn.results = #[.tmp t]) (e : lk L t = some v) : ResV P fn n L H v := fun _ _ a w he _ => by
  simp [results, h]; exact he.getD e
theorem res2 {P : Program} {fn : Func} {n t1 t2 : Nat} {L : Lo} {H : List SP} {v1 v2 : Value} (h : fn.results = #[.tmp t1, .tmp t2]) (e1 : lk L t1 = some v1) (e2 : lk L t2 = some v2) : ResV P fn n L H (.tuple #[v1, v2]) := fun _ _ a w he _ => by
  simp [results, h]; exact ⟨he.getD e1, he.getD e2⟩
theorem res3 {P : Program} {fn : Func} {n t1 t2 t3 : Nat} {L : Lo} {H : List SP} {v1 v2 v3 : Value} (h : fn.results = #[.tmp t1, .tmp t2, .tmp t3]) (e1 : lk L t1 = some v1) (e2 : lk L t2 = some v2) (e3 : lk L t3 = some v3) : ResV P fn n L H (.tuple #[v1, v2, v3]) := fun _ _ a w he _ => by
  simp [results, h]; exact ⟨he.getD e1, he.getD e2, he.getD e3⟩
/-- The end of a function's body. -/
def RetK (P : Program) (fn : Func) (n : Nat) (Post : Ending → List SP → Prop) : Kont
  | .ret, ds, L, H => ds = [] ∧ ∃ v H', ResV P fn n L H v ∧ Post (.returned v) H' ∧ ∀ h, sep H h → sep H' h
  | .normal, ds, L, H => ds = [] ∧ ∃ v H', ResV P fn n L H v ∧ Post (.returned v) H' ∧ ∀ h, sep H h → sep H' h
  | .panic c, ds, _, H => ds = [] ∧ ∃ H', Post (.panicked c) H' ∧ ∀ h, sep H h → sep H' h
  | _, _, _, _ => False
def argL : Nat → List Value → Lo
  | _, [] => []
  | i, v :: vs => (i, v) :: argL (i + 1) vs
theorem lk_argL : ∀ (vs : List Value) (i t : Nat) (v : Value), lk (argL i vs) t = some v → ∃ j, t = i + j ∧ vs[j]? = some v
  | [], _, _, _, e => by cases e
  | u :: vs, i, t, v, e => by
    simp only [argL, lk] at e
    split at e
    · rename_i hb
      cases Nat.eq_of_beq_eq_true hb; cases e
      exact ⟨0, rfl, rfl⟩
    · obtain ⟨j, rfl, hj⟩ := lk_argL vs (i + 1) t v e
      exact ⟨j + 1, by omega, by simpa using hj⟩
theorem env_enter (args : List Value) (n : Nat) (h : args.length ≤ n) : Env { tmps := args.toArray ++ Array.replicate (n - args.toArray.size) undef, defers := [] } n [] (argL 0 args) := by
  refine ⟨by simp; omega, rfl, fun t v e => ?_⟩
  obtain ⟨j, rfl, hj⟩ := lk_argL args 0 t v e
  have hlt : j < args.length := by
    rcases Nat.lt_or_ge j args.length with h | h
    · exact h
    · rw [List.getElem?_eq_none h] at hj; cases hj
  simp only [Nat.zero_add]
  rw [Array.getElem?_append_left (by simpa using hlt)]
  simpa using hj
theorem Fn.of_go {P : Program} {f : FuncId} {fn : Func} {c : Code} {args : List Value} {H : List SP} {Post : Ending → List SP → Prop} {n : Nat}
    (hf : P.funcs[f]? = some fn) (hb : fn.body = some c) (hn : fn.ntmps = n) (hl : Nat.ble args.length n = true) (h : Go P none n c [] (argL 0 args) H (RetK P fn n Post)) : Fn P f args H Post := by
  intro Γ F w hh
  refine (callsIn_wide (n := 0)).1 (callsIn_of_wp hf hb trivial ?_)
  rw [hn]
  refine h Γ F _ w _ (env_enter args n (Nat.le_of_ble_eq_true hl)) hh ?_
  intro e ds L H' a w' k he hh'
  cases e with
  | normal => obtain ⟨rfl, v, H'', r, p, s⟩ := k; exact ⟨he.defs, v, r _ _ _ _ he hh', H'', p, hh'.weaken s⟩
  | ret => obtain ⟨rfl, v, H'', r, p, s⟩ := k; exact ⟨he.defs, v, r _ _ _ _ he hh', H'', p, hh'.weaken s⟩
  | panic c => obtain ⟨rfl, H'', p, s⟩ := k; exact ⟨he.defs, H'', p, hh'.weaken s⟩
  | exit i => exact k.elim
  | goto i => exact k.elim

/-! ### Calls -/
section calls
variable {P : Program} {ro : Option Nat} {n : Nat} {ops : Array Oper} {r : List Oper} {ds : List Deferred} {L : Lo} {H : List SP} {K : Kont}
/-- What a call's ending leads to. -/
def After (P : Program) (ro : Option Nat) (n : Nat) (ops : Array Oper) (r : List Oper) (d : Option Nat) (ds : List Deferred) (L : Lo) (Hr : List SP) (K : Kont) : Ending → List SP → Prop
  | .returned v, Hc => Ops P ro n ops r ds (putL d v L) (Hc ++ Hr) K
  | .panicked c, Hc => K (.panic c) ds L (Hc ++ Hr)
  | .outgrown, _ => False
theorem Ops.enter {o : Oper} {f : FuncId} {vs : List Value} {Hc Hr : List SP} {Post : Ending → List SP → Prop} (hw : wants ops L o = some true) (hd : ∀ c, o.op ≠ .defer c) (ht : dstOk o.dst n = true)
    (hrun : ∀ Γ F a w, Env a n ds L → Hold Γ H F w → (execOp a.eval o).run P w = .ok (.enter f vs.toArray) w) (spec : Fn P f vs Hc Post) (s : Split H Hc Hr)
    (k : ∀ e Hc', Post e Hc' → After P ro n ops r o.dst ds L Hr K e Hc') : Ops P ro n ops (o :: r) ds L H K := by
  intro Γ F a w Q he hh hq
  simp only [lw, wants_ok he hw, if_true]
  refine ⟨fun _ _ => trivial, ?_⟩
  rw [Oper.semAt_eq _ _ _ hd, hrun Γ F a w he hh, Oper.uponIn_enter]
  refine ⟨fun h => (by cases h), ?_⟩
  have hc := (callsIn_wide (n := 0)).2 (spec Γ _ w (hh.inn s))
  refine ⟨trivial, fun cs hr => ?_⟩
  obtain ⟨e, w', fr, ⟨Hc', p, hh'⟩, c, d, l⟩ := hc.2 cs hr
  refine ⟨e, w', fr, ?_, c, d, l⟩
  have kk := k e Hc' p
  cases e with
  | returned v => exact kk Γ F _ w' Q (he.putO v ht) hh'.out hq
  | panicked ch => exact hq (.panic ch) _ _ _ _ _ kk he hh'.out
  | outgrown => exact kk.elim
/-- A plain call of a function by its number, which has a body. -/
theorem Ops.call {d : Option Nat} {f : FuncId} {xs : Array Operand} {ts : Array TypeId} {T : TypeId} {p : String} {es : Array Edge} {g : Option (Nat × Bool)} {vs : List Value} {Hc Hr : List SP} {Post : Ending → List SP → Prop} {fn : Func}
    (hf : P.funcs[f]? = some fn) (hb : fn.body.isNone = false) (hng : (fn.name == "runtime.NumGoroutine") = false)
    (hw : wants ops L ⟨d, .call { callee := .value (.func f), args := xs, argTypes := ts }, T, p, es, g⟩ = some true) (ht : dstOk d n = true)
    (hx : evalAll L xs.toList = some vs) (spec : Fn P f vs Hc Post) (s : Split H Hc Hr)
    (k : ∀ e Hc', Post e Hc' → After P ro n ops r d ds L Hr K e Hc') : Ops P ro n ops (⟨d, .call { callee := .value (.func f), args := xs, argTypes := ts }, T, p, es, g⟩ :: r) ds L H K := by
  refine Ops.enter hw (by simp) ht (fun Γ F a w he hh => ?_) spec s k
  have hargs := he.evalAll hx
  have : xs.map a.eval = vs.toArray := by apply Array.ext'; simpa using hargs
  have hng' : ¬ fn.name = "runtime.NumGoroutine" := by simpa using hng
  have hb' : ¬ fn.body = none := by cases h : fn.body <;> simp_all
  simp only [execOp, resolve, Sem.run_bind]
  simp [Act.eval, Deferred.ofValue, invoke, callFunc, hf, hb', hng', this]
end calls
end Go.Z
