/- A separation logic over the machine's fenced walk: heaplets, assertions, environments of temporaries, and the rules for code. -/
import Derived.OrdersIn
import Derived.Below
import Derived.WideLaws
import Derived.KernelRfl
import Derived.Laws.Strings
import Derived.Laws.Append
set_option linter.unusedVariables false
set_option linter.constructorNameAsVariable false
set_option linter.unusedSimpArgs false
namespace Go.Z
abbrev Hp := Nat -> Option Obj
abbrev SP := Hp -> Prop
def Hp.nil : Hp := λ _ => none
def Hp.disj (h1 h2 : Hp) : Prop := ∀ i, h1 i = none \/ h2 i = none
def Hp.un (h1 h2 : Hp) : Hp := λ i => (h1 i).or (h2 i)
def star (A B : SP) : SP := λ h => ∃ h1 h2, Hp.disj h1 h2 /\ h = Hp.un h1 h2 /\ A h1 /\ B h2
def pt (b : Nat) (o : Obj) : SP := λ h => h = λ i => if i = b then some o else none
def tru : SP := λ _ => True
def sep : List SP -> SP
 | [] => tru
 | A :: l => star A (sep l)
theorem Hp.disj_comm {a b : Hp} (h : Hp.disj a b) : Hp.disj b a := λ i => (h i).symm
theorem Hp.un_comm {a b : Hp} (h : Hp.disj a b) : Hp.un a b = Hp.un b a := by
 funext i; rcases h i with e | e <;> simp [Hp.un, e]
theorem Hp.un_assoc (a b c : Hp) : Hp.un (Hp.un a b) c = Hp.un a (Hp.un b c) := by
 funext i; simp [Hp.un, Option.or_assoc]
theorem Hp.un_nil (a : Hp) : Hp.un a Hp.nil = a := by funext i; simp [Hp.un, Hp.nil]
theorem Hp.nil_un (a : Hp) : Hp.un Hp.nil a = a := by funext i; simp [Hp.un, Hp.nil]
theorem Hp.un_none {a b : Hp} {i : Nat} : Hp.un a b i = none ↔ a i = none /\ b i = none := by simp [Hp.un]
theorem Hp.disj_un {a b c : Hp} : Hp.disj (Hp.un a b) c ↔ Hp.disj a c /\ Hp.disj b c := by
 constructor
 ·intro h
  refine ⟨λ i => ?_, λ i => ?_⟩ <;> rcases h i with e | e
  ·exact .inl (Hp.un_none.1 e).1
  ·exact .inr e
  ·exact .inl (Hp.un_none.1 e).2
  ·exact .inr e
 ·intro ⟨h1, h2⟩ i
  rcases h1 i with e | e
  ·rcases h2 i with e' | e'
   ·exact .inl (Hp.un_none.2 ⟨e, e'⟩)
   ·exact .inr e'
  ·exact .inr e
theorem Hp.disj_nil (a : Hp) : Hp.disj a Hp.nil := λ _ => .inr rfl
theorem zqQ {A B : SP} {h : Hp} (H : star A B h) : star B A h := by
 obtain ⟨h1, h2, d, rfl, a, b⟩ := H
 exact ⟨h2, h1, Hp.disj_comm d, Hp.un_comm d, b, a⟩
theorem zxt {A B C : SP} {h : Hp} (H : star (star A B) C h) : star A (star B C) h := by
 obtain ⟨h12, h3, d, rfl, ⟨h1, h2, d', rfl, a, b⟩, c⟩ := H
 obtain ⟨d1, d2⟩ := Hp.disj_un.1 d
 refine ⟨h1, Hp.un h2 h3, ?_, Hp.un_assoc _ _ _, a, h2, h3, d2, rfl, b, c⟩
 exact Hp.disj_comm (Hp.disj_un.2 ⟨Hp.disj_comm d', Hp.disj_comm d1⟩)
theorem zxU {A B C : SP} {h : Hp} (H : star A (star B C) h) : star (star A B) C h := by
 have h1 := zqQ H
 have h2 := zxt h1
 have h3 := zqQ h2
 have h4 := zxt h3
 exact zqQ h4
theorem zqd {A A' B B' : SP} {h : Hp} (ha : ∀ h, A h -> A' h) (hb : ∀ h, B h -> B' h) (H : star A B h) : star A' B' h := by
 obtain ⟨h1, h2, d, e, a, b⟩ := H
 exact ⟨h1, h2, d, e, ha _ a, hb _ b⟩
theorem zqk {A B C : SP} {h : Hp} (H : star A (star B C) h) : star B (star A C) h :=
 zxt (zqd (λ _ => zqQ) (λ _ x => x) (zxU H))
theorem sep_up (l : List SP) {h1 h2 : Hp} (d : Hp.disj h1 h2) (H : sep l h2) : sep l (Hp.un h1 h2) := by
 induction l generalizing h1 h2 with
 | nil => trivial
 | cons A l ih =>
  obtain ⟨a, b, d', rfl, ha, hb⟩ := H
  have d'' := Hp.disj_un.1 (Hp.disj_comm d)
  refine ⟨a, Hp.un h1 b, Hp.disj_comm (Hp.disj_un.2 ⟨Hp.disj_comm d''.1, Hp.disj_comm d'⟩), ?_, ha, ih (Hp.disj_comm d''.2) hb⟩
  rw [<- Hp.un_assoc, <- Hp.un_assoc, Hp.un_comm (Hp.disj_comm d''.1)]
theorem tru_sep (l : List SP) {h : Hp} (H : star tru (sep l) h) : sep l h := by
 obtain ⟨h1, h2, d, rfl, _, H⟩ := H
 exact sep_up l d H
theorem zkv (l : List SP) {h : Hp} (H : sep l h) : star tru (sep l) h := ⟨Hp.nil, h, λ _ => .inl rfl, (Hp.nil_un _).symm, trivial, H⟩
theorem zqD (l l' : List SP) {h : Hp} : sep (l ++ l') h ↔ star (sep l) (sep l') h := by
 induction l generalizing h with
 | nil => exact ⟨zkv l', tru_sep l'⟩
 | cons A l ih =>
  constructor
  ·intro H; exact zxU (zqd (λ _ x => x) (λ _ x => ih.1 x) H)
  ·intro H; exact zqd (λ _ x => x) (λ _ x => ih.2 x) (zxt H)
def Split (H Hc Hr : List SP) : Prop := ∀ h, sep H h -> sep (Hc ++ Hr) h
def Pick (H : List SP) (A : SP) (H' : List SP) : Prop := ∀ h, sep H h -> star A (sep H') h
theorem Pick.head {A : SP} {H : List SP} : Pick (A :: H) A H := λ _ x => x
theorem Pick.tail {A B : SP} {H H' : List SP} (p : Pick H A H') : Pick (B :: H) A (B :: H') :=
 λ _ x => zqk (zqd (λ _ y => y) (λ _ y => p _ y) x)
theorem Split.nil {H : List SP} : Split H [] H := λ _ x => x
theorem Split.weak {H Hc Hr : List SP} (s : Split H Hc Hr) : ∀ h, sep H h -> sep Hc h := λ h x => by
 obtain ⟨a, b, d, rfl, ha, hb⟩ := (zqD Hc Hr).1 (s h x)
 rw [Hp.un_comm d]; exact sep_up Hc (Hp.disj_comm d) ha
def hp (w : World) : Hp := λ i => w.heap[i]?
structure Hold (Γ : World) (H : List SP) (F : SP) (w : World) : Prop where
 os : w.os = Γ.os
 tape : w.tape = Γ.tape
 output : w.output = Γ.output
 heap : star F (sep H) (hp w)
theorem Hold.weaken {Γ w : World} {H H' : List SP} {F : SP} (h : Hold Γ H F w) (hs : ∀ x, sep H x -> sep H' x) : Hold Γ H' F w :=
 ⟨h.os, h.tape, h.output, zqd (λ _ x => x) (λ _ x => hs _ x) h.heap⟩
theorem Hold.drew {Γ w : World} {H : List SP} {F : SP} (h : Hold Γ H F w) (n : Nat) : Hold Γ H F { w with drawn := n } := ⟨h.os, h.tape, h.output, h.heap⟩
theorem Hold.inn {Γ w : World} {H Hc Hr : List SP} {F : SP} (h : Hold Γ H F w) (s : Split H Hc Hr) : Hold Γ Hc (star F (sep Hr)) w := by
 refine ⟨h.os, h.tape, h.output, ?_⟩
 have := zqd (λ _ x => x) (λ _ x => zqQ ((zqD Hc Hr).1 (s _ x))) h.heap
 exact zxU this
theorem Hold.out {Γ w : World} {Hc Hr : List SP} {F : SP} (h : Hold Γ Hc (star F (sep Hr)) w) : Hold Γ (Hc ++ Hr) F w := by
 refine ⟨h.os, h.tape, h.output, ?_⟩
 have := zxt h.heap
 exact zqd (λ _ x => x) (λ _ x => (zqD Hc Hr).2 (zqQ x)) this
theorem Hold.pick {Γ w : World} {H H' : List SP} {F A : SP} (h : Hold Γ H F w) (p : Pick H A H') : ∃ h1 h2, Hp.disj h1 h2 /\ hp w = Hp.un h1 h2 /\ A h1 /\ star F (sep H') h2 := by
 have := zqd (λ _ x => x) (λ _ x => p _ x) h.heap
 exact zqk this
theorem Hold.block {Γ w : World} {H H' : List SP} {F : SP} {b : Nat} {o : Obj} (h : Hold Γ H F w) (p : Pick H (pt b o) H') : w.heap[b]? = some o := by
 obtain ⟨h1, h2, d, e, a, _⟩ := h.pick p
 have a' : h1 = _ := a
 have := congrFun e b
 simp only [hp, Hp.un, a'] at this
 simpa using this
theorem Hold.turn {Γ w w' : World} {H H' : List SP} {F : SP} {b : Nat} {o o' : Obj} (h : Hold Γ H F w) (p : Pick H (pt b o) H')
  (ho : w'.os = w.os) (ht : w'.tape = w.tape) (hou : w'.output = w.output) (hb : w'.heap[b]? = some o') (hn : ∀ i, i ≠ b -> w'.heap[i]? = w.heap[i]?) : Hold Γ (pt b o' :: H') F w' := by
 obtain ⟨h1, h2, d, e, a', r⟩ := h.pick p
 have a : h1 = _ := a'
 refine ⟨ho.trans h.os, ht.trans h.tape, hou.trans h.output, zqk ⟨λ i => if i = b then some o' else none, h2, λ i => ?_, ?_, rfl, r⟩⟩
 ·by_cases hi : i = b
  ·rcases d i with e1 | e1
   ·rw [a] at e1; simp [hi] at e1
   ·exact .inr e1
  ·exact .inl (by simp [hi])
 ·funext i
  have := congrFun e i
  by_cases hi : i = b
  ·subst hi; simp only [hp, Hp.un, hb]; simp
  ·simp only [hp, Hp.un, a, hn i hi] at this ⊢
   simpa [hi] using this
theorem Hold.newb {Γ w : World} {H : List SP} {F : SP} (h : Hold Γ H F w) (o : Obj) : Hold Γ (pt w.heap.size o :: H) F { w with heap := w.heap.push o } := by
 refine ⟨h.os, h.tape, h.output, zqk ⟨λ i => if i = w.heap.size then some o else none, hp w, λ i => ?_, ?_, rfl, h.heap⟩⟩
 ·by_cases hi : i = w.heap.size
  ·exact .inr (by simp [hp, hi])
  ·exact .inl (by simp [hi])
 ·funext i
  by_cases hi : i = w.heap.size
  ·simp [hp, Hp.un, hi]
  ·simp only [hp, Hp.un, hi, if_false, Option.none_or]
   rw [Array.getElem?_push]; simp [hi]
abbrev Lo := List (Nat × Value)
def lk : Lo -> Nat -> Option Value
 | [], _ => none
 | (u, v) :: l, t => if Nat.beq u t then some v else lk l t
structure Env (a : Act) (n : Nat) (ds : List Deferred) (L : Lo) : Prop where
 size : a.tmps.size = n
 defs : a.defers = ds
 get : ∀ t v, lk L t = some v -> a.tmps[t]? = some v
def evalL (L : Lo) : Operand -> Option Value
 | .tmp t => lk L t
 | .const v => some v
 | .global g => some (.pointer (some ⟨g, 0, none⟩))
 | .func f => some (.func (.func f) #[] #[])
def evalAll (L : Lo) : List Operand -> Option (List Value)
 | [] => some []
 | x :: xs => match evalL L x, evalAll L xs with | some v, some vs => some (v :: vs) | _, _ => none
theorem Env.eval {a : Act} {n : Nat} {ds : List Deferred} {L : Lo} (h : Env a n ds L) {x : Operand} {v : Value} (e : evalL L x = some v) : a.eval x = v := by
 cases x with
 | tmp t => simp only [Act.eval, Array.getD_eq_getD_getElem?, h.get t v e, Option.getD_some]
 | const c => simp only [evalL, Option.some.injEq] at e; exact e
 | global g => simp only [evalL, Option.some.injEq] at e; exact e
 | func f => simp only [evalL, Option.some.injEq] at e; exact e
theorem Env.evalAll {a : Act} {n : Nat} {ds : List Deferred} {L : Lo} (h : Env a n ds L) : ∀ {xs : List Operand} {vs : List Value}, evalAll L xs = some vs -> xs.map a.eval = vs
 | [], vs, e => by simp [Z.evalAll] at e; simp [e]
 | x :: xs, vs, e => by
  simp only [Z.evalAll] at e
  split at e
  ·rename_i v vs' h1 h2
   cases e
   simp [h.eval h1, h.evalAll h2]
  ·cases e
theorem Env.put {a : Act} {n : Nat} {ds : List Deferred} {L : Lo} (h : Env a n ds L) {t : Nat} (v : Value) (ht : Nat.blt t n = true) : Env (a.put (some t) v) n ds ((t, v) :: L) := by
 have hlt : t < n := by simpa [Nat.blt_eq] using ht
 refine ⟨by simp [Act.put, h.size], h.defs, λ u x e => ?_⟩
 simp only [lk] at e
 by_cases hu : t = u
 ·subst hu
  simp only [Nat.beq_refl, if_true, Option.some.injEq] at e
  simp [Act.put, h.size, hlt, e]
 ·have : Nat.beq t u = false := by
   cases hb : Nat.beq t u with
   | false => rfl
   | true => exact absurd (Nat.eq_of_beq_eq_true hb) hu
  rw [this] at e
  simp only [Bool.false_eq_true, if_false] at e
  have hg := h.get u x e
  simp only [Act.put, Array.getElem?_setIfInBounds, hu, if_false]
  exact hg
def putL (d : Option Nat) (v : Value) (L : Lo) : Lo := match d with | some t => (t, v) :: L | none => L
def dstOk (d : Option Nat) (n : Nat) : Bool := match d with | some t => Nat.blt t n | none => true
theorem Env.putO {a : Act} {n : Nat} {ds : List Deferred} {L : Lo} (h : Env a n ds L) {d : Option Nat} (v : Value) (ht : dstOk d n = true) : Env (a.put d v) n ds (putL d v L) := by
 cases d with
 | none => exact h
 | some t => exact h.put v ht
def Sub (L L' : Lo) : Prop := ∀ t v, lk L' t = some v -> lk L t = some v
theorem Sub.nil {L : Lo} : Sub L [] := λ _ _ e => by cases e
theorem Sub.refl (L : Lo) : Sub L L := λ _ _ e => e
theorem Env.sub {a : Act} {n : Nat} {ds : List Deferred} {L L' : Lo} (h : Env a n ds L) (s : Sub L L') : Env a n ds L' := ⟨h.size, h.defs, λ t v e => h.get t v (s t v e)⟩
inductive Out where
 | normal | exit (id : Nat) | goto (l : Nat) | ret | panic (chain : List PanicEntry)
def Out.exitOf : Out -> Exit
 | .normal => .normal | .exit i => .exit i | .goto l => .goto l | .ret => .ret | .panic c => .panic c
abbrev Kont := Out -> List Deferred -> Lo -> List SP -> Prop
def fw (ro : Option Nat) : Fence := { Fence.wide with round := ro }
def Kont.le (K : Kont) (n : Nat) (Γ : World) (F : SP) (Q : Exit -> Act -> World -> Prop) : Prop :=
 ∀ e ds L H a w, K e ds L H -> Env a n ds L -> Hold Γ H F w -> Q e.exitOf a w
def Go (P : Program) (ro : Option Nat) (n : Nat) (c : Code) (ds : List Deferred) (L : Lo) (H : List SP) (K : Kont) : Prop :=
 ∀ Γ F a w Q, Env a n ds L -> Hold Γ H F w -> K.le n Γ F Q -> c.wpIn (fw ro) 0 P Q a w
def Kont.seq (k : List Deferred -> Lo -> List SP -> Prop) (K : Kont) : Kont
 | .normal, ds, L, H => k ds L H
 | e, ds, L, H => K e ds L H
section rules
variable {P : Program} {ro : Option Nat} {n : Nat} {ds : List Deferred} {L : Lo} {H : List SP} {K : Kont}
theorem Go.sub {c : Code} {L' : Lo} (h : Go P ro n c ds L' H K) (s : Sub L L') : Go P ro n c ds L H K :=
 λ Γ F a w Q he hh hq => h Γ F a w Q (he.sub s) hh hq
theorem Go.weak {c : Code} {H' : List SP} (h : Go P ro n c ds L H' K) (s : ∀ x, sep H x -> sep H' x) : Go P ro n c ds L H K :=
 λ Γ F a w Q he hh hq => h Γ F a w Q he (hh.weaken s) hq
theorem Go.skip (k : K .normal ds L H) : Go P ro n .skip ds L H K := λ Γ F a w Q he hh hq => wpIn_skip (hq .normal _ _ _ _ _ k he hh)
theorem Go.label {l : Nat} (k : K .normal ds L H) : Go P ro n (.label l) ds L H K := λ Γ F a w Q he hh hq => wpIn_label (hq .normal _ _ _ _ _ k he hh)
theorem Go.exit {id : Nat} (k : K (.exit id) ds L H) : Go P ro n (.exit id) ds L H K := λ Γ F a w Q he hh hq => wpIn_exit (hq (.exit id) _ _ _ _ _ k he hh)
theorem Go.ret (k : K .ret ds L H) : Go P ro n .ret ds L H K := λ Γ F a w Q he hh hq => wpIn_ret (hq .ret _ _ _ _ _ k he hh)
theorem Go.seq {x y : Code} (h : Go P ro n x ds L H (Kont.seq (λ ds L H => Go P ro n y ds L H K) K)) : Go P ro n (.seq x y) ds L H K := by
 intro Γ F a w Q he hh hq
 refine wpIn_seq (h Γ F a w _ he hh ?_)
 intro e ds' L' H' a' w' k he' hh'
 cases e with
 | normal => exact k Γ F a' w' Q he' hh' hq
 | exit i => exact hq (.exit i) _ _ _ _ _ k he' hh'
 | goto i => exact hq (.goto i) _ _ _ _ _ k he' hh'
 | ret => exact hq .ret _ _ _ _ _ k he' hh'
 | panic c => exact hq (.panic c) _ _ _ _ _ k he' hh'
theorem Go.cond {c : Operand} {x y : Code} {t : Bool} (hc : evalL L c = some (.bool t)) (ht : t = true -> Go P ro n x ds L H K) (hf : t = false -> Go P ro n y ds L H K) : Go P ro n (.cond c x y) ds L H K := by
 intro Γ F a w Q he hh hq
 refine wpIn_cond_split (he.eval hc) (λ e => ht e Γ F a w Q he hh hq) (λ e => hf e Γ F a w Q he hh hq)
theorem Go.cond_true {c : Operand} {x y : Code} (hc : evalL L c = some (.bool true)) (ht : Go P ro n x ds L H K) : Go P ro n (.cond c x y) ds L H K := Go.cond hc (λ _ => ht) (λ e => by cases e)
theorem Go.cond_false {c : Operand} {x y : Code} (hc : evalL L c = some (.bool false)) (hf : Go P ro n y ds L H K) : Go P ro n (.cond c x y) ds L H K := Go.cond hc (λ e => by cases e) (λ _ => hf)
def Kont.block (id : Nat) (K : Kont) : Kont
 | .exit i, ds, L, H => if i = id then K .normal ds L H else K (.exit i) ds L H
 | e, ds, L, H => K e ds L H
theorem Go.block {id : Nat} {c : Code} (h : Go P ro n c ds L H (Kont.block id K)) : Go P ro n (.block id c) ds L H K := by
 intro Γ F a w Q he hh hq
 refine wpIn_block (h Γ F a w _ he hh ?_)
 intro e ds' L' H' a' w' k he' hh'
 cases e with
 | normal => exact hq .normal _ _ _ _ _ k he' hh'
 | exit i =>
  simp only [Kont.block] at k
  simp only [Out.exitOf, Exit.inBlock]
  split at k <;> rename_i hi
  ·simp only [hi, if_true]; exact hq .normal _ _ _ _ _ k he' hh'
  ·simp only [hi, if_false]; exact hq (.exit i) _ _ _ _ _ k he' hh'
 | goto i => exact hq (.goto i) _ _ _ _ _ k he' hh'
 | ret => exact hq .ret _ _ _ _ _ k he' hh'
 | panic c => exact hq (.panic c) _ _ _ _ _ k he' hh'
theorem zkL {F : Fence} {m : Nat} {α : Type} {c : Code} {a : Act} {w : World} {Q : Exit -> Act -> World -> Prop} (I : α -> Act -> World -> Prop) (μ : α -> Nat) (x0 : α) (h0 : I x0 a w)
  (round : ∀ x a w, I x a w -> c.wpIn F m P (Exit.then (λ a' w' => ∃ x', I x' a' w' /\ μ x' < μ x) Q) a w) : (Code.loop c).wpIn F m P Q a w := by
 intro b k cs hro hb hr
 have key : ∀ j x a w, μ x = j -> I x a w ->
   ∃ e a' w', Q e a' w' /\ ArrivesIn (Machine.fenced P F) P (lone (b.atR a (.code c :: .inLoop c :: k)) cs w) b k cs e a' w' := by
  intro j
  induction j using Nat.strongRecOn with
  | _ j ih =>
   intro x a w hn hI
   obtain ⟨e, a₁, w₁, hq, harr⟩ := round x a w hI b (.inLoop c :: k) cs hro hb hr
   cases e with
   | normal =>
    obtain ⟨x', hI₁, hlt⟩ := hq
    obtain ⟨e₂, a₂, w₂, hq₂, harr₂⟩ := ih (μ x') (hn ▸ hlt) x' a₁ w₁ rfl hI₁
    exact ⟨e₂, a₂, w₂, hq₂, .of_steps (StepsIn.trans harr (.one (fenced_calm hb hr rfl) stepR_inLoop)) harr₂⟩
   | exit id => exact ⟨_, a₁, w₁, hq, .pass (x := .inLoop c) rfl (λ _ _ => .inl (by simp)) harr⟩
   | goto l => exact ⟨_, a₁, w₁, hq, .pass (x := .inLoop c) rfl (λ _ _ => .inl (by simp)) harr⟩
   | ret => exact ⟨_, a₁, w₁, hq, .pass (x := .inLoop c) rfl (λ _ _ => .inl (by simp)) harr⟩
   | panic ch => exact ⟨_, a₁, w₁, hq, .pass (x := .inLoop c) rfl (λ _ _ => .inl (by simp)) harr⟩
   | outgrown => exact ⟨_, a₁, w₁, hq, .pass (x := .inLoop c) rfl (λ _ _ => .inl (by simp)) harr⟩
 obtain ⟨e, a', w', hq, harr⟩ := key _ x0 a w rfl h0
 exact ⟨e, a', w', hq, .of_steps (.one (fenced_calm hb hr rfl) stepR_loop) harr⟩
end rules
def lw (P : Program) (ro : Option Nat) (ops : Array Oper) (Q : Exit -> Act -> World -> Prop) : List Oper -> Act -> World -> (Act -> World -> Prop) -> Prop
 | [], a, w, nx => nx a w
 | o :: r, a, w, nx =>
  if Region.wanted o (yielded ops a.tmps) then o.wpIn (fw ro) 0 P a w (λ a' w' => lw P ro ops Q r a' w' nx) Q
  else lw P ro ops Q r (a.put o.dst undef) w nx
theorem lw_ops {P : Program} {ro : Option Nat} {ops : Array Oper} {Q : Exit -> Act -> World -> Prop} (is : List Nat) : ∀ (l : List Oper) (a : Act) (w : World), is.map (ops[·]?) = l.map some -> lw P ro ops Q l a w (Q .normal) -> wpOpsIn (fw ro) 0 P ops Q is a w := by
 induction is with
 | nil => intro l a w e h; cases l with | nil => exact h | cons o l => simp at e
 | cons i is ih =>
  intro l a w e h
  cases l with
  | nil => simp at e
  | cons o l =>
   simp only [List.map_cons, List.cons.injEq] at e
   obtain ⟨e1, e2⟩ := e
   simp only [wpOpsIn, e1]
   simp only [lw] at h
   split at h <;> rename_i hw
   ·simp only [hw, if_true]
    exact Oper.wpIn_mono (λ a w h => ih l a w e2 h) h
   ·simp only [hw, Bool.false_eq_true, if_false]
    exact ⟨λ _ _ => trivial, ih l _ w e2 h⟩
def Ops (P : Program) (ro : Option Nat) (n : Nat) (ops : Array Oper) (l : List Oper) (ds : List Deferred) (L : Lo) (H : List SP) (K : Kont) : Prop :=
 ∀ Γ F a w (Q : Exit -> Act -> World -> Prop), Env a n ds L -> Hold Γ H F w -> K.le n Γ F Q -> lw P ro ops Q l a w (Q .normal)
section ops
variable {P : Program} {ro : Option Nat} {n : Nat} {ops : Array Oper} {r : List Oper} {ds : List Deferred} {L : Lo} {H : List SP} {K : Kont}
theorem range_map {α : Type} (l : List α) : (List.range l.length).map (l.toArray[·]?) = l.map some := by
 apply List.ext_getElem?
 intro i
 by_cases hi : i < l.length
 ·simp [List.getElem?_range hi, List.getElem?_eq_getElem hi]
 ·simp [Nat.le_of_not_lt hi]
theorem Go.region {id : Nat} {l : List Oper} (h : Ops P ro n l.toArray l ds L H K) : Go P ro n (.region id l.toArray false) ds L H K := by
 intro Γ F a w Q he hh hq
 refine wpIn_region (lw_ops _ l a w ?_ (h Γ F a w Q he hh hq))
 simp only [List.size_toArray]
 exact range_map l
theorem Ops.nil (k : K .normal ds L H) : Ops P ro n ops [] ds L H K := λ Γ F a w Q he hh hq => hq .normal _ _ _ _ _ k he hh
theorem Ops.sub {l : List Oper} {L' : Lo} (h : Ops P ro n ops l ds L' H K) (s : Sub L L') : Ops P ro n ops l ds L H K := λ Γ F a w Q he hh hq => h Γ F a w Q (he.sub s) hh hq
theorem Ops.weak {l : List Oper} {H' : List SP} (h : Ops P ro n ops l ds L H' K) (s : ∀ x, sep H x -> sep H' x) : Ops P ro n ops l ds L H K := λ Γ F a w Q he hh hq => h Γ F a w Q he (hh.weaken s) hq
def wants (ops : Array Oper) (L : Lo) (o : Oper) : Option Bool :=
 match o.guard with
 | none => some true
 | some (j, b) => match (ops[j]?).bind (·.dst) with
  | some t => match lk L t with | some (.bool c) => some (c == b) | some (.tuple _) => some false | _ => none
  | none => none
theorem zqU {a : Act} {o : Oper} {b : Bool} (he : Env a n ds L) (h : wants ops L o = some b) : Region.wanted o (yielded ops a.tmps) = b := by
 unfold wants at h
 unfold Region.wanted
 split at h
 ·rename_i hg; rw [hg]; cases h; rfl
 ·rename_i j c hg
  rw [hg]
  dsimp only
  split at h
  ·rename_i t ht
   split at h
   ·rename_i d hl
    have hget := he.get t _ hl
    cases h
    have : yielded ops a.tmps j = some d := by
     unfold yielded
     rw [ht]
     simp [hget]
    rw [this]
    cases d <;> cases c <;> rfl
   ·rename_i d hl
    have hget := he.get t _ hl
    cases h
    have : yielded ops a.tmps j = none := by
     unfold yielded
     rw [ht]
     simp [hget]
    rw [this]
    rfl
   ·cases h
  ·cases h
theorem Ops.off {o : Oper} (hw : wants ops L o = some false) (ht : dstOk o.dst n = true) (k : Ops P ro n ops r ds (putL o.dst undef L) H K) : Ops P ro n ops (o :: r) ds L H K := by
 intro Γ F a w Q he hh hq
 simp only [lw, zqU he hw, Bool.false_eq_true, if_false]
 exact k Γ F _ w Q (he.putO undef ht) hh hq
theorem Ops.val {o : Oper} (hw : wants ops L o = some true) (hd : ∀ c, o.op ≠ .defer c) (ht : dstOk o.dst n = true)
  (h : ∀ Γ F a w, Env a n ds L -> Hold Γ H F w -> ∃ v w' H', (execOp a.eval o).run P w = .ok (.value v) w' /\ Hold Γ H' F w' /\ Ops P ro n ops r ds (putL o.dst v L) H' K) : Ops P ro n ops (o :: r) ds L H K := by
 intro Γ F a w Q he hh hq
 simp only [lw, zqU he hw, if_true]
 obtain ⟨v, w', H', hrun, hh', k⟩ := h Γ F a w he hh
 refine ⟨λ _ _ => trivial, ?_⟩
 rw [Oper.semAt_eq _ _ _ hd, hrun]
 exact k Γ F _ w' Q (he.putO v ht) hh' hq
theorem Ops.skp {o : Oper} (hw : wants ops L o = some true) (hd : ∀ c, o.op ≠ .defer c) (ht : dstOk o.dst n = true)
  (h : ∀ Γ F a w, Env a n ds L -> Hold Γ H F w -> ∃ w' H', (execOp a.eval o).run P w = .ok .skip w' /\ Hold Γ H' F w' /\ Ops P ro n ops r ds (putL o.dst undef L) H' K) : Ops P ro n ops (o :: r) ds L H K := by
 intro Γ F a w Q he hh hq
 simp only [lw, zqU he hw, if_true]
 obtain ⟨w', H', hrun, hh', k⟩ := h Γ F a w he hh
 refine ⟨λ _ _ => trivial, ?_⟩
 rw [Oper.semAt_eq _ _ _ hd, hrun]
 exact k Γ F _ w' Q (he.putO undef ht) hh' hq
end ops
def Fn (P : Program) (f : FuncId) (args : List Value) (H : List SP) (Post : Ending -> List SP -> Prop) : Prop :=
 ∀ Γ F w, Hold Γ H F w -> Calls P f args.toArray w λ e w' => ∃ H', Post e H' /\ Hold Γ H' F w'
theorem Fn.weak {P : Program} {f : FuncId} {args : List Value} {H H' : List SP} {Post : Ending -> List SP -> Prop} (h : Fn P f args H' Post) (s : ∀ x, sep H x -> sep H' x) : Fn P f args H Post :=
 λ Γ F w hh => h Γ F w (hh.weaken s)
theorem Env.getD {a : Act} {n : Nat} {ds : List Deferred} {L : Lo} (h : Env a n ds L) {t : Nat} {v : Value} (e : lk L t = some v) : (a.tmps[t]?).getD undef = v := by
 simp [h.get t v e]
def argL : Nat -> List Value -> Lo
 | _, [] => []
 | i, v :: vs => (i, v) :: argL (i + 1) vs
theorem lk_argL : ∀ (vs : List Value) (i t : Nat) (v : Value), lk (argL i vs) t = some v -> ∃ j, t = i + j /\ vs[j]? = some v
 | [], _, _, _, e => by cases e
 | u :: vs, i, t, v, e => by
  simp only [argL, lk] at e
  split at e
  ·rename_i hb
   cases Nat.eq_of_beq_eq_true hb; cases e
   exact ⟨0, rfl, rfl⟩
  ·obtain ⟨j, rfl, hj⟩ := lk_argL vs (i + 1) t v e
   exact ⟨j + 1, by omega, by simpa using hj⟩
theorem zkk (args : List Value) (n : Nat) (h : args.length <= n) : Env { tmps := args.toArray ++ Array.replicate (n - args.toArray.size) undef, defers := [] } n [] (argL 0 args) := by
 refine ⟨by simp; omega, rfl, λ t v e => ?_⟩
 obtain ⟨j, rfl, hj⟩ := lk_argL args 0 t v e
 have hlt : j < args.length := by
  rcases Nat.lt_or_ge j args.length with h | h
  ·exact h
  ·rw [List.getElem?_eq_none h] at hj; cases hj
 simp only [Nat.zero_add]
 rw [Array.getElem?_append_left (by simpa using hlt)]
 simpa using hj
section calls
variable {P : Program} {ro : Option Nat} {n : Nat} {ops : Array Oper} {r : List Oper} {ds : List Deferred} {L : Lo} {H : List SP} {K : Kont}
def After (P : Program) (ro : Option Nat) (n : Nat) (ops : Array Oper) (r : List Oper) (d : Option Nat) (ds : List Deferred) (L : Lo) (Hr : List SP) (K : Kont) : Ending -> List SP -> Prop
 | .returned v, Hc => Ops P ro n ops r ds (putL d v L) (Hc ++ Hr) K
 | .panicked c, Hc => K (.panic c) ds L (Hc ++ Hr)
 | .outgrown, _ => False
theorem Ops.enter {o : Oper} {f : FuncId} {vs : List Value} {Hc Hr : List SP} {Post : Ending -> List SP -> Prop} (hw : wants ops L o = some true) (hd : ∀ c, o.op ≠ .defer c) (ht : dstOk o.dst n = true)
  (hrun : ∀ Γ F a w, Env a n ds L -> Hold Γ H F w -> (execOp a.eval o).run P w = .ok (.enter f vs.toArray) w) (spec : Fn P f vs Hc Post) (s : Split H Hc Hr)
  (k : ∀ e Hc', Post e Hc' -> After P ro n ops r o.dst ds L Hr K e Hc') : Ops P ro n ops (o :: r) ds L H K := by
 intro Γ F a w Q he hh hq
 simp only [lw, zqU he hw, if_true]
 refine ⟨λ _ _ => trivial, ?_⟩
 rw [Oper.semAt_eq _ _ _ hd, hrun Γ F a w he hh, Oper.uponIn_enter]
 refine ⟨λ h => (by cases h), ?_⟩
 have hc := (callsIn_wide (n := 0)).2 (spec Γ _ w (hh.inn s))
 refine ⟨trivial, λ cs hr => ?_⟩
 obtain ⟨e, w', fr, ⟨Hc', p, hh'⟩, c, d, l⟩ := hc.2 cs hr
 refine ⟨e, w', fr, ?_, c, d, l⟩
 have kk := k e Hc' p
 cases e with
 | returned v => exact kk Γ F _ w' Q (he.putO v ht) hh'.out hq
 | panicked ch => exact hq (.panic ch) _ _ _ _ _ kk he hh'.out
 | outgrown => exact kk.elim
theorem Ops.call {d : Option Nat} {f : FuncId} {xs : Array Operand} {ts : Array TypeId} {T : TypeId} {p : String} {es : Array Edge} {g : Option (Nat × Bool)} {vs : List Value} {Hc Hr : List SP} {Post : Ending -> List SP -> Prop} {fn : Func}
  (hf : P.funcs[f]? = some fn) (hb : fn.body.isNone = false) (hng : (fn.name == "runtime.NumGoroutine") = false)
  (hw : wants ops L ⟨d, .call { callee := .value (.func f), args := xs, argTypes := ts }, T, p, es, g⟩ = some true) (ht : dstOk d n = true)
  (hx : evalAll L xs.toList = some vs) (spec : Fn P f vs Hc Post) (s : Split H Hc Hr)
  (k : ∀ e Hc', Post e Hc' -> After P ro n ops r d ds L Hr K e Hc') : Ops P ro n ops (⟨d, .call { callee := .value (.func f), args := xs, argTypes := ts }, T, p, es, g⟩ :: r) ds L H K := by
 refine Ops.enter hw (by simp) ht (λ Γ F a w he hh => ?_) spec s k
 have hargs := he.evalAll hx
 have : xs.map a.eval = vs.toArray := by apply Array.ext'; simpa using hargs
 have hng' : ¬ fn.name = "runtime.NumGoroutine" := by simpa using hng
 have hb' : ¬ fn.body = none := by cases h : fn.body <;> simp_all
 simp only [execOp, resolve, Sem.run_bind]
 simp [Act.eval, Deferred.ofValue, invoke, callFunc, hf, hb', hng', this]
end calls
end Go.Z
namespace Go.Z
inductive Md where
 | a | b | c | w | n | m
 deriving DecidableEq
def QStep (P : Program) (n : Nat) (ops : Array Oper) (o : Oper) (ds : List Deferred) (L : Lo) (H : List SP) (v : Value) : Prop :=
 dstOk o.dst n = true /\ ((wants ops L o = some false /\ v = undef) \/
  (wants ops L o = some true /\ (∀ c, o.op ≠ .defer c) /\ ∀ Γ F a w, Env a n ds L -> Hold Γ H F w -> ∃ w', (execOp a.eval o).run P w = .ok (.value v) w' /\ Hold Γ H F w'))
section
variable {P : Program} {ro : Option Nat} {n : Nat} {ops : Array Oper} {r : List Oper} {ds : List Deferred} {L : Lo} {H : List SP} {K : Kont}
theorem Ops.q {o : Oper} {v : Value} (h : QStep P n ops o ds L H v) (k : Ops P ro n ops r ds (putL o.dst v L) H K) : Ops P ro n ops (o :: r) ds L H K := by
 obtain ⟨ht, ⟨hw, rfl⟩ | ⟨hw, hd, h⟩⟩ := h
 ·exact Ops.off hw ht k
 ·exact Ops.val hw hd ht λ Γ F a w he hh => let ⟨w', e, h'⟩ := h Γ F a w he hh; ⟨v, w', H, e, h', k⟩
end
def Kw (ds : List Deferred) (Hq : List SP) (K : Kont) (R : Lo -> List SP -> Prop) : Kont
 | .normal, ds', L', Hw' => ds' = ds /\ R L' Hw'
 | .panic c, ds', _, Hw' => K (.panic c) ds' [] (Hw' ++ Hq)
 | _, _, _, _ => False
def NStep (P : Program) (n : Nat) (ops : Array Oper) (o : Oper) (ds : List Deferred) (L : Lo) (R : Value -> List SP -> Prop) : Prop :=
 wants ops L o = some true /\ ∀ Γ F a w H, Env a n ds L -> Hold Γ H F w -> ∃ v w' Hn, (execOp a.eval o).run P w = .ok (.value v) w' /\ Hold Γ (Hn ++ H) F w' /\ R v Hn
def Eqv (A B : List SP) : Prop := ∀ h, sep A h ↔ sep B h
theorem Eqv.refl (A : List SP) : Eqv A A := λ _ => .rfl
theorem Eqv.symm {A B : List SP} (h : Eqv A B) : Eqv B A := λ x => (h x).symm
theorem Eqv.trans {A B C : List SP} (h : Eqv A B) (h' : Eqv B C) : Eqv A C := λ x => (h x).trans (h' x)
theorem Eqv.app {A A' B B' : List SP} (h : Eqv A A') (h' : Eqv B B') : Eqv (A ++ B) (A' ++ B') := λ x => by
 rw [zqD, zqD]
 exact ⟨λ y => zqd (λ _ => (h _).1) (λ _ => (h' _).1) y, λ y => zqd (λ _ => (h _).2) (λ _ => (h' _).2) y⟩
theorem Eqv.comm (A B : List SP) : Eqv (A ++ B) (B ++ A) := λ x => by
 rw [zqD, zqD]
 exact ⟨zqQ, zqQ⟩
theorem Hold.eqv {Γ w : World} {A B : List SP} {F : SP} (e : Eqv A B) (h : Hold Γ A F w) : Hold Γ B F w := h.weaken λ x => (e x).1
theorem Eqv.mid (A : SP) (B C : List SP) : Eqv (B ++ A :: C) (A :: (B ++ C)) := by
 have h1 : Eqv ((B ++ [A]) ++ C) (([A] ++ B) ++ C) := (Eqv.comm B [A]).app (.refl C)
 simpa using h1
abbrev Told := SP -> Prop
def Kept (Hc : List (Nat × Told)) (Hw : List SP) : Prop := ∀ x ∈ Hc, ∃ A Hr, x.2 A /\ Eqv Hw (A :: Hr)
theorem Kept.nil {Hw : List SP} : Kept [] Hw := λ A h => by cases h
theorem Kept.eqv {Hc : List (Nat × Told)} {Hw Hw' : List SP} (h : Kept Hc Hw) (e : Eqv Hw' Hw) : Kept Hc Hw' := λ Φ hA => let ⟨A, Hr, hp, h⟩ := h Φ hA; ⟨A, Hr, hp, e.trans h⟩
theorem Kept.new {Hc : List (Nat × Told)} {Hw : List SP} (h : Kept Hc Hw) (Hn : List SP) : Kept Hc (Hn ++ Hw) := λ Φ hA => by
 obtain ⟨A, Hr, hp, h⟩ := h Φ hA
 exact ⟨A, Hn ++ Hr, hp, ((Eqv.refl Hn).app h).trans (.mid A Hn Hr)⟩
def isPred (ops : Array Oper) (j k : Nat) : Bool := match ops[k]? with | some o => o.after.toList.any λ e => Region.binds .any e && e.on == j | none => false
def still {α : Type} (ops : Array Oper) (k : Nat) (Hc : List (Nat × α)) : List (Nat × α) := Hc.filter λ x => !isPred ops x.1 k
abbrev Gd := Value -> List SP -> Prop
def gl : List (Nat × Gd) -> Nat -> Option Gd
 | [], _ => none
 | x :: l, i => if x.1 = i then some x.2 else gl l i
def NSafe (P : Program) (n : Nat) (ops : Array Oper) (o : Oper) (ds : List Deferred) (L : Lo) (G : Gd) : Prop :=
 dstOk o.dst n = true /\ (∀ c, o.op ≠ .defer c) /\ ((wants ops L o = some false /\ G undef []) \/ NStep P n ops o ds L G)
def noPred (ops : Array Oper) (j : Nat) : List (Nat × Md) -> Bool
 | [] => true
 | x :: l => !isPred ops x.1 j && noPred ops j l
def zqJ (ops : Array Oper) (ids : List Nat) : List Nat -> List (Nat × Md) -> Bool
 | _, [] => true
 | seen, (k, .m) :: l => (ids.contains k || seen.any (λ j => isPred ops j k)) && zqJ ops ids seen l
 | seen, (k, _) :: l => seen.any (λ j => isPred ops j k) && zqJ ops ids (k :: seen) l
def RDc (P : Program) (ro : Option Nat) (n : Nat) (ops : Array Oper) (ds : List Deferred) : List (Nat × Gd) -> List (Nat × Told) -> List SP -> Kont -> List (Nat × Md) -> Lo -> List SP -> Prop
 | Gn, Hc, Hq, K, [], L, Hw => ∃ L', Sub L L' /\ K .normal ds L' (Hw ++ Hq)
 | Gn, Hc, Hq, K, (i, .a) :: l, L, Hw => ∃ o v, ops[i]? = some o /\ QStep P n ops o ds L (Hw ++ Hq) v /\ RDc P ro n ops ds Gn Hc Hq K l (putL o.dst v L) Hw
 | Gn, Hc, Hq, K, (i, .b) :: l, L, Hw => ∃ o v Hn Hw', ops[i]? = some o /\ Eqv Hw (Hn ++ Hw') /\ QStep P n ops o ds L (Hn ++ Hq) v /\ Kept Hc Hw' /\ RDc P ro n ops ds Gn Hc (Hn ++ Hq) K l (putL o.dst v L) Hw'
 | Gn, Hc, Hq, K, (i, .c) :: l, L, Hw => ∃ o v, ∃ Φ : Told, ops[i]? = some o /\ (∃ A Hr, Φ A /\ Eqv Hw (A :: Hr)) /\ (∀ A, Φ A -> QStep P n ops o ds L [A] v) /\ RDc P ro n ops ds Gn ((i, Φ) :: Hc) Hq K l (putL o.dst v L) Hw
 | Gn, Hc, Hq, K, (i, .n) :: l, L, Hw => ∃ o, ops[i]? = some o /\ zqJ ops (Gn.map (·.1)) [i] l = true /\ (∀ c, o.op ≠ .defer c) /\ dstOk o.dst n = true /\ ((wants ops L o = some false /\ RDc P ro n ops ds Gn Hc Hq K l (putL o.dst undef L) Hw) \/ NStep P n ops o ds L λ v Hn => RDc P ro n ops ds Gn Hc Hq K l (putL o.dst v L) (Hn ++ Hw))
 | Gn, Hc, Hq, K, (i, .m) :: l, L, Hw => ∃ o G, ops[i]? = some o /\ gl Gn i = some G /\ zqJ ops (Gn.map (·.1)) [i] l = true /\ ∀ v Hn, G v Hn -> RDc P ro n ops ds Gn Hc Hq K l (putL o.dst v L) (Hn ++ Hw)
 | Gn, Hc, Hq, K, (i, .w) :: l, L, Hw => ∃ o Gs, ops[i]? = some o /\ (∀ g ∈ Gs, (Gn.map (·.1)).contains g.1 = false /\ ∃ og, ops[g.1]? = some og /\ noPred ops g.1 ((i, .w) :: l) = true /\ NSafe P n ops og ds L g.2) /\ zqJ ops ((Gs ++ Gn).map (·.1)) [i] l = true /\
   (∀ c, o.op ≠ .defer c) /\ Ops P ro n ops [o] ds L Hw (Kw ds Hq K λ L' Hw' => Kept (still ops i Hc) Hw' /\ RDc P ro n ops ds (Gs ++ Gn) (still ops i Hc) Hq K l L' Hw')
abbrev RD (P : Program) (ro : Option Nat) (n : Nat) (ops : Array Oper) (ds : List Deferred) (Hq : List SP) (K : Kont) (l : List (Nat × Md)) (L : Lo) (Hw : List SP) : Prop := RDc P ro n ops ds [] [] Hq K l L Hw
def looks (ops : Array Oper) (o : Oper) : List Nat :=
 (o.op.operands.toList.filterMap λ | .tmp t => some t | _ => none) ++
 (match o.guard with | some (g, _) => ((ops[g]?).bind (·.dst)).toList | none => [])
def dstIn (o : Oper) (l : List Nat) : Bool := match o.dst with | some d => l.contains d | none => false
def sameDst (o o' : Oper) : Bool := match o.dst, o'.dst with | some d, some d' => d == d' | _, _ => false
def pairOk (ops : Array Oper) (j k : Nat) : Bool :=
 match ops[j]?, ops[k]? with
 | some oj, some ok => !dstIn ok (looks ops oj) && !sameDst ok oj && (isPred ops j k || !dstIn oj (looks ops ok))
 | _, _ => false
def zqp (ops : Array Oper) (j : Nat) : Md -> List (Nat × Md) -> Bool
 | _, [] => true
 | .a, (k, .w) :: _ => true
 | m, (k, .w) :: l => isPred ops j k || (pairOk ops j k && zqp ops j m l)
 | m, (k, _) :: l => pairOk ops j k && zqp ops j m l
def zxh (ops : Array Oper) (j : Nat) : List (Nat × Md) -> Bool
 | [] => false
 | (k, .w) :: _ => isPred ops j k
 | (k, .a) :: l => isPred ops j k || zxh ops j l
 | (k, .n) :: l => isPred ops j k || zxh ops j l
 | (k, .m) :: l => isPred ops j k || zxh ops j l
 | (k, .b) :: l => zxh ops j l
 | (k, .c) :: l => zxh ops j l
def zjm : List (Nat × Md) -> Bool
 | [] => false
 | (_, .w) :: _ => true
 | _ :: l => zjm l
def mOk (ops : Array Oper) (i : Nat) : List (Nat × Md) -> Bool
 | [] => true
 | (j, .m) :: l => pairOk ops i j && mOk ops i l
 | _ :: l => mOk ops i l
def ordOk (ops : Array Oper) : List (Nat × Md) -> Bool
 | [] => true
 | (i, .w) :: l => mOk ops i l && ordOk ops l
 | (i, .n) :: l => mOk ops i l && ordOk ops l
 | (i, .m) :: l => mOk ops i l && ordOk ops l
 | (i, .a) :: l => (!zjm l || zxh ops i l) && zqp ops i .a l && (mOk ops i l && ordOk ops l)
 | (i, .b) :: l => zqp ops i .b l && (mOk ops i l && ordOk ops l)
 | (i, .c) :: l => zqp ops i .b l && (mOk ops i l && ordOk ops l)
def zjK (ops : Array Oper) : List Nat -> List (Nat × Md) -> Bool
 | _, [] => true
 | seen, (i, _) :: l => (match ops[i]? with | some o => o.after.toList.all λ e => !Region.binds .any e || seen.contains e.on | none => false) && !seen.contains i && (match ops[i]? with | some o => !dstIn o (looks ops o) | none => false) && zjK ops (i :: seen) l
def noSel (ops : Array Oper) : Bool := ops.toList.all λ o => match o.op with | .select .. => false | _ => true
theorem noSel_ok {ops : Array Oper} (h : noSel ops = true) : Region.noSelect ops = true := by
 unfold noSel at h; unfold Region.noSelect; rwa [Array.all_toList] at h
def zkT (ops : Array Oper) (pi : List (Nat × Md)) : Bool :=
 zjK ops [] pi && ordOk ops pi && (pi.length == ops.size)
def cnt (f : Nat -> Bool) : List Nat -> Nat
 | [] => 0
 | i :: l => (if f i then 1 else 0) + cnt f l
theorem cnt_le {f g : Nat -> Bool} (h : ∀ i, g i = true -> f i = true) : ∀ l, cnt g l <= cnt f l
 | [] => Nat.le_refl _
 | i :: l => by
  have := cnt_le h l
  simp only [cnt]
  cases hg : g i with
  | false => simp; split <;> omega
  | true => simp [h i hg]; omega
theorem cnt_lt {f g : Nat -> Bool} (h : ∀ i, g i = true -> f i = true) {j : Nat} (hf : f j = true) (hg : g j = false) : ∀ l, j ∈ l -> cnt g l < cnt f l
 | [], m => by cases m
 | i :: l, m => by
  have h1 := cnt_le h l
  simp only [cnt]
  by_cases e : i = j
  ·subst e; simp [hf, hg]; omega
  ·have h2 := cnt_lt h hf hg l (by cases m with | head => exact absurd rfl e | tail _ m => exact m)
   cases hg' : g i with
   | false => simp; split <;> omega
   | true => simp [h i hg']; omega
theorem cnt_zero {f : Nat -> Bool} : ∀ {l}, cnt f l = 0 -> ∀ i ∈ l, f i = false
 | [], _, i, m => by cases m
 | j :: l, h, i, m => by
  simp only [cnt] at h
  cases m with
  | head => cases hf : f j with | false => rfl | true => simp [hf] at h
  | tail _ m => exact cnt_zero (by omega) i m
section
variable {P : Program} {ro : Option Nat} {n : Nat} {ops : Array Oper} {ds : List Deferred} {K : Kont}
theorem looks_eval {a a' : Act} {o : Oper} (h : ∀ s ∈ looks ops o, a'.tmps[s]? = a.tmps[s]?) : ∀ x ∈ o.op.operands, a'.eval x = a.eval x := by
 intro x hx
 cases x with
 | tmp t =>
  have := h t (by
   unfold looks
   refine List.mem_append.2 (.inl (List.mem_filterMap.2 ⟨.tmp t, by simpa using hx, rfl⟩)))
  simp only [Act.eval, Array.getD_eq_getD_getElem?, this]
 | const c => rfl
 | global g => rfl
 | func f => rfl
theorem zka {a a' : Act} {o : Oper} (hs : ∀ cs b, o.op ≠ .select cs b) (h : ∀ s ∈ looks ops o, a'.tmps[s]? = a.tmps[s]?) : execOp a'.eval o = execOp a.eval o :=
 execOp_congr o hs (looks_eval h)
theorem zxq {a a' : Act} {o : Oper} (h : ∀ s ∈ looks ops o, a'.tmps[s]? = a.tmps[s]?) : Region.wanted o (yielded ops a'.tmps) = Region.wanted o (yielded ops a.tmps) := by
 unfold Region.wanted
 split
 ·rfl
 ·rename_i j c hg
  have : yielded ops a'.tmps j = yielded ops a.tmps j := by
   unfold yielded
   cases hd : (ops[j]?).bind (·.dst) with
   | none => rfl
   | some t =>
    have this := h t (by
     unfold looks
     rw [hg]
     exact List.mem_append.2 (.inr (by simp [hd])))
    simp [this]
  rw [this]
def QAt (P : Program) (n : Nat) (ops : Array Oper) (o : Oper) (va : Act) (H : List SP) (v : Value) : Prop :=
 ∀ Γ F (a' : Act) w, (∀ s ∈ looks ops o, a'.tmps[s]? = va.tmps[s]?) -> Hold Γ H F w ->
  (Region.wanted o (yielded ops a'.tmps) = false /\ v = undef) \/
  (Region.wanted o (yielded ops a'.tmps) = true /\ (∀ c, o.op ≠ .defer c) /\ ∃ w', (execOp a'.eval o).run P w = .ok (.value v) w' /\ Hold Γ H F w')
theorem QStep.at {o : Oper} {L : Lo} {H : List SP} {v : Value} {va : Act} (hs : ∀ cs b, o.op ≠ .select cs b) (he : Env va n ds L) (h : QStep P n ops o ds L H v) : QAt P n ops o va H v := by
 intro Γ F a' w ha hh
 rw [zxq ha, zka hs ha]
 obtain ⟨_, ⟨hw, rfl⟩ | ⟨hw, hd, h⟩⟩ := h
 ·exact .inl ⟨zqU he hw, rfl⟩
 ·exact .inr ⟨zqU he hw, hd, h Γ F va w he hh⟩
theorem QAt.eqv {o : Oper} {A B : List SP} {v : Value} {va : Act} (h : QAt P n ops o va A v) (e : Eqv A B) : QAt P n ops o va B v := λ Γ F a' w ha hh => by
 rcases h Γ F a' w ha (hh.eqv e.symm) with h | ⟨h1, h2, w', h3, h4⟩
 ·exact .inl h
 ·exact .inr ⟨h1, h2, w', h3, h4.eqv e⟩
theorem QAt.sub {o : Oper} {H : List SP} {v : Value} {va va' : Act} (h : QAt P n ops o va H v) (e : ∀ s ∈ looks ops o, va'.tmps[s]? = va.tmps[s]?) : QAt P n ops o va' H v :=
 λ Γ F a' w ha hh => h Γ F a' w (λ s hs => (ha s hs).trans (e s hs)) hh
def NAt (P : Program) (ops : Array Oper) (o : Oper) (va : Act) (G : Gd) : Prop :=
 ∀ Γ F (a' : Act) w H, (∀ s ∈ looks ops o, a'.tmps[s]? = va.tmps[s]?) -> Hold Γ H F w ->
  (Region.wanted o (yielded ops a'.tmps) = false /\ G undef []) \/
  (Region.wanted o (yielded ops a'.tmps) = true /\ ∃ v w' Hn, (execOp a'.eval o).run P w = .ok (.value v) w' /\ Hold Γ (Hn ++ H) F w' /\ G v Hn)
theorem NSafe.at {o : Oper} {L : Lo} {G : Gd} {va : Act} (hs : ∀ cs b, o.op ≠ .select cs b) (he : Env va n ds L) (h : NSafe P n ops o ds L G) : NAt P ops o va G := by
 intro Γ F a' w H ha hh
 rw [zxq ha, zka hs ha]
 obtain ⟨_, _, ⟨hw, hg⟩ | ⟨hw, h⟩⟩ := h
 ·exact .inl ⟨zqU he hw, hg⟩
 ·exact .inr ⟨zqU he hw, h Γ F va w H he hh⟩
theorem NAt.sub {o : Oper} {G : Gd} {va va' : Act} (h : NAt P ops o va G) (e : ∀ s ∈ looks ops o, va'.tmps[s]? = va.tmps[s]?) : NAt P ops o va' G :=
 λ Γ F a' w H ha hh => h Γ F a' w H (λ s hs => (ha s hs).trans (e s hs)) hh
abbrev Nd := List (Nat × Value × List SP)
def Hns (N : Nd) : List SP := N.flatMap λ y => y.2.2
structure Inv (P : Program) (n : Nat) (ops : Array Oper) (ds : List Deferred) (Gn : List (Nat × Gd)) (N : Nd) (Hc : List (Nat × Told)) (Hq : List SP) (listed : Array Bool) (a va : Act) (E S l : List (Nat × Md)) (V : Nat -> Value) (L : Lo) (Hw : List SP) : Prop where
 size : listed.size = ops.size
 inb : ∀ x ∈ E ++ S ++ l, x.1 < ops.size
 all : ∀ i, i < ops.size -> ∃ m, (i, m) ∈ E ++ S ++ l
 nd : ((E ++ S ++ l).map (·.1)).Nodup
 lun : ∀ x ∈ l, listed.getD x.1 true = false \/ (x.2 = .m /\ ∃ y ∈ N, y.1 = x.1)
 down : ∀ k o, ops[k]? = some o -> listed.getD k true = true -> ∀ e ∈ o.after, Region.binds .any e = true -> listed.getD e.on true = true
 env : Env va n ds L
 defs : a.defers = va.defers
 tsz : a.tmps.size = va.tmps.size
 agree : ∀ s, (∀ x ∈ E ++ S, listed.getD x.1 true = false -> ∀ o, ops[x.1]? = some o -> o.dst ≠ some s) -> (∀ y ∈ N, ∀ o, ops[y.1]? = some o -> o.dst ≠ some s) -> a.tmps[s]? = va.tmps[s]?
 pend : ∀ x ∈ E ++ S, listed.getD x.1 true = false -> ∃ o, ops[x.1]? = some o /\ dstOk o.dst n = true /\ (∀ s, o.dst = some s -> va.tmps[s]? = some (V x.1)) /\
  ((x.2 = .b /\ ∃ Hb Hr, Eqv Hq (Hb ++ Hr) /\ QAt P n ops o va Hb (V x.1)) \/ (x.2 = .c /\ ∃ Φ, (x.1, Φ) ∈ Hc /\ ∀ A, Φ A -> QAt P n ops o va [A] (V x.1)) \/ (x.2 = .a /\ x ∈ S /\ QAt P n ops o va (Hw ++ Hq) (V x.1)))
 kept : Kept Hc Hw
 quiet : ∀ x ∈ S, x.2 ≠ .w
 nnd : (N.map (·.1)).Nodup
 ex : ∀ y ∈ N, listed.getD y.1 true = true /\ (y.1, Md.m) ∈ l /\ ∃ o G, ops[y.1]? = some o /\ (∀ s, o.dst = some s -> s < a.tmps.size -> a.tmps[s]? = some y.2.1) /\ gl Gn y.1 = some G /\ G y.2.1 y.2.2
 gn : ∀ i G, gl Gn i = some G -> (i, Md.m) ∈ l -> ∃ o, ops[i]? = some o /\ dstOk o.dst n = true /\ (∀ c, o.op ≠ .defer c) /\ NAt P ops o va G /\ ∀ x ∈ l, isPred ops x.1 i = false
theorem zxc {i : Nat} {m : Md} {l : List (Nat × Md)} (h : ordOk ops ((i, m) :: l) = true) : mOk ops i l = true /\ ordOk ops l = true := by
 cases m <;> simp only [ordOk, Bool.and_eq_true] at h <;> first | exact h | exact h.2
theorem zqt : ∀ (l1 : List (Nat × Md)) {l2}, ordOk ops (l1 ++ l2) = true -> ordOk ops l2 = true
 | [], _, h => h
 | (i, m) :: l1, l2, h => zqt l1 (zxc h).2
theorem zxH {i j : Nat} : ∀ {l : List (Nat × Md)}, mOk ops i l = true -> (j, Md.m) ∈ l -> pairOk ops i j = true
 | (k, mk) :: l, h, hj => by
  have h' : mOk ops i l = true /\ (mk = .m -> pairOk ops i k = true) := by
   cases mk <;> simp only [mOk, Bool.and_eq_true] at h <;> first | exact ⟨h, λ e => by cases e⟩ | exact ⟨h.2, λ _ => h.1⟩
  cases hj with
  | head => exact h'.2 rfl
  | tail _ hj => exact zxH h'.1 hj
theorem noPred_spec {j : Nat} : ∀ {l : List (Nat × Md)}, noPred ops j l = true -> ∀ x ∈ l, isPred ops x.1 j = false
 | [], _, x, m => by cases m
 | y :: l, h, x, m => by
  simp only [noPred, Bool.and_eq_true, Bool.not_eq_true'] at h
  cases m with
  | head => exact h.1
  | tail _ m => exact noPred_spec h.2 x m
theorem zjs {ids : List Nat} : ∀ {l : List (Nat × Md)} {seen : List Nat}, zqJ ops ids seen l = true -> ∀ x ∈ l, (x.2 = .m /\ x.1 ∈ ids) \/ ∃ j, (j ∈ seen \/ ∃ mj, (j, mj) ∈ l /\ mj ≠ .m) /\ isPred ops j x.1 = true
 | [], _, _, x, m => by cases m
 | (k, mk) :: l, seen, h, x, hm => by
  have h' : ((mk = .m /\ k ∈ ids) \/ ∃ j, j ∈ seen /\ isPred ops j k = true) /\ (zqJ ops ids seen l = true \/ (mk ≠ .m /\ zqJ ops ids (k :: seen) l = true)) := by
   cases mk <;> simp only [zqJ, Bool.and_eq_true, Bool.or_eq_true, List.any_eq_true, List.contains_eq_mem, decide_eq_true_eq] at h
   case m => exact ⟨h.1.imp (λ h => ⟨rfl, h⟩) λ ⟨j, a, b⟩ => ⟨j, a, b⟩, .inl h.2⟩
   all_goals exact ⟨.inr (let ⟨j, a, b⟩ := h.1; ⟨j, a, b⟩), .inr ⟨by simp, h.2⟩⟩
  obtain ⟨h1, h2⟩ := h'
  cases hm with
  | head => exact h1.imp id λ ⟨j, a, b⟩ => ⟨j, .inl a, b⟩
  | tail _ hm =>
   rcases h2 with h2 | ⟨hne, h2⟩
   ·rcases zjs h2 x hm with h | ⟨j, hj, hp⟩
    ·exact .inl h
    ·exact .inr ⟨j, hj.imp id λ ⟨mj, a, b⟩ => ⟨mj, .tail _ a, b⟩, hp⟩
   ·rcases zjs h2 x hm with h | ⟨j, hj, hp⟩
    ·exact .inl h
    ·refine .inr ⟨j, ?_, hp⟩
     rcases hj with h3 | ⟨mj, a, b⟩
     ·cases h3 with
      | head => exact .inr ⟨mk, .head _, hne⟩
      | tail _ h3 => exact .inl h3
     ·exact .inr ⟨mj, .tail _ a, b⟩
theorem gl_mem {i : Nat} {G : Gd} : ∀ {Gn : List (Nat × Gd)}, gl Gn i = some G -> i ∈ Gn.map (·.1)
 | [], h => by cases h
 | x :: Gn, h => by
  simp only [gl] at h
  split at h
  ·rename_i e; simp [e]
  ·simp [gl_mem h]
theorem gl_of {i : Nat} : ∀ {Gn : List (Nat × Gd)}, i ∈ Gn.map (·.1) -> ∃ G, gl Gn i = some G
 | [], h => by cases h
 | x :: Gn, h => by
  simp only [gl]
  split
  ·exact ⟨_, rfl⟩
  ·rename_i hne
   simp only [List.map_cons, List.mem_cons] at h
   rcases h with h | h
   ·exact absurd h.symm hne
   ·exact gl_of h
theorem gl_app {i : Nat} {G : Gd} {Gn : List (Nat × Gd)} : ∀ {Gs : List (Nat × Gd)}, gl (Gs ++ Gn) i = some G -> (∃ x ∈ Gs, x.1 = i /\ x.2 = G) \/ gl Gn i = some G
 | [], h => .inr h
 | x :: Gs, h => by
  simp only [List.cons_append, gl] at h
  split at h
  ·rename_i e; cases h; exact .inl ⟨x, .head _, e, rfl⟩
  ·rcases gl_app h with ⟨y, hy, e⟩ | h
   ·exact .inl ⟨y, .tail _ hy, e⟩
   ·exact .inr h
theorem gl_old {i : Nat} {G : Gd} {Gn : List (Nat × Gd)} (h : gl Gn i = some G) : ∀ {Gs : List (Nat × Gd)}, (∀ g ∈ Gs, (Gn.map (·.1)).contains g.1 = false) -> gl (Gs ++ Gn) i = some G
 | [], _ => h
 | x :: Gs, hs => by
  simp only [List.cons_append, gl]
  have h1 := hs x (.head _)
  have h2 := gl_mem h
  split
  ·rename_i e
   rw [e] at h1
   simp only [List.contains_eq_mem, decide_eq_false_iff_not] at h1
   exact absurd h2 h1
  ·exact gl_old h λ g hg => hs g (.tail _ hg)
theorem zxr {j : Nat} : ∀ {l1 : List (Nat × Md)} {x : Nat × Md} {l2 : List (Nat × Md)}, zqp ops j .b (l1 ++ x :: l2) = true -> (∀ y ∈ l1, y.2 = .w -> isPred ops j y.1 = false) -> (x.2 = .w -> isPred ops j x.1 = false) -> pairOk ops j x.1 = true
 | [], (k, mk), l2, h, _, hx => by
  cases mk with
  | w =>
   have := hx rfl
   simp only [List.nil_append, zqp, Bool.or_eq_true, Bool.and_eq_true] at h
   rcases h with h | h
   ·rw [this] at h; cases h
   ·exact h.1
  | a => simp only [List.nil_append, zqp, Bool.and_eq_true] at h; exact h.1
  | b => simp only [List.nil_append, zqp, Bool.and_eq_true] at h; exact h.1
  | c => simp only [List.nil_append, zqp, Bool.and_eq_true] at h; exact h.1
  | n => simp only [List.nil_append, zqp, Bool.and_eq_true] at h; exact h.1
  | m => simp only [List.nil_append, zqp, Bool.and_eq_true] at h; exact h.1
 | (k, mk) :: l1, x, l2, h, hl, hx => by
  have h' : zqp ops j .b (l1 ++ x :: l2) = true := by
   cases mk with
   | w =>
    have := hl (k, .w) (.head _) rfl
    simp only [List.cons_append, zqp, Bool.or_eq_true, Bool.and_eq_true] at h
    rcases h with h | h
    ·rw [this] at h; cases h
    ·exact h.2
   | a => simp only [List.cons_append, zqp, Bool.and_eq_true] at h; exact h.2
   | b => simp only [List.cons_append, zqp, Bool.and_eq_true] at h; exact h.2
   | c => simp only [List.cons_append, zqp, Bool.and_eq_true] at h; exact h.2
   | n => simp only [List.cons_append, zqp, Bool.and_eq_true] at h; exact h.2
   | m => simp only [List.cons_append, zqp, Bool.and_eq_true] at h; exact h.2
  exact zxr h' (λ y hy => hl y (.tail _ hy)) hx
theorem zvd {j : Nat} : ∀ {l : List (Nat × Md)} {l2}, zqp ops j .a (l ++ l2) = true -> (∀ x ∈ l, x.2 ≠ .w) -> ∀ x ∈ l, pairOk ops j x.1 = true
 | [], _, _, _, x, m => by cases m
 | (k, mk) :: l, l2, h, hq, x, m => by
  have h' : pairOk ops j k = true /\ zqp ops j .a (l ++ l2) = true := by
   cases mk with
   | w => exact absurd rfl (hq (k, .w) (.head _))
   | a => simpa [zqp] using h
   | b => simpa [zqp] using h
   | n => simpa [zqp] using h
   | m => simpa [zqp] using h
   | c => simpa [zqp] using h
  cases m with
  | head => exact h'.1
  | tail _ m => exact zvd h'.2 (λ y hy => hq y (.tail _ hy)) x m
theorem zxw {j k : Nat} {l' : List (Nat × Md)} : ∀ {l : List (Nat × Md)}, zxh ops j (l ++ (k, .w) :: l') = true -> (∀ x ∈ l, x.2 ≠ .w) -> isPred ops j k = true \/ ∃ s m, (s, m) ∈ l /\ (m = .a \/ m = .n \/ m = .m) /\ isPred ops j s = true
 | [], h, _ => by simpa [zxh] using h
 | (x, .w) :: l, h, hq => absurd rfl (hq (x, .w) (.head _))
 | (x, .a) :: l, h, hq => by
  simp only [List.cons_append, zxh, Bool.or_eq_true] at h
  rcases h with h | h
  ·exact .inr ⟨x, .a, .head _, .inl rfl, h⟩
  ·rcases zxw h (λ y hy => hq y (.tail _ hy)) with h | ⟨s, m, hs, hm, hp⟩
   ·exact .inl h
   ·exact .inr ⟨s, m, .tail _ hs, hm, hp⟩
 | (x, .n) :: l, h, hq => by
  simp only [List.cons_append, zxh, Bool.or_eq_true] at h
  rcases h with h | h
  ·exact .inr ⟨x, .n, .head _, .inr (.inl rfl), h⟩
  ·rcases zxw h (λ y hy => hq y (.tail _ hy)) with h | ⟨s, m, hs, hm, hp⟩
   ·exact .inl h
   ·exact .inr ⟨s, m, .tail _ hs, hm, hp⟩
 | (x, .m) :: l, h, hq => by
  simp only [List.cons_append, zxh, Bool.or_eq_true] at h
  rcases h with h | h
  ·exact .inr ⟨x, .m, .head _, .inr (.inr rfl), h⟩
  ·rcases zxw h (λ y hy => hq y (.tail _ hy)) with h | ⟨s, m, hs, hm, hp⟩
   ·exact .inl h
   ·exact .inr ⟨s, m, .tail _ hs, hm, hp⟩
 | (x, .b) :: l, h, hq => by
  simp only [List.cons_append, zxh] at h
  rcases zxw h (λ y hy => hq y (.tail _ hy)) with h | ⟨s, m, hs, hm, hp⟩
  ·exact .inl h
  ·exact .inr ⟨s, m, .tail _ hs, hm, hp⟩
 | (x, .c) :: l, h, hq => by
  simp only [List.cons_append, zxh] at h
  rcases zxw h (λ y hy => hq y (.tail _ hy)) with h | ⟨s, m, hs, hm, hp⟩
  ·exact .inl h
  ·exact .inr ⟨s, m, .tail _ hs, hm, hp⟩
theorem zxk {k : Nat} {l' : List (Nat × Md)} : ∀ (l : List (Nat × Md)), zjm (l ++ (k, .w) :: l') = true
 | [] => rfl
 | (x, .w) :: l => rfl
 | (x, .a) :: l => by simpa [zjm] using zxk l
 | (x, .n) :: l => by simpa [zjm] using zxk l
 | (x, .m) :: l => by simpa [zjm] using zxk l
 | (x, .c) :: l => by simpa [zjm] using zxk l
 | (x, .b) :: l => by simpa [zjm] using zxk l
theorem zxF : ∀ {l : List (Nat × Md)} {seen : List Nat}, zjK ops seen l = true -> (∀ x ∈ l, x.1 ∉ seen) /\ (l.map (·.1)).Nodup /\
  ∀ l1 x l2, l = l1 ++ x :: l2 -> ∃ o, ops[x.1]? = some o /\ dstIn o (looks ops o) = false /\ ∀ e ∈ o.after, Region.binds .any e = true -> e.on ∈ seen \/ e.on ∈ l1.map (·.1)
 | [], _, _ => ⟨λ x m => (by cases m), (by simp), λ l1 x l2 h => (by cases l1 <;> cases h)⟩
 | (i, mi) :: l, seen, h => by
  simp only [zjK, Bool.and_eq_true, Bool.not_eq_true', List.contains_eq_mem, decide_eq_false_iff_not] at h
  obtain ⟨⟨⟨h1, h2⟩, h3⟩, h4⟩ := h
  obtain ⟨r1, r2, r3⟩ := zxF h4
  refine ⟨λ x m => ?_, ?_, λ l1 x l2 e => ?_⟩
  ·cases m with
   | head => exact h2
   | tail _ m => exact λ hx => r1 x m (.tail _ hx)
  ·simp only [List.map_cons, List.nodup_cons]
   refine ⟨λ hm => ?_, r2⟩
   obtain ⟨y, hy, e⟩ := List.mem_map.1 hm
   exact r1 y hy (by rw [e]; exact .head _)
  ·cases l1 with
   | nil =>
    cases e
    cases ho : ops[i]? with
    | none => simp [ho] at h1
    | some o =>
     simp only [ho, List.all_eq_true, Array.mem_toList_iff, Bool.or_eq_true, Bool.not_eq_true', decide_eq_true_eq] at h1 h3
     refine ⟨o, rfl, h3, λ e he hb => ?_⟩
     rcases h1 e he with h | h
     ·rw [hb] at h; cases h
     ·exact .inl h
   | cons y l1 =>
    cases e
    obtain ⟨o, ho, hd, hp⟩ := r3 l1 x l2 rfl
    refine ⟨o, ho, hd, λ e he hb => ?_⟩
    rcases hp e he hb with h | h
    ·cases h with
     | head => exact .inr (by simp)
     | tail _ h => exact .inl h
    ·exact .inr (by simp [h])
theorem zqj {j k : Nat} {oj ok : Oper} (h : pairOk ops j k = true) (hj : ops[j]? = some oj) (hk : ops[k]? = some ok) :
  (∀ d, ok.dst = some d -> d ∉ looks ops oj) /\ (∀ d, ok.dst = some d -> oj.dst ≠ some d) /\ (isPred ops j k = true \/ ∀ d, oj.dst = some d -> d ∉ looks ops ok) := by
 simp only [pairOk, hj, hk, Bool.and_eq_true, Bool.not_eq_true', Bool.or_eq_true] at h
 obtain ⟨⟨h1, h2⟩, h3⟩ := h
 refine ⟨λ d hd => ?_, λ d hd hd' => ?_, ?_⟩
 ·simpa [dstIn, hd] using h1
 ·simp [sameDst, hd, hd'] at h2
 ·rcases h3 with h3 | h3
  ·exact .inl h3
  ·exact .inr λ d hd => by simpa [dstIn, hd] using h3
theorem zqI {j k : Nat} {o : Oper} (h : isPred ops j k = true) (ho : ops[k]? = some o) : ∃ e ∈ o.after, Region.binds .any e = true /\ e.on = j := by
 simp only [isPred, ho] at h
 rw [List.any_eq_true] at h
 obtain ⟨e, he, hb⟩ := h
 simp only [Bool.and_eq_true, beq_iff_eq] at hb
 exact ⟨e, by simpa using he, hb.1, hb.2⟩
theorem Inv.np {Gn : List (Nat × Gd)} {N : Nd} {Hc : List (Nat × Told)} {Hq : List SP} {listed : Array Bool} {a va : Act} {E S l : List (Nat × Md)} {V : Nat -> Value} {L : Lo} {Hw : List SP} (hi : Inv P n ops ds Gn N Hc Hq listed a va E S l V L Hw) {j : Nat} {y : Nat × Md} (hy : y ∈ E ++ S) (hw : y.2 = .w) (hj : listed.getD j true = false) : isPred ops j y.1 = false := by
 cases hp : isPred ops j y.1 with
 | false => rfl
 | true =>
  exfalso
  have hyl : listed.getD y.1 true = true := by
   cases hl : listed.getD y.1 true with
   | true => rfl
   | false =>
    obtain ⟨_, _, _, _, ⟨hb, _⟩ | ⟨hb, _⟩ | ⟨hb, _⟩⟩ := hi.pend y hy hl
    ·rw [hw] at hb; cases hb
    ·rw [hw] at hb; cases hb
    ·rw [hw] at hb; cases hb
  have hlt : y.1 < ops.size := hi.inb y (List.mem_append.2 (.inl hy))
  obtain ⟨o, ho⟩ : ∃ o, ops[y.1]? = some o := ⟨ops[y.1], by simp [hlt]⟩
  obtain ⟨e, he, hb, hon⟩ := zqI hp ho
  have := hi.down y.1 o ho hyl e he hb
  rw [hon, hj] at this; cases this
theorem zqn {listed : Array Bool} {i k : Nat} (hi : i < listed.size) : (listed.setIfInBounds i true).getD k true = if k = i then true else listed.getD k true := by
 by_cases e : k = i
 ·subst e; simp [Array.getD_eq_getD_getElem?, hi]
 ·simp [Array.getD_eq_getD_getElem?, e, Ne.symm e]
theorem getD_tf {listed : Array Bool} {k : Nat} (hk : k < listed.size) : listed.getD k true = listed.getD k false := by
 simp [Array.getD_eq_getD_getElem?, hk]
theorem zqi {a : Act} {d : Option Nat} {v : Value} {s : Nat} (h : d ≠ some s) : (a.put d v).tmps[s]? = a.tmps[s]? := by
 cases d with
 | none => rfl
 | some t => simp only [Act.put, Array.getElem?_setIfInBounds]; rw [if_neg (λ e => h (by rw [e]))]
theorem zxE {a : Act} {s : Nat} {v : Value} (h : s < a.tmps.size) : (a.put (some s) v).tmps[s]? = some v := by simp [Act.put, h]
theorem put_defs {a : Act} {d : Option Nat} {v : Value} : (a.put d v).defers = a.defers := by cases d <;> rfl
theorem put_size {a : Act} {d : Option Nat} {v : Value} : (a.put d v).tmps.size = a.tmps.size := by cases d <;> simp [Act.put]
theorem rd_pull {pi : List (Nat × Md)} {listed : Array Bool} {a : Act} {E : List (Nat × Md)} (hpi : zjK ops [] pi = true) (hord : ordOk ops pi = true) (hsel : Region.noSelect ops = true) :
  ∀ (l S : List (Nat × Md)) (va : Act) (V : Nat -> Value) (L : Lo) (Gn : List (Nat × Gd)) (N : Nd) (Hc : List (Nat × Told)) (Hq Hw : List SP), pi = E ++ S ++ l -> Inv P n ops ds Gn N Hc Hq listed a va E S l V L Hw -> RDc P ro n ops ds Gn Hc Hq K l L Hw ->
  ∃ S' l' va' V' L' N' Hc' Hq' Hw', pi = E ++ S' ++ l' /\ Inv P n ops ds Gn N' Hc' Hq' listed a va' E S' l' V' L' Hw' /\ RDc P ro n ops ds Gn Hc' Hq' K l' L' Hw' /\ Eqv (Hns N ++ (Hw ++ Hq)) (Hns N' ++ (Hw' ++ Hq')) /\ ∀ x l'', l' = x :: l'' -> (x.2 = .w \/ x.2 = .n \/ (x.2 = .m /\ ∀ y ∈ N', y.1 ≠ x.1)) := by
 intro l
 induction l with
 | nil => exact λ S va V L Gn N Hc Hq Hw e hi hr => ⟨S, [], va, V, L, N, Hc, Hq, Hw, e, hi, hr, .refl _, λ x l h => by cases h⟩
 | cons x l ih =>
  intro S va V L Gn N Hc Hq Hw e hi hr
  obtain ⟨i, m⟩ := x
  by_cases hm : m = .w \/ m = .n
  ·exact ⟨S, _, va, V, L, N, Hc, Hq, Hw, e, hi, hr, .refl _, λ x l h => by cases h; exact hm.imp id .inl⟩
  by_cases hmm : m = .m
  ·subst hmm
   by_cases hex : ∃ y ∈ N, y.1 = i
   ·-- it has been carried out
    obtain ⟨y, hyN, hyi⟩ := hex
    obtain ⟨N1, N2, eN⟩ := List.append_of_mem hyN
    obtain ⟨yi, v, Hn⟩ := y
    simp only at hyi; subst hyi
    obtain ⟨hyl, hyin, o, G, ho, hva, hG, hGv⟩ := hi.ex _ hyN
    obtain ⟨o', G', ho', hG', hbn, hrd⟩ := hr
    rw [ho] at ho'; cases ho'
    rw [hG] at hG'; cases hG'
    have hrd := hrd v Hn hGv
    obtain ⟨o', ho', hdst, hdf, hnat, hnp⟩ := hi.gn _ G hG hyin
    rw [ho] at ho'; cases ho'
    have hpairm : ∀ x ∈ E ++ S, pairOk ops x.1 yi = true := by
     intro x hx
     obtain ⟨l1, l2, el⟩ := List.append_of_mem hx
     have epi : pi = l1 ++ x :: (l2 ++ (yi, .m) :: l) := by rw [e, el]; simp
     have ho2 := zqt l1 (by rw [<- epi]; exact hord)
     exact zxH (zxc (i := x.1) (m := x.2) ho2).1 (by simp)
    have hordl := zqt (E ++ S) (by rw [<- e]; exact hord)
    have hpairl : ∀ j, (j, Md.m) ∈ l -> pairOk ops yi j = true := λ j hj => zxH (zxc hordl).1 hj
    have hdlt : ∀ s, o.dst = some s -> s < n := by
     intro s hd; rw [hd] at hdst; simpa [dstOk, Nat.blt_eq] using hdst
    have hNi : ∀ y ∈ N1 ++ N2, y.1 ≠ yi := by
     intro y hy h
     have hnn := hi.nnd
     rw [eN, List.map_append, List.map_cons, List.nodup_append] at hnn
     obtain ⟨_, h2, h3⟩ := hnn
     rw [List.nodup_cons] at h2
     rcases List.mem_append.1 hy with hy | hy
     ·exact h3 y.1 (List.mem_map_of_mem hy) yi (.head _) h
     ·have := List.mem_map_of_mem (f := λ (z : Nat × Value × List SP) => z.1) hy
      rw [h] at this
      exact h2.1 this
    have hNsub : ∀ y ∈ N1 ++ N2, y ∈ N := by
     intro y hy; rw [eN]; rcases List.mem_append.1 hy with h | h <;> simp [h]
    have eapp : E ++ (S ++ [(yi, Md.m)]) ++ l = E ++ S ++ (yi, Md.m) :: l := by simp
    have hinv : Inv P n ops ds Gn (N1 ++ N2) Hc Hq listed a (va.put o.dst v) E (S ++ [(yi, .m)]) l V (putL o.dst v L) (Hn ++ Hw) := by
     refine ⟨hi.size, by rw [eapp]; exact hi.inb, by rw [eapp]; exact hi.all, by rw [eapp]; exact hi.nd, λ x hx => ?_, hi.down, hi.env.putO v hdst, hi.defs.trans put_defs.symm, hi.tsz.trans put_size.symm, λ s hs hsN => ?_, λ x hx hl => ?_, hi.kept.new Hn, λ x hx => ?_, ?_, λ y hy => ?_, λ j Gj hj hjl => ?_⟩
     ·have hne : x.1 ≠ yi := by
       have hnd := hi.nd
       rw [List.map_append, List.nodup_append] at hnd
       have h2 := hnd.2.1
       simp only [List.map_cons, List.nodup_cons] at h2
       exact λ h => h2.1 (by rw [<- h]; exact List.mem_map_of_mem hx)
      rcases hi.lun x (.tail _ hx) with h | ⟨h1, z, hz, hzx⟩
      ·exact .inl h
      ·refine .inr ⟨h1, z, ?_, hzx⟩
       rw [eN] at hz
       rcases List.mem_append.1 hz with h | h
       ·exact List.mem_append.2 (.inl h)
       ·cases h with
        | head => exact absurd hzx.symm hne
        | tail _ h => exact List.mem_append.2 (.inr h)
     ·by_cases hd : o.dst = some s
      ·rw [hd]
       have hsz : s < a.tmps.size := by rw [hi.tsz, hi.env.size]; exact hdlt s hd
       rw [hva s hd hsz, zxE (by rw [<- hi.tsz]; exact hsz)]
      ·rw [zqi hd]
       refine hi.agree s (λ x hx => hs x (by rcases List.mem_append.1 hx with h | h <;> simp [h])) λ z hz oz hoz => ?_
       rw [eN] at hz
       rcases List.mem_append.1 hz with h | h
       ·exact hsN z (List.mem_append.2 (.inl h)) oz hoz
       ·cases h with
        | head => rw [ho] at hoz; cases hoz; exact hd
        | tail _ h => exact hsN z (List.mem_append.2 (.inr h)) oz hoz
     ·have hx' : x ∈ E ++ S := by
       rcases List.mem_append.1 hx with h | h
       ·simp [h]
       ·rcases List.mem_append.1 h with h | h
        ·simp [h]
        ·simp only [List.mem_singleton] at h
         rw [h] at hl; rw [hyl] at hl; cases hl
      obtain ⟨o', ho', hd, hv, hmode⟩ := hi.pend x hx' hl
      obtain ⟨p1, p2, _⟩ := zqj (hpairm x hx') ho' ho
      refine ⟨o', ho', hd, λ s hs => by rw [zqi λ hd => p2 s hd hs]; exact hv s hs, ?_⟩
      rcases hmode with ⟨hb, Hb, Hr, hbe, hq⟩ | ⟨hb, A, hA, hq⟩ | ⟨ha, hs, hq⟩
      ·exact .inl ⟨hb, Hb, Hr, hbe, hq.sub λ s hs => zqi λ hd => p1 s hd hs⟩
      ·exact .inr (.inl ⟨hb, A, hA, λ B hB => (hq B hB).sub λ s hs => zqi λ hd => p1 s hd hs⟩)
      ·refine .inr (.inr ⟨ha, by simp [hs], ?_⟩)
       have hfr : QAt P n ops o' va (Hn ++ (Hw ++ Hq)) (V x.1) := by
        intro Γ' F' a' w'' ha' hh''
        have hsp : Eqv (Hn ++ (Hw ++ Hq)) ((Hw ++ Hq) ++ Hn) := .comm _ _
        rcases hq Γ' (star F' (sep Hn)) a' w'' ha' (hh''.inn λ x hx => (hsp x).1 hx) with h | ⟨h1, h2, w3, h3, h4⟩
        ·exact .inl h
        ·exact .inr ⟨h1, h2, w3, h3, h4.out.eqv hsp.symm⟩
       rw [<- List.append_assoc] at hfr
       exact hfr.sub λ s hs => zqi λ hd => p1 s hd hs
     ·rcases List.mem_append.1 hx with h | h
      ·exact hi.quiet x h
      ·simp only [List.mem_singleton] at h; subst h; simp
     ·have hnn := hi.nnd
      rw [eN, List.map_append, List.map_cons, List.nodup_append] at hnn
      rw [List.map_append, List.nodup_append]
      exact ⟨hnn.1, (List.nodup_cons.1 hnn.2.1).2, λ x hx z hz => hnn.2.2 x hx z (.tail _ hz)⟩
     ·obtain ⟨h1, h2, h3⟩ := hi.ex y (hNsub y hy)
      refine ⟨h1, ?_, h3⟩
      cases h2 with
      | head => exact absurd rfl (hNi _ hy)
      | tail _ h2 => exact h2
     ·obtain ⟨oj, hoj, hdj, hdfj, hnj, hpj⟩ := hi.gn j Gj hj (.tail _ hjl)
      obtain ⟨_, _, h3⟩ := zqj (hpairl j hjl) ho hoj
      refine ⟨oj, hoj, hdj, hdfj, hnj.sub λ s hs => zqi λ hd => ?_, λ x hx => hpj x (.tail _ hx)⟩
      rcases h3 with h3 | h3
      ·rw [hpj (yi, .m) (.head _)] at h3; cases h3
      ·exact h3 s hd hs
    obtain ⟨S', l', va', V', L', N', Hc2, Hq', Hw2, r1, r2, r3, r4, r5⟩ := ih (S ++ [(yi, .m)]) (va.put o.dst v) V (putL o.dst v L) Gn (N1 ++ N2) Hc Hq (Hn ++ Hw) (by rw [e]; simp) hinv hrd
    refine ⟨S', l', va', V', L', N', Hc2, Hq', Hw2, r1, r2, r3, Eqv.trans ?_ r4, r5⟩
    rw [eN]
    have e1 : Hns (N1 ++ (yi, v, Hn) :: N2) = Hns N1 ++ (Hn ++ Hns N2) := by simp [Hns]
    have e2 : Hns (N1 ++ N2) = Hns N1 ++ Hns N2 := by simp [Hns]
    rw [e1, e2]
    have h1 : Eqv (Hns N1 ++ (Hn ++ Hns N2)) ((Hns N1 ++ Hns N2) ++ Hn) := by
     rw [List.append_assoc]
     exact (Eqv.refl _).app (.comm _ _)
    have h2 := h1.app (.refl (Hw ++ Hq))
    have e3 : ((Hns N1 ++ Hns N2) ++ Hn) ++ (Hw ++ Hq) = (Hns N1 ++ Hns N2) ++ ((Hn ++ Hw) ++ Hq) := by simp
    rw [e3] at h2
    exact h2
   ·exact ⟨S, _, va, V, L, N, Hc, Hq, Hw, e, hi, hr, .refl _, λ x l h => by cases h; exact .inr (.inr ⟨rfl, λ y hy h => hex ⟨y, hy, h⟩⟩)⟩
  ·-- one step
   have key : ∃ o v H Hn Hw' Hc', ops[i]? = some o /\ QStep P n ops o ds L H v /\ Eqv Hw (Hn ++ Hw') /\ ((m = .b /\ H = Hn ++ Hq) \/ (m = .c /\ ∃ Φ, (i, Φ) ∈ Hc' /\ (∀ A, Φ A -> QStep P n ops o ds L [A] v) /\ ∃ A, Φ A /\ H = [A]) \/ (m = .a /\ H = Hw' ++ (Hn ++ Hq))) /\ (∀ A ∈ Hc, A ∈ Hc') /\ Kept Hc' Hw' /\ RDc P ro n ops ds Gn Hc' (Hn ++ Hq) K l (putL o.dst v L) Hw' := by
    cases m with
    | w => exact absurd (.inl rfl) hm
    | n => exact absurd (.inr rfl) hm
    | m => exact absurd rfl hmm
    | a => obtain ⟨o, v, ho, hq, h⟩ := hr; exact ⟨o, v, _, [], Hw, Hc, ho, hq, .refl _, .inr (.inr ⟨rfl, rfl⟩), λ _ h => h, hi.kept, h⟩
    | b => obtain ⟨o, v, Hn, Hw', ho, he, hq, hkp, h⟩ := hr; exact ⟨o, v, _, Hn, Hw', Hc, ho, hq, he, .inl ⟨rfl, rfl⟩, λ _ h => h, hkp, h⟩
    | c =>
     obtain ⟨o, v, Φ, ho, ⟨A, Hr, hpA, he⟩, hq, h⟩ := hr
     refine ⟨o, v, _, [], Hw, (i, Φ) :: Hc, ho, hq A hpA, .refl _, .inr (.inl ⟨rfl, Φ, .head _, hq, A, hpA, rfl⟩), λ _ h => .tail _ h, λ B hB => ?_, h⟩
     cases hB with
     | head => exact ⟨A, Hr, hpA, he⟩
     | tail _ hB => exact hi.kept B hB
   obtain ⟨o, v, H, Hn, Hw', Hc', ho, hq, heq, hH, hsubc, hkept, hrd⟩ := key
   have htot : Eqv (Hw ++ Hq) (Hw' ++ (Hn ++ Hq)) := by
    have h1 := (heq.trans (.comm Hn Hw')).app (.refl Hq)
    rw [List.append_assoc] at h1
    exact h1
   have hpp := zxF hpi
   have hself : dstIn o (looks ops o) = false := by
    obtain ⟨o', ho', hd, _⟩ := hpp.2.2 (E ++ S) (i, m) l e
    rw [ho] at ho'; cases ho'; exact hd
   have hself' : ∀ d, o.dst = some d -> d ∉ looks ops o := λ d hd => by simpa [dstIn, hd] using hself
   have hun : listed.getD i true = false := by
    rcases hi.lun (i, m) (.head _) with h | ⟨h, _⟩
    ·exact h
    ·exact absurd h hmm
   have hpair : ∀ x ∈ E ++ S, listed.getD x.1 true = false -> pairOk ops x.1 i = true := by
    intro x hx hl
    obtain ⟨l1, l2, el⟩ := List.append_of_mem hx
    have epi : pi = l1 ++ x :: (l2 ++ (i, m) :: l) := by rw [e, el]; simp
    have ho2 := zqt l1 (by rw [<- epi]; exact hord)
    obtain ⟨o', ho', hdst, hvals, ⟨hb, _, _, _, _⟩ | ⟨hb, _⟩ | ⟨ha, hs, _⟩⟩ := hi.pend x hx hl
    ·obtain ⟨xi, xm⟩ := x
     simp only at hb; subst hb
     simp only [ordOk, Bool.and_eq_true] at ho2
     exact zxr (x := (i, m)) ho2.1 (λ y hy hw => hi.np (by rw [el]; simp [hy]) hw hl) (λ h => absurd (.inl h) hm)
    ·obtain ⟨xi, xm⟩ := x
     simp only at hb; subst hb
     simp only [ordOk, Bool.and_eq_true] at ho2
     exact zxr (x := (i, m)) ho2.1 (λ y hy hw => hi.np (by rw [el]; simp [hy]) hw hl) (λ h => absurd (.inl h) hm)
    ·-- x lies in S: between it and i nothing loud
     obtain ⟨s1, s2, es⟩ := List.append_of_mem hs
     have epi' : pi = (E ++ s1) ++ x :: (s2 ++ [(i, m)] ++ l) := by rw [e, es]; simp
     have ho3 := zqt (E ++ s1) (by rw [<- epi']; exact hord)
     obtain ⟨xi, xm⟩ := x
     simp only at ha; subst ha
     simp only [ordOk, Bool.and_eq_true] at ho3
     refine zvd ho3.1.2 (λ y hy => ?_) (i, m) (by simp)
     rcases List.mem_append.1 hy with hy | hy
     ·exact hi.quiet y (by rw [es]; simp [hy])
     ·simp only [List.mem_singleton] at hy; subst hy; exact λ e => hm (.inl e)
   have hsel' : ∀ cs b, o.op ≠ .select cs b := λ cs b => Region.noSelect_spec hsel i o cs b ho
   have hva : ∀ s, s < n -> o.dst = some s -> (va.put o.dst v).tmps[s]? = some v := by
    intro s hs hd; rw [hd]; exact zxE (by rw [hi.env.size]; exact hs)
   have hdlt : ∀ s, o.dst = some s -> s < n := by
    intro s hd; have := hq.1; rw [hd] at this; simpa [dstOk, Nat.blt_eq] using this
   have hordl := zqt (E ++ S) (by rw [<- e]; exact hord)
   have hpairl : ∀ j, (j, Md.m) ∈ l -> pairOk ops i j = true := λ j hj => zxH (zxc hordl).1 hj
   have hnew : Inv P n ops ds Gn N Hc' (Hn ++ Hq) listed a (va.put o.dst v) E (S ++ [(i, m)]) l (λ k => if k = i then v else V k) (putL o.dst v L) Hw' := by
    have eapp : E ++ (S ++ [(i, m)]) ++ l = E ++ S ++ (i, m) :: l := by simp
    have hni : ∀ x ∈ E ++ S, x.1 ≠ i := by
     intro x hx hxi
     have := hi.nd
     rw [List.map_append, List.nodup_append] at this
     exact this.2.2 x.1 (List.mem_map_of_mem hx) i (by simp) hxi
    refine ⟨hi.size, by rw [eapp]; exact hi.inb, by rw [eapp]; exact hi.all, by rw [eapp]; exact hi.nd, λ x hx => hi.lun x (.tail _ hx), hi.down, hi.env.putO v hq.1, hi.defs.trans put_defs.symm, hi.tsz.trans put_size.symm, λ s hs hsN => ?_, λ x hx hl => ?_, hkept, λ x hx => ?_, hi.nnd, λ y hy => ?_, λ j Gj hj hjl => ?_⟩
    ·have h1 : o.dst ≠ some s := hs (i, m) (by simp) hun o ho
     rw [zqi h1]
     exact hi.agree s (λ x hx => hs x (by rcases List.mem_append.1 hx with h | h <;> simp [h])) hsN
    ·have hx' : x ∈ E ++ S \/ x = (i, m) := by
      rcases List.mem_append.1 hx with h | h
      ·exact .inl (by simp [h])
      ·rcases List.mem_append.1 h with h | h
       ·exact .inl (by simp [h])
       ·exact .inr (by simpa using h)
     rcases hx' with hx' | rfl
     ·obtain ⟨o', ho', hdst, hvals, hm'⟩ := hi.pend x hx' hl
      obtain ⟨p1, p2, _⟩ := zqj (hpair x hx' hl) ho' ho
      have hlk : ∀ s ∈ looks ops o', (va.put o.dst v).tmps[s]? = va.tmps[s]? := λ s hs => zqi λ hd => p1 s hd hs
      refine ⟨o', ho', hdst, λ s hs => ?_, ?_⟩
      ·simp only [hni x hx', if_false]
       rw [zqi λ hd => p2 s hd hs]; exact hvals s hs
      ·simp only [hni x hx', if_false]
       rcases hm' with ⟨hb, Hb, Hr, hbe, hqa⟩ | ⟨hb, A, hA, hqa⟩ | ⟨ha, hsm, hqa⟩
       ·refine .inl ⟨hb, Hb, Hr ++ Hn, ?_, hqa.sub hlk⟩
        have h1 := (Eqv.comm Hn Hq).trans (hbe.app (.refl Hn))
        rw [List.append_assoc] at h1
        exact h1
       ·exact .inr (.inl ⟨hb, A, hsubc _ hA, λ B hB => (hqa B hB).sub hlk⟩)
       ·exact .inr (.inr ⟨ha, by simp [hsm], (hqa.sub hlk).eqv htot⟩)
     ·have hlk : ∀ s ∈ looks ops o, (va.put o.dst v).tmps[s]? = va.tmps[s]? := λ s hs => zqi λ hd => hself' s hd hs
      have hqa := (hq.at hsel' hi.env).sub hlk
      refine ⟨o, ho, hq.1, λ s hs => ?_, ?_⟩
      ·simp only [if_true]; exact hva s (hdlt s hs) hs
      ·simp only [if_true]
       rcases hH with ⟨hb, rfl⟩ | ⟨hb, A, hA, hqA, _, _, rfl⟩ | ⟨ha, rfl⟩
       ·exact .inl ⟨hb, Hn ++ Hq, [], by rw [List.append_nil]; exact .refl _, hqa⟩
       ·exact .inr (.inl ⟨hb, A, hA, λ B hB => ((hqA B hB).at hsel' hi.env).sub hlk⟩)
       ·exact .inr (.inr ⟨ha, by simp, hqa⟩)
    ·rcases List.mem_append.1 hx with h | h
     ·exact hi.quiet x h
     ·simp only [List.mem_singleton] at h; subst h; exact λ e => hm (.inl e)
    ·obtain ⟨h1, h2, h3⟩ := hi.ex y hy
     refine ⟨h1, ?_, h3⟩
     cases h2 with
     | head => exact absurd rfl hmm
     | tail _ h2 => exact h2
    ·obtain ⟨oj, hoj, hdj, hdfj, hnj, hpj⟩ := hi.gn j Gj hj (.tail _ hjl)
     obtain ⟨_, _, h3⟩ := zqj (hpairl j hjl) ho hoj
     refine ⟨oj, hoj, hdj, hdfj, hnj.sub λ s hs => zqi λ hd => ?_, λ x hx => hpj x (.tail _ hx)⟩
     rcases h3 with h3 | h3
     ·rw [hpj (i, m) (.head _)] at h3; cases h3
     ·exact h3 s hd hs
   obtain ⟨S', l', va', V', L', N', Hc2, Hq', Hw2, r1, r2, r3, r4, r5⟩ := ih (S ++ [(i, m)]) (va.put o.dst v) (λ k => if k = i then v else V k) (putL o.dst v L) Gn N Hc' (Hn ++ Hq) Hw' (by rw [e]; simp) hnew hrd
   exact ⟨S', l', va', V', L', N', Hc2, Hq', Hw2, r1, r2, r3, ((Eqv.refl (Hns N)).app htot).trans r4, r5⟩
theorem wpIn_real {F : Fence} {m : Nat} {o : Oper} {a va : Act} {w : World} {nx nx' : Act -> World -> Prop} {Q Q' : Exit -> Act -> World -> Prop} (hF : ∀ f, F.fn f) (hdf : ∀ c, o.op ≠ .defer c)
  (hsem : execOp a.eval o = execOp va.eval o) (hn : ∀ v w', nx (va.put o.dst v) w' -> nx' (a.put o.dst v) w')
  (hnd : ∀ d w', ¬ nx ({ va with defers := d :: va.defers }.put o.dst undef) w')
  (hp : ∀ c w', Q (.panic c) va w' -> Q' (.panic c) a w') (ho : ¬ LetsOut Q) (h : o.wpIn F m P va w nx Q) : o.wpIn F m P a w nx' Q' := by
 refine ⟨λ f _ => hF f, ?_⟩
 have h2 := h.2
 rw [Oper.semAt_eq _ _ _ hdf] at h2 ⊢
 rw [hsem]
 generalize (execOp va.eval o).run P w = res at h2 ⊢
 unfold Oper.uponIn at h2 ⊢
 split at h2
 ·exact hn _ _ h2
 ·exact hn _ _ h2
 ·exact absurd h2 (hnd _ _)
 ·refine ⟨h2.1, h2.2.1, λ cs hr => ?_⟩
  obtain ⟨e, w'', fr, q, c, d, l⟩ := h2.2.2 cs hr
  refine ⟨e, w'', fr, ?_, c, d, l⟩
  cases e with
  | returned v => exact hn _ _ q
  | panicked ch => exact hp _ _ q
  | outgrown => exact absurd q ho
 ·refine ⟨h2.1, λ c cs hr => ?_⟩
  obtain ⟨v, w'', q, s⟩ := h2.2 c cs hr
  exact ⟨v, w'', hn _ _ q, s⟩
 ·refine ⟨h2.1, h2.2.1, λ c cs hr => ?_⟩
  obtain ⟨e, w'', q, s⟩ := h2.2.2 c cs hr
  refine ⟨e, w'', ?_, s⟩
  cases e with
  | returned v => exact hn _ _ q
  | panicked ch => exact hp _ _ q
  | outgrown => exact absurd q ho
 ·exact hp _ _ h2
 ·exact h2.elim
theorem swap_hold {Γ w : World} {A B : List SP} {F : SP} (h : Hold Γ (A ++ B) F w) : Hold Γ (B ++ A) F w :=
 h.weaken λ x hx => (zqD B A).2 (zqQ ((zqD A B).1 hx))
theorem first_un {f : Nat -> Bool} : ∀ (l : List (Nat × Md)), (∃ x ∈ l, f x.1 = true) -> ∃ l1 x l2, l = l1 ++ x :: l2 /\ f x.1 = true /\ ∀ y ∈ l1, f y.1 = false
 | [], h => by obtain ⟨x, m, _⟩ := h; cases m
 | y :: l, h => by
  cases hy : f y.1 with
  | true => exact ⟨[], y, l, rfl, hy, λ z m => by cases m⟩
  | false =>
   obtain ⟨x, m, hx⟩ := h
   obtain ⟨l1, z, l2, e, hz, h1⟩ := first_un l ⟨x, by cases m with | head => rw [hy] at hx; cases hx | tail _ m => exact m, hx⟩
   exact ⟨y :: l1, z, l2, by rw [e]; rfl, hz, λ u m => by cases m with | head => exact hy | tail _ m => exact h1 u m⟩
theorem nodup_one : ∀ {l : List (Nat × Md)} {x y : Nat × Md}, (l.map (·.1)).Nodup -> x ∈ l -> y ∈ l -> x.1 = y.1 -> x = y
 | [], _, _, _, h, _, _ => by cases h
 | z :: l, x, y, hn, hx, hy, e => by
  simp only [List.map_cons, List.nodup_cons] at hn
  cases hx with
  | head =>
   cases hy with
   | head => rfl
   | tail _ hy => exact absurd (by have := List.mem_map_of_mem (f := (·.1)) hy; rw [<- e] at this; exact this) hn.1
  | tail _ hx =>
   cases hy with
   | head => exact absurd (by have := List.mem_map_of_mem (f := (·.1)) hx; rw [e] at this; exact this) hn.1
   | tail _ hy => exact nodup_one hn.2 hx hy e
theorem hold_mv {Γ w : World} {A A' B B' : List SP} {F : SP} (h : Hold Γ A (star F (sep B)) w) (e : Eqv (B ++ A) (B' ++ A')) : Hold Γ A' (star F (sep B')) w :=
 (swap_hold ((swap_hold h.out).eqv e)).inn λ x hx => hx
theorem hold_ns {Γ w : World} {A B : List SP} {F : SP} (h : Hold Γ A (star F (sep B)) w) : Hold Γ A F w :=
 h.out.weaken λ x hx => by
  obtain ⟨h1, h2, d, e, ha, hb⟩ := (zqD A B).1 hx
  rw [e, Hp.un_comm d]
  exact sep_up A (Hp.disj_comm d) ha
def RDx (P : Program) (ro : Option Nat) (n : Nat) (ops : Array Oper) (ds : List Deferred) (Gn : List (Nat × Gd)) (Hc : List (Nat × Told)) (Hq : List SP) (K : Kont) (l : List (Nat × Md)) (L : Lo) (Hw : List SP) : Prop := match l with
 | (i, .w) :: l => ∃ o, ops[i]? = some o /\ zqJ ops (Gn.map (·.1)) [i] l = true /\ (∀ c, o.op ≠ .defer c) /\ Ops P ro n ops [o] ds L Hw (Kw ds Hq K λ L' Hw' => Kept (still ops i Hc) Hw' /\ RDc P ro n ops ds Gn (still ops i Hc) Hq K l L' Hw')
 | l => RDc P ro n ops ds Gn Hc Hq K l L Hw
theorem rd_ev {Gn : List (Nat × Gd)} {N : Nd} {Hc : List (Nat × Told)} {Hq : List SP} {listed : Array Bool} {a va : Act} {E S l : List (Nat × Md)} {V : Nat -> Value} {L : Lo} {Hw : List SP} (hsel : Region.noSelect ops = true)
  (hi : Inv P n ops ds Gn N Hc Hq listed a va E S l V L Hw) (hr : RDc P ro n ops ds Gn Hc Hq K l L Hw) : ∃ Gn', Inv P n ops ds Gn' N Hc Hq listed a va E S l V L Hw /\ RDx P ro n ops ds Gn' Hc Hq K l L Hw := by
 cases l with
 | nil => exact ⟨Gn, hi, hr⟩
 | cons x l =>
  obtain ⟨i, m⟩ := x
  cases m with
  | w =>
   obtain ⟨o, Gs, ho, hGs, hbn, hdf, hops⟩ := hr
   refine ⟨Gs ++ Gn, { hi with ex := λ y hy => ?_, gn := λ j G hj hjl => ?_ }, o, ho, hbn, hdf, hops⟩
   ·obtain ⟨h1, h2, o', G, ho', hv, hG, hGv⟩ := hi.ex y hy
    exact ⟨h1, h2, o', G, ho', hv, gl_old hG λ g hg => (hGs g hg).1, hGv⟩
   ·rcases gl_app hj with ⟨g, hg, rfl, rfl⟩ | hj
    ·obtain ⟨_, og, hog, hnp, hsafe⟩ := hGs g hg
     exact ⟨og, hog, hsafe.1, hsafe.2.1, hsafe.at (λ cs b => Region.noSelect_spec hsel g.1 og cs b hog) hi.env, noPred_spec hnp⟩
    ·exact hi.gn j G hj hjl
  | a => exact ⟨Gn, hi, hr⟩
  | b => exact ⟨Gn, hi, hr⟩
  | c => exact ⟨Gn, hi, hr⟩
  | n => exact ⟨Gn, hi, hr⟩
  | m => exact ⟨Gn, hi, hr⟩
theorem rd_next {pi : List (Nat × Md)} {listed : Array Bool} {a : Act} {E : List (Nat × Md)} (hpi : zjK ops [] pi = true) (hord : ordOk ops pi = true) (hsel : Region.noSelect ops = true)
  {l S : List (Nat × Md)} {va : Act} {V : Nat -> Value} {L : Lo} {Gn : List (Nat × Gd)} {N : Nd} {Hc : List (Nat × Told)} {Hq Hw : List SP} (e : pi = E ++ S ++ l) (hi : Inv P n ops ds Gn N Hc Hq listed a va E S l V L Hw) (hr : RDc P ro n ops ds Gn Hc Hq K l L Hw) :
  ∃ S' l' va' V' L' Gn' N' Hc' Hq' Hw', pi = E ++ S' ++ l' /\ Inv P n ops ds Gn' N' Hc' Hq' listed a va' E S' l' V' L' Hw' /\ RDx P ro n ops ds Gn' Hc' Hq' K l' L' Hw' /\ Eqv (Hns N ++ (Hw ++ Hq)) (Hns N' ++ (Hw' ++ Hq')) /\
   ∀ x l'', l' = x :: l'' -> (x.2 = .w \/ x.2 = .n \/ (x.2 = .m /\ ∀ y ∈ N', y.1 ≠ x.1)) := by
 obtain ⟨S', l', va', V', L', N', Hc', Hq', Hw', r1, r2, r3, r4, r5⟩ := rd_pull hpi hord hsel l S va V L Gn N Hc Hq Hw e hi hr
 obtain ⟨Gn', r2, r3⟩ := rd_ev hsel r2 r3
 exact ⟨S', l', va', V', L', Gn', N', Hc', Hq', Hw', r1, r2, r3, r4, r5⟩
theorem rd_sound {pi : List (Nat × Md)} (hpi : zjK ops [] pi = true) (hord : ordOk ops pi = true) (hsel : Region.noSelect ops = true) {Γ : World} {F : SP} {Q : Exit -> Act -> World -> Prop} (hK : K.le n Γ F Q) :
  ∀ (fuel : Nat) (listed : Array Bool) (a va : Act) (w : World) (E S l : List (Nat × Md)) (V : Nat -> Value) (L : Lo) (Gn : List (Nat × Gd)) (N : Nd) (Hc : List (Nat × Told)) (Hq Hw : List SP), pi = E ++ S ++ l -> Inv P n ops ds Gn N Hc Hq listed a va E S l V L Hw ->
  Hold Γ (Hw ++ Hq) (star F (sep (Hns N))) w -> RDx P ro n ops ds Gn Hc Hq K l L Hw -> (∀ x l'', l = x :: l'' -> (x.2 = .w \/ x.2 = .n \/ (x.2 = .m /\ ∀ y ∈ N, y.1 ≠ x.1))) -> cnt (λ i => !listed.getD i true) (List.range ops.size) <= fuel ->
  wpAnyIn (fw ro) 0 P .any ops Q fuel listed a w := by
 have hpp := zxF hpi
 -- all listed: the end
 have fin : ∀ (listed : Array Bool) (a va : Act) (w : World) (E S l : List (Nat × Md)) (V : Nat -> Value) (L : Lo) (Gn : List (Nat × Gd)) (N : Nd) (Hc : List (Nat × Told)) (Hq Hw : List SP), pi = E ++ S ++ l -> Inv P n ops ds Gn N Hc Hq listed a va E S l V L Hw ->
   Hold Γ (Hw ++ Hq) (star F (sep (Hns N))) w -> RDx P ro n ops ds Gn Hc Hq K l L Hw -> (∀ x l'', l = x :: l'' -> (x.2 = .w \/ x.2 = .n \/ (x.2 = .m /\ ∀ y ∈ N, y.1 ≠ x.1))) -> (∀ i, i < ops.size -> listed.getD i true = true) -> Q .normal a w := by
  intro listed a va w E S l V L Gn N Hc Hq Hw e hi hh hr hhead hall
  have hl : l = [] := by
   cases l with
   | nil => rfl
   | cons x l =>
    have h1 := hi.lun x (.head _)
    rw [hall x.1 (hi.inb x (by simp))] at h1
    rcases h1 with h1 | ⟨h1, y, hy, hyx⟩
    ·cases h1
    ·rcases hhead x l rfl with h | h | ⟨_, h⟩
     ·rw [h1] at h; cases h
     ·rw [h1] at h; cases h
     ·exact absurd hyx (h y hy)
  subst hl
  have hN : N = [] := by
   cases N with
   | nil => rfl
   | cons y N => have := (hi.ex y (.head _)).2.1; cases this
  subst hN
  have hh : Hold Γ (Hw ++ Hq) F w := by simpa [Hns] using hh.out
  obtain ⟨L2, hs2, hr⟩ := hr
  refine hK .normal ds L2 (Hw ++ Hq) a w hr (Env.sub ⟨hi.tsz.trans hi.env.size, hi.defs.trans hi.env.defs, λ t v ht => ?_⟩ hs2) hh
  rw [hi.agree t (λ x hx hl => by
   rw [hall x.1 (hi.inb x (by simp at hx ⊢; exact hx))] at hl; cases hl) (λ y hy => by cases hy)]
  exact hi.env.get t v ht
 intro fuel
 induction fuel with
 | zero =>
  intro listed a va w E S l V L Gn N Hc Hq Hw e hi hh hr hhead hc
  have hall : ∀ i, i < ops.size -> listed.getD i true = true := by
   intro i hlt
   have := cnt_zero (Nat.le_zero.1 hc) i (List.mem_range.2 hlt)
   simpa using this
  refine ⟨List.eq_nil_iff_forall_not_mem.2 λ i hm => ?_, fin listed a va w E S l V L Gn N Hc Hq Hw e hi hh hr hhead hall⟩
  obtain ⟨h0, o, ho, _⟩ := mem_ready.1 hm
  rw [hall i (Array.getElem?_eq_some_iff.1 ho).1] at h0; cases h0
 | succ fuel ih =>
  intro listed a va w E S l V L Gn N Hc Hq Hw e hi hh hr hhead hc
  refine ⟨λ hnil => ?_, λ i hready => ?_⟩
  ·refine fin listed a va w E S l V L Gn N Hc Hq Hw e hi hh hr hhead λ i hlt => ?_
   cases hl : listed.getD i true with
   | true => rfl
   | false =>
    exfalso
    obtain ⟨m, hm⟩ := hi.all i hlt
    obtain ⟨l1, x, l2, epi, hx, hprev⟩ := first_un (f := λ i => !listed.getD i true) pi ⟨(i, m), by rw [e]; exact hm, by simp [hl]⟩
    obtain ⟨o, ho, _, hp⟩ := hpp.2.2 l1 x l2 epi
    have : x.1 ∈ Region.ready .any ops listed := by
     refine mem_ready.2 ⟨by simpa using hx, o, ho, λ ed he hb => ?_⟩
     rcases hp ed he hb with h | h
     ·cases h
     ·obtain ⟨y, hy, ey⟩ := List.mem_map.1 h
      have h1 := hprev y hy
      simp only [Bool.not_eq_false'] at h1
      rw [<- ey, <- getD_tf (by rw [hi.size]; exact hi.inb y (by rw [<- e, epi]; simp [hy]))]
      exact h1
    rw [hnil] at this; cases this
  ·obtain ⟨hun, o, ho, hpreds⟩ := mem_ready.1 hready
   have hlt : i < ops.size := (Array.getElem?_eq_some_iff.1 ho).1
   have hltl : i < listed.size := by rw [hi.size]; exact hlt
   have hpl : ∀ ed ∈ o.after, Region.binds .any ed = true -> listed.getD ed.on true = true := by
    intro ed he hb
    have h1 := hpreds ed he hb
    by_cases hs : ed.on < listed.size
    ·rw [getD_tf hs]; exact h1
    ·simp [Array.getD_eq_getD_getElem?, Nat.le_of_not_lt hs]
   have hsel' : ∀ cs b, o.op ≠ .select cs b := λ cs b => Region.noSelect_spec hsel i o cs b ho
   have hcnt : cnt (λ k => !(listed.setIfInBounds i true).getD k true) (List.range ops.size) <= fuel := by
    have := cnt_lt (f := λ k => !listed.getD k true) (g := λ k => !(listed.setIfInBounds i true).getD k true) (j := i) (λ k hk => by
     rw [zqn hltl] at hk
     split at hk
     ·cases hk
     ·exact hk) (by simp [hun]) (by rw [zqn hltl]; simp) (List.range ops.size) (List.mem_range.2 hlt)
    omega
   have hdown : ∀ k o', ops[k]? = some o' -> (listed.setIfInBounds i true).getD k true = true -> ∀ ed ∈ o'.after, Region.binds .any ed = true -> (listed.setIfInBounds i true).getD ed.on true = true := by
    intro k o' ho' hk ed he hb
    rw [zqn hltl] at hk ⊢
    split
    ·rfl
    ·by_cases hki : k = i
     ·subst hki; rw [ho] at ho'; cases ho'; exact hpl ed he hb
     ·rw [if_neg hki] at hk; exact hi.down k o' ho' hk ed he hb
   obtain ⟨m, hm⟩ := hi.all i hlt
   simp only [wpOpIn, ho]
   -- against those carried out ahead
   have hpairN : ∀ (l1 l2 : List (Nat × Md)), pi = l1 ++ (i, m) :: l2 -> ∀ j, (j, Md.m) ∈ l2 -> pairOk ops i j = true := by
    intro l1 l2 epi j hj
    have ho2 := zqt l1 (by rw [<- epi]; exact hord)
    exact zxH (zxc ho2).1 hj
   have hNl : ∀ y ∈ N, y.1 ≠ i := by
    intro y hy h
    have := (hi.ex y hy).1
    rw [h, hun] at this; cases this
   rcases List.mem_append.1 hm with hm | hm
   ·-- a quiet one
    obtain ⟨o', ho', hdst, hvals, hmode⟩ := hi.pend (i, m) hm hun
    rw [ho] at ho'; cases ho'
    have hlook : ∀ s ∈ looks ops o, a.tmps[s]? = va.tmps[s]? := by
     intro s hs
     refine hi.agree s (λ x hx hl ox hox hd => ?_) (λ y hy oy hoy hd => ?_)
     rotate_left
     ·obtain ⟨l1, l2, el⟩ := List.append_of_mem hm
      have hpk := hpairN l1 (l2 ++ l) (by rw [e, el]; simp) y.1 (by simp [(hi.ex y hy).2.1])
      exact (zqj hpk ho hoy).1 s hd hs
     by_cases hxi : x.1 = i
     ·rw [hxi, ho] at hox; cases hox
      have hself : dstIn o (looks ops o) = false := by
       obtain ⟨l1, l2, el⟩ := List.append_of_mem hm
       obtain ⟨o'', ho'', hd', _⟩ := hpp.2.2 l1 (i, m) (l2 ++ l) (by rw [e, el]; simp)
       rw [ho] at ho''; cases ho''; exact hd'
      simp [dstIn, hd, hs] at hself
     ·-- two that wait: one stands ahead of the other
      have hsplit : (∃ l1 l2 l3, E ++ S = l1 ++ x :: (l2 ++ (i, m) :: l3)) \/ (∃ l1 l2 l3, E ++ S = l1 ++ (i, m) :: (l2 ++ x :: l3)) := by
       obtain ⟨l1, l2, el⟩ := List.append_of_mem hm
       rw [el] at hx
       rcases List.mem_append.1 hx with h | h
       ·obtain ⟨l3, l4, e3⟩ := List.append_of_mem h
        exact .inl ⟨l3, l4, l2, by rw [el, e3]; simp⟩
       ·cases h with
        | head => exact absurd rfl hxi
        | tail _ h =>
         obtain ⟨l3, l4, e3⟩ := List.append_of_mem h
         exact .inr ⟨l1, l3, l4, by rw [el, e3]⟩
      have pair : ∀ (y z : Nat × Md) l1 l2 l3, E ++ S = l1 ++ y :: (l2 ++ z :: l3) -> y ∈ E ++ S -> z ∈ E ++ S -> listed.getD y.1 true = false -> pairOk ops y.1 z.1 = true := by
       intro y z l1 l2 l3 ees hy hz hyl
       have epi : pi = l1 ++ y :: (l2 ++ z :: l3 ++ l) := by rw [e, ees]; simp
       have ho2 := zqt l1 (by rw [<- epi]; exact hord)
       obtain ⟨oy, hoy, _, _, ⟨hb, _, _, _, _⟩ | ⟨hb, _⟩ | ⟨ha, hys, _⟩⟩ := hi.pend y hy hyl
       ·obtain ⟨yi, ym⟩ := y
        simp only at hb; subst hb
        simp only [ordOk, Bool.and_eq_true] at ho2
        exact zxr (x := z) (l2 := l3 ++ l) (by simpa using ho2.1) (λ u hu hw => hi.np (by rw [ees]; simp [hu]) hw hyl) (λ h => hi.np hz h hyl)
       ·obtain ⟨yi, ym⟩ := y
        simp only at hb; subst hb
        simp only [ordOk, Bool.and_eq_true] at ho2
        exact zxr (x := z) (l2 := l3 ++ l) (by simpa using ho2.1) (λ u hu hw => hi.np (by rw [ees]; simp [hu]) hw hyl) (λ h => hi.np hz h hyl)
       ·obtain ⟨s1, s2, es⟩ := List.append_of_mem hys
        -- y's place in S is its place in E ++ S
        have hnd := hi.nd
        have hsame : l1 = E ++ s1 /\ l2 ++ z :: l3 = s2 := by
         have e1 : E ++ S = (E ++ s1) ++ y :: s2 := by rw [es]; simp
         have hnd' : ((E ++ S).map (·.1)).Nodup := by
          rw [List.map_append, List.nodup_append] at hnd; exact hnd.1
         have : ∀ (p1 q1 p2 q2 : List (Nat × Md)), p1 ++ y :: q1 = p2 ++ y :: q2 -> ((p1 ++ y :: q1).map (·.1)).Nodup -> p1 = p2 /\ q1 = q2 := by
          intro p1
          induction p1 with
          | nil =>
           intro q1 p2 q2 h hn
           cases p2 with
           | nil => cases h; exact ⟨rfl, rfl⟩
           | cons u p2 =>
            cases h
            simp at hn
          | cons u p1 ih1 =>
           intro q1 p2 q2 h hn
           cases p2 with
           | nil =>
            cases h
            simp at hn
           | cons u' p2 =>
            simp only [List.cons_append, List.cons.injEq] at h
            obtain ⟨rfl, h⟩ := h
            have hn' : ((p1 ++ y :: q1).map (·.1)).Nodup := by
             simp only [List.cons_append, List.map_cons, List.nodup_cons] at hn; exact hn.2
            obtain ⟨r1, r2⟩ := ih1 q1 p2 q2 h hn'
            exact ⟨by rw [r1], r2⟩
         exact this l1 (l2 ++ z :: l3) (E ++ s1) s2 (by rw [<- ees, e1]) (by rw [<- ees]; exact hnd')
        obtain ⟨yi, ym⟩ := y
        simp only at ha; subst ha
        simp only [ordOk, Bool.and_eq_true] at ho2
        refine zvd (l := l2 ++ z :: l3) ho2.1.2 (λ u hu => ?_) z (by simp)
        exact hi.quiet u (by rw [es, <- hsame.2]; simp at hu ⊢; rcases hu with h | h | h <;> simp [h])
      have hne : x.1 ≠ i := hxi
      rcases hsplit with ⟨l1, l2, l3, ees⟩ | ⟨l1, l2, l3, ees⟩
      ·have hpk := pair x (i, m) l1 l2 l3 ees hx hm hl
       obtain ⟨_, _, h3⟩ := zqj hpk hox ho
       rcases h3 with h3 | h3
       ·obtain ⟨ed, he, hb, hon⟩ := zqI h3 ho
        have := hpl ed he hb
        rw [hon, hl] at this; cases this
       ·exact h3 s hd hs
      ·have hpk := pair (i, m) x l1 l2 l3 ees hm hx hun
       obtain ⟨h1, _, _⟩ := zqj hpk ho hox
       exact h1 s hd hs
    -- its run
    have hrun : (Region.wanted o (yielded ops a.tmps) = false /\ V i = undef) \/ (Region.wanted o (yielded ops a.tmps) = true /\ (∀ c, o.op ≠ .defer c) /\ ∃ w', (execOp a.eval o).run P w = .ok (.value (V i)) w' /\ Hold Γ (Hw ++ Hq) (star F (sep (Hns N))) w') := by
     rcases hmode with ⟨_, Hb, Hr, hbe, hq⟩ | ⟨_, Φ, hA, hq⟩ | ⟨_, _, hq⟩
     ·have htot : Eqv (Hw ++ Hq) (Hb ++ (Hr ++ Hw)) := by
       have h1 := (Eqv.comm Hw Hq).trans (hbe.app (.refl Hw))
       rw [List.append_assoc] at h1
       exact h1
      rcases hq Γ (star (star F (sep (Hns N))) (sep (Hr ++ Hw))) a w hlook (hh.inn λ x hx => (htot x).1 hx) with h | ⟨h1, h2, w', h3, h4⟩
      ·exact .inl h
      ·exact .inr ⟨h1, h2, w', h3, h4.out.eqv htot.symm⟩
     ·obtain ⟨A, Hr, hpA, hkr⟩ := hi.kept _ hA
      have hq := hq A hpA
      have htot : Eqv (Hw ++ Hq) ([A] ++ (Hr ++ Hq)) := by
       have h1 := hkr.app (.refl Hq)
       simpa using h1
      rcases hq Γ (star (star F (sep (Hns N))) (sep (Hr ++ Hq))) a w hlook (hh.inn λ x hx => (htot x).1 hx) with h | ⟨h1, h2, w', h3, h4⟩
      ·exact .inl h
      ·exact .inr ⟨h1, h2, w', h3, h4.out.eqv htot.symm⟩
     ·exact hq Γ (star F (sep (Hns N))) a w hlook hh
    have hi' : Inv P n ops ds Gn N Hc Hq (listed.setIfInBounds i true) (a.put o.dst (V i)) va E S l V L Hw := by
     have hsub : ∀ k, (listed.setIfInBounds i true).getD k true = false -> listed.getD k true = false /\ k ≠ i := by
      intro k hk
      rw [zqn hltl] at hk
      split at hk
      ·cases hk
      ·rename_i hne; exact ⟨hk, hne⟩
     refine ⟨by simp [hi.size], hi.inb, hi.all, hi.nd, λ x hx => ?_, hdown, hi.env, put_defs.trans hi.defs, put_size.trans hi.tsz, λ s hs hsN => ?_, λ x hx hl => ?_, hi.kept, hi.quiet, hi.nnd, λ y hy => ?_, hi.gn⟩
     ·rw [zqn hltl]
      have hnd := hi.nd
      rw [List.map_append, List.nodup_append] at hnd
      have : x.1 ≠ i := λ h => hnd.2.2 i (by have := List.mem_map_of_mem (f := (·.1)) hm; exact this) x.1 (List.mem_map_of_mem hx) h.symm
      rw [if_neg this]; exact hi.lun x hx
     ·by_cases hd : o.dst = some s
      ·have hslt : s < a.tmps.size := by
        rw [hi.tsz, hi.env.size]
        rw [hd] at hdst; simpa [dstOk, Nat.blt_eq] using hdst
       rw [hd, zxE hslt]; exact (hvals s hd).symm
      ·rw [zqi hd]
       refine hi.agree s (λ x hx hl ox hox => ?_) hsN
       by_cases hxi : x.1 = i
       ·rw [hxi, ho] at hox; cases hox; exact hd
       ·exact hs x hx (by rw [zqn hltl, if_neg hxi]; exact hl) ox hox
     ·exact hi.pend x hx (hsub x.1 hl).1
     ·obtain ⟨h1, h2, o', G, ho', hv', hG⟩ := hi.ex y hy
      refine ⟨by rw [zqn hltl, if_neg (hNl y hy)]; exact h1, h2, o', G, ho', λ s hs hsz => ?_, hG⟩
      obtain ⟨l1, l2, el⟩ := List.append_of_mem hm
      have hpk := hpairN l1 (l2 ++ l) (by rw [e, el]; simp) y.1 (by simp [h2])
      rw [zqi ((zqj hpk ho ho').2.1 s hs)]
      exact hv' s hs (by rw [put_size] at hsz; exact hsz)
    rcases hrun with ⟨hw, hv⟩ | ⟨hw, hdf, w', hrun, hh'⟩
    ·rw [hw]
     simp only [Bool.false_eq_true, if_false]
     refine ⟨λ _ _ => trivial, ?_⟩
     rw [hv] at hi'
     exact ih _ _ va w E S l V L Gn N Hc Hq Hw e hi' hh hr hhead hcnt
    ·rw [hw]
     simp only [if_true]
     refine ⟨λ _ _ => trivial, ?_⟩
     rw [Oper.semAt_eq _ _ _ hdf, hrun]
     exact ih _ _ va w' E S l V L Gn N Hc Hq Hw e hi' hh' hr hhead hcnt
   ·-- the next loud one
    cases l with
    | nil => cases hm
    | cons x l =>
     obtain ⟨k, mk⟩ := x
     have hmk := hhead (k, mk) l rfl
     dsimp only at hmk
     have hordl := zqt (E ++ S) (by rw [<- e]; exact hord)
     have hkun : listed.getD k true = false := by
      rcases hi.lun (k, mk) (.head _) with h | ⟨h1, y, hy, hyk⟩
      ·exact h
      ·dsimp only at h1
       rcases hmk with h | h | ⟨_, h⟩
       ·rw [h1] at h; cases h
       ·rw [h1] at h; cases h
       ·exact absurd hyk (h y hy)
     have hbn : zqJ ops (Gn.map (·.1)) [k] l = true := by
      rcases hmk with rfl | rfl | ⟨rfl, _⟩
      ·obtain ⟨_, _, h, _⟩ := hr; exact h
      ·obtain ⟨_, _, h, _⟩ := hr; exact h
      ·obtain ⟨_, _, _, _, h, _⟩ := hr; exact h
     have hnodup : ∀ x ∈ (k, mk) :: l, x.1 = i -> x = (i, m) := by
      have hnd := hi.nd
      rw [List.map_append, List.nodup_append] at hnd
      exact λ x hx hxi => nodup_one hnd.2.1 hx hm hxi
     by_cases hik : i = k
     rotate_left
     ·-- ahead of the loud one
      have hml : (i, m) ∈ l := by
       cases hm with
       | head => exact absurd rfl hik
       | tail _ h => exact h
      have hcase : m = .m /\ i ∈ Gn.map (·.1) := by
       rcases zjs hbn (i, m) hml with h | ⟨j, hj, hp⟩
       ·exact h
       ·exfalso
        obtain ⟨ed, he, hb, hon⟩ := zqI hp ho
        have h1 := hpl ed he hb
        have h2 : listed.getD j true = false := by
         rcases hj with hj | ⟨mj, hj, hne⟩
         ·simp only [List.mem_singleton] at hj; subst hj; exact hkun
         ·rcases hi.lun (j, mj) (.tail _ hj) with h | ⟨h, _⟩
          ·exact h
          ·exact absurd h hne
        rw [hon, h2] at h1; cases h1
      obtain ⟨rfl, hid⟩ := hcase
      obtain ⟨G, hG⟩ := gl_of hid
      obtain ⟨o', ho', hdst, hdf, hnat, hnp⟩ := hi.gn i G hG hm
      rw [ho] at ho'; cases ho'
      -- against another one that is ahead
      have hpairNN : ∀ y ∈ N, ∀ oy, ops[y.1]? = some oy -> (∀ s ∈ looks ops o, oy.dst ≠ some s) /\ (∀ s, oy.dst = some s -> o.dst ≠ some s) := by
       intro y hy oy hoy
       obtain ⟨_, hyl, _⟩ := hi.ex y hy
       have hyne := hNl y hy
       have hsplit : (∃ l1 l2 l3, (k, mk) :: l = l1 ++ (i, Md.m) :: (l2 ++ (y.1, Md.m) :: l3)) \/ (∃ l1 l2 l3, (k, mk) :: l = l1 ++ (y.1, Md.m) :: (l2 ++ (i, Md.m) :: l3)) := by
        obtain ⟨l1, l2, el⟩ := List.append_of_mem hm
        rw [el] at hyl
        rcases List.mem_append.1 hyl with h | h
        ·obtain ⟨l3, l4, e3⟩ := List.append_of_mem h
         exact .inr ⟨l3, l4, l2, by rw [el, e3]; simp⟩
        ·cases h with
         | head => exact absurd rfl hyne
         | tail _ h =>
          obtain ⟨l3, l4, e3⟩ := List.append_of_mem h
          exact .inl ⟨l1, l3, l4, by rw [el, e3]⟩
       rcases hsplit with ⟨l1, l2, l3, el⟩ | ⟨l1, l2, l3, el⟩
       ·have ho2 := zqt (E ++ S ++ l1) (l2 := (i, Md.m) :: (l2 ++ (y.1, Md.m) :: l3)) (by rw [List.append_assoc, <- el, <- e]; exact hord)
        have hpk := zxH (zxc ho2).1 (j := y.1) (by simp)
        obtain ⟨p1, p2, _⟩ := zqj hpk ho hoy
        exact ⟨λ s hs hd => p1 s hd hs, λ s hd => p2 s hd⟩
       ·have ho2 := zqt (E ++ S ++ l1) (l2 := (y.1, Md.m) :: (l2 ++ (i, Md.m) :: l3)) (by rw [List.append_assoc, <- el, <- e]; exact hord)
        have hpk := zxH (zxc ho2).1 (j := i) (by simp)
        obtain ⟨p1, p2, p3⟩ := zqj hpk hoy ho
        refine ⟨λ s hs hd => ?_, λ s hd hd' => p2 s hd' hd⟩
        rcases p3 with p3 | p3
        ·rw [hnp (y.1, .m) (hi.ex y hy).2.1] at p3; cases p3
        ·exact p3 s hd hs
      have hlook : ∀ s ∈ looks ops o, a.tmps[s]? = va.tmps[s]? := by
       intro s hs
       refine hi.agree s (λ x hx hl ox hox hd => ?_) (λ y hy oy hoy => (hpairNN y hy oy hoy).1 s hs)
       obtain ⟨l1, l2, el⟩ := List.append_of_mem hx
       have epi : pi = l1 ++ x :: (l2 ++ (k, mk) :: l) := by rw [e, el]; simp
       have ho2 := zqt l1 (by rw [<- epi]; exact hord)
       have hpk := zxH (zxc (i := x.1) (m := x.2) ho2).1 (j := i) (by simp [hml])
       obtain ⟨_, _, p3⟩ := zqj hpk hox ho
       rcases p3 with p3 | p3
       ·obtain ⟨ed, he, hb, hon⟩ := zqI p3 ho
        have := hpl ed he hb
        rw [hon, hl] at this; cases this
       ·exact p3 s hd hs
      have hES : ∀ x ∈ E ++ S, x.1 ≠ i := by
       intro x hx h
       have hnd := hi.nd
       rw [List.map_append, List.nodup_append] at hnd
       exact hnd.2.2 x.1 (List.mem_map_of_mem hx) i (by have := List.mem_map_of_mem (f := (·.1)) hm; exact this) h
      have next : ∀ v w' Hn, G v Hn -> Hold Γ (Hn ++ (Hw ++ Hq)) (star F (sep (Hns N))) w' -> wpAnyIn (fw ro) 0 P .any ops Q fuel (listed.setIfInBounds i true) (a.put o.dst v) w' := by
       intro v w' Hn hGv hh'
       have hinv : Inv P n ops ds Gn ((i, v, Hn) :: N) Hc Hq (listed.setIfInBounds i true) (a.put o.dst v) va E S ((k, mk) :: l) V L Hw := by
        refine ⟨by simp [hi.size], hi.inb, hi.all, hi.nd, λ x hx => ?_, hdown, hi.env, put_defs.trans hi.defs, put_size.trans hi.tsz, λ s hs hsN => ?_, λ x hx hl => ?_, hi.kept, hi.quiet, ?_, λ y hy => ?_, hi.gn⟩
        ·by_cases hxi : x.1 = i
         ·exact .inr ⟨by rw [hnodup x hx hxi], (i, v, Hn), .head _, hxi.symm⟩
         ·rw [zqn hltl, if_neg hxi]
          exact (hi.lun x hx).imp id λ ⟨h1, y, hy, h2⟩ => ⟨h1, y, .tail _ hy, h2⟩
        ·rw [zqi (hsN _ (.head _) o ho)]
         exact hi.agree s (λ x hx hl => hs x hx (by rw [zqn hltl, if_neg (hES x hx)]; exact hl)) λ y hy => hsN y (.tail _ hy)
        ·refine hi.pend x hx ?_
         rw [zqn hltl, if_neg (hES x hx)] at hl
         exact hl
        ·simp only [List.map_cons, List.nodup_cons]
         refine ⟨λ h => ?_, hi.nnd⟩
         obtain ⟨y, hy, hyi⟩ := List.mem_map.1 h
         exact hNl y hy hyi
        ·cases hy with
         | head => exact ⟨by rw [zqn hltl, if_pos rfl], hm, o, G, ho, λ s hs hsz => by dsimp only at hs ⊢; rw [hs]; exact zxE (by rw [put_size] at hsz; exact hsz), hG, hGv⟩
         | tail _ hy =>
          obtain ⟨h1, h2, o', G', ho', hv', hG'⟩ := hi.ex y hy
          refine ⟨by rw [zqn hltl, if_neg (hNl y hy)]; exact h1, h2, o', G', ho', λ s hs hsz => ?_, hG'⟩
          rw [zqi ((hpairNN y hy o' ho').2 s hs)]
          exact hv' s hs (by rw [put_size] at hsz; exact hsz)
       refine ih _ _ va w' E S ((k, mk) :: l) V L Gn ((i, v, Hn) :: N) Hc Hq Hw e hinv (hold_mv hh' ?_) hr (λ x l'' h => ?_) hcnt
       ·have h1 : Eqv (Hns N ++ Hn) (Hn ++ Hns N) := .comm _ _
        have h2 := h1.app (.refl (Hw ++ Hq))
        rw [List.append_assoc] at h2
        exact h2
       ·cases h
        refine hmk.imp id λ h => h.imp id λ h => ⟨h.1, λ y hy => ?_⟩
        cases hy with
        | head => exact hik
        | tail _ hy => exact h.2 y hy
      rcases hnat Γ (star F (sep (Hns N))) a w (Hw ++ Hq) hlook hh with ⟨hw, hGu⟩ | ⟨hw, v, w', Hn, hrun, hh', hGv⟩
      ·rw [hw]
       simp only [Bool.false_eq_true, if_false]
       exact ⟨λ _ _ => trivial, next undef w [] hGu (by simpa using hh)⟩
      ·rw [hw]
       simp only [if_true]
       refine ⟨λ _ _ => trivial, ?_⟩
       rw [Oper.semAt_eq _ _ _ hdf, hrun]
       exact next v w' Hn hGv hh'
     subst hik
     obtain rfl : m = mk := by have := hnodup (i, mk) (.head _) rfl; cases this; rfl
     have hexl : m ≠ .m -> ∀ y ∈ N, (y.1, Md.m) ∈ l := by
      intro hne y hy
      have := (hi.ex y hy).2.1
      cases this with
      | head => exact absurd rfl hne
      | tail _ h => exact h
     have hexl' : ∀ y ∈ N, (y.1, Md.m) ∈ l := by
      intro y hy
      have := (hi.ex y hy).2.1
      cases this with
      | head => exact absurd rfl (hNl y hy)
      | tail _ h => exact h
     have hpairNl : ∀ y ∈ N, pairOk ops i y.1 = true := λ y hy => hpairN (E ++ S) l e y.1 (hexl' y hy)
     rcases hmk with rfl | hmk
     ·obtain ⟨o', ho', _, hdf, hops⟩ := hr
      rw [ho] at ho'; cases ho'
      -- no 'a' waits
      have hnoa : ∀ (S2 S1 : List (Nat × Md)) (j : Nat), S = S1 ++ (j, .a) :: S2 -> listed.getD j true = true := by
       intro S2
       generalize hlen : S2.length = len
       induction len using Nat.strongRecOn generalizing S2 with
       | _ len ihl =>
        intro S1 j es
        cases hl : listed.getD j true with
        | true => rfl
        | false =>
         exfalso
         have epi : pi = (E ++ S1) ++ (j, .a) :: (S2 ++ (i, .w) :: l) := by rw [e, es]; simp
         have ho2 := zqt (E ++ S1) (by rw [<- epi]; exact hord)
         simp only [ordOk, Bool.and_eq_true, Bool.or_eq_true, zxk] at ho2
         have hah : zxh ops j (S2 ++ (i, .w) :: l) = true := by
          rcases ho2.1.1 with h | h
          ·cases h
          ·exact h
         rcases zxw hah (λ y hy => hi.quiet y (by rw [es]; simp [hy])) with h | ⟨s, ms, hs, hms, h⟩
         ·obtain ⟨ed, he, hb, hon⟩ := zqI h ho
          have := hpl ed he hb
          rw [hon, hl] at this; cases this
         ·have hsl : listed.getD s true = true := by
           rcases hms with rfl | rfl | rfl
           ·obtain ⟨s1, s2, es2⟩ := List.append_of_mem hs
            exact ihl s2.length (by rw [<- hlen, es2]; simp; omega) s2 rfl (S1 ++ (j, .a) :: s1) s (by rw [es, es2]; simp)
           ·cases hl2 : listed.getD s true with
            | true => rfl
            | false =>
             obtain ⟨_, _, _, _, ⟨hb, _⟩ | ⟨hb, _⟩ | ⟨hb, _⟩⟩ := hi.pend (s, .n) (by simp [es, hs]) hl2
             ·cases hb
             ·cases hb
             ·cases hb
           ·cases hl2 : listed.getD s true with
            | true => rfl
            | false =>
             obtain ⟨_, _, _, _, ⟨hb, _⟩ | ⟨hb, _⟩ | ⟨hb, _⟩⟩ := hi.pend (s, .m) (by simp [es, hs]) hl2
             ·cases hb
             ·cases hb
             ·cases hb
          have hslt : s < ops.size := hi.inb (s, ms) (by simp [es, hs])
          obtain ⟨os, hos⟩ : ∃ os, ops[s]? = some os := ⟨ops[s], by simp [hslt]⟩
          obtain ⟨ed, he, hb, hon⟩ := zqI h hos
          have := hi.down s os hos hsl ed he hb
          rw [hon, hl] at this; cases this
      have hpb : ∀ x ∈ E ++ S, listed.getD x.1 true = false -> ∃ o', ops[x.1]? = some o' /\ dstOk o'.dst n = true /\ (∀ s, o'.dst = some s -> va.tmps[s]? = some (V x.1)) /\ ((x.2 = .b /\ ∃ Hb Hr, Eqv Hq (Hb ++ Hr) /\ QAt P n ops o' va Hb (V x.1)) \/ (x.2 = .c /\ ∃ Φ, (x.1, Φ) ∈ Hc /\ ∀ A, Φ A -> QAt P n ops o' va [A] (V x.1))) := by
       intro x hx hl
       obtain ⟨o', ho', hd, hv, ⟨hb, hq⟩ | ⟨hb, hq⟩ | ⟨ha, hs, _⟩⟩ := hi.pend x hx hl
       ·exact ⟨o', ho', hd, hv, .inl ⟨hb, hq⟩⟩
       ·exact ⟨o', ho', hd, hv, .inr ⟨hb, hq⟩⟩
       ·obtain ⟨s1, s2, es⟩ := List.append_of_mem hs
        obtain ⟨xi, xm⟩ := x
        simp only at ha; subst ha
        rw [hnoa s2 s1 xi es] at hl; cases hl
      have hpair : ∀ x ∈ E ++ S, listed.getD x.1 true = false -> pairOk ops x.1 i = true := by
       intro x hx hl
       obtain ⟨l1, l2, el⟩ := List.append_of_mem hx
       have epi : pi = l1 ++ x :: (l2 ++ (i, .w) :: l) := by rw [e, el]; simp
       have ho2 := zqt l1 (by rw [<- epi]; exact hord)
       obtain ⟨_, _, _, _, ⟨hb, _⟩ | ⟨hb, _⟩⟩ := hpb x hx hl
       ·obtain ⟨xi, xm⟩ := x
        simp only at hb; subst hb
        simp only [ordOk, Bool.and_eq_true] at ho2
        refine zxr (x := (i, .w)) ho2.1 (λ y hy hw => hi.np (by rw [el]; simp [hy]) hw hl) (λ _ => ?_)
        cases hp : isPred ops xi i with
        | false => rfl
        | true =>
         obtain ⟨ed, he, hb, hon⟩ := zqI hp ho
         have := hpl ed he hb
         rw [hon, hl] at this; cases this
       ·obtain ⟨xi, xm⟩ := x
        simp only at hb; subst hb
        simp only [ordOk, Bool.and_eq_true] at ho2
        refine zxr (x := (i, .w)) ho2.1 (λ y hy hw => hi.np (by rw [el]; simp [hy]) hw hl) (λ _ => ?_)
        cases hp : isPred ops xi i with
        | false => rfl
        | true =>
         obtain ⟨ed, he, hb, hon⟩ := zqI hp ho
         have := hpl ed he hb
         rw [hon, hl] at this; cases this
      have hlook : ∀ s ∈ looks ops o, a.tmps[s]? = va.tmps[s]? := by
       intro s hs
       refine hi.agree s (λ x hx hl ox hox hd => ?_) (λ y hy oy hoy hd => (zqj (hpairNl y hy) ho hoy).1 s hd hs)
       obtain ⟨_, _, h3⟩ := zqj (hpair x hx hl) hox ho
       rcases h3 with h3 | h3
       ·obtain ⟨ed, he, hb, hon⟩ := zqI h3 ho
        have := hpl ed he hb
        rw [hon, hl] at this; cases this
       ·exact h3 s hd hs
      have hii : Hold Γ Hw (star (star F (sep (Hns N))) (sep Hq)) w := hh.inn λ x hx => hx
      have hlw := hops Γ (star (star F (sep (Hns N))) (sep Hq)) va w (λ e a' w' => match e with
       | .normal => ∃ L' Hw', (Kept (still ops i Hc) Hw' /\ RDc P ro n ops ds Gn (still ops i Hc) Hq K l L' Hw') /\ Env a' n ds L' /\ Hold Γ Hw' (star (star F (sep (Hns N))) (sep Hq)) w'
       | .panic c => ∃ ds' Hw', K (.panic c) ds' [] (Hw' ++ Hq) /\ a'.defers = ds' /\ a'.tmps.size = n /\ Hold Γ Hw' (star (star F (sep (Hns N))) (sep Hq)) w'
       | _ => False) hi.env hii (by
        intro e ds' L' Hw' a' w' k he hh'
        cases e with
        | normal => obtain ⟨rfl, k⟩ := k; exact ⟨L', Hw', k, he, hh'⟩
        | panic c => exact ⟨ds', Hw', k, he.defs, he.size, hh'⟩
        | exit j => exact k
        | goto j => exact k
        | ret => exact k)
      simp only [lw] at hlw
      -- what follows, at the real act
      have next : ∀ v w', (∃ L' Hw', (Kept (still ops i Hc) Hw' /\ RDc P ro n ops ds Gn (still ops i Hc) Hq K l L' Hw') /\ Env (va.put o.dst v) n ds L' /\ Hold Γ Hw' (star (star F (sep (Hns N))) (sep Hq)) w') ->
        wpAnyIn (fw ro) 0 P .any ops Q fuel (listed.setIfInBounds i true) (a.put o.dst v) w' := by
       rintro v w' ⟨L', Hw', ⟨hkept, hrd⟩, henv, hh'⟩
       have hsub : ∀ k, (listed.setIfInBounds i true).getD k true = false -> listed.getD k true = false /\ k ≠ i := by
        intro k hk
        rw [zqn hltl] at hk
        split at hk
        ·cases hk
        ·rename_i hne; exact ⟨hk, hne⟩
       have eapp : (E ++ S ++ [(i, .w)]) ++ [] ++ l = E ++ S ++ (i, Md.w) :: l := by simp
       have hinv : Inv P n ops ds Gn N (still ops i Hc) Hq (listed.setIfInBounds i true) (a.put o.dst v) (va.put o.dst v) (E ++ S ++ [(i, .w)]) [] l V L' Hw' := by
        refine ⟨by simp [hi.size], by rw [eapp]; exact hi.inb, by rw [eapp]; exact hi.all, by rw [eapp]; exact hi.nd, λ x hx => ?_, hdown, henv, by rw [put_defs, put_defs]; exact hi.defs, by rw [put_size, put_size]; exact hi.tsz, λ s hs hsN => ?_, λ x hx hl => ?_, hkept, λ x hx => (by cases hx), hi.nnd, λ y hy => ?_, λ j Gj hj hjl => ?_⟩
        ·rw [zqn hltl]
         have hnd := hi.nd
         rw [List.map_append, List.nodup_append] at hnd
         have h2 := hnd.2.1
         simp only [List.map_cons, List.nodup_cons] at h2
         have : x.1 ≠ i := λ h => h2.1 (by rw [<- h]; exact List.mem_map_of_mem hx)
         rw [if_neg this]; exact hi.lun x (.tail _ hx)
        ·by_cases hd : o.dst = some s
         ·rw [hd]
          by_cases hsz : s < a.tmps.size
          ·rw [zxE hsz, zxE (by rw [<- hi.tsz]; exact hsz)]
          ·have h1 : ¬ s < (a.put (some s) v).tmps.size := by rw [put_size]; exact hsz
           have h2 : ¬ s < (va.put (some s) v).tmps.size := by rw [put_size, <- hi.tsz]; exact hsz
           rw [Array.getElem?_eq_none (Nat.le_of_not_lt h1), Array.getElem?_eq_none (Nat.le_of_not_lt h2)]
         ·rw [zqi hd, zqi hd]
          refine hi.agree s (λ x hx hl ox hox => ?_) hsN
          have hne : x.1 ≠ i := by
           intro h
           have hnd := hi.nd
           rw [List.map_append, List.nodup_append] at hnd
           exact hnd.2.2 x.1 (List.mem_map_of_mem hx) i (by simp) h
          exact hs x (by simp at hx ⊢; rcases hx with h | h <;> simp [h]) (by rw [zqn hltl, if_neg hne]; exact hl) ox hox
        ·obtain ⟨hl1, hne⟩ := hsub x.1 hl
         have hx' : x ∈ E ++ S := by
          simp at hx
          rcases hx with h | h | h
          ·simp [h]
          ·simp [h]
          ·rw [h] at hne; exact absurd rfl hne
         obtain ⟨o', ho', hd, hv, hmode⟩ := hpb x hx' hl1
         obtain ⟨p1, p2, _⟩ := zqj (hpair x hx' hl1) ho' ho
         refine ⟨o', ho', hd, λ s hs => by rw [zqi λ hd => p2 s hd hs]; exact hv s hs, ?_⟩
         rcases hmode with ⟨hb, Hb, Hr, hbe, hq⟩ | ⟨hb, A, hA, hq⟩
         ·exact .inl ⟨hb, Hb, Hr, hbe, hq.sub λ s hs => zqi λ hd => p1 s hd hs⟩
         ·have hst : (x.1, A) ∈ still ops i Hc := by
           refine List.mem_filter.2 ⟨hA, ?_⟩
           cases hp : isPred ops x.1 i with
           | false => rfl
           | true =>
            obtain ⟨ed, he, hb, hon⟩ := zqI hp ho
            have := hpl ed he hb
            rw [hon, hl1] at this; cases this
          exact .inr (.inl ⟨hb, A, hst, λ B hB => (hq B hB).sub λ s hs => zqi λ hd => p1 s hd hs⟩)
        ·obtain ⟨h1, h2, o', G, ho', hv', hG⟩ := hi.ex y hy
         refine ⟨by rw [zqn hltl, if_neg (hNl y hy)]; exact h1, hexl' y hy, o', G, ho', λ s hs hsz => ?_, hG⟩
         rw [zqi ((zqj (hpairNl y hy) ho ho').2.1 s hs)]
         exact hv' s hs (by rw [put_size] at hsz; exact hsz)
        ·obtain ⟨oj, hoj, hdj, hdfj, hnj, hpj⟩ := hi.gn j Gj hj (.tail _ hjl)
         obtain ⟨_, _, h3⟩ := zqj (hpairN (E ++ S) l e j hjl) ho hoj
         refine ⟨oj, hoj, hdj, hdfj, hnj.sub λ s hs => zqi λ hd => ?_, λ x hx => hpj x (.tail _ hx)⟩
         rcases h3 with h3 | h3
         ·rw [hpj (i, .w) (.head _)] at h3; cases h3
         ·exact h3 s hd hs
       obtain ⟨S', l', va', V', L'', Gn2, N2, Hc2, Hq2, Hw2, e', hi2, hr2, heq2, hh2⟩ := rd_next hpi hord hsel (by rw [e]; simp) hinv hrd
       exact ih _ _ va' w' _ S' l' V' L'' Gn2 N2 Hc2 Hq2 Hw2 e' hi2 (hold_mv hh'.out heq2) hr2 hh2 hcnt
      rw [zxq hlook]
      split at hlw
      ·rename_i hwn
       rw [hwn]
       simp only [if_true]
       refine wpIn_real (λ _ => trivial) hdf (zka hsel' hlook) next ?_ ?_ ?_ hlw
       ·rintro d w' ⟨L', Hw', _, he, _⟩
        have h1 := he.defs
        rw [put_defs] at h1
        simp only at h1
        rw [hi.env.defs] at h1
        exact absurd h1 (List.cons_ne_self d ds)
       ·rintro c w' ⟨ds', Hw', k, hd, hs, hh'⟩
        exact hK (.panic c) ds' [] (Hw' ++ Hq) a w' k ⟨hi.tsz.trans hs, hi.defs.trans hd, λ t v h => by cases h⟩ (hold_ns hh'.out)
       ·rintro ⟨_, _, h⟩; exact h
      ·rename_i hwn
       rw [Bool.eq_false_iff.2 hwn]
       simp only [Bool.false_eq_true, if_false]
       exact ⟨λ _ _ => trivial, next _ _ hlw⟩
     ·have hnw : m ≠ .w := by rcases hmk with rfl | ⟨rfl, _⟩ <;> simp
      have hnq : ∀ x ∈ E ++ S, x = (i, m) -> False := by
       rintro x hx rfl
       have hnd := hi.nd
       rw [List.map_append, List.nodup_append] at hnd
       exact hnd.2.2 i (by have := List.mem_map_of_mem (f := (·.1)) hx; exact this) i (by simp) rfl
      have hdd : dstOk o.dst n = true /\ ∀ c, o.op ≠ .defer c := by
       rcases hmk with rfl | ⟨rfl, _⟩
       ·obtain ⟨o', ho', _, hdf, hdst, _⟩ := hr
        rw [ho] at ho'; cases ho'
        exact ⟨hdst, hdf⟩
       ·obtain ⟨o', G, ho', hG, _⟩ := hr
        obtain ⟨o', ho', hdst, hdf, _⟩ := hi.gn i G hG (.head _)
        rw [ho] at ho'; cases ho'
        exact ⟨hdst, hdf⟩
      obtain ⟨hdst, hdf⟩ := hdd
      have hpair : ∀ x ∈ E ++ S, listed.getD x.1 true = false -> pairOk ops x.1 i = true := by
       intro x hx hl
       obtain ⟨l1, l2, el⟩ := List.append_of_mem hx
       have epi : pi = l1 ++ x :: (l2 ++ (i, m) :: l) := by rw [e, el]; simp
       have ho2 := zqt l1 (by rw [<- epi]; exact hord)
       obtain ⟨o', ho', hd', hvals, ⟨hb, _, _, _, _⟩ | ⟨hb, _⟩ | ⟨ha, hs, _⟩⟩ := hi.pend x hx hl
       ·obtain ⟨xi, xm⟩ := x
        simp only at hb; subst hb
        simp only [ordOk, Bool.and_eq_true] at ho2
        exact zxr (x := (i, m)) ho2.1 (λ y hy hw => hi.np (by rw [el]; simp [hy]) hw hl) (λ h => absurd h hnw)
       ·obtain ⟨xi, xm⟩ := x
        simp only at hb; subst hb
        simp only [ordOk, Bool.and_eq_true] at ho2
        exact zxr (x := (i, m)) ho2.1 (λ y hy hw => hi.np (by rw [el]; simp [hy]) hw hl) (λ h => absurd h hnw)
       ·obtain ⟨s1, s2, es⟩ := List.append_of_mem hs
        have epi' : pi = (E ++ s1) ++ x :: (s2 ++ [(i, m)] ++ l) := by rw [e, es]; simp
        have ho3 := zqt (E ++ s1) (by rw [<- epi']; exact hord)
        obtain ⟨xi, xm⟩ := x
        simp only at ha; subst ha
        simp only [ordOk, Bool.and_eq_true] at ho3
        refine zvd ho3.1.2 (λ y hy => ?_) (i, m) (by simp)
        rcases List.mem_append.1 hy with hy | hy
        ·exact hi.quiet y (by rw [es]; simp [hy])
        ·simp only [List.mem_singleton] at hy; subst hy; exact hnw
      have hlook : ∀ s ∈ looks ops o, a.tmps[s]? = va.tmps[s]? := by
       intro s hs
       refine hi.agree s (λ x hx hl ox hox hd => ?_) (λ y hy oy hoy hd => (zqj (hpairNl y hy) ho hoy).1 s hd hs)
       obtain ⟨_, _, h3⟩ := zqj (hpair x hx hl) hox ho
       rcases h3 with h3 | h3
       ·obtain ⟨ed, he, hb, hon⟩ := zqI h3 ho
        have := hpl ed he hb
        rw [hon, hl] at this; cases this
       ·exact h3 s hd hs
      have next : ∀ v w' Hn, Hold Γ (Hn ++ (Hw ++ Hq)) (star F (sep (Hns N))) w' -> RDc P ro n ops ds Gn Hc Hq K l (putL o.dst v L) (Hn ++ Hw) ->
        wpAnyIn (fw ro) 0 P .any ops Q fuel (listed.setIfInBounds i true) (a.put o.dst v) w' := by
       intro v w' Hn hh' hrd
       have hsub : ∀ k, (listed.setIfInBounds i true).getD k true = false -> listed.getD k true = false /\ k ≠ i := by
        intro k hk
        rw [zqn hltl] at hk
        split at hk
        ·cases hk
        ·rename_i hne; exact ⟨hk, hne⟩
       have eapp : E ++ (S ++ [(i, m)]) ++ l = E ++ S ++ (i, m) :: l := by simp
       have hinv : Inv P n ops ds Gn N Hc Hq (listed.setIfInBounds i true) (a.put o.dst v) (va.put o.dst v) E (S ++ [(i, m)]) l V (putL o.dst v L) (Hn ++ Hw) := by
        refine ⟨by simp [hi.size], by rw [eapp]; exact hi.inb, by rw [eapp]; exact hi.all, by rw [eapp]; exact hi.nd, λ x hx => ?_, hdown, hi.env.putO v hdst, by rw [put_defs, put_defs]; exact hi.defs, by rw [put_size, put_size]; exact hi.tsz, λ s hs hsN => ?_, λ x hx hl => ?_, hi.kept.new Hn, λ x hx => ?_, hi.nnd, λ y hy => ?_, λ j Gj hj hjl => ?_⟩
        ·rw [zqn hltl]
         have hnd := hi.nd
         rw [List.map_append, List.nodup_append] at hnd
         have h2 := hnd.2.1
         simp only [List.map_cons, List.nodup_cons] at h2
         have : x.1 ≠ i := λ h => h2.1 (by rw [<- h]; exact List.mem_map_of_mem hx)
         rw [if_neg this]; exact hi.lun x (.tail _ hx)
        ·by_cases hd : o.dst = some s
         ·rw [hd]
          by_cases hsz : s < a.tmps.size
          ·rw [zxE hsz, zxE (by rw [<- hi.tsz]; exact hsz)]
          ·have h1 : ¬ s < (a.put (some s) v).tmps.size := by rw [put_size]; exact hsz
           have h2 : ¬ s < (va.put (some s) v).tmps.size := by rw [put_size, <- hi.tsz]; exact hsz
           rw [Array.getElem?_eq_none (Nat.le_of_not_lt h1), Array.getElem?_eq_none (Nat.le_of_not_lt h2)]
         ·rw [zqi hd, zqi hd]
          refine hi.agree s (λ x hx hl ox hox => ?_) hsN
          have hne : x.1 ≠ i := by
           intro h
           have hnd := hi.nd
           rw [List.map_append, List.nodup_append] at hnd
           exact hnd.2.2 x.1 (List.mem_map_of_mem hx) i (by simp) h
          exact hs x (by simp at hx ⊢; rcases hx with h | h <;> simp [h]) (by rw [zqn hltl, if_neg hne]; exact hl) ox hox
        ·obtain ⟨hl1, hne⟩ := hsub x.1 hl
         have hx' : x ∈ E ++ S := by
          simp at hx
          rcases hx with h | h | h
          ·simp [h]
          ·simp [h]
          ·rw [h] at hne; exact absurd rfl hne
         obtain ⟨o', ho', hd, hv, hmode⟩ := hi.pend x hx' hl1
         obtain ⟨p1, p2, _⟩ := zqj (hpair x hx' hl1) ho' ho
         refine ⟨o', ho', hd, λ s hs => by rw [zqi λ hd => p2 s hd hs]; exact hv s hs, ?_⟩
         rcases hmode with ⟨hb, Hb, Hr, hbe, hq⟩ | ⟨hb, A, hA, hq⟩ | ⟨ha, hs, hq⟩
         ·exact .inl ⟨hb, Hb, Hr, hbe, hq.sub λ s hs => zqi λ hd => p1 s hd hs⟩
         ·exact .inr (.inl ⟨hb, A, hA, λ B hB => (hq B hB).sub λ s hs => zqi λ hd => p1 s hd hs⟩)
         ·refine .inr (.inr ⟨ha, by simp [hs], ?_⟩)
          have hfr : QAt P n ops o' va (Hn ++ (Hw ++ Hq)) (V x.1) := by
           intro Γ' F' a' w'' ha' hh''
           have hsp : Eqv (Hn ++ (Hw ++ Hq)) ((Hw ++ Hq) ++ Hn) := .comm _ _
           rcases hq Γ' (star F' (sep Hn)) a' w'' ha' (hh''.inn λ x hx => (hsp x).1 hx) with h | ⟨h1, h2, w3, h3, h4⟩
           ·exact .inl h
           ·exact .inr ⟨h1, h2, w3, h3, h4.out.eqv hsp.symm⟩
          rw [<- List.append_assoc] at hfr
          exact hfr.sub λ s hs => zqi λ hd => p1 s hd hs
        ·rcases List.mem_append.1 hx with h | h
         ·exact hi.quiet x h
         ·simp only [List.mem_singleton] at h; subst h; exact hnw
        ·obtain ⟨h1, h2, o', G, ho', hv', hG⟩ := hi.ex y hy
         refine ⟨by rw [zqn hltl, if_neg (hNl y hy)]; exact h1, hexl' y hy, o', G, ho', λ s hs hsz => ?_, hG⟩
         rw [zqi ((zqj (hpairNl y hy) ho ho').2.1 s hs)]
         exact hv' s hs (by rw [put_size] at hsz; exact hsz)
        ·obtain ⟨oj, hoj, hdj, hdfj, hnj, hpj⟩ := hi.gn j Gj hj (.tail _ hjl)
         obtain ⟨_, _, h3⟩ := zqj (hpairN (E ++ S) l e j hjl) ho hoj
         refine ⟨oj, hoj, hdj, hdfj, hnj.sub λ s hs => zqi λ hd => ?_, λ x hx => hpj x (.tail _ hx)⟩
         rcases h3 with h3 | h3
         ·rw [hpj (i, m) (.head _)] at h3; cases h3
         ·exact h3 s hd hs
       obtain ⟨S', l', va', V', L'', Gn2, N2, Hc2, Hq2, Hw2, e', hi2, hr2, heq2, hh2⟩ := rd_next hpi hord hsel (by rw [e]; simp) hinv hrd
       rw [<- List.append_assoc] at hh'
       exact ih _ _ va' w' E S' l' V' L'' Gn2 N2 Hc2 Hq2 Hw2 e' hi2 (hold_mv hh' heq2) hr2 hh2 hcnt
      rcases hmk with rfl | ⟨rfl, _⟩
      rotate_left
      ·obtain ⟨o', G, ho', hG, _, hrd⟩ := hr
       rw [ho] at ho'; cases ho'
       obtain ⟨o', ho', _, _, hnat, _⟩ := hi.gn i G hG (.head _)
       rw [ho] at ho'; cases ho'
       rcases hnat Γ (star F (sep (Hns N))) a w (Hw ++ Hq) hlook hh with ⟨hw, hGu⟩ | ⟨hw, v, w', Hn, hrun, hh', hGv⟩
       ·rw [hw]
        simp only [Bool.false_eq_true, if_false]
        exact ⟨λ _ _ => trivial, next undef w [] (by simpa using hh) (hrd _ _ hGu)⟩
       ·rw [hw]
        simp only [if_true]
        refine ⟨λ _ _ => trivial, ?_⟩
        rw [Oper.semAt_eq _ _ _ hdf, hrun]
        exact next v w' Hn hh' (hrd _ _ hGv)
      obtain ⟨o', ho', _, _, _, hcase⟩ := hr
      rw [ho] at ho'; cases ho'
      rcases hcase with ⟨hwn, hrd⟩ | ⟨hwn, hstep⟩
      ·rw [zxq hlook, zqU hi.env hwn]
       simp only [Bool.false_eq_true, if_false]
       exact ⟨λ _ _ => trivial, next undef w [] (by simpa using hh) (by simpa using hrd)⟩
      ·rw [zxq hlook, zqU hi.env hwn]
       simp only [if_true]
       obtain ⟨v, w', Hn, hrun, hh', hrd⟩ := hstep Γ (star F (sep (Hns N))) va w (Hw ++ Hq) hi.env hh
       refine ⟨λ _ _ => trivial, ?_⟩
       rw [Oper.semAt_eq _ _ _ hdf, zka hsel' hlook, hrun]
       exact next v w' Hn hh' hrd
theorem nodup_len : ∀ (m : Nat) (l : List Nat), l.Nodup -> (∀ x ∈ l, x < m) -> l.length <= m
 | 0, l, _, h => by
  cases l with
  | nil => exact Nat.le_refl _
  | cons x l => exact absurd (h x (.head _)) (Nat.not_lt_zero _)
 | m + 1, l, hn, h => by
  have h1 := nodup_len m (l.erase m) (hn.erase m) λ x hx => by
   have h2 := (hn.mem_erase_iff).1 hx
   have := h x h2.2
   omega
  have h3 : l.length <= (l.erase m).length + 1 := by
   rw [List.length_erase]; split <;> omega
  omega
theorem nodup_all {m : Nat} {l : List Nat} (hn : l.Nodup) (h : ∀ x ∈ l, x < m) (hl : m <= l.length) (i : Nat) (hi : i < m) : i ∈ l := by
 by_cases hm : i ∈ l
 ·exact hm
 ·have := nodup_len m (i :: l) (List.nodup_cons.2 ⟨hm, hn⟩) λ x hx => by
   cases hx with
   | head => exact hi
   | tail _ hx => exact h x hx
  simp only [List.length_cons] at this
  omega
theorem Go.draw {id : Nat} {L : Lo} {H : List SP} (pi : List (Nat × Md)) (hok : zkT ops pi = true) (hsel : Region.noSelect ops = true) (hmix : P.follows .mixedOrders = true) {Hw Hq : List SP} (s : Split H Hw Hq)
  (h : RD P ro n ops ds Hq K pi L Hw) : Go P ro n (.region id ops true) ds L H K := by
 intro Γ F a w Q he hh hq
 simp only [zkT, Bool.and_eq_true, beq_iff_eq] at hok
 obtain ⟨⟨h1, h2⟩, h3⟩ := hok
 refine wpIn_region_any hmix ?_
 have hpp := zxF h1
 have hinb : ∀ x ∈ pi, x.1 < ops.size := by
  intro x hx
  obtain ⟨l1, l2, el⟩ := List.append_of_mem hx
  obtain ⟨o, ho, _⟩ := hpp.2.2 l1 x l2 el
  exact (Array.getElem?_eq_some_iff.1 ho).1
 have hrep : ∀ k, k < ops.size -> (Array.replicate ops.size false).getD k true = false := by
  intro k hk; simp [Array.getD_eq_getD_getElem?, hk]
 have hall : ∀ i, i < ops.size -> ∃ m, (i, m) ∈ pi := by
  intro i hi
  have this := nodup_all hpp.2.1 (λ j hj => by
   obtain ⟨x, hx, ex⟩ := List.mem_map.1 hj
   rw [<- ex]; exact hinb x hx) (by simp [h3]) i hi
  obtain ⟨x, hx, ex⟩ := List.mem_map.1 this
  exact ⟨x.2, by rw [<- ex]; exact hx⟩
 have hinv : Inv P n ops ds [] [] [] Hq (Array.replicate ops.size false) a a [] [] pi (λ _ => undef) L Hw := by
  refine ⟨by simp, by simpa using λ x y hx => hinb (x, y) hx, by simpa using hall, by simpa using hpp.2.1, λ x hx => .inl (hrep _ (hinb x hx)), λ k o hk hl => ?_, he, rfl, rfl, λ s _ _ => rfl, λ x hx => (by cases hx), Kept.nil, λ x hx => (by cases hx), by simp, λ y hy => (by cases hy), λ j G hj => (by cases hj)⟩
  rw [hrep k (Array.getElem?_eq_some_iff.1 hk).1] at hl; cases hl
 obtain ⟨S', l', va', V', L'', Gn2, N2, Hc2, Hq2, Hw2, e', hi2, hr2, heq2, hh2⟩ := rd_next h1 h2 hsel (E := []) (S := []) (by simp) hinv h
 have hh0 : Hold Γ (Hw ++ Hq) F { w with drawn := w.drawn + 1 } := (hh.weaken λ x hx => s x hx).drew _
 have hh1 : Hold Γ (Hw ++ Hq) (star F (sep (Hns []))) { w with drawn := w.drawn + 1 } := by
  have h5 : Hold Γ ((Hw ++ Hq) ++ []) F { w with drawn := w.drawn + 1 } := by simpa using hh0
  exact h5.inn λ x hx => hx
 refine rd_sound h1 h2 hsel hq ops.size _ a va' _ [] S' l' V' L'' Gn2 N2 Hc2 Hq2 Hw2 e' hi2 (hold_mv hh1 heq2) hr2 hh2 ?_
 have : ∀ (f : Nat -> Bool) (l : List Nat), cnt f l <= l.length := by
  intro f l
  induction l with
  | nil => exact Nat.le_refl _
  | cons x l ih => simp only [cnt, List.length_cons]; split <;> omega
 have h4 := this (λ i => !(Array.replicate ops.size false).getD i true) (List.range ops.size)
 simpa using h4
end
end Go.Z
namespace Go.Z
section
variable {P : Program} {ro : Option Nat} {n : Nat} {ops : Array Oper} {r : List Oper} {ds : List Deferred} {L : Lo} {H : List SP} {K : Kont}
 {T : TypeId} {p : String} {es : Array Edge} {g : Option (Nat × Bool)} {d : Nat}
theorem qmk {o : Op} {v : Value} (hw : wants ops L ⟨some d, o, T, p, es, g⟩ = some true) (ht : Nat.blt d n = true) (hd : ∀ c, o ≠ .defer c)
  (h : ∀ Γ F a w, Env a n ds L -> Hold Γ H F w -> ∃ w', (execOp a.eval ⟨some d, o, T, p, es, g⟩).run P w = .ok (.value v) w' /\ Hold Γ H F w') : QStep P n ops ⟨some d, o, T, p, es, g⟩ ds L H v :=
 ⟨ht, .inr ⟨hw, hd, h⟩⟩
theorem qpure {o : Op} {v : Value} (hw : wants ops L ⟨some d, o, T, p, es, g⟩ = some true) (ht : Nat.blt d n = true) (hd : ∀ c, o ≠ .defer c)
  (h : ∀ a w, Env a n ds L -> (execOp a.eval ⟨some d, o, T, p, es, g⟩).run P w = .ok (.value v) w) : QStep P n ops ⟨some d, o, T, p, es, g⟩ ds L H v :=
 qmk hw ht hd λ Γ F a w he hh => ⟨w, h a w he, hh⟩
variable {x y z : Operand} {v u : Value}
theorem q_move (hx : evalL L x = some v) (hw : wants ops L ⟨some d, .move x, T, p, es, g⟩ = some true) (ht : Nat.blt d n = true) : QStep P n ops ⟨some d, .move x, T, p, es, g⟩ ds L H v :=
 qpure hw ht (by simp) λ a w he => by simp [execOp, he.eval hx]
theorem q_assign (hx : evalL L x = some v) (hw : wants ops L ⟨some d, .assign x, T, p, es, g⟩ = some true) (ht : Nat.blt d n = true) : QStep P n ops ⟨some d, .assign x, T, p, es, g⟩ ds L H v :=
 qpure hw ht (by simp) λ a w he => by simp [execOp, he.eval hx]
theorem q_pick_t (hc : evalL L z = some (.bool true)) (hx : evalL L x = some v) (hw : wants ops L ⟨some d, .pick z x y, T, p, es, g⟩ = some true) (ht : Nat.blt d n = true) : QStep P n ops ⟨some d, .pick z x y, T, p, es, g⟩ ds L H v :=
 qpure hw ht (by simp) λ a w he => by simp [execOp, asBool, he.eval hc, he.eval hx]
theorem q_pick_f (hc : evalL L z = some (.bool false)) (hy : evalL L y = some v) (hw : wants ops L ⟨some d, .pick z x y, T, p, es, g⟩ = some true) (ht : Nat.blt d n = true) : QStep P n ops ⟨some d, .pick z x y, T, p, es, g⟩ ds L H v :=
 qpure hw ht (by simp) λ a w he => by simp [execOp, asBool, he.eval hc, he.eval hy]
theorem q_extract {vs : Array Value} {i : Nat} (hx : evalL L x = some (.tuple vs)) (hv : vs[i]? = some v) (hw : wants ops L ⟨some d, .extract x i, T, p, es, g⟩ = some true) (ht : Nat.blt d n = true) : QStep P n ops ⟨some d, .extract x i, T, p, es, g⟩ ds L H v :=
 qpure hw ht (by simp) λ a w he => by simp [execOp, Instr.extract, he.eval hx, hv]
theorem q_nil {b : Addr} (hx : evalL L x = some (.pointer (some b))) (hw : wants ops L ⟨some d, .nilCheck x, T, p, es, g⟩ = some true) (ht : Nat.blt d n = true) : QStep P n ops ⟨some d, .nilCheck x, T, p, es, g⟩ ds L H (.pointer (some b)) :=
 qpure hw ht (by simp) λ a w he => by simp [execOp, he.eval hx]
theorem q_not {b : Bool} {T' : TypeId} (hx : evalL L x = some (.bool b)) (hw : wants ops L ⟨some d, .unOp .not T' x, T, p, es, g⟩ = some true) (ht : Nat.blt d n = true) : QStep P n ops ⟨some d, .unOp .not T' x, T, p, es, g⟩ ds L H (.bool (!b)) :=
 qpure hw ht (by simp) λ a w he => by simp [execOp, Op.unary, he.eval hx]
variable {X Y : TypeId} {k : IntKind} {a b : Int}
def inK (k : IntKind) (n : Int) : Prop := k.min <= n /\ n <= k.max
theorem zxR {k : IntKind} {n : Int} (h : inK k n) : k.wrap n = n := by
 unfold inK IntKind.min IntKind.max at h
 unfold IntKind.wrap
 cases k <;> simp [IntKind.signed, IntKind.bits] at h ⊢ <;> omega
theorem q_convw {k' : IntKind} {S D : TypeId} {sd : TypeDesc} (hS : P.underlying S = some sd) (hD : P.underlying D = some (.int k')) (hx : evalL L x = some (.int k a)) (hw : wants ops L ⟨some d, .convert S D x, T, p, es, g⟩ = some true) (ht : Nat.blt d n = true) : QStep P n ops ⟨some d, .convert S D x, T, p, es, g⟩ ds L H (.int k' (k'.wrap a)) :=
 qpure hw ht (by simp) λ A w he => by simp [execOp, he.eval hx, convert, underlying, hS, hD, Conv.intToInt]
end
end Go.Z
namespace Go.Z
abbrev blk (b : Nat) (l : List Value) (ty : TypeId) (fr : Nat × Nat := (0, 0)) : SP := pt b (.cells l.toArray ty fr)
def scDesc : TypeDesc -> Bool
 | .struct _ | .array _ _ => false
 | _ => true
def sizeP (P : Program) (t : TypeId) : Option Nat := (P.info? t).map (·.size)
def bytesP (P : Program) (t : TypeId) : Option Nat := (P.info? t).map (·.bytes)
def zeroP (P : Program) (t : TypeId) : Option Value := (P.info? t).bind (·.zero)
def zkh (P : Program) (s : TypeId) (f : Nat) : Option Nat :=
 match P.underlying s with
 | some (.struct fs) => match fs[f]? with
  | some fl => match sizeP P fl.type with | some (_ + 1) => some fl.offset | _ => none
  | none => none
 | _ => none
def layout (P : Program) (t : TypeId) : Option (List (Nat × Nat) × List Value) :=
 match P.underlying t, zeroP P t with
 | some (.struct fs), some z => (fs.toList.mapM λ f => (sizeP P f.type).map λ n => (f.offset, n)).map λ l => (l, z.cells.toList)
 | _, _ => none
section
variable {P : Program} (w : World)
theorem zqg {t : TypeId} {k : Nat} (h : sizeP P t = some k) : (sizeOf t).run P w = .ok k w := by
 unfold sizeP at h
 cases hi : P.info? t with
 | none => simp [hi] at h
 | some i => simp [sizeOf, typeInfo, hi]; simp [hi] at h; exact h
theorem zql {t : TypeId} {z : Value} (h : zeroP P t = some z) : (zeroValue t).run P w = .ok z w := by
 unfold zeroP at h
 cases hi : P.info? t with
 | none => simp [hi] at h
 | some i => simp only [hi, Option.bind_some] at h; simp [zeroValue, typeInfo, hi, h]
theorem isAgg_sc {t : TypeId} {sd : TypeDesc} (h : P.underlying t = some sd) (hs : scDesc sd = true) : (isAgg t).run P w = .ok false w := by
 cases sd <;> simp_all [isAgg, underlying, scDesc]
theorem isAgg_ag {t : TypeId} {sd : TypeDesc} (h : P.underlying t = some sd) (hs : scDesc sd = false) : (isAgg t).run P w = .ok true w := by
 cases sd <;> simp_all [isAgg, underlying, scDesc]
end
section
variable {P : Program} {Γ w : World} {F : SP} {H H' : List SP} {b : Nat} {l : List Value} {ty : TypeId} {fr : Nat × Nat}
theorem Hold.cell (hh : Hold Γ H F w) (pk : Pick H (blk b l ty fr) H') (off : Nat) : w.cell? ⟨b, off, none⟩ = l[off]? := by
 have := hh.block pk
 simp [World.cell?, this]
theorem Hold.frz (hh : Hold Γ H F w) (pk : Pick H (blk b l ty fr) H') (off : Nat) : w.frozen? ⟨b, off, none⟩ = (fr.1 <= off && off < fr.2 : Bool) := by
 have := hh.block pk
 simp [World.frozen?, this]
theorem zqF (b off k : Nat) : (⟨b, off, none⟩ : Addr).add k = ⟨b, off + k, none⟩ := by
 unfold Addr.add; split <;> simp_all
theorem loadCells_run {off : Nat} : ∀ (m i : Nat) (acc : Array Value), (∀ j, j < m -> ∃ v, w.cell? ⟨b, off + (i + j), none⟩ = some v /\ l[off + (i + j)]? = some v) ->
  (loadCellsFrom ⟨b, off, none⟩ i m acc).run P w = .ok (acc ++ ((l.drop (off + i)).take m).toArray) w := by
 intro m
 induction m with
 | zero => intro i acc _; simp [loadCellsFrom]
 | succ m ih =>
  intro i acc h
  obtain ⟨v, h1, h2⟩ := h 0 (by omega)
  simp only [Nat.add_zero] at h1 h2
  simp only [loadCellsFrom, zqF, Sem.run_bind, run_load, h1, Result.andThen_ok]
  rw [ih (i + 1) (acc.push v) (λ j hj => by
   obtain ⟨u, h3, h4⟩ := h (j + 1) (by omega)
   exact ⟨u, by rw [show i + 1 + j = i + (j + 1) by omega]; exact h3, by rw [show i + 1 + j = i + (j + 1) by omega]; exact h4⟩)]
  congr 1
  have hlt : off + i < l.length := by
   rcases Nat.lt_or_ge (off + i) l.length with h | h
   ·exact h
   ·rw [List.getElem?_eq_none h] at h2; cases h2
  rw [List.drop_eq_getElem_cons hlt]
  have : l[off + i] = v := by rw [List.getElem?_eq_getElem hlt] at h2; simpa using h2
  simp [this, Nat.add_assoc]
theorem zkA {t : TypeId} {sd : TypeDesc} {off : Nat} {v : Value} (hu : P.underlying t = some sd) (hs : scDesc sd = true) (hc : w.cell? ⟨b, off, none⟩ = some v) : (loadVar t ⟨b, off, none⟩).run P w = .ok v w := by
 simp [loadVar, isAgg_sc w hu hs, hc]
theorem zkB {t : TypeId} {sd : TypeDesc} {off k : Nat} {vs : List Value} (hu : P.underlying t = some sd) (hs : scDesc sd = false) (hk : sizeP P t = some k) (hc : ∀ j, w.cell? ⟨b, j, none⟩ = l[j]?)
  (hv : (l.drop off).take k = vs) (hl : vs.length = k) : (loadVar t ⟨b, off, none⟩).run P w = .ok (.agg vs.toArray) w := by
 have h1 : ∀ j, j < k -> off + j < l.length := by
  intro j hj
  have := congrArg List.length hv
  simp only [List.length_take, List.length_drop] at this
  rw [hl] at this
  have h2 : k <= l.length - off := by
   have := Nat.min_le_right k (l.length - off)
   omega
  omega
 simp only [loadVar, Sem.run_bind, isAgg_ag w hu hs, Result.andThen_ok, if_true, zqg w hk, loadCells]
 rw [loadCells_run (l := l) k 0 #[] (λ j hj => ⟨l[off + (0 + j)]'(by have := h1 j hj; omega), by rw [hc]; simp, by simp⟩)]
 simp [hv]
end
section
variable {P : Program} {ro : Option Nat} {n : Nat} {ops : Array Oper} {r : List Oper} {ds : List Deferred} {L : Lo} {H H' : List SP} {K : Kont}
 {T T' : TypeId} {p : String} {es : Array Edge} {g : Option (Nat × Bool)} {d b off : Nat} {l : List Value} {ty : TypeId} {fr : Nat × Nat} {sd : TypeDesc} {x y : Operand} {v : Value}
theorem q_load (hu : P.underlying T' = some sd) (hs : scDesc sd = true) (hx : evalL L x = some (.pointer (some ⟨b, off, none⟩))) (pk : Pick H (blk b l ty fr) H') (hv : l[off]? = some v)
  (hw : wants ops L ⟨some d, .load T' x, T, p, es, g⟩ = some true) (ht : Nat.blt d n = true) : QStep P n ops ⟨some d, .load T' x, T, p, es, g⟩ ds L H v :=
 qmk hw ht (by simp) λ Γ F a w he hh => ⟨w, by
  simp only [execOp, he.eval hx, Instr.loadAt, Instr.sureAddr, Sem.run_bind, Sem.run_pure, Result.andThen_ok]
  rw [zkA hu hs ((hh.cell pk off).trans hv)]; rfl, hh⟩
theorem zjI {k : Nat} {vs : List Value} (hu : P.underlying T' = some sd) (hs : scDesc sd = false) (hk : sizeP P T' = some k) (hx : evalL L x = some (.pointer (some ⟨b, off, none⟩))) (pk : Pick H (blk b l ty fr) H') (hv : (l.drop off).take k = vs) (hl : vs.length = k)
  (hw : wants ops L ⟨some d, .load T' x, T, p, es, g⟩ = some true) (ht : Nat.blt d n = true) : QStep P n ops ⟨some d, .load T' x, T, p, es, g⟩ ds L H (.agg vs.toArray) :=
 qmk hw ht (by simp) λ Γ F a w he hh => ⟨w, by
  simp only [execOp, he.eval hx, Instr.loadAt, Instr.sureAddr, Sem.run_bind, Sem.run_pure, Result.andThen_ok]
  rw [zkB hu hs hk (λ j => hh.cell pk j) hv hl]; rfl, hh⟩
theorem zxY {s : TypeId} {f k : Nat} (hf : zkh P s f = some k) (hx : evalL L x = some (.pointer (some ⟨b, off, none⟩)))
  (hw : wants ops L ⟨some d, .fieldAddr s x f, T, p, es, g⟩ = some true) (ht : Nat.blt d n = true) : QStep P n ops ⟨some d, .fieldAddr s x f, T, p, es, g⟩ ds L H (.pointer (some ⟨b, off + k, none⟩)) :=
 qpure hw ht (by simp) λ a w he => by
  unfold zkh at hf
  split at hf
  ·rename_i fs hu
   split at hf
   ·rename_i fl hfl
    split at hf
    ·rename_i j hsz
     cases hf
     simp [execOp, he.eval hx, Instr.fieldAt, underlying, hu, hfl, Instr.sureAddr, fieldPlace, zqg w hsz, zqF]
    ·cases hf
   ·cases hf
  ·cases hf
theorem q_len_str {s : ByteArray} {ts : Array TypeId} {t0 : TypeId} (h0 : ts[0]? = some t0) (hu : P.underlying t0 = some .string) (hx : evalL L x = some (.string s))
  (hw : wants ops L ⟨some d, .call { callee := .builtin .len, args := #[x], argTypes := ts }, T, p, es, g⟩ = some true) (ht : Nat.blt d n = true) :
  QStep P n ops ⟨some d, .call { callee := .builtin .len, args := #[x], argTypes := ts }, T, p, es, g⟩ ds L H (.int .i64 s.size) :=
 qpure hw ht (by simp) λ a w he => by
  simp [execOp, resolve, invoke, builtin, Builtin.len_, h0, underlying, hu, he.eval hx, goInt]
theorem zxX {A : Option Addr} {m c : Nat} {ts : Array TypeId} {t0 e : TypeId} (h0 : ts[0]? = some t0) (hu : P.underlying t0 = some (.slice e)) (hx : evalL L x = some (.slice A m c))
  (hw : wants ops L ⟨some d, .call { callee := .builtin .len, args := #[x], argTypes := ts }, T, p, es, g⟩ = some true) (ht : Nat.blt d n = true) :
  QStep P n ops ⟨some d, .call { callee := .builtin .len, args := #[x], argTypes := ts }, T, p, es, g⟩ ds L H (.int .i64 m) :=
 qpure hw ht (by simp) λ a w he => by
  simp [execOp, resolve, invoke, builtin, Builtin.len_, h0, underlying, hu, he.eval hx, goInt]
theorem q_index_str {s : ByteArray} {i : Int} {k : IntKind} {c : UInt8} (hu : P.underlying T' = some .string) (hx : evalL L x = some (.string s)) (hy : evalL L y = some (.int k i)) (h0 : 0 <= i) (hc : s[i.toNat]? = some c)
  (hw : wants ops L ⟨some d, .index T' x y, T, p, es, g⟩ = some true) (ht : Nat.blt d n = true) : QStep P n ops ⟨some d, .index T' x y, T, p, es, g⟩ ds L H (.int .u8 c.toNat) :=
 qpure hw ht (by simp) λ a w he => by
  simp [execOp, Instr.index, he.eval hx, he.eval hy, asIntOf, underlying, hu, h0, hc]
theorem zxn {m c k : Nat} {i : Int} {kk : IntKind} {e : TypeId} (hu : P.underlying T' = some (.slice e)) (hk : sizeP P e = some k) (hx : evalL L x = some (.slice (some ⟨b, off, none⟩) m c)) (hy : evalL L y = some (.int kk i)) (h0 : 0 <= i) (h1 : i < m)
  (hw : wants ops L ⟨some d, .indexAddr T' x y, T, p, es, g⟩ = some true) (ht : Nat.blt d n = true) : QStep P n ops ⟨some d, .indexAddr T' x y, T, p, es, g⟩ ds L H (.pointer (some ⟨b, off + i.toNat * k, none⟩)) :=
 qpure hw ht (by simp) λ a w he => by
  simp [execOp, Instr.indexAt, he.eval hx, he.eval hy, asIntOf, underlying, hu, h0, h1, zqg w hk, zqF]
theorem zjD {m k : Nat} {i : Int} {kk : IntKind} {e : TypeId} (hu : P.underlying T' = some (.array m e)) (hk : sizeP P e = some k) (hx : evalL L x = some (.pointer (some ⟨b, off, none⟩))) (hy : evalL L y = some (.int kk i)) (h0 : 0 <= i) (h1 : i < m)
  (hw : wants ops L ⟨some d, .indexAddr T' x y, T, p, es, g⟩ = some true) (ht : Nat.blt d n = true) : QStep P n ops ⟨some d, .indexAddr T' x y, T, p, es, g⟩ ds L H (.pointer (some ⟨b, off + i.toNat * k, none⟩)) :=
 qpure hw ht (by simp) λ a w he => by
  simp [execOp, Instr.indexAt, he.eval hx, he.eval hy, asIntOf, underlying, hu, h0, h1, zqg w hk, zqF, Instr.sureAddr]
theorem Ops.alloc {z : Value} (hz : zeroP P T' = some z) (hw : wants ops L ⟨some d, .alloc T', T, p, es, g⟩ = some true) (ht : Nat.blt d n = true)
  (k : ∀ b, Ops P ro n ops r ds ((d, .pointer (some ⟨b, 0, none⟩)) :: L) (blk b z.cells.toList T' :: H) K) : Ops P ro n ops (⟨some d, .alloc T', T, p, es, g⟩ :: r) ds L H K :=
 Ops.val hw (by simp) ht λ Γ F a w he hh => ⟨.pointer (some ⟨w.heap.size, 0, none⟩), { w with heap := w.heap.push (.cells z.cells T') }, pt w.heap.size (.cells z.cells T') :: H, by
  simp only [execOp, Instr.alloc, Sem.run_bind, zql w hz, Result.andThen_ok, newVar, newRow, run_newObj, Sem.run_pure], hh.newb _, by
  have := k w.heap.size; simp only [blk, Array.toArray_toList] at this; exact this⟩
theorem Ops.box (hx : evalL L x = some v) (hw : wants ops L ⟨some d, .box T' x, T, p, es, g⟩ = some true) (ht : Nat.blt d n = true)
  (k : ∀ b, Ops P ro n ops r ds ((d, .pointer (some ⟨b, 0, none⟩)) :: L) (blk b v.cells.toList T' :: H) K) : Ops P ro n ops (⟨some d, .box T' x, T, p, es, g⟩ :: r) ds L H K :=
 Ops.val hw (by simp) ht λ Γ F a w he hh => ⟨.pointer (some ⟨w.heap.size, 0, none⟩), { w with heap := w.heap.push (.cells v.cells T') }, pt w.heap.size (.cells v.cells T') :: H, by
  simp only [execOp, Instr.box, he.eval hx, Sem.run_bind, Result.andThen_ok, newVar, newRow, run_newObj, Sem.run_pure], hh.newb _, by
  have := k w.heap.size; simp only [blk, Array.toArray_toList] at this; exact this⟩
end
def putAt (l : List Value) (off : Nat) (vs : List Value) : List Value := l.take off ++ vs ++ l.drop (off + vs.length)
theorem putAt_one {l : List Value} {off : Nat} {v : Value} (h : off < l.length) : putAt l off [v] = l.set off v := by
 simp [putAt, List.set_eq_take_append_cons_drop, h]
def scal : List Value -> Bool := λ l => l.all (·.oneCell')
section
variable {P : Program} {Γ w : World} {F : SP} {H H' : List SP} {b : Nat} {l : List Value} {ty : TypeId} {fr : Nat × Nat}
theorem Hold.setCell (hh : Hold Γ H F w) (pk : Pick H (blk b l ty fr) H') (off : Nat) (v : Value) : Hold Γ (blk b (l.set off v) ty fr :: H') F (w.setCell ⟨b, off, none⟩ v) := by
 have hb := hh.block pk
 refine hh.turn pk rfl rfl rfl ?_ λ i hi => ?_
 ·have hlt : b < w.heap.size := (Array.getElem?_eq_some_iff.1 hb).1
  simp only [World.setCell, Array.getElem?_modify, hb]
  simp
 ·simp only [World.setCell, Array.getElem?_modify]
  rw [if_neg (λ h => hi h.symm)]
theorem zqM {off : Nat} : ∀ (vs : List Value) (i : Nat) (l : List Value) (w : World) (H : List SP), Hold Γ H F w -> Pick H (blk b l ty fr) H' -> scal vs = true -> off + i + vs.length <= l.length ->
  (∀ j, j < vs.length -> (fr.1 <= off + i + j && off + i + j < fr.2 : Bool) = false) ->
  ∃ w', (storeCells ⟨b, off, none⟩ vs i).run P w = .ok () w' /\ Hold Γ (blk b (putAt l (off + i) vs) ty fr :: H') F w' := by
 intro vs
 induction vs with
 | nil =>
  intro i l w H hh pk _ hl _
  refine ⟨w, rfl, hh.weaken λ x hx => ?_⟩
  have : putAt l (off + i) [] = l := by simp [putAt]
  rw [this]
  exact pk x hx
 | cons v vs ih =>
  intro i l w H hh pk hs hl hf
  simp only [scal, List.all_cons, Bool.and_eq_true] at hs
  have hlt : off + i < l.length := by simp at hl; omega
  have hc : w.cell? ⟨b, off + i, none⟩ = some (l[off + i]) := by rw [hh.cell pk]; simp [hlt]
  have hfz : w.frozen? ⟨b, off + i, none⟩ = false := by rw [hh.frz pk]; exact hf 0 (by simp)
  have h1 := hh.setCell pk (off + i) v
  obtain ⟨w', e, h2⟩ := ih (i + 1) (l.set (off + i) v) _ _ h1 Pick.head hs.2 (by simp at hl ⊢; omega) (λ j hj => by
   have := hf (j + 1) (by simp; omega)
   rwa [show off + (i + 1) + j = off + i + (j + 1) by omega])
  refine ⟨w', ?_, ?_⟩
  ·simp only [storeCells, zqF, Sem.run_bind, run_store P w _ v .plain hs.1, hc, hfz, Bool.false_eq_true, if_false, Result.andThen_ok, e]
  ·have : putAt (l.set (off + i) v) (off + (i + 1)) vs = putAt l (off + i) (v :: vs) := by
    unfold putAt
    apply List.ext_getElem?
    intro j
    simp only [List.getElem?_append, List.length_append, List.length_take, List.length_set, List.length_cons, List.getElem?_take, List.getElem?_drop, List.getElem?_set]
    have : min (off + (i + 1)) l.length = off + i + 1 := by simp at hl; omega
    have h3 : min (off + i) l.length = off + i := by omega
    simp only [this, h3]
    rcases Nat.lt_trichotomy j (off + i) with h | h | h
    ·simp [show j < off + i + 1 + vs.length by omega, show j < off + i + 1 by omega, show j < off + (i + 1) by omega, show ¬ off + i = j by omega, show j < off + i + (vs.length + 1) by omega, h]
    ·subst h
     simp [show off + i < off + i + 1 + vs.length by omega, show off + i < off + (i + 1) by omega, hlt]
    ·by_cases h4 : j < off + i + 1 + vs.length
     ·simp [h4, show ¬ j < off + i + 1 by omega, show ¬ j < off + i by omega, show j < off + i + (vs.length + 1) by omega]
      rw [show j - (off + i) = (j - (off + i + 1)) + 1 by omega]
      simp
     ·simp [h4, show ¬ j < off + i by omega, show ¬ j < off + i + (vs.length + 1) by omega]
      have h5 : ¬ off + i = off + (i + 1) + vs.length + (j - (off + i + 1 + vs.length)) := by omega
      simp [h5]
      congr 1
      omega
   rwa [this] at h2
end
section
variable {P : Program} {ro : Option Nat} {n : Nat} {ops : Array Oper} {r : List Oper} {ds : List Deferred} {L : Lo} {H H' : List SP} {K : Kont}
 {T T' : TypeId} {p : String} {es : Array Edge} {g : Option (Nat × Bool)} {d b off : Nat} {l : List Value} {ty : TypeId} {fr : Nat × Nat} {sd : TypeDesc} {x y : Operand} {v : Value}
theorem Ops.storev {k : Nat} (hk : sizeP P T' = some k) (hx : evalL L x = some (.pointer (some ⟨b, off, none⟩))) (hy : evalL L y = some v) (hsz : v.cells.size = k) (hs : scal v.cells.toList = true)
  (pk : Pick H (blk b l ty fr) H') (hl : off + k <= l.length) (hf : ∀ j, j < k -> (fr.1 <= off + j && off + j < fr.2 : Bool) = false)
  (hw : wants ops L ⟨none, .store T' x y, T, p, es, g⟩ = some true)
  (kk : Ops P ro n ops r ds L (blk b (putAt l off v.cells.toList) ty fr :: H') K) : Ops P ro n ops (⟨none, .store T' x y, T, p, es, g⟩ :: r) ds L H K :=
 Ops.skp hw (by simp) rfl λ Γ F a w he hh => by
  obtain ⟨w', e, h'⟩ := zqM (P := P) (off := off) v.cells.toList 0 l w H hh pk hs (by simp; omega) (by simpa [hsz] using hf)
  refine ⟨w', _, ?_, h', by simpa [putL] using kk⟩
  simp only [execOp, he.eval hx, he.eval hy, Instr.storeAt, Instr.sureAddr, storeVar, Sem.run_bind, Sem.run_pure, Result.andThen_ok, zqg w hk]
  simp [hsz, e]
theorem Ops.store (hk : sizeP P T' = some 1) (hx : evalL L x = some (.pointer (some ⟨b, off, none⟩))) (hy : evalL L y = some v) (hs : v.oneCell' = true)
  (pk : Pick H (blk b l ty fr) H') (hl : Nat.blt off l.length = true) (hf : (fr.1 <= off && off < fr.2 : Bool) = false)
  (hw : wants ops L ⟨none, .store T' x y, T, p, es, g⟩ = some true)
  (kk : Ops P ro n ops r ds L (blk b (l.set off v) ty fr :: H') K) : Ops P ro n ops (⟨none, .store T' x y, T, p, es, g⟩ :: r) ds L H K := by
 have hlt : off < l.length := by simpa [Nat.blt_eq] using hl
 have hv : v.cells = #[v] := by cases v <;> simp_all [Value.cells, Value.oneCell']
 refine Ops.storev hk hx hy (by rw [hv]; rfl) (by rw [hv]; simpa [scal] using hs) pk (by omega) (λ j hj => ?_) hw ?_
 ·have : j = 0 := by omega
  subst this; simpa using hf
 ·rw [hv]
  have := putAt_one (v := v) hlt
  simpa [this] using kk
end
end Go.Z
namespace Go.Z
theorem Split.all {H : List SP} : Split H H [] := λ h x => by simpa using x
section
variable {P : Program} {ro : Option Nat} {n : Nat} {ops : Array Oper} {r : List Oper} {ds : List Deferred} {L : Lo} {H H' : List SP} {K : Kont}
 {T T' : TypeId} {p : String} {es : Array Edge} {g : Option (Nat × Bool)} {d b off : Nat} {l : List Value} {ty : TypeId} {fr : Nat × Nat} {sd : TypeDesc} {x y z : Operand} {v : Value}
theorem Go.keep {c : Code} {L' : Lo} (s : Sub L L') (k : Go P ro n c ds L' H K) : Go P ro n c ds L H K := k.sub s
theorem Go.back {α : Type} {φ : α -> Prop} {μ : α -> Nat} {ds' : List Deferred} {x : α} {L' : Lo} {Lx : α -> Lo} {Lc : Lo} {Hx : α -> List SP} {Hc : List SP} (x' : α) (h : φ x') (hm : μ x' < μ x) (s : Sub L' (Lx x' ++ Lc)) (w : ∀ h, sep H' h -> sep (Hx x' ++ Hc) h) :
  ∃ x', φ x' /\ μ x' < μ x /\ ds = ds /\ Sub L' (Lx x' ++ Lc) /\ ∀ h, sep H' h -> sep (Hx x' ++ Hc) h := ⟨x', h, hm, rfl, s, w⟩
theorem i64_in {m : Int} (h : -9223372036854775808 <= m /\ m <= 9223372036854775807) : inK .i64 m := h
variable {X Y : TypeId} {k k' : IntKind} {a b' : Int}
theorem q_max {ts : Array TypeId} (hx : evalL L x = some (.int k a)) (hy : evalL L y = some (.int k b')) (hw : wants ops L ⟨some d, .call { callee := .builtin .max, args := #[x, y], argTypes := ts }, T, p, es, g⟩ = some true) (ht : Nat.blt d n = true) :
  QStep P n ops ⟨some d, .call { callee := .builtin .max, args := #[x, y], argTypes := ts }, T, p, es, g⟩ ds L H (.int k (max a b')) :=
 qpure hw ht (by simp) λ A w he => by
  have e : max a b' = if b' > a then b' else a := by omega
  simp [execOp, resolve, invoke, builtin, Builtin.max_, Builtin.max2, he.eval hx, he.eval hy, e, List.foldlM]
theorem q_min {ts : Array TypeId} (hx : evalL L x = some (.int k a)) (hy : evalL L y = some (.int k b')) (hw : wants ops L ⟨some d, .call { callee := .builtin .min, args := #[x, y], argTypes := ts }, T, p, es, g⟩ = some true) (ht : Nat.blt d n = true) :
  QStep P n ops ⟨some d, .call { callee := .builtin .min, args := #[x, y], argTypes := ts }, T, p, es, g⟩ ds L H (.int k (min a b')) :=
 qpure hw ht (by simp) λ A w he => by
  have e : min a b' = if b' < a then b' else a := by omega
  simp [execOp, resolve, invoke, builtin, Builtin.min_, Builtin.min2, he.eval hx, he.eval hy, e, List.foldlM]
end
section
variable {P : Program} {ro : Option Nat} {n : Nat} {ops : Array Oper} {r : List Oper} {ds : List Deferred} {L : Lo} {H H' : List SP} {K : Kont}
 {T T' : TypeId} {p : String} {es : Array Edge} {g : Option (Nat × Bool)} {d b off : Nat} {x y z : Operand} {v : Value} {X Y : TypeId} {s t : ByteArray}
abbrev bs (l : List UInt8) : ByteArray := ⟨l.toArray⟩
theorem zko (l : List UInt8) : (bs l).toList = l := Go.ByteArray.toList_mk l
theorem beq_dec {lx ly : List UInt8} : (lx == ly) = decide (lx = ly) := by rw [Bool.eq_iff_iff]; simp
theorem bs_data (s : ByteArray) : bs s.data.toList = s := by cases s; rfl
theorem zxb (l : List UInt8) : (bs l).size = l.length := by simp [ByteArray.size]
theorem bs_append (l m : List UInt8) : bs l ++ bs m = bs (l ++ m) := by
 apply ByteArray.ext; simp [bs]
theorem bs_get (l : List UInt8) (i : Nat) : (bs l)[i]? = l[i]? := by
 by_cases h : i < l.length
 ·have h' : i < (bs l).size := by rw [zxb]; exact h
  rw [getElem?_pos (bs l) i h', List.getElem?_eq_getElem h]
  simp only [bs, ByteArray.getElem_eq_getElem_data, List.getElem_toArray]
 ·have h' : ¬ i < (bs l).size := by rw [zxb]; exact h
  rw [getElem?_neg (bs l) i h', List.getElem?_eq_none (Nat.le_of_not_lt h)]
theorem zxv (l : List UInt8) (i j : Nat) : (bs l).extract i j = bs ((l.take j).drop i) := by
 apply ByteArray.ext
 simp [bs, ByteArray.data_extract, List.extract_toArray, List.extract_eq_take_drop, List.drop_take]
variable {lx ly : List UInt8} {i j : Int} {k k' : IntKind}
theorem q_len_s {ts : Array TypeId} {t0 : TypeId} (h0 : ts[0]? = some t0) (hu : P.underlying t0 = some .string) (hx : evalL L x = some (.string (bs lx)))
  (hw : wants ops L ⟨some d, .call { callee := .builtin .len, args := #[x], argTypes := ts }, T, p, es, g⟩ = some true) (ht : Nat.blt d n = true) :
  QStep P n ops ⟨some d, .call { callee := .builtin .len, args := #[x], argTypes := ts }, T, p, es, g⟩ ds L H (.int .i64 lx.length) := by
 have := q_len_str (P := P) (H := H) (T := T) (p := p) (es := es) (g := g) (ds := ds) h0 hu hx hw ht
 rwa [zxb] at this
theorem q_index_s {c : UInt8} (hu : P.underlying T' = some .string) (hx : evalL L x = some (.string (bs lx))) (hy : evalL L y = some (.int k i)) (h0 : 0 <= i) (hc : lx[i.toNat]? = some c)
  (hw : wants ops L ⟨some d, .index T' x y, T, p, es, g⟩ = some true) (ht : Nat.blt d n = true) : QStep P n ops ⟨some d, .index T' x y, T, p, es, g⟩ ds L H (.int .u8 c.toNat) :=
 q_index_str hu hx hy h0 (by rw [bs_get]; exact hc) hw ht
theorem zjC {lo hi : Operand} (hu : P.underlying T' = some .string) (hx : evalL L x = some (.string (bs lx))) (hl : evalL L lo = some (.int k i)) (hh : evalL L hi = some (.int k' j)) (h0 : 0 <= i) (h1 : i <= j) (h2 : j <= lx.length)
  (hw : wants ops L ⟨some d, .slice T' x (some lo) (some hi) none, T, p, es, g⟩ = some true) (ht : Nat.blt d n = true) : QStep P n ops ⟨some d, .slice T' x (some lo) (some hi) none, T, p, es, g⟩ ds L H (.string (bs ((lx.take j.toNat).drop i.toNat))) :=
 qpure hw ht (by simp) λ a w he => by
  have hs := zxb lx
  have h3 : 0 <= j /\ j <= ((bs lx).size : Int) := by rw [hs]; omega
  have h4 : 0 <= i /\ i <= ((j.toNat : Nat) : Int) := by omega
  simp only [execOp, Option.map_some, Option.map_none, Instr.sliceAt, he.eval hx, he.eval hl, he.eval hh, Sem.run_bind, underlying, run_program, Result.andThen_ok, hu, Sem.run_pure, Instr.slice, Option.isSome_none, Bool.false_eq_true, if_false, Instr.sliceBounds, Instr.sliceBound, asIntOf]
  simp only [Sem.run_ite, Sem.run_pure, h3, h4, and_self, if_true, Result.andThen_ok, zxv]
theorem zjX {lo : Operand} (hu : P.underlying T' = some .string) (hx : evalL L x = some (.string (bs lx))) (hl : evalL L lo = some (.int k i)) (h0 : 0 <= i) (h1 : i <= lx.length)
  (hw : wants ops L ⟨some d, .slice T' x (some lo) none none, T, p, es, g⟩ = some true) (ht : Nat.blt d n = true) : QStep P n ops ⟨some d, .slice T' x (some lo) none none, T, p, es, g⟩ ds L H (.string (bs (lx.drop i.toNat))) :=
 qpure hw ht (by simp) λ a w he => by
  have hs := zxb lx
  have h4 : 0 <= i /\ i <= ((bs lx).size : Int) := by rw [hs]; omega
  have e : (lx.take (bs lx).size).drop i.toNat = lx.drop i.toNat := by rw [hs, List.take_length]
  simp only [execOp, Option.map_some, Option.map_none, Instr.sliceAt, he.eval hx, he.eval hl, Sem.run_bind, underlying, run_program, Result.andThen_ok, hu, Sem.run_pure, Instr.slice, Option.isSome_none, Bool.false_eq_true, if_false, Instr.sliceBounds, Instr.sliceBound, asIntOf]
  simp only [Sem.run_pure, h4, and_self, if_true, Result.andThen_ok, zxv, e]
theorem zjY {hi : Operand} (hu : P.underlying T' = some .string) (hx : evalL L x = some (.string (bs lx))) (hh : evalL L hi = some (.int k j)) (h0 : 0 <= j) (h1 : j <= lx.length)
  (hw : wants ops L ⟨some d, .slice T' x none (some hi) none, T, p, es, g⟩ = some true) (ht : Nat.blt d n = true) : QStep P n ops ⟨some d, .slice T' x none (some hi) none, T, p, es, g⟩ ds L H (.string (bs (lx.take j.toNat))) :=
 qpure hw ht (by simp) λ a w he => by
  have hs := zxb lx
  have h3 : 0 <= j /\ j <= ((bs lx).size : Int) := by rw [hs]; omega
  simp only [execOp, Option.map_some, Option.map_none, Instr.sliceAt, he.eval hx, he.eval hh, Sem.run_bind, underlying, run_program, Result.andThen_ok, hu, Sem.run_pure, Instr.slice, Option.isSome_none, Bool.false_eq_true, if_false, Instr.sliceBounds, Instr.sliceBound, asIntOf]
  simp only [Sem.run_pure, h3, and_self, if_true, Result.andThen_ok, zxv, List.drop_zero]
end
def zqK (P : Program) (f : FuncId) : Prop := ∃ fn, P.funcs[f]? = some fn /\ fn.body.isNone = false /\ (fn.name == "runtime.NumGoroutine") = false
section
variable {P : Program} {ro : Option Nat} {n : Nat} {ops : Array Oper} {r : List Oper} {ds : List Deferred} {L : Lo} {H : List SP} {K : Kont}
end
end Go.Z
namespace Go.Z
section
variable {P : Program} {ro : Option Nat} {n : Nat} {ops : Array Oper} {r : List Oper} {ds : List Deferred} {L : Lo} {H H' : List SP} {K : Kont}
 {T T' : TypeId} {p : String} {es : Array Edge} {g : Option (Nat × Bool)} {d b off : Nat} {x y z : Operand} {v : Value} {X Y : TypeId} {k k' : IntKind} {a b' m : Int}
theorem q_indexAddr_ar1 {m : Nat} {i : Int} {kk : IntKind} {e : TypeId} (hu : P.underlying T' = some (.array m e)) (hk : sizeP P e = some 1) (hx : evalL L x = some (.pointer (some ⟨b, off, none⟩))) (hy : evalL L y = some (.int kk i)) (h0 : 0 <= i) (h1 : i < m)
  (hw : wants ops L ⟨some d, .indexAddr T' x y, T, p, es, g⟩ = some true) (ht : Nat.blt d n = true) : QStep P n ops ⟨some d, .indexAddr T' x y, T, p, es, g⟩ ds L H (.pointer (some ⟨b, off + i.toNat, none⟩)) := by
 have := zjD (P := P) (H := H) (T := T) (p := p) (es := es) (g := g) (ds := ds) hu hk hx hy h0 h1 hw ht
 rwa [Nat.mul_one] at this
end
end Go.Z
namespace Go.Z
def FrOk (fr : Nat × Nat) (N : Nat) : Prop := fr.1 <= fr.2 /\ ∀ j, j < N -> (fr.1 <= j && j < fr.2 : Bool) = false
theorem FrOk.zero {N : Nat} : FrOk (0, 0) N := ⟨Nat.le_refl _, λ j _ => by simp⟩
def Own (e sz : Nat) (A : Option Addr) (m c : Nat) (cells : List Value) : SP := λ h =>
 (A = none /\ m = 0 /\ c = 0 /\ cells = [] /\ h = Hp.nil) \/
 ∃ b junk fr, A = some ⟨b, 0, none⟩ /\ cells.length = m * sz /\ (cells ++ junk).length = c * sz /\ m <= c /\ FrOk fr (c * sz) /\ blk b (cells ++ junk) e fr h
def RdA (C : SP) (A : Option Addr) (cells : List Value) : Prop :=
 ∀ h, C h -> cells = [] \/ ∃ b off l ty fr, A = some ⟨b, off, none⟩ /\ h b = some (.cells (List.toArray l) ty fr) /\ (l.drop off).take cells.length = cells
theorem RdA.nil {C : SP} {A : Option Addr} : RdA C A [] := λ _ _ => .inl rfl
theorem RdA.blk {b off : Nat} {l : List Value} {ty : TypeId} {fr : Nat × Nat} {cells : List Value} (h : (l.drop off).take cells.length = cells) : RdA (blk b l ty fr) (some ⟨b, off, none⟩) cells :=
 λ hp e => .inr ⟨b, off, l, ty, fr, rfl, by rw [show hp = _ from e]; simp, h⟩
theorem RdA.own {e' sz m c : Nat} {A : Option Addr} {cells : List Value} : RdA (Own e' sz A m c cells) A cells := by
 rintro h (⟨_, _, _, hc, _⟩ | ⟨b, junk, fr, rfl, _, _, _, _, e⟩)
 ·exact .inl hc
 ·exact .inr ⟨b, 0, cells ++ junk, e', fr, rfl, by rw [show h = _ from e]; simp, by simp⟩
section
variable {P : Program} {Γ w : World} {F : SP} {H H' : List SP} {C : SP} {A : Option Addr} {cells : List Value}
theorem Hold.chunk (hh : Hold Γ H F w) (pk : Pick H C H') : ∃ h1, C h1 /\ ∀ i o, h1 i = some o -> w.heap[i]? = some o := by
 obtain ⟨h1, h2, d, e, a, _⟩ := hh.pick pk
 refine ⟨h1, a, λ i o hi => ?_⟩
 have := congrFun e i
 simp only [hp, Hp.un, hi] at this
 simpa using this
theorem Hold.drop (hh : Hold Γ H F w) (pk : Pick H C H') : Hold Γ H' F w := hh.weaken λ x hx => by
 obtain ⟨h1, h2, d, rfl, _, h⟩ := pk x hx
 exact sep_up H' d h
theorem Hold.rd (hh : Hold Γ H F w) (pk : Pick H C H') (hR : RdA C A cells) (hne : cells ≠ []) : ∃ b off, A = some ⟨b, off, none⟩ /\ ∀ j, j < cells.length -> w.cell? ⟨b, off + j, none⟩ = cells[j]? := by
 obtain ⟨h1, hc, hi⟩ := hh.chunk pk
 rcases hR h1 hc with h | ⟨b, off, l, ty, fr, e, hb, hl⟩
 ·exact absurd h hne
 ·refine ⟨b, off, e, λ j hj => ?_⟩
  have := hi b _ hb
  simp only [World.cell?, this]
  rw [<- hl]
  have h3 : j < (List.take cells.length (List.drop off l)).length := by rw [hl]; exact hj
  simp at h3
  simp [List.getElem?_take, hj]
theorem zkQ {b off : Nat} : ∀ (cells : List Value) (i : Nat) (acc : Array Value), (∀ j, j < cells.length -> w.cell? ⟨b, off + (i + j), none⟩ = cells[j]?) ->
  (loadCellsFrom ⟨b, off, none⟩ i cells.length acc).run P w = .ok (acc ++ cells.toArray) w := by
 intro cells
 induction cells with
 | nil => intro i acc _; simp [loadCellsFrom]
 | cons v cells ih =>
  intro i acc h
  have h0 := h 0 (by simp)
  simp only [Nat.add_zero, List.getElem?_cons_zero] at h0
  simp only [List.length_cons, loadCellsFrom, zqF, Sem.run_bind, run_load, h0, Result.andThen_ok]
  rw [ih (i + 1) (acc.push v) (λ j hj => by
   have := h (j + 1) (by simp; omega)
   rw [List.getElem?_cons_succ] at this
   rw [show i + 1 + j = i + (j + 1) by omega]; exact this)]
  simp
theorem zqW {sz k kc : Nat} (hh : Hold Γ H F w) (pk : Pick H C H') (hR : RdA C A cells) (hl : cells.length = k * sz) : (Builtin.firstCells sz k (.slice A k kc)).run P w = .ok cells.toArray w := by
 cases A with
 | none =>
  have : cells = [] := by
   cases hc : cells with
   | nil => rfl
   | cons v l => obtain ⟨b, off, e, _⟩ := hh.rd pk hR (by simp [hc]); cases e
  simp [Builtin.firstCells, this]
 | some a =>
  by_cases hc : cells = []
  ·subst hc
   simp only [Builtin.firstCells, <- hl]
   rfl
  ·obtain ⟨b, off, e, hcell⟩ := hh.rd pk hR hc
   cases e
   simp only [Builtin.firstCells, <- hl, loadCells]
   rw [zkQ cells 0 #[] (λ j hj => by simpa using hcell j hj)]
   simp
theorem zjE {e sz m c : Nat} (hh : Hold Γ H F w) (pk : Pick H (Own e sz A m c cells) H') : (Builtin.firstCells sz m (.slice A m c)).run P w = .ok cells.toArray w := by
 obtain ⟨h1, hc, _⟩ := hh.chunk pk
 have hl : cells.length = m * sz := by
  rcases hc with ⟨_, rfl, _, rfl, _⟩ | ⟨b, junk, fr, _, h, _⟩
  ·simp
  ·exact h
 exact zqW hh pk .own hl
end
theorem putAt_mid {a b c : List Value} {off : Nat} (h : off = a.length) : putAt (a ++ c) off b = a ++ b ++ c.drop b.length := by
 subst h
 simp [putAt, List.drop_append]
section
variable {P : Program} {Γ w : World} {F : SP} {H H' : List SP} {A : Option Addr} {cells : List Value}
theorem append_run {t xt T e sz by_ m c k : Nat} {x z : Value} {new : List Value} {xd : TypeDesc} (hu : P.underlying t = some (.slice e)) (hxt : P.underlying xt = some xd) (hxd : xd = .string \/ ∃ e', xd = .slice e')
  (hsz : sizeP P e = some sz) (hby : bytesP P e = some by_) (hz : zeroP P e = some z) (hzc : z.cells.size = sz)
  (hh : Hold Γ H F w) (pk : Pick H (Own e sz A m c cells) H') (hlen : ∀ w, (Builtin.lenOf x).run P w = .ok k w) (hsrc : ∀ w, Hold Γ H F w -> (Builtin.firstCells sz k x).run P w = .ok new.toArray w)
  (hnl : new.length = k * sz) (hs : scal new = true) (hb0 : 0 < by_) (hb : (m + k) * by_ <= 140737488355328) :
  ∃ A' c' w', (Builtin.append_ #[t, xt] T #[.slice A m c, x]).run P w = .ok (.slice A' (m + k) c') w' /\ Hold Γ (Own e sz A' (m + k) c' (cells ++ new) :: H') F w' := by
 obtain ⟨i, hi, hib⟩ : ∃ i, P.info? e = some i /\ i.bytes = by_ := by
  unfold bytesP at hby
  cases hi : P.info? e with
  | none => simp [hi] at hby
  | some i => exact ⟨i, rfl, by simpa [hi] using hby⟩
 have hbi : ∀ w, (typeInfo e).run P w = .ok i w := λ w => by simp [typeInfo, hi]
 have hcl : cells.length = m * sz /\ m <= c := by
  obtain ⟨h1, hc, _⟩ := hh.chunk pk
  rcases hc with ⟨_, rfl, rfl, rfl, _⟩ | ⟨b, junk, fr, _, h, _, h2, _⟩
  ·simp
  ·exact ⟨h, h2⟩
 -- what is left behind the looks at the types
 have start : ∀ (R : Result Value), ((Sem.run P (if m + k <= c then do
     let new <- Builtin.firstCells sz k x
     match A with
      | some a => do
       storeCells (a.add (m * sz)) new.toList
       pure (Value.slice A (m + k) c)
      | x => pure (Value.slice A (m + k) c)
    else do
     let newCap <- choose (Question.appendCap (m + k) c e)
     let old <- Builtin.firstCells sz m (Value.slice A m c)
     let new <- Builtin.firstCells sz k x
     let a <- newRow e (old ++ new ++ Builtin.zeroCells z.cells (newCap - (m + k)))
     pure (Value.slice (some a) (m + k) newCap)) w) = R) -> (Builtin.append_ #[t, xt] T #[.slice A m c, x]).run P w = R := by
  intro R hR
  rw [<- hR]
  by_cases hroom : m + k <= c
  ·rcases hxd with rfl | ⟨e', rfl⟩
   all_goals
    unfold Builtin.append_
    simp only [List.getElem?_toArray, List.getElem?_cons_zero, List.getElem?_cons_succ, Sem.run_bind, underlying, run_program, Result.andThen_ok, hu, Sem.run_pure, zqg w hsz, hxt, Bool.false_eq_true, if_false, Bool.not_false, if_true, hlen, if_pos hroom]
    cases A <;> rfl
  ·have hneed : c < m + k := by omega
   have hfits := growslice_fits (old := c) hneed hb
   have h1 : ¬ (((m + k : Nat) : Int) > IntKind.i64.max /\ (False \/ i.bytes = 0)) := by
    rintro ⟨_, h | h⟩
    ·exact h
    ·omega
   have h2 : ¬ (Builtin.nextslicecap (m + k) c * i.bytes > 2 ^ 48) := by rw [hib]; simp only [Nat.reducePow]; omega
   rcases hxd with rfl | ⟨e', rfl⟩
   all_goals
    unfold Builtin.append_
    simp only [List.getElem?_toArray, List.getElem?_cons_zero, List.getElem?_cons_succ, Sem.run_bind, underlying, run_program, Result.andThen_ok, hu, Sem.run_pure, zqg w hsz, hxt, Bool.false_eq_true, if_false, Bool.not_false, if_true, hlen, if_neg hroom, hbi, if_neg h1, if_neg h2, run_askRoom, zql _ hz]
 by_cases hroom : m + k <= c
 ·simp only [if_pos hroom] at start
  cases A with
  | none =>
   obtain ⟨h1, hc, _⟩ := hh.chunk pk
   rcases hc with ⟨_, rfl, rfl, rfl, _⟩ | ⟨b, junk, fr, hA, _⟩
   ·have hk : k = 0 := by omega
    subst hk
    have hn : new = [] := by simpa using hnl
    subst hn
    refine ⟨none, 0, w, start _ ?_, hh.weaken λ x hx => ?_⟩
    ·simp only [Sem.run_bind, hsrc w hh, Result.andThen_ok, Sem.run_pure]
    ·have := pk x hx
     simp only [List.append_nil]
     exact this
   ·cases hA
  | some a =>
   obtain ⟨h1, h2, d, eh, ho, hrest⟩ := hh.pick pk
   rcases ho with ⟨hA, _⟩ | ⟨b, junk, fr, hA, h3, h4, h5, h6, h7⟩
   ·cases hA
   ·cases hA
    have hmul := Nat.mul_le_mul_right sz hroom
    rw [Nat.add_mul] at hmul
    have hh2 : Hold Γ (blk b (cells ++ junk) e fr :: H') F w := ⟨hh.os, hh.tape, hh.output, by
     rw [eh]; exact zqk ⟨h1, h2, d, rfl, h7, hrest⟩⟩
    obtain ⟨w', e', hh'⟩ := zqM (P := P) (off := m * sz) new 0 (cells ++ junk) w _ hh2 Pick.head hs (by
     rw [h4]; omega) (λ j hj => h6.2 _ (by omega))
    refine ⟨some ⟨b, 0, none⟩, c, w', start _ ?_, hh'.weaken λ x hx => ?_⟩
    ·have ea : (⟨b, 0, none⟩ : Addr).add (m * sz) = ⟨b, m * sz, none⟩ := by rw [zqF]; simp
     simp only [Sem.run_bind, hsrc w hh, Result.andThen_ok, ea, List.toList_toArray, e', Sem.run_pure]
    ·refine zqd (λ y hy => ?_) (λ _ h => h) hx
     refine .inr ⟨b, junk.drop new.length, fr, rfl, by simp [h3, hnl, Nat.add_mul], ?_, hroom, h6, ?_⟩
     ·simp only [List.length_append, List.length_drop] at h4 ⊢
      omega
     ·have : putAt (cells ++ junk) (m * sz + 0) new = cells ++ new ++ junk.drop new.length := putAt_mid (by omega)
      rw [this] at hy
      exact hy
 ·simp only [if_neg hroom] at start
  have hfi : (Question.appendCap (m + k) c e).forced = false := rfl
  generalize hcap : (Question.appendCap (m + k) c e).cut (w.tape w.drawn (.appendCap (m + k) c e)) = cap at start
  have hcap1 : m + k <= cap := by rw [<- hcap]; simp [Question.cut]
  have hh1 : Hold Γ H F { w with drawn := w.drawn + 1 } := hh.drew _
  have hh2 := (hh1.drop pk).newb (.cells (cells ++ new ++ (Builtin.zeroCells z.cells (cap - (m + k))).toList).toArray e)
  refine ⟨some ⟨w.heap.size, 0, none⟩, cap, { w with drawn := w.drawn + 1, heap := w.heap.push (.cells (cells ++ new ++ (Builtin.zeroCells z.cells (cap - (m + k))).toList).toArray e) }, start _ ?_, hh2.weaken λ x hx => ?_⟩
  ·have e1 : cells.toArray ++ new.toArray ++ Builtin.zeroCells z.cells (cap - (m + k)) = (cells ++ new ++ (Builtin.zeroCells z.cells (cap - (m + k))).toList).toArray := by simp
   simp only [Sem.run_bind, run_choose, hfi, Bool.false_eq_true, if_false, hcap, Result.andThen_ok, zjE hh1 pk, hsrc _ hh1, newRow, run_newObj, Sem.run_pure, e1]
  ·refine zqd (λ y hy => ?_) (λ _ h => h) hx
   refine .inr ⟨w.heap.size, (Builtin.zeroCells z.cells (cap - (m + k))).toList, (0, 0), rfl, by simp [hcl.1, hnl, Nat.add_mul], ?_, hcap1, .zero, hy⟩
   have hzl : (Builtin.zeroCells z.cells (cap - (m + k))).toList.length = (cap - (m + k)) * sz := by simp [Builtin.zeroCells, hzc]
   simp only [List.length_append, hzl, hcl.1, hnl]
   rw [<- Nat.add_mul, <- Nat.add_mul]
   congr 1
   omega
variable {ro : Option Nat} {n : Nat} {ops : Array Oper} {r : List Oper} {ds : List Deferred} {L : Lo} {K : Kont} {C : SP} {H2 : List SP}
 {T T' t xt : TypeId} {p : String} {es : Array Edge} {g : Option (Nat × Bool)} {d e sz by_ : Nat} {x y : Operand} {v z : Value} {m c k kc : Nat}
theorem Ops.append {B : Option Addr} {new : List Value} (hu : P.underlying t = some (.slice e)) {e' : TypeId} (hxt : P.underlying xt = some (.slice e'))
  (hsz : sizeP P e = some sz) (hby : bytesP P e = some by_) (hz : zeroP P e = some z) (hzc : z.cells.size = sz) (hb0 : Nat.blt 0 by_ = true)
  (hx : evalL L x = some (.slice A m c)) (hy : evalL L y = some (.slice B k kc)) (pk : Pick H (Own e sz A m c cells) H') (pk2 : Pick H C H2) (hR : RdA C B new) (hnl : new.length = k * sz) (hs : scal new = true) (hb : (m + k) * by_ <= 140737488355328)
  (hw : wants ops L ⟨some d, .call { callee := .builtin .append, args := #[x, y], argTypes := #[t, xt] }, T, p, es, g⟩ = some true) (ht : Nat.blt d n = true)
  (kk : ∀ A' c', Ops P ro n ops r ds ((d, .slice A' (m + k) c') :: L) (Own e sz A' (m + k) c' (cells ++ new) :: H') K) :
  Ops P ro n ops (⟨some d, .call { callee := .builtin .append, args := #[x, y], argTypes := #[t, xt] }, T, p, es, g⟩ :: r) ds L H K :=
 Ops.val hw (by simp) ht λ Γ F a w he hh => by
  obtain ⟨A', c', w', e1, h'⟩ := append_run (T := T) (k := k) (x := .slice B k kc) hu hxt (.inr ⟨_, rfl⟩) hsz hby hz hzc hh pk (λ w => by simp [Builtin.lenOf]) (λ w hw => zqW hw pk2 hR hnl) hnl hs (by simpa [Nat.blt_eq] using hb0) hb
  refine ⟨_, w', _, ?_, h', kk A' c'⟩
  simp only [execOp, resolve, he.eval hx, he.eval hy, List.map_toArray, List.map_cons, List.map_nil, Sem.run_bind, Sem.run_pure, Result.andThen_ok, invoke, builtin, e1]
theorem Ops.append_str {s : List UInt8} {new : List Value} (hu : P.underlying t = some (.slice e)) (hxt : P.underlying xt = some .string)
  (hsz : sizeP P e = some 1) (hby : bytesP P e = some by_) (hz : zeroP P e = some z) (hzc : z.cells.size = 1) (hb0 : Nat.blt 0 by_ = true)
  (hx : evalL L x = some (.slice A m c)) (hy : evalL L y = some (.string (bs s))) (pk : Pick H (Own e 1 A m c cells) H') (hnew : (s.map λ c => Value.int .u8 c.toNat) = new) (hb : (m + s.length) * by_ <= 140737488355328)
  (hw : wants ops L ⟨some d, .call { callee := .builtin .append, args := #[x, y], argTypes := #[t, xt] }, T, p, es, g⟩ = some true) (ht : Nat.blt d n = true)
  (kk : ∀ A' c', Ops P ro n ops r ds ((d, .slice A' (m + s.length) c') :: L) (Own e 1 A' (m + s.length) c' (cells ++ new) :: H') K) :
  Ops P ro n ops (⟨some d, .call { callee := .builtin .append, args := #[x, y], argTypes := #[t, xt] }, T, p, es, g⟩ :: r) ds L H K :=
 Ops.val hw (by simp) ht λ Γ F a w he hh => by
  subst hnew
  obtain ⟨A', c', w', e1, h'⟩ := append_run (T := T) (k := s.length) (x := .string (bs s)) (new := s.map λ c => Value.int .u8 c.toNat) hu hxt (.inl rfl) hsz hby hz hzc hh pk (λ w => by simp [Builtin.lenOf, zxb]) (λ w hw => by
   simp only [Builtin.firstCells, zxv, List.take_length, List.drop_zero, Sem.run_pure]
   simp [bs]) (by simp) (by simp [scal, Value.oneCell']) (by simpa [Nat.blt_eq] using hb0) hb
  refine ⟨_, w', _, ?_, h', kk A' c'⟩
  simp only [execOp, resolve, he.eval hx, he.eval hy, List.map_toArray, List.map_cons, List.map_nil, Sem.run_bind, Sem.run_pure, Result.andThen_ok, invoke, builtin, e1]
theorem Ops.buildSlice {len : Nat} {parts : Array (Nat × Operand)} {pv : List (Nat × Value)} {z : Value} {cs : Array Value} (hu : P.underlying T' = some (.slice e)) (hsz : sizeP P e = some sz) (hz : zeroP P e = some z) (hlen : Nat.ble (len * sz) 16777216 = true) (hpos : Nat.blt 0 (len * sz) = true)
    (hpv : (evalAll L (parts.toList.map (·.2))) = some (pv.map (·.2))) (hpi : parts.toList.map (·.1) = pv.map (·.1))
    (hfill : Instr.fill (λ i => some (i * sz, sz)) ((Array.range (len * sz)).map (z.cells[· % z.cells.size]!)) pv = some cs) (hcs : cs.size = len * sz)
    (hw : wants ops L ⟨some d, .buildSlice T' len parts, T, p, es, g⟩ = some true) (ht : Nat.blt d n = true)
    (kk : ∀ b, Ops P ro n ops r ds ((d, .slice (some ⟨b, 0, none⟩) len len) :: L) (blk b cs.toList e :: H) K) :
    Ops P ro n ops (⟨some d, .buildSlice T' len parts, T, p, es, g⟩ :: r) ds L H K :=
  Ops.val hw (by simp) ht λ Γ F a w he hh => ⟨.slice (some ⟨w.heap.size, 0, none⟩) len len, { w with heap := w.heap.push (.cells cs e) }, pt w.heap.size (.cells cs e) :: H, by
    have h1 : ¬ len * sz > 2 ^ 24 := by have := Nat.le_of_ble_eq_true hlen; simp only [Nat.reducePow]; omega
    have h2 : ¬ len * sz = 0 := by have : 0 < len * sz := by simpa [Nat.blt_eq] using hpos
                                   omega
    have hp : (parts.map λ (i, x) => (i, a.eval x)).toList = pv := by
      have h3 := he.evalAll hpv
      have : parts.toList.map (λ q => (q.1, a.eval q.2)) = pv := by
        have hl : parts.toList.length = pv.length := by have := congrArg List.length hpi; simpa using this
        apply List.ext_getElem
        · simpa using hl
        · intro i hi1 hi2
          have e1 := congrArg (·[i]?) h3
          have e2 := congrArg (·[i]?) hpi
          simp only [List.length_map, Array.length_toList] at hi1
          simp [hi1, hi2] at e1 e2
          simp only [List.getElem_map, Array.getElem_toList]
          exact Prod.ext e2 e1
      simpa using this
    simp only [execOp, Instr.buildSlice, Sem.run_bind, underlying, run_program, Result.andThen_ok, hu, Sem.run_pure, zqg w hsz, if_neg h1, if_neg h2, zql w hz, hp, hfill, newRow, run_newObj], hh.newb _, by
    have := kk w.heap.size; simp only [blk, Array.toArray_toList] at this; exact this⟩
theorem own_nil {h : Hp} (hb : h = Hp.nil) : Own e sz none 0 0 [] h := .inl ⟨rfl, rfl, rfl, rfl, hb⟩
end
end Go.Z
