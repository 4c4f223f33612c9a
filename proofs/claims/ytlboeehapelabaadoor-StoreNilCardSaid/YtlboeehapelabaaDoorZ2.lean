/- A region that draws its order: one derivation along one chosen order serves for every order. -/
import Derived.Test.YtlboeehapelabaaDoorZ1
set_option linter.unusedVariables false
namespace Go.Z

/-- How an operation is taken in the chosen order: 'a' quiet, reads what the next loud one may turn, and stands ahead of it; 'b' quiet, reads what no loud one turns; 'w' loud; 'n' loud, but it lays new memory alone. -/
inductive Md where
  | a | b | c | w | n
  deriving DecidableEq
/-- A quiet operation yields 'v', whatever else lies in the frame; what it needs stays. -/
def QStep (P : Program) (n : Nat) (ops : Array Oper) (o : Oper) (ds : List Deferred) (L : Lo) (H : List SP) (v : Value) : Prop :=
  dstOk o.dst n = true ∧ ((wants ops L o = some false ∧ v = undef) ∨
    (wants ops L o = some true ∧ (∀ c, o.op ≠ .defer c) ∧ ∀ Γ F a w, Env a n ds L → Hold Γ H F w → ∃ w', (execOp a.eval o).run P w = .ok (.value v) w' ∧ Hold Γ H F w'))
section
variable {P : Program} {ro : Option Nat} {n : Nat} {ops : Array Oper} {r : List Oper} {ds : List Deferred} {L : Lo} {H : List SP} {K : Kont}
theorem Ops.q {o : Oper} {v : Value} (h : QStep P n ops o ds L H v) (k : Ops P ro n ops r ds (putL o.dst v L) H K) : Ops P ro n ops (o :: r) ds L H K := by
  obtain ⟨ht, ⟨hw, rfl⟩ | ⟨hw, hd, h⟩⟩ := h
  · exact Ops.off hw ht k
  · exact Ops.val hw hd ht fun Γ F a w he hh => let ⟨w', e, h'⟩ := h Γ F a w he hh; ⟨v, w', H, e, h', k⟩
end

/-- What a loud operation of a region leads to. -/
def Kw (ds : List Deferred) (Hq : List SP) (K : Kont) (R : Lo → List SP → Prop) : Kont
  | .normal, ds', L', Hw' => ds' = ds ∧ R L' Hw'
  | .panic c, ds', _, Hw' => K (.panic c) ds' [] (Hw' ++ Hq)
  | _, _, _, _ => False
/-- An operation that lays new memory and turns none. -/
def NStep (P : Program) (n : Nat) (ops : Array Oper) (o : Oper) (ds : List Deferred) (L : Lo) (R : Value → List SP → Prop) : Prop :=
  wants ops L o = some true ∧ ∀ Γ F a w H, Env a n ds L → Hold Γ H F w → ∃ v w' Hn, (execOp a.eval o).run P w = .ok (.value v) w' ∧ Hold Γ (Hn ++ H) F w' ∧ R v Hn
def Eqv (A B : List SP) : Prop := ∀ h, sep A h ↔ sep B h
theorem Eqv.refl (A : List SP) : Eqv A A := fun _ => .rfl
theorem Eqv.symm {A B : List SP} (h : Eqv A B) : Eqv B A := fun x => (h x).symm
theorem Eqv.trans {A B C : List SP} (h : Eqv A B) (h' : Eqv B C) : Eqv A C := fun x => (h x).trans (h' x)
theorem Eqv.app {A A' B B' : List SP} (h : Eqv A A') (h' : Eqv B B') : Eqv (A ++ B) (A' ++ B') := fun x => by
  rw [sep_app, sep_app]
  exact ⟨fun y => star_mono (fun _ => (h _).1) (fun _ => (h' _).1) y, fun y => star_mono (fun _ => (h _).2) (fun _ => (h' _).2) y⟩
theorem Eqv.comm (A B : List SP) : Eqv (A ++ B) (B ++ A) := fun x => by
  rw [sep_app, sep_app]
  exact ⟨star_comm, star_comm⟩
theorem Hold.eqv {Γ w : World} {A B : List SP} {F : SP} (e : Eqv A B) (h : Hold Γ A F w) : Hold Γ B F w := h.weaken fun x => (e x).1
theorem Eqv.mid (A : SP) (B C : List SP) : Eqv (B ++ A :: C) (A :: (B ++ C)) := by
  have h1 : Eqv ((B ++ [A]) ++ C) (([A] ++ B) ++ C) := (Eqv.comm B [A]).app (.refl C)
  simpa using h1
def Kept (Hc Hw : List SP) : Prop := ∀ A ∈ Hc, ∃ Hr, Eqv Hw (A :: Hr)
theorem Kept.nil {Hw : List SP} : Kept [] Hw := fun A h => by cases h
theorem Kept.eqv {Hc Hw Hw' : List SP} (h : Kept Hc Hw) (e : Eqv Hw' Hw) : Kept Hc Hw' := fun A hA => let ⟨Hr, h⟩ := h A hA; ⟨Hr, e.trans h⟩
theorem Kept.new {Hc Hw : List SP} (h : Kept Hc Hw) (Hn : List SP) : Kept Hc (Hn ++ Hw) := fun A hA => by
  obtain ⟨Hr, h⟩ := h A hA
  exact ⟨Hn ++ Hr, ((Eqv.refl Hn).app h).trans (.mid A Hn Hr)⟩
/-- The derivation along the chosen order: 'Hq' what no loud operation that is to come turns, 'Hw' the rest; 'Hc' what of it stays as it is. -/
def RDc (P : Program) (ro : Option Nat) (n : Nat) (ops : Array Oper) (ds : List Deferred) : List SP → List SP → Kont → List (Nat × Md) → Lo → List SP → Prop
  | Hc, Hq, K, [], L, Hw => ∃ L', Sub L L' ∧ K .normal ds L' (Hw ++ Hq)
  | Hc, Hq, K, (i, .a) :: l, L, Hw => ∃ o v, ops[i]? = some o ∧ QStep P n ops o ds L (Hw ++ Hq) v ∧ RDc P ro n ops ds Hc Hq K l (putL o.dst v L) Hw
  | Hc, Hq, K, (i, .b) :: l, L, Hw => ∃ o v Hn Hw', ops[i]? = some o ∧ Eqv Hw (Hn ++ Hw') ∧ QStep P n ops o ds L (Hn ++ Hq) v ∧ Kept Hc Hw' ∧ RDc P ro n ops ds Hc (Hn ++ Hq) K l (putL o.dst v L) Hw'
  | Hc, Hq, K, (i, .c) :: l, L, Hw => ∃ o v A Hr, ops[i]? = some o ∧ Eqv Hw (A :: Hr) ∧ QStep P n ops o ds L [A] v ∧ RDc P ro n ops ds (A :: Hc) Hq K l (putL o.dst v L) Hw
  | Hc, Hq, K, (i, .n) :: l, L, Hw => ∃ o, ops[i]? = some o ∧ (∀ c, o.op ≠ .defer c) ∧ dstOk o.dst n = true ∧ ((wants ops L o = some false ∧ RDc P ro n ops ds Hc Hq K l (putL o.dst undef L) Hw) ∨ NStep P n ops o ds L fun v Hn => RDc P ro n ops ds Hc Hq K l (putL o.dst v L) (Hn ++ Hw))
  | Hc, Hq, K, (i, .w) :: l, L, Hw => ∃ o, ops[i]? = some o ∧ (∀ c, o.op ≠ .defer c) ∧ Ops P ro n ops [o] ds L Hw (Kw ds Hq K fun L' Hw' => Kept Hc Hw' ∧ RDc P ro n ops ds Hc Hq K l L' Hw')
abbrev RD (P : Program) (ro : Option Nat) (n : Nat) (ops : Array Oper) (ds : List Deferred) (Hq : List SP) (K : Kont) (l : List (Nat × Md)) (L : Lo) (Hw : List SP) : Prop := RDc P ro n ops ds [] Hq K l L Hw

/-! ### The conditions on the order: closed, to be reckoned -/
def looks (ops : Array Oper) (o : Oper) : List Nat :=
  (o.op.operands.toList.filterMap fun | .tmp t => some t | _ => none) ++
  (match o.guard with | some (g, _) => ((ops[g]?).bind (·.dst)).toList | none => [])
def isPred (ops : Array Oper) (j k : Nat) : Bool := match ops[k]? with | some o => o.after.any fun e => Region.binds .any e && e.on == j | none => false
def dstIn (o : Oper) (l : List Nat) : Bool := match o.dst with | some d => l.contains d | none => false
def sameDst (o o' : Oper) : Bool := match o.dst, o'.dst with | some d, some d' => d == d' | _, _ => false
/-- 'k' may be taken while 'j', which is quiet and stands ahead of it, is not yet carried out. -/
def pairOk (ops : Array Oper) (j k : Nat) : Bool :=
  match ops[j]?, ops[k]? with
  | some oj, some ok => !dstIn ok (looks ops oj) && !sameDst ok oj && (isPred ops j k || !dstIn oj (looks ops ok))
  | _, _ => false
/-- of a quiet 'j': against those behind it ('a': up to the next loud one). -/
def behindOk (ops : Array Oper) (j : Nat) : Md → List (Nat × Md) → Bool
  | _, [] => true
  | .a, (k, .w) :: _ => true
  | m, (k, .w) :: l => isPred ops j k || (pairOk ops j k && behindOk ops j m l)
  | m, (k, _) :: l => pairOk ops j k && behindOk ops j m l
/-- an 'a' has a successor at or ahead of the next loud one, among 'a' and 'w'; none is left over at the end. -/
def aheadOk (ops : Array Oper) (j : Nat) : List (Nat × Md) → Bool
  | [] => false
  | (k, .w) :: _ => isPred ops j k
  | (k, .a) :: l => isPred ops j k || aheadOk ops j l
  | (k, .n) :: l => isPred ops j k || aheadOk ops j l
  | (k, .b) :: l => aheadOk ops j l
  | (k, .c) :: l => aheadOk ops j l
def hasLoud : List (Nat × Md) → Bool
  | [] => false
  | (_, .w) :: _ => true
  | _ :: l => hasLoud l
/-- behind a loud one each has a direct predecessor among it and those behind it. -/
def allBehind (ops : Array Oper) : List Nat → List (Nat × Md) → Bool
  | _, [] => true
  | seen, (k, _) :: l => seen.any (fun j => isPred ops j k) && allBehind ops (k :: seen) l
def ordOk (ops : Array Oper) : List (Nat × Md) → Bool
  | [] => true
  | (i, .w) :: l => allBehind ops [i] l && ordOk ops l
  | (i, .n) :: l => allBehind ops [i] l && ordOk ops l
  | (i, .a) :: l => (!hasLoud l || aheadOk ops i l) && behindOk ops i .a l && ordOk ops l
  | (i, .b) :: l => behindOk ops i .b l && ordOk ops l
  | (i, .c) :: l => behindOk ops i .b l && ordOk ops l
/-- each one's predecessors stand ahead of it. -/
def predsOk (ops : Array Oper) : List Nat → List (Nat × Md) → Bool
  | _, [] => true
  | seen, (i, _) :: l => (match ops[i]? with | some o => o.after.all fun e => !Region.binds .any e || seen.contains e.on | none => false) && !seen.contains i && (match ops[i]? with | some o => !dstIn o (looks ops o) | none => false) && predsOk ops (i :: seen) l
def regionOk (ops : Array Oper) (pi : List (Nat × Md)) : Bool :=
  predsOk ops [] pi && ordOk ops pi && (pi.length == ops.size)


/-! ### Soundness -/
def unl (listed : Array Bool) (i : Nat) : Bool := !listed.getD i true
def cnt (f : Nat → Bool) : List Nat → Nat
  | [] => 0
  | i :: l => (if f i then 1 else 0) + cnt f l
theorem cnt_le {f g : Nat → Bool} (h : ∀ i, g i = true → f i = true) : ∀ l, cnt g l ≤ cnt f l
  | [] => Nat.le_refl _
  | i :: l => by
    have := cnt_le h l
    simp only [cnt]
    cases hg : g i with
    | false => simp; split <;> omega
    | true => simp [h i hg]; omega
theorem cnt_lt {f g : Nat → Bool} (h : ∀ i, g i = true → f i = true) {j : Nat} (hf : f j = true) (hg : g j = false) : ∀ l, j ∈ l → cnt g l < cnt f l
  | [], m => by cases m
  | i :: l, m => by
    have h1 := cnt_le h l
    simp only [cnt]
    by_cases e : i = j
    · subst e; simp [hf, hg]; omega
    · have h2 := cnt_lt h hf hg l (by cases m with | head => exact absurd rfl e | tail _ m => exact m)
      cases hg' : g i with
      | false => simp; split <;> omega
      | true => simp [h i hg']; omega
theorem cnt_zero {f : Nat → Bool} : ∀ {l}, cnt f l = 0 → ∀ i ∈ l, f i = false
  | [], _, i, m => by cases m
  | j :: l, h, i, m => by
    simp only [cnt] at h
    cases m with
    | head => cases hf : f j with | false => rfl | true => simp [hf] at h
    | tail _ m => exact cnt_zero (by omega) i m

section
variable {P : Program} {ro : Option Nat} {n : Nat} {ops : Array Oper} {ds : List Deferred} {K : Kont}

theorem looks_eq (o : Oper) : looks ops o = o.looksAt ops := rfl
theorem looks_eval {a a' : Act} {o : Oper} (h : ∀ s ∈ looks ops o, a'.tmps[s]? = a.tmps[s]?) : ∀ x ∈ o.op.operands, a'.eval x = a.eval x := by
  intro x hx
  cases x with
  | tmp t =>
    have := h t (by
      unfold looks
      refine List.mem_append.2 (.inl (List.mem_filterMap.2 ⟨.tmp t, by simpa using hx, rfl⟩)))
    simp only [Act.eval, Array.getD_eq_getD_getElem?, this]
  | const c => rfl
  | global g => rfl
  | func f => rfl
theorem looks_run {a a' : Act} {o : Oper} (hs : ∀ cs b, o.op ≠ .select cs b) (h : ∀ s ∈ looks ops o, a'.tmps[s]? = a.tmps[s]?) : execOp a'.eval o = execOp a.eval o :=
  execOp_congr o hs (looks_eval h)
theorem looks_wanted {a a' : Act} {o : Oper} (h : ∀ s ∈ looks ops o, a'.tmps[s]? = a.tmps[s]?) : Region.wanted o (yielded ops a'.tmps) = Region.wanted o (yielded ops a.tmps) := by
  unfold Region.wanted
  split
  · rfl
  · rename_i j c hg
    have : yielded ops a'.tmps j = yielded ops a.tmps j := by
      unfold yielded
      cases hd : (ops[j]?).bind (·.dst) with
      | none => rfl
      | some t =>
        have this := h t (by
          unfold looks
          rw [hg]
          exact List.mem_append.2 (.inr (by simp [hd])))
        simp [this]
    rw [this]

/-- A quiet operation, whatever act agrees with 'va' on what it looks at. -/
def QAt (P : Program) (n : Nat) (ops : Array Oper) (o : Oper) (va : Act) (H : List SP) (v : Value) : Prop :=
  ∀ Γ F (a' : Act) w, (∀ s ∈ looks ops o, a'.tmps[s]? = va.tmps[s]?) → Hold Γ H F w →
    (Region.wanted o (yielded ops a'.tmps) = false ∧ v = undef) ∨
    (Region.wanted o (yielded ops a'.tmps) = true ∧ (∀ c, o.op ≠ .defer c) ∧ ∃ w', (execOp a'.eval o).run P w = .ok (.value v) w' ∧ Hold Γ H F w')
theorem QStep.at {o : Oper} {L : Lo} {H : List SP} {v : Value} {va : Act} (hs : ∀ cs b, o.op ≠ .select cs b) (he : Env va n ds L) (h : QStep P n ops o ds L H v) : QAt P n ops o va H v := by
  intro Γ F a' w ha hh
  rw [looks_wanted ha, looks_run hs ha]
  obtain ⟨_, ⟨hw, rfl⟩ | ⟨hw, hd, h⟩⟩ := h
  · exact .inl ⟨wants_ok he hw, rfl⟩
  · exact .inr ⟨wants_ok he hw, hd, h Γ F va w he hh⟩
theorem QAt.eqv {o : Oper} {A B : List SP} {v : Value} {va : Act} (h : QAt P n ops o va A v) (e : Eqv A B) : QAt P n ops o va B v := fun Γ F a' w ha hh => by
  rcases h Γ F a' w ha (hh.eqv e.symm) with h | ⟨h1, h2, w', h3, h4⟩
  · exact .inl h
  · exact .inr ⟨h1, h2, w', h3, h4.eqv e⟩
theorem QAt.sub {o : Oper} {H : List SP} {v : Value} {va va' : Act} (h : QAt P n ops o va H v) (e : ∀ s ∈ looks ops o, va'.tmps[s]? = va.tmps[s]?) : QAt P n ops o va' H v :=
  fun Γ F a' w ha hh => h Γ F a' w (fun s hs => (ha s hs).trans (e s hs)) hh

/-- Where the walk stands: 'E' and 'S' have been derived (S: behind the last loud one), 'l' has not. -/
structure Inv (P : Program) (n : Nat) (ops : Array Oper) (ds : List Deferred) (Hc Hq : List SP) (listed : Array Bool) (a va : Act) (E S l : List (Nat × Md)) (V : Nat → Value) (L : Lo) (Hw : List SP) : Prop where
  size : listed.size = ops.size
  inb : ∀ x ∈ E ++ S ++ l, x.1 < ops.size
  all : ∀ i, i < ops.size → ∃ m, (i, m) ∈ E ++ S ++ l
  nd : ((E ++ S ++ l).map (·.1)).Nodup
  lun : ∀ x ∈ l, listed.getD x.1 true = false
  down : ∀ k o, ops[k]? = some o → listed.getD k true = true → ∀ e ∈ o.after, Region.binds .any e = true → listed.getD e.on true = true
  env : Env va n ds L
  defs : a.defers = va.defers
  tsz : a.tmps.size = va.tmps.size
  agree : ∀ s, (∀ x ∈ E ++ S, listed.getD x.1 true = false → ∀ o, ops[x.1]? = some o → o.dst ≠ some s) → a.tmps[s]? = va.tmps[s]?
  pend : ∀ x ∈ E ++ S, listed.getD x.1 true = false → ∃ o, ops[x.1]? = some o ∧ dstOk o.dst n = true ∧ (∀ s, o.dst = some s → va.tmps[s]? = some (V x.1)) ∧
    ((x.2 = .b ∧ ∃ Hb Hr, Eqv Hq (Hb ++ Hr) ∧ QAt P n ops o va Hb (V x.1)) ∨ (x.2 = .c ∧ ∃ A ∈ Hc, QAt P n ops o va [A] (V x.1)) ∨ (x.2 = .a ∧ x ∈ S ∧ QAt P n ops o va (Hw ++ Hq) (V x.1)))
  kept : Kept Hc Hw
  quiet : ∀ x ∈ S, x.2 ≠ .w

/-! ### What the closed conditions say -/
theorem ordOk_drop : ∀ (l1 : List (Nat × Md)) {l2}, ordOk ops (l1 ++ l2) = true → ordOk ops l2 = true
  | [], _, h => h
  | (i, .w) :: l1, l2, h => ordOk_drop l1 (by simp only [List.cons_append, ordOk, Bool.and_eq_true] at h; exact h.2)
  | (i, .c) :: l1, l2, h => ordOk_drop l1 (by simp only [List.cons_append, ordOk, Bool.and_eq_true] at h; exact h.2)
  | (i, .n) :: l1, l2, h => ordOk_drop l1 (by simp only [List.cons_append, ordOk, Bool.and_eq_true] at h; exact h.2)
  | (i, .a) :: l1, l2, h => ordOk_drop l1 (by simp only [List.cons_append, ordOk, Bool.and_eq_true] at h; exact h.2)
  | (i, .b) :: l1, l2, h => ordOk_drop l1 (by simp only [List.cons_append, ordOk, Bool.and_eq_true] at h; exact h.2)
theorem behind_b {j : Nat} : ∀ {l1 : List (Nat × Md)} {x : Nat × Md} {l2 : List (Nat × Md)}, behindOk ops j .b (l1 ++ x :: l2) = true → (∀ y ∈ l1, y.2 = .w → isPred ops j y.1 = false) → (x.2 = .w → isPred ops j x.1 = false) → pairOk ops j x.1 = true
  | [], (k, mk), l2, h, _, hx => by
    cases mk with
    | w =>
      have := hx rfl
      simp only [List.nil_append, behindOk, Bool.or_eq_true, Bool.and_eq_true] at h
      rcases h with h | h
      · rw [this] at h; cases h
      · exact h.1
    | a => simp only [List.nil_append, behindOk, Bool.and_eq_true] at h; exact h.1
    | b => simp only [List.nil_append, behindOk, Bool.and_eq_true] at h; exact h.1
    | c => simp only [List.nil_append, behindOk, Bool.and_eq_true] at h; exact h.1
    | n => simp only [List.nil_append, behindOk, Bool.and_eq_true] at h; exact h.1
  | (k, mk) :: l1, x, l2, h, hl, hx => by
    have h' : behindOk ops j .b (l1 ++ x :: l2) = true := by
      cases mk with
      | w =>
        have := hl (k, .w) (.head _) rfl
        simp only [List.cons_append, behindOk, Bool.or_eq_true, Bool.and_eq_true] at h
        rcases h with h | h
        · rw [this] at h; cases h
        · exact h.2
      | a => simp only [List.cons_append, behindOk, Bool.and_eq_true] at h; exact h.2
      | b => simp only [List.cons_append, behindOk, Bool.and_eq_true] at h; exact h.2
      | c => simp only [List.cons_append, behindOk, Bool.and_eq_true] at h; exact h.2
      | n => simp only [List.cons_append, behindOk, Bool.and_eq_true] at h; exact h.2
    exact behind_b h' (fun y hy => hl y (.tail _ hy)) hx
theorem behind_a {j : Nat} : ∀ {l : List (Nat × Md)} {l2}, behindOk ops j .a (l ++ l2) = true → (∀ x ∈ l, x.2 ≠ .w) → ∀ x ∈ l, pairOk ops j x.1 = true
  | [], _, _, _, x, m => by cases m
  | (k, mk) :: l, l2, h, hq, x, m => by
    have h' : pairOk ops j k = true ∧ behindOk ops j .a (l ++ l2) = true := by
      cases mk with
      | w => exact absurd rfl (hq (k, .w) (.head _))
      | a => simpa [behindOk] using h
      | b => simpa [behindOk] using h
      | n => simpa [behindOk] using h
      | c => simpa [behindOk] using h
    cases m with
    | head => exact h'.1
    | tail _ m => exact behind_a h'.2 (fun y hy => hq y (.tail _ hy)) x m
theorem allBehind_spec : ∀ {l : List (Nat × Md)} {seen : List Nat}, allBehind ops seen l = true → ∀ x ∈ l, ∃ j, (j ∈ seen ∨ j ∈ l.map (·.1)) ∧ isPred ops j x.1 = true
  | [], _, _, x, m => by cases m
  | (k, mk) :: l, seen, h, x, m => by
    simp only [allBehind, Bool.and_eq_true, List.any_eq_true] at h
    obtain ⟨⟨j, hj, hp⟩, h2⟩ := h
    cases m with
    | head => exact ⟨j, .inl hj, hp⟩
    | tail _ m =>
      obtain ⟨j', hj', hp'⟩ := allBehind_spec h2 x m
      refine ⟨j', ?_, hp'⟩
      rcases hj' with h3 | h3
      · cases h3 with
        | head => exact .inr (by simp)
        | tail _ h3 => exact .inl h3
      · exact .inr (by simp [h3])
theorem ahead_spec {j k : Nat} {l' : List (Nat × Md)} : ∀ {l : List (Nat × Md)}, aheadOk ops j (l ++ (k, .w) :: l') = true → (∀ x ∈ l, x.2 ≠ .w) → isPred ops j k = true ∨ ∃ s m, (s, m) ∈ l ∧ (m = .a ∨ m = .n) ∧ isPred ops j s = true
  | [], h, _ => by simpa [aheadOk] using h
  | (x, .w) :: l, h, hq => absurd rfl (hq (x, .w) (.head _))
  | (x, .a) :: l, h, hq => by
    simp only [List.cons_append, aheadOk, Bool.or_eq_true] at h
    rcases h with h | h
    · exact .inr ⟨x, .a, .head _, .inl rfl, h⟩
    · rcases ahead_spec h (fun y hy => hq y (.tail _ hy)) with h | ⟨s, m, hs, hm, hp⟩
      · exact .inl h
      · exact .inr ⟨s, m, .tail _ hs, hm, hp⟩
  | (x, .n) :: l, h, hq => by
    simp only [List.cons_append, aheadOk, Bool.or_eq_true] at h
    rcases h with h | h
    · exact .inr ⟨x, .n, .head _, .inr rfl, h⟩
    · rcases ahead_spec h (fun y hy => hq y (.tail _ hy)) with h | ⟨s, m, hs, hm, hp⟩
      · exact .inl h
      · exact .inr ⟨s, m, .tail _ hs, hm, hp⟩
  | (x, .b) :: l, h, hq => by
    simp only [List.cons_append, aheadOk] at h
    rcases ahead_spec h (fun y hy => hq y (.tail _ hy)) with h | ⟨s, m, hs, hm, hp⟩
    · exact .inl h
    · exact .inr ⟨s, m, .tail _ hs, hm, hp⟩
  | (x, .c) :: l, h, hq => by
    simp only [List.cons_append, aheadOk] at h
    rcases ahead_spec h (fun y hy => hq y (.tail _ hy)) with h | ⟨s, m, hs, hm, hp⟩
    · exact .inl h
    · exact .inr ⟨s, m, .tail _ hs, hm, hp⟩
theorem hasLoud_app {k : Nat} {l' : List (Nat × Md)} : ∀ (l : List (Nat × Md)), hasLoud (l ++ (k, .w) :: l') = true
  | [] => rfl
  | (x, .w) :: l => rfl
  | (x, .a) :: l => by simpa [hasLoud] using hasLoud_app l
  | (x, .n) :: l => by simpa [hasLoud] using hasLoud_app l
  | (x, .c) :: l => by simpa [hasLoud] using hasLoud_app l
  | (x, .b) :: l => by simpa [hasLoud] using hasLoud_app l
theorem predsOk_spec : ∀ {l : List (Nat × Md)} {seen : List Nat}, predsOk ops seen l = true → (∀ x ∈ l, x.1 ∉ seen) ∧ (l.map (·.1)).Nodup ∧
    ∀ l1 x l2, l = l1 ++ x :: l2 → ∃ o, ops[x.1]? = some o ∧ dstIn o (looks ops o) = false ∧ ∀ e ∈ o.after, Region.binds .any e = true → e.on ∈ seen ∨ e.on ∈ l1.map (·.1)
  | [], _, _ => ⟨fun x m => (by cases m), (by simp), fun l1 x l2 h => (by cases l1 <;> cases h)⟩
  | (i, mi) :: l, seen, h => by
    simp only [predsOk, Bool.and_eq_true, Bool.not_eq_true', List.contains_eq_mem, decide_eq_false_iff_not] at h
    obtain ⟨⟨⟨h1, h2⟩, h3⟩, h4⟩ := h
    obtain ⟨r1, r2, r3⟩ := predsOk_spec h4
    refine ⟨fun x m => ?_, ?_, fun l1 x l2 e => ?_⟩
    · cases m with
      | head => exact h2
      | tail _ m => exact fun hx => r1 x m (.tail _ hx)
    · simp only [List.map_cons, List.nodup_cons]
      refine ⟨fun hm => ?_, r2⟩
      obtain ⟨y, hy, e⟩ := List.mem_map.1 hm
      exact r1 y hy (by rw [e]; exact .head _)
    · cases l1 with
      | nil =>
        cases e
        cases ho : ops[i]? with
        | none => simp [ho] at h1
        | some o =>
          simp only [ho, Array.all_eq_true_iff_forall_mem, Bool.or_eq_true, Bool.not_eq_true', decide_eq_true_eq] at h1 h3
          refine ⟨o, rfl, h3, fun e he hb => ?_⟩
          rcases h1 e he with h | h
          · rw [hb] at h; cases h
          · exact .inl h
      | cons y l1 =>
        cases e
        obtain ⟨o, ho, hd, hp⟩ := r3 l1 x l2 rfl
        refine ⟨o, ho, hd, fun e he hb => ?_⟩
        rcases hp e he hb with h | h
        · cases h with
          | head => exact .inr (by simp)
          | tail _ h => exact .inl h
        · exact .inr (by simp [h])
theorem pairOk_spec {j k : Nat} {oj ok : Oper} (h : pairOk ops j k = true) (hj : ops[j]? = some oj) (hk : ops[k]? = some ok) :
    (∀ d, ok.dst = some d → d ∉ looks ops oj) ∧ (∀ d, ok.dst = some d → oj.dst ≠ some d) ∧ (isPred ops j k = true ∨ ∀ d, oj.dst = some d → d ∉ looks ops ok) := by
  simp only [pairOk, hj, hk, Bool.and_eq_true, Bool.not_eq_true', Bool.or_eq_true] at h
  obtain ⟨⟨h1, h2⟩, h3⟩ := h
  refine ⟨fun d hd => ?_, fun d hd hd' => ?_, ?_⟩
  · simpa [dstIn, hd] using h1
  · simp [sameDst, hd, hd'] at h2
  · rcases h3 with h3 | h3
    · exact .inl h3
    · exact .inr fun d hd => by simpa [dstIn, hd] using h3
theorem isPred_mem {j k : Nat} {o : Oper} (h : isPred ops j k = true) (ho : ops[k]? = some o) : ∃ e ∈ o.after, Region.binds .any e = true ∧ e.on = j := by
  simp only [isPred, ho] at h
  rw [← Array.any_toList, List.any_eq_true] at h
  obtain ⟨e, he, hb⟩ := h
  simp only [Bool.and_eq_true, beq_iff_eq] at hb
  exact ⟨e, by simpa using he, hb.1, hb.2⟩

theorem Inv.np {Hc Hq : List SP} {listed : Array Bool} {a va : Act} {E S l : List (Nat × Md)} {V : Nat → Value} {L : Lo} {Hw : List SP} (hi : Inv P n ops ds Hc Hq listed a va E S l V L Hw) {j : Nat} {y : Nat × Md} (hy : y ∈ E ++ S) (hw : y.2 = .w) (hj : listed.getD j true = false) : isPred ops j y.1 = false := by
  cases hp : isPred ops j y.1 with
  | false => rfl
  | true =>
    exfalso
    have hyl : listed.getD y.1 true = true := by
      cases hl : listed.getD y.1 true with
      | true => rfl
      | false =>
        obtain ⟨_, _, _, _, ⟨hb, _⟩ | ⟨hb, _⟩ | ⟨hb, _⟩⟩ := hi.pend y hy hl
        · rw [hw] at hb; cases hb
        · rw [hw] at hb; cases hb
        · rw [hw] at hb; cases hb
    have hlt : y.1 < ops.size := hi.inb y (List.mem_append.2 (.inl hy))
    obtain ⟨o, ho⟩ : ∃ o, ops[y.1]? = some o := ⟨ops[y.1], by simp [hlt]⟩
    obtain ⟨e, he, hb, hon⟩ := isPred_mem hp ho
    have := hi.down y.1 o ho hyl e he hb
    rw [hon, hj] at this; cases this
theorem listed_set {listed : Array Bool} {i k : Nat} (hi : i < listed.size) : (listed.setIfInBounds i true).getD k true = if k = i then true else listed.getD k true := by
  by_cases e : k = i
  · subst e; simp [Array.getD_eq_getD_getElem?, hi]
  · simp [Array.getD_eq_getD_getElem?, e, Ne.symm e]
theorem getD_tf {listed : Array Bool} {k : Nat} (hk : k < listed.size) : listed.getD k true = listed.getD k false := by
  simp [Array.getD_eq_getD_getElem?, hk]
theorem put_other {a : Act} {d : Option Nat} {v : Value} {s : Nat} (h : d ≠ some s) : (a.put d v).tmps[s]? = a.tmps[s]? := by
  cases d with
  | none => rfl
  | some t => simp only [Act.put, Array.getElem?_setIfInBounds]; rw [if_neg (fun e => h (by rw [e]))]
theorem put_self {a : Act} {s : Nat} {v : Value} (h : s < a.tmps.size) : (a.put (some s) v).tmps[s]? = some v := by simp [Act.put, h]
theorem put_defs {a : Act} {d : Option Nat} {v : Value} : (a.put d v).defers = a.defers := by cases d <;> rfl
theorem put_size {a : Act} {d : Option Nat} {v : Value} : (a.put d v).tmps.size = a.tmps.size := by cases d <;> simp [Act.put]

/-- Quiet operations at the head are derived at once. -/
theorem rd_pull {pi : List (Nat × Md)} {listed : Array Bool} {a : Act} {E : List (Nat × Md)} (hpi : predsOk ops [] pi = true) (hord : ordOk ops pi = true) (hsel : Region.noSelect ops = true) :
    ∀ (l S : List (Nat × Md)) (va : Act) (V : Nat → Value) (L : Lo) (Hc Hq Hw : List SP), pi = E ++ S ++ l → Inv P n ops ds Hc Hq listed a va E S l V L Hw → RDc P ro n ops ds Hc Hq K l L Hw →
    ∃ S' l' va' V' L' Hc' Hq' Hw', pi = E ++ S' ++ l' ∧ Inv P n ops ds Hc' Hq' listed a va' E S' l' V' L' Hw' ∧ RDc P ro n ops ds Hc' Hq' K l' L' Hw' ∧ Eqv (Hw ++ Hq) (Hw' ++ Hq') ∧ ∀ x l'', l' = x :: l'' → (x.2 = .w ∨ x.2 = .n) := by
  intro l
  induction l with
  | nil => exact fun S va V L Hc Hq Hw e hi hr => ⟨S, [], va, V, L, Hc, Hq, Hw, e, hi, hr, .refl _, fun x l h => by cases h⟩
  | cons x l ih =>
    intro S va V L Hc Hq Hw e hi hr
    obtain ⟨i, m⟩ := x
    by_cases hm : m = .w ∨ m = .n
    · exact ⟨S, _, va, V, L, Hc, Hq, Hw, e, hi, hr, .refl _, fun x l h => by cases h; exact hm⟩
    · -- one step
      have key : ∃ o v H Hn Hw' Hc', ops[i]? = some o ∧ QStep P n ops o ds L H v ∧ Eqv Hw (Hn ++ Hw') ∧ ((m = .b ∧ H = Hn ++ Hq) ∨ (m = .c ∧ ∃ A ∈ Hc', H = [A]) ∨ (m = .a ∧ H = Hw' ++ (Hn ++ Hq))) ∧ (∀ A ∈ Hc, A ∈ Hc') ∧ Kept Hc' Hw' ∧ RDc P ro n ops ds Hc' (Hn ++ Hq) K l (putL o.dst v L) Hw' := by
        cases m with
        | w => exact absurd (.inl rfl) hm
        | n => exact absurd (.inr rfl) hm
        | a => obtain ⟨o, v, ho, hq, h⟩ := hr; exact ⟨o, v, _, [], Hw, Hc, ho, hq, .refl _, .inr (.inr ⟨rfl, rfl⟩), fun _ h => h, hi.kept, h⟩
        | b => obtain ⟨o, v, Hn, Hw', ho, he, hq, hkp, h⟩ := hr; exact ⟨o, v, _, Hn, Hw', Hc, ho, hq, he, .inl ⟨rfl, rfl⟩, fun _ h => h, hkp, h⟩
        | c =>
          obtain ⟨o, v, A, Hr, ho, he, hq, h⟩ := hr
          refine ⟨o, v, _, [], Hw, A :: Hc, ho, hq, .refl _, .inr (.inl ⟨rfl, A, .head _, rfl⟩), fun _ h => .tail _ h, fun B hB => ?_, h⟩
          cases hB with
          | head => exact ⟨Hr, he⟩
          | tail _ hB => exact hi.kept B hB
      obtain ⟨o, v, H, Hn, Hw', Hc', ho, hq, heq, hH, hsubc, hkept, hrd⟩ := key
      have htot : Eqv (Hw ++ Hq) (Hw' ++ (Hn ++ Hq)) := by
        have h1 := (heq.trans (.comm Hn Hw')).app (.refl Hq)
        rw [List.append_assoc] at h1
        exact h1
      have hpp := predsOk_spec hpi
      have hself : dstIn o (looks ops o) = false := by
        obtain ⟨o', ho', hd, _⟩ := hpp.2.2 (E ++ S) (i, m) l e
        rw [ho] at ho'; cases ho'; exact hd
      have hself' : ∀ d, o.dst = some d → d ∉ looks ops o := fun d hd => by simpa [dstIn, hd] using hself
      have hun : listed.getD i true = false := hi.lun (i, m) (.head _)
      have hpair : ∀ x ∈ E ++ S, listed.getD x.1 true = false → pairOk ops x.1 i = true := by
        intro x hx hl
        obtain ⟨l1, l2, el⟩ := List.append_of_mem hx
        have epi : pi = l1 ++ x :: (l2 ++ (i, m) :: l) := by rw [e, el]; simp
        have ho2 := ordOk_drop l1 (by rw [← epi]; exact hord)
        obtain ⟨o', ho', hdst, hvals, ⟨hb, _, _, _, _⟩ | ⟨hb, _⟩ | ⟨ha, hs, _⟩⟩ := hi.pend x hx hl
        · obtain ⟨xi, xm⟩ := x
          simp only at hb; subst hb
          simp only [ordOk, Bool.and_eq_true] at ho2
          exact behind_b (x := (i, m)) ho2.1 (fun y hy hw => hi.np (by rw [el]; simp [hy]) hw hl) (fun h => absurd (.inl h) hm)
        · obtain ⟨xi, xm⟩ := x
          simp only at hb; subst hb
          simp only [ordOk, Bool.and_eq_true] at ho2
          exact behind_b (x := (i, m)) ho2.1 (fun y hy hw => hi.np (by rw [el]; simp [hy]) hw hl) (fun h => absurd (.inl h) hm)
        · -- x lies in S: between it and i nothing loud
          obtain ⟨s1, s2, es⟩ := List.append_of_mem hs
          have epi' : pi = (E ++ s1) ++ x :: (s2 ++ [(i, m)] ++ l) := by rw [e, es]; simp
          have ho3 := ordOk_drop (E ++ s1) (by rw [← epi']; exact hord)
          obtain ⟨xi, xm⟩ := x
          simp only at ha; subst ha
          simp only [ordOk, Bool.and_eq_true] at ho3
          refine behind_a ho3.1.2 (fun y hy => ?_) (i, m) (by simp)
          rcases List.mem_append.1 hy with hy | hy
          · exact hi.quiet y (by rw [es]; simp [hy])
          · simp only [List.mem_singleton] at hy; subst hy; exact fun e => hm (.inl e)
      have hsel' : ∀ cs b, o.op ≠ .select cs b := fun cs b => Region.noSelect_spec hsel i o cs b ho
      have hva : ∀ s, s < n → o.dst = some s → (va.put o.dst v).tmps[s]? = some v := by
        intro s hs hd; rw [hd]; exact put_self (by rw [hi.env.size]; exact hs)
      have hdlt : ∀ s, o.dst = some s → s < n := by
        intro s hd; have := hq.1; rw [hd] at this; simpa [dstOk, Nat.blt_eq] using this
      have hnew : Inv P n ops ds Hc' (Hn ++ Hq) listed a (va.put o.dst v) E (S ++ [(i, m)]) l (fun k => if k = i then v else V k) (putL o.dst v L) Hw' := by
        have eapp : E ++ (S ++ [(i, m)]) ++ l = E ++ S ++ (i, m) :: l := by simp
        have hni : ∀ x ∈ E ++ S, x.1 ≠ i := by
          intro x hx hxi
          have := hi.nd
          rw [List.map_append, List.nodup_append] at this
          exact this.2.2 x.1 (List.mem_map_of_mem hx) i (by simp) hxi
        refine ⟨hi.size, by rw [eapp]; exact hi.inb, by rw [eapp]; exact hi.all, by rw [eapp]; exact hi.nd, fun x hx => hi.lun x (.tail _ hx), hi.down, hi.env.putO v hq.1, hi.defs.trans put_defs.symm, hi.tsz.trans put_size.symm, fun s hs => ?_, fun x hx hl => ?_, hkept, fun x hx => ?_⟩
        · have h1 : o.dst ≠ some s := hs (i, m) (by simp) hun o ho
          rw [put_other h1]
          exact hi.agree s fun x hx => hs x (by rcases List.mem_append.1 hx with h | h <;> simp [h])
        · have hx' : x ∈ E ++ S ∨ x = (i, m) := by
            rcases List.mem_append.1 hx with h | h
            · exact .inl (by simp [h])
            · rcases List.mem_append.1 h with h | h
              · exact .inl (by simp [h])
              · exact .inr (by simpa using h)
          rcases hx' with hx' | rfl
          · obtain ⟨o', ho', hdst, hvals, hm'⟩ := hi.pend x hx' hl
            obtain ⟨p1, p2, _⟩ := pairOk_spec (hpair x hx' hl) ho' ho
            have hlk : ∀ s ∈ looks ops o', (va.put o.dst v).tmps[s]? = va.tmps[s]? := fun s hs => put_other fun hd => p1 s hd hs
            refine ⟨o', ho', hdst, fun s hs => ?_, ?_⟩
            · simp only [hni x hx', if_false]
              rw [put_other fun hd => p2 s hd hs]; exact hvals s hs
            · simp only [hni x hx', if_false]
              rcases hm' with ⟨hb, Hb, Hr, hbe, hqa⟩ | ⟨hb, A, hA, hqa⟩ | ⟨ha, hsm, hqa⟩
              · refine .inl ⟨hb, Hb, Hr ++ Hn, ?_, hqa.sub hlk⟩
                have h1 := (Eqv.comm Hn Hq).trans (hbe.app (.refl Hn))
                rw [List.append_assoc] at h1
                exact h1
              · exact .inr (.inl ⟨hb, A, hsubc A hA, hqa.sub hlk⟩)
              · exact .inr (.inr ⟨ha, by simp [hsm], (hqa.sub hlk).eqv htot⟩)
          · have hlk : ∀ s ∈ looks ops o, (va.put o.dst v).tmps[s]? = va.tmps[s]? := fun s hs => put_other fun hd => hself' s hd hs
            have hqa := (hq.at hsel' hi.env).sub hlk
            refine ⟨o, ho, hq.1, fun s hs => ?_, ?_⟩
            · simp only [if_true]; exact hva s (hdlt s hs) hs
            · simp only [if_true]
              rcases hH with ⟨hb, rfl⟩ | ⟨hb, A, hA, rfl⟩ | ⟨ha, rfl⟩
              · exact .inl ⟨hb, Hn ++ Hq, [], by rw [List.append_nil]; exact .refl _, hqa⟩
              · exact .inr (.inl ⟨hb, A, hA, hqa⟩)
              · exact .inr (.inr ⟨ha, by simp, hqa⟩)
        · rcases List.mem_append.1 hx with h | h
          · exact hi.quiet x h
          · simp only [List.mem_singleton] at h; subst h; exact fun e => hm (.inl e)
      obtain ⟨S', l', va', V', L', Hc2, Hq', Hw2, r1, r2, r3, r4, r5⟩ := ih (S ++ [(i, m)]) (va.put o.dst v) (fun k => if k = i then v else V k) (putL o.dst v L) Hc' (Hn ++ Hq) Hw' (by rw [e]; simp) hnew hrd
      exact ⟨S', l', va', V', L', Hc2, Hq', Hw2, r1, r2, r3, htot.trans r4, r5⟩

/-- The same operation at an act that agrees with the derived one on what it looks at. -/
theorem wpIn_real {F : Fence} {m : Nat} {o : Oper} {a va : Act} {w : World} {nx nx' : Act → World → Prop} {Q Q' : Exit → Act → World → Prop} (hF : ∀ f, F.fn f) (hdf : ∀ c, o.op ≠ .defer c)
    (hsem : execOp a.eval o = execOp va.eval o) (hn : ∀ v w', nx (va.put o.dst v) w' → nx' (a.put o.dst v) w')
    (hnd : ∀ d w', ¬ nx ({ va with defers := d :: va.defers }.put o.dst undef) w')
    (hp : ∀ c w', Q (.panic c) va w' → Q' (.panic c) a w') (ho : ¬ LetsOut Q) (h : o.wpIn F m P va w nx Q) : o.wpIn F m P a w nx' Q' := by
  refine ⟨fun f _ => hF f, ?_⟩
  have h2 := h.2
  rw [Oper.semAt_eq _ _ _ hdf] at h2 ⊢
  rw [hsem]
  generalize (execOp va.eval o).run P w = res at h2 ⊢
  unfold Oper.uponIn at h2 ⊢
  split at h2
  · exact hn _ _ h2
  · exact hn _ _ h2
  · exact absurd h2 (hnd _ _)
  · refine ⟨h2.1, h2.2.1, fun cs hr => ?_⟩
    obtain ⟨e, w'', fr, q, c, d, l⟩ := h2.2.2 cs hr
    refine ⟨e, w'', fr, ?_, c, d, l⟩
    cases e with
    | returned v => exact hn _ _ q
    | panicked ch => exact hp _ _ q
    | outgrown => exact absurd q ho
  · refine ⟨h2.1, fun c cs hr => ?_⟩
    obtain ⟨v, w'', q, s⟩ := h2.2 c cs hr
    exact ⟨v, w'', hn _ _ q, s⟩
  · refine ⟨h2.1, h2.2.1, fun c cs hr => ?_⟩
    obtain ⟨e, w'', q, s⟩ := h2.2.2 c cs hr
    refine ⟨e, w'', ?_, s⟩
    cases e with
    | returned v => exact hn _ _ q
    | panicked ch => exact hp _ _ q
    | outgrown => exact absurd q ho
  · exact hp _ _ h2
  · exact h2.elim

theorem swap_hold {Γ w : World} {A B : List SP} {F : SP} (h : Hold Γ (A ++ B) F w) : Hold Γ (B ++ A) F w :=
  h.weaken fun x hx => (sep_app B A).2 (star_comm ((sep_app A B).1 hx))
theorem first_un {f : Nat → Bool} : ∀ (l : List (Nat × Md)), (∃ x ∈ l, f x.1 = true) → ∃ l1 x l2, l = l1 ++ x :: l2 ∧ f x.1 = true ∧ ∀ y ∈ l1, f y.1 = false
  | [], h => by obtain ⟨x, m, _⟩ := h; cases m
  | y :: l, h => by
    cases hy : f y.1 with
    | true => exact ⟨[], y, l, rfl, hy, fun z m => by cases m⟩
    | false =>
      obtain ⟨x, m, hx⟩ := h
      obtain ⟨l1, z, l2, e, hz, h1⟩ := first_un l ⟨x, by cases m with | head => rw [hy] at hx; cases hx | tail _ m => exact m, hx⟩
      exact ⟨y :: l1, z, l2, by rw [e]; rfl, hz, fun u m => by cases m with | head => exact hy | tail _ m => exact h1 u m⟩

theorem rd_sound {pi : List (Nat × Md)} (hpi : predsOk ops [] pi = true) (hord : ordOk ops pi = true) (hsel : Region.noSelect ops = true) {Γ : World} {F : SP} {Q : Exit → Act → World → Prop} (hK : K.le n Γ F Q) :
    ∀ (fuel : Nat) (listed : Array Bool) (a va : Act) (w : World) (E S l : List (Nat × Md)) (V : Nat → Value) (L : Lo) (Hc Hq Hw : List SP), pi = E ++ S ++ l → Inv P n ops ds Hc Hq listed a va E S l V L Hw →
    Hold Γ (Hw ++ Hq) F w → RDc P ro n ops ds Hc Hq K l L Hw → (∀ x l'', l = x :: l'' → (x.2 = .w ∨ x.2 = .n)) → cnt (fun i => !listed.getD i true) (List.range ops.size) ≤ fuel →
    wpAnyIn (fw ro) 0 P .any ops Q fuel listed a w := by
  have hpp := predsOk_spec hpi
  -- all listed: the end
  have fin : ∀ (listed : Array Bool) (a va : Act) (w : World) (E S l : List (Nat × Md)) (V : Nat → Value) (L : Lo) (Hc Hq Hw : List SP), pi = E ++ S ++ l → Inv P n ops ds Hc Hq listed a va E S l V L Hw →
      Hold Γ (Hw ++ Hq) F w → RDc P ro n ops ds Hc Hq K l L Hw → (∀ i, i < ops.size → listed.getD i true = true) → Q .normal a w := by
    intro listed a va w E S l V L Hc Hq Hw e hi hh hr hall
    have hl : l = [] := by
      cases l with
      | nil => rfl
      | cons x l =>
        have h1 := hi.lun x (.head _)
        rw [hall x.1 (hi.inb x (by simp))] at h1; cases h1
    subst hl
    obtain ⟨L2, hs2, hr⟩ := hr
    refine hK .normal ds L2 (Hw ++ Hq) a w hr (Env.sub ⟨hi.tsz.trans hi.env.size, hi.defs.trans hi.env.defs, fun t v ht => ?_⟩ hs2) hh
    rw [hi.agree t fun x hx hl => by
      rw [hall x.1 (hi.inb x (by simp at hx ⊢; exact hx))] at hl; cases hl]
    exact hi.env.get t v ht
  intro fuel
  induction fuel with
  | zero =>
    intro listed a va w E S l V L Hc Hq Hw e hi hh hr hhead hc
    have hall : ∀ i, i < ops.size → listed.getD i true = true := by
      intro i hlt
      have := cnt_zero (Nat.le_zero.1 hc) i (List.mem_range.2 hlt)
      simpa using this
    refine ⟨List.eq_nil_iff_forall_not_mem.2 fun i hm => ?_, fin listed a va w E S l V L Hc Hq Hw e hi hh hr hall⟩
    obtain ⟨h0, o, ho, _⟩ := mem_ready.1 hm
    rw [hall i (Array.getElem?_eq_some_iff.1 ho).1] at h0; cases h0
  | succ fuel ih =>
    intro listed a va w E S l V L Hc Hq Hw e hi hh hr hhead hc
    refine ⟨fun hnil => ?_, fun i hready => ?_⟩
    · refine fin listed a va w E S l V L Hc Hq Hw e hi hh hr fun i hlt => ?_
      cases hl : listed.getD i true with
      | true => rfl
      | false =>
        exfalso
        obtain ⟨m, hm⟩ := hi.all i hlt
        obtain ⟨l1, x, l2, epi, hx, hprev⟩ := first_un (f := fun i => !listed.getD i true) pi ⟨(i, m), by rw [e]; exact hm, by simp [hl]⟩
        obtain ⟨o, ho, _, hp⟩ := hpp.2.2 l1 x l2 epi
        have : x.1 ∈ Region.ready .any ops listed := by
          refine mem_ready.2 ⟨by simpa using hx, o, ho, fun ed he hb => ?_⟩
          rcases hp ed he hb with h | h
          · cases h
          · obtain ⟨y, hy, ey⟩ := List.mem_map.1 h
            have h1 := hprev y hy
            simp only [Bool.not_eq_false'] at h1
            rw [← ey, ← getD_tf (by rw [hi.size]; exact hi.inb y (by rw [← e, epi]; simp [hy]))]
            exact h1
        rw [hnil] at this; cases this
    · obtain ⟨hun, o, ho, hpreds⟩ := mem_ready.1 hready
      have hlt : i < ops.size := (Array.getElem?_eq_some_iff.1 ho).1
      have hltl : i < listed.size := by rw [hi.size]; exact hlt
      have hpl : ∀ ed ∈ o.after, Region.binds .any ed = true → listed.getD ed.on true = true := by
        intro ed he hb
        have h1 := hpreds ed he hb
        by_cases hs : ed.on < listed.size
        · rw [getD_tf hs]; exact h1
        · simp [Array.getD_eq_getD_getElem?, Nat.le_of_not_lt hs]
      have hsel' : ∀ cs b, o.op ≠ .select cs b := fun cs b => Region.noSelect_spec hsel i o cs b ho
      have hcnt : cnt (fun k => !(listed.setIfInBounds i true).getD k true) (List.range ops.size) ≤ fuel := by
        have := cnt_lt (f := fun k => !listed.getD k true) (g := fun k => !(listed.setIfInBounds i true).getD k true) (j := i) (fun k hk => by
          rw [listed_set hltl] at hk
          split at hk
          · cases hk
          · exact hk) (by simp [hun]) (by rw [listed_set hltl]; simp) (List.range ops.size) (List.mem_range.2 hlt)
        omega
      have hdown : ∀ k o', ops[k]? = some o' → (listed.setIfInBounds i true).getD k true = true → ∀ ed ∈ o'.after, Region.binds .any ed = true → (listed.setIfInBounds i true).getD ed.on true = true := by
        intro k o' ho' hk ed he hb
        rw [listed_set hltl] at hk ⊢
        split
        · rfl
        · by_cases hki : k = i
          · subst hki; rw [ho] at ho'; cases ho'; exact hpl ed he hb
          · rw [if_neg hki] at hk; exact hi.down k o' ho' hk ed he hb
      obtain ⟨m, hm⟩ := hi.all i hlt
      simp only [wpOpIn, ho]
      rcases List.mem_append.1 hm with hm | hm
      · -- a quiet one
        obtain ⟨o', ho', hdst, hvals, hmode⟩ := hi.pend (i, m) hm hun
        rw [ho] at ho'; cases ho'
        have hlook : ∀ s ∈ looks ops o, a.tmps[s]? = va.tmps[s]? := by
          intro s hs
          refine hi.agree s fun x hx hl ox hox hd => ?_
          by_cases hxi : x.1 = i
          · rw [hxi, ho] at hox; cases hox
            have hself : dstIn o (looks ops o) = false := by
              obtain ⟨l1, l2, el⟩ := List.append_of_mem hm
              obtain ⟨o'', ho'', hd', _⟩ := hpp.2.2 l1 (i, m) (l2 ++ l) (by rw [e, el]; simp)
              rw [ho] at ho''; cases ho''; exact hd'
            simp [dstIn, hd, hs] at hself
          · -- two that wait: one stands ahead of the other
            have hsplit : (∃ l1 l2 l3, E ++ S = l1 ++ x :: (l2 ++ (i, m) :: l3)) ∨ (∃ l1 l2 l3, E ++ S = l1 ++ (i, m) :: (l2 ++ x :: l3)) := by
              obtain ⟨l1, l2, el⟩ := List.append_of_mem hm
              rw [el] at hx
              rcases List.mem_append.1 hx with h | h
              · obtain ⟨l3, l4, e3⟩ := List.append_of_mem h
                exact .inl ⟨l3, l4, l2, by rw [el, e3]; simp⟩
              · cases h with
                | head => exact absurd rfl hxi
                | tail _ h =>
                  obtain ⟨l3, l4, e3⟩ := List.append_of_mem h
                  exact .inr ⟨l1, l3, l4, by rw [el, e3]⟩
            have pair : ∀ (y z : Nat × Md) l1 l2 l3, E ++ S = l1 ++ y :: (l2 ++ z :: l3) → y ∈ E ++ S → z ∈ E ++ S → listed.getD y.1 true = false → pairOk ops y.1 z.1 = true := by
              intro y z l1 l2 l3 ees hy hz hyl
              have epi : pi = l1 ++ y :: (l2 ++ z :: l3 ++ l) := by rw [e, ees]; simp
              have ho2 := ordOk_drop l1 (by rw [← epi]; exact hord)
              obtain ⟨oy, hoy, _, _, ⟨hb, _, _, _, _⟩ | ⟨hb, _⟩ | ⟨ha, hys, _⟩⟩ := hi.pend y hy hyl
              · obtain ⟨yi, ym⟩ := y
                simp only at hb; subst hb
                simp only [ordOk, Bool.and_eq_true] at ho2
                exact behind_b (x := z) (l2 := l3 ++ l) (by simpa using ho2.1) (fun u hu hw => hi.np (by rw [ees]; simp [hu]) hw hyl) (fun h => hi.np hz h hyl)
              · obtain ⟨yi, ym⟩ := y
                simp only at hb; subst hb
                simp only [ordOk, Bool.and_eq_true] at ho2
                exact behind_b (x := z) (l2 := l3 ++ l) (by simpa using ho2.1) (fun u hu hw => hi.np (by rw [ees]; simp [hu]) hw hyl) (fun h => hi.np hz h hyl)
              · obtain ⟨s1, s2, es⟩ := List.append_of_mem hys
                -- y's place in S is its place in E ++ S
                have hnd := hi.nd
                have hsame : l1 = E ++ s1 ∧ l2 ++ z :: l3 = s2 := by
                  have e1 : E ++ S = (E ++ s1) ++ y :: s2 := by rw [es]; simp
                  have hnd' : ((E ++ S).map (·.1)).Nodup := by
                    rw [List.map_append, List.nodup_append] at hnd; exact hnd.1
                  have : ∀ (p1 q1 p2 q2 : List (Nat × Md)), p1 ++ y :: q1 = p2 ++ y :: q2 → ((p1 ++ y :: q1).map (·.1)).Nodup → p1 = p2 ∧ q1 = q2 := by
                    intro p1
                    induction p1 with
                    | nil =>
                      intro q1 p2 q2 h hn
                      cases p2 with
                      | nil => cases h; exact ⟨rfl, rfl⟩
                      | cons u p2 =>
                        cases h
                        simp at hn
                    | cons u p1 ih1 =>
                      intro q1 p2 q2 h hn
                      cases p2 with
                      | nil =>
                        cases h
                        simp at hn
                      | cons u' p2 =>
                        simp only [List.cons_append, List.cons.injEq] at h
                        obtain ⟨rfl, h⟩ := h
                        have hn' : ((p1 ++ y :: q1).map (·.1)).Nodup := by
                          simp only [List.cons_append, List.map_cons, List.nodup_cons] at hn; exact hn.2
                        obtain ⟨r1, r2⟩ := ih1 q1 p2 q2 h hn'
                        exact ⟨by rw [r1], r2⟩
                  exact this l1 (l2 ++ z :: l3) (E ++ s1) s2 (by rw [← ees, e1]) (by rw [← ees]; exact hnd')
                obtain ⟨yi, ym⟩ := y
                simp only at ha; subst ha
                simp only [ordOk, Bool.and_eq_true] at ho2
                refine behind_a (l := l2 ++ z :: l3) ho2.1.2 (fun u hu => ?_) z (by simp)
                exact hi.quiet u (by rw [es, ← hsame.2]; simp at hu ⊢; rcases hu with h | h | h <;> simp [h])
            have hne : x.1 ≠ i := hxi
            rcases hsplit with ⟨l1, l2, l3, ees⟩ | ⟨l1, l2, l3, ees⟩
            · have hpk := pair x (i, m) l1 l2 l3 ees hx hm hl
              obtain ⟨_, _, h3⟩ := pairOk_spec hpk hox ho
              rcases h3 with h3 | h3
              · obtain ⟨ed, he, hb, hon⟩ := isPred_mem h3 ho
                have := hpl ed he hb
                rw [hon, hl] at this; cases this
              · exact h3 s hd hs
            · have hpk := pair (i, m) x l1 l2 l3 ees hm hx hun
              obtain ⟨h1, _, _⟩ := pairOk_spec hpk ho hox
              exact h1 s hd hs
        -- its run
        have hrun : (Region.wanted o (yielded ops a.tmps) = false ∧ V i = undef) ∨ (Region.wanted o (yielded ops a.tmps) = true ∧ (∀ c, o.op ≠ .defer c) ∧ ∃ w', (execOp a.eval o).run P w = .ok (.value (V i)) w' ∧ Hold Γ (Hw ++ Hq) F w') := by
          rcases hmode with ⟨_, Hb, Hr, hbe, hq⟩ | ⟨_, A, hA, hq⟩ | ⟨_, _, hq⟩
          · have htot : Eqv (Hw ++ Hq) (Hb ++ (Hr ++ Hw)) := by
              have h1 := (Eqv.comm Hw Hq).trans (hbe.app (.refl Hw))
              rw [List.append_assoc] at h1
              exact h1
            rcases hq Γ (star F (sep (Hr ++ Hw))) a w hlook (hh.inn fun x hx => (htot x).1 hx) with h | ⟨h1, h2, w', h3, h4⟩
            · exact .inl h
            · exact .inr ⟨h1, h2, w', h3, h4.out.eqv htot.symm⟩
          · obtain ⟨Hr, hkr⟩ := hi.kept A hA
            have htot : Eqv (Hw ++ Hq) ([A] ++ (Hr ++ Hq)) := by
              have h1 := hkr.app (.refl Hq)
              simpa using h1
            rcases hq Γ (star F (sep (Hr ++ Hq))) a w hlook (hh.inn fun x hx => (htot x).1 hx) with h | ⟨h1, h2, w', h3, h4⟩
            · exact .inl h
            · exact .inr ⟨h1, h2, w', h3, h4.out.eqv htot.symm⟩
          · exact hq Γ F a w hlook hh
        have hi' : Inv P n ops ds Hc Hq (listed.setIfInBounds i true) (a.put o.dst (V i)) va E S l V L Hw := by
          have hsub : ∀ k, (listed.setIfInBounds i true).getD k true = false → listed.getD k true = false ∧ k ≠ i := by
            intro k hk
            rw [listed_set hltl] at hk
            split at hk
            · cases hk
            · rename_i hne; exact ⟨hk, hne⟩
          refine ⟨by simp [hi.size], hi.inb, hi.all, hi.nd, fun x hx => ?_, hdown, hi.env, put_defs.trans hi.defs, put_size.trans hi.tsz, fun s hs => ?_, fun x hx hl => ?_, hi.kept, hi.quiet⟩
          · rw [listed_set hltl]
            have hnd := hi.nd
            rw [List.map_append, List.nodup_append] at hnd
            have : x.1 ≠ i := fun h => hnd.2.2 i (by have := List.mem_map_of_mem (f := (·.1)) hm; exact this) x.1 (List.mem_map_of_mem hx) h.symm
            rw [if_neg this]; exact hi.lun x hx
          · by_cases hd : o.dst = some s
            · have hslt : s < a.tmps.size := by
                rw [hi.tsz, hi.env.size]
                rw [hd] at hdst; simpa [dstOk, Nat.blt_eq] using hdst
              rw [hd, put_self hslt]; exact (hvals s hd).symm
            · rw [put_other hd]
              refine hi.agree s fun x hx hl ox hox => ?_
              by_cases hxi : x.1 = i
              · rw [hxi, ho] at hox; cases hox; exact hd
              · exact hs x hx (by rw [listed_set hltl, if_neg hxi]; exact hl) ox hox
          · exact hi.pend x hx (hsub x.1 hl).1
        rcases hrun with ⟨hw, hv⟩ | ⟨hw, hdf, w', hrun, hh'⟩
        · rw [hw]
          simp only [Bool.false_eq_true, if_false]
          refine ⟨fun _ _ => trivial, ?_⟩
          rw [hv] at hi'
          exact ih _ _ va w E S l V L Hc Hq Hw e hi' hh hr hhead hcnt
        · rw [hw]
          simp only [if_true]
          refine ⟨fun _ _ => trivial, ?_⟩
          rw [Oper.semAt_eq _ _ _ hdf, hrun]
          exact ih _ _ va w' E S l V L Hc Hq Hw e hi' hh' hr hhead hcnt
      · -- the next loud one
        cases l with
        | nil => cases hm
        | cons x l =>
          obtain ⟨k, mk⟩ := x
          have hmk : mk = .w ∨ mk = .n := hhead (k, mk) l rfl
          have hordl := ordOk_drop (E ++ S) (by rw [← e]; exact hord)
          have hab : allBehind ops [k] l = true ∧ ordOk ops l = true := by
            rcases hmk with rfl | rfl <;> (simp only [ordOk, Bool.and_eq_true] at hordl; exact hordl)
          have hik : i = k := by
            cases hm with
            | head => rfl
            | tail _ hm =>
              exfalso
              obtain ⟨j, hj, hp⟩ := allBehind_spec hab.1 (i, m) hm
              obtain ⟨ed, he, hb, hon⟩ := isPred_mem hp ho
              have h1 := hpl ed he hb
              have h2 : listed.getD j true = false := by
                rcases hj with hj | hj
                · simp only [List.mem_singleton] at hj; subst hj; exact hi.lun (j, mk) (.head _)
                · obtain ⟨y, hy, ey⟩ := List.mem_map.1 hj
                  rw [← ey]; exact hi.lun y (.tail _ hy)
              rw [hon, h2] at h1; cases h1
          subst hik
          rcases hmk with rfl | rfl
          · obtain ⟨o', ho', hdf, hops⟩ := hr
            rw [ho] at ho'; cases ho'
            -- no 'a' waits
            have hnoa : ∀ (S2 S1 : List (Nat × Md)) (j : Nat), S = S1 ++ (j, .a) :: S2 → listed.getD j true = true := by
              intro S2
              generalize hlen : S2.length = len
              induction len using Nat.strongRecOn generalizing S2 with
              | _ len ihl =>
                intro S1 j es
                cases hl : listed.getD j true with
                | true => rfl
                | false =>
                  exfalso
                  have epi : pi = (E ++ S1) ++ (j, .a) :: (S2 ++ (i, .w) :: l) := by rw [e, es]; simp
                  have ho2 := ordOk_drop (E ++ S1) (by rw [← epi]; exact hord)
                  simp only [ordOk, Bool.and_eq_true, Bool.or_eq_true, hasLoud_app] at ho2
                  have hah : aheadOk ops j (S2 ++ (i, .w) :: l) = true := by
                    rcases ho2.1.1 with h | h
                    · cases h
                    · exact h
                  rcases ahead_spec hah (fun y hy => hi.quiet y (by rw [es]; simp [hy])) with h | ⟨s, ms, hs, hms, h⟩
                  · obtain ⟨ed, he, hb, hon⟩ := isPred_mem h ho
                    have := hpl ed he hb
                    rw [hon, hl] at this; cases this
                  · have hsl : listed.getD s true = true := by
                      rcases hms with rfl | rfl
                      · obtain ⟨s1, s2, es2⟩ := List.append_of_mem hs
                        exact ihl s2.length (by rw [← hlen, es2]; simp; omega) s2 rfl (S1 ++ (j, .a) :: s1) s (by rw [es, es2]; simp)
                      · cases hl2 : listed.getD s true with
                        | true => rfl
                        | false =>
                          obtain ⟨_, _, _, _, ⟨hb, _⟩ | ⟨hb, _⟩ | ⟨hb, _⟩⟩ := hi.pend (s, .n) (by simp [es, hs]) hl2
                          · cases hb
                          · cases hb
                          · cases hb
                    have hslt : s < ops.size := hi.inb (s, ms) (by simp [es, hs])
                    obtain ⟨os, hos⟩ : ∃ os, ops[s]? = some os := ⟨ops[s], by simp [hslt]⟩
                    obtain ⟨ed, he, hb, hon⟩ := isPred_mem h hos
                    have := hi.down s os hos hsl ed he hb
                    rw [hon, hl] at this; cases this
            have hpb : ∀ x ∈ E ++ S, listed.getD x.1 true = false → ∃ o', ops[x.1]? = some o' ∧ dstOk o'.dst n = true ∧ (∀ s, o'.dst = some s → va.tmps[s]? = some (V x.1)) ∧ ((x.2 = .b ∧ ∃ Hb Hr, Eqv Hq (Hb ++ Hr) ∧ QAt P n ops o' va Hb (V x.1)) ∨ (x.2 = .c ∧ ∃ A ∈ Hc, QAt P n ops o' va [A] (V x.1))) := by
              intro x hx hl
              obtain ⟨o', ho', hd, hv, ⟨hb, hq⟩ | ⟨hb, hq⟩ | ⟨ha, hs, _⟩⟩ := hi.pend x hx hl
              · exact ⟨o', ho', hd, hv, .inl ⟨hb, hq⟩⟩
              · exact ⟨o', ho', hd, hv, .inr ⟨hb, hq⟩⟩
              · obtain ⟨s1, s2, es⟩ := List.append_of_mem hs
                obtain ⟨xi, xm⟩ := x
                simp only at ha; subst ha
                rw [hnoa s2 s1 xi es] at hl; cases hl
            have hpair : ∀ x ∈ E ++ S, listed.getD x.1 true = false → pairOk ops x.1 i = true := by
              intro x hx hl
              obtain ⟨l1, l2, el⟩ := List.append_of_mem hx
              have epi : pi = l1 ++ x :: (l2 ++ (i, .w) :: l) := by rw [e, el]; simp
              have ho2 := ordOk_drop l1 (by rw [← epi]; exact hord)
              obtain ⟨_, _, _, _, ⟨hb, _⟩ | ⟨hb, _⟩⟩ := hpb x hx hl
              · obtain ⟨xi, xm⟩ := x
                simp only at hb; subst hb
                simp only [ordOk, Bool.and_eq_true] at ho2
                refine behind_b (x := (i, .w)) ho2.1 (fun y hy hw => hi.np (by rw [el]; simp [hy]) hw hl) (fun _ => ?_)
                cases hp : isPred ops xi i with
                | false => rfl
                | true =>
                  obtain ⟨ed, he, hb, hon⟩ := isPred_mem hp ho
                  have := hpl ed he hb
                  rw [hon, hl] at this; cases this
              · obtain ⟨xi, xm⟩ := x
                simp only at hb; subst hb
                simp only [ordOk, Bool.and_eq_true] at ho2
                refine behind_b (x := (i, .w)) ho2.1 (fun y hy hw => hi.np (by rw [el]; simp [hy]) hw hl) (fun _ => ?_)
                cases hp : isPred ops xi i with
                | false => rfl
                | true =>
                  obtain ⟨ed, he, hb, hon⟩ := isPred_mem hp ho
                  have := hpl ed he hb
                  rw [hon, hl] at this; cases this
            have hlook : ∀ s ∈ looks ops o, a.tmps[s]? = va.tmps[s]? := by
              intro s hs
              refine hi.agree s fun x hx hl ox hox hd => ?_
              obtain ⟨_, _, h3⟩ := pairOk_spec (hpair x hx hl) hox ho
              rcases h3 with h3 | h3
              · obtain ⟨ed, he, hb, hon⟩ := isPred_mem h3 ho
                have := hpl ed he hb
                rw [hon, hl] at this; cases this
              · exact h3 s hd hs
            have hii : Hold Γ Hw (star F (sep Hq)) w := hh.inn fun x hx => hx
            have hlw := hops Γ (star F (sep Hq)) va w (fun e a' w' => match e with
              | .normal => ∃ L' Hw', (Kept Hc Hw' ∧ RDc P ro n ops ds Hc Hq K l L' Hw') ∧ Env a' n ds L' ∧ Hold Γ Hw' (star F (sep Hq)) w'
              | .panic c => ∃ ds' Hw', K (.panic c) ds' [] (Hw' ++ Hq) ∧ a'.defers = ds' ∧ a'.tmps.size = n ∧ Hold Γ Hw' (star F (sep Hq)) w'
              | _ => False) hi.env hii (by
                intro e ds' L' Hw' a' w' k he hh'
                cases e with
                | normal => obtain ⟨rfl, k⟩ := k; exact ⟨L', Hw', k, he, hh'⟩
                | panic c => exact ⟨ds', Hw', k, he.defs, he.size, hh'⟩
                | exit j => exact k
                | goto j => exact k
                | ret => exact k)
            simp only [lw] at hlw
            -- what follows, at the real act
            have next : ∀ v w', (∃ L' Hw', (Kept Hc Hw' ∧ RDc P ro n ops ds Hc Hq K l L' Hw') ∧ Env (va.put o.dst v) n ds L' ∧ Hold Γ Hw' (star F (sep Hq)) w') →
                wpAnyIn (fw ro) 0 P .any ops Q fuel (listed.setIfInBounds i true) (a.put o.dst v) w' := by
              rintro v w' ⟨L', Hw', ⟨hkept, hrd⟩, henv, hh'⟩
              have hsub : ∀ k, (listed.setIfInBounds i true).getD k true = false → listed.getD k true = false ∧ k ≠ i := by
                intro k hk
                rw [listed_set hltl] at hk
                split at hk
                · cases hk
                · rename_i hne; exact ⟨hk, hne⟩
              have eapp : (E ++ S ++ [(i, .w)]) ++ [] ++ l = E ++ S ++ (i, Md.w) :: l := by simp
              have hinv : Inv P n ops ds Hc Hq (listed.setIfInBounds i true) (a.put o.dst v) (va.put o.dst v) (E ++ S ++ [(i, .w)]) [] l V L' Hw' := by
                refine ⟨by simp [hi.size], by rw [eapp]; exact hi.inb, by rw [eapp]; exact hi.all, by rw [eapp]; exact hi.nd, fun x hx => ?_, hdown, henv, by rw [put_defs, put_defs]; exact hi.defs, by rw [put_size, put_size]; exact hi.tsz, fun s hs => ?_, fun x hx hl => ?_, hkept, fun x hx => by cases hx⟩
                · rw [listed_set hltl]
                  have hnd := hi.nd
                  rw [List.map_append, List.nodup_append] at hnd
                  have h2 := hnd.2.1
                  simp only [List.map_cons, List.nodup_cons] at h2
                  have : x.1 ≠ i := fun h => h2.1 (by rw [← h]; exact List.mem_map_of_mem hx)
                  rw [if_neg this]; exact hi.lun x (.tail _ hx)
                · by_cases hd : o.dst = some s
                  · rw [hd]
                    by_cases hsz : s < a.tmps.size
                    · rw [put_self hsz, put_self (by rw [← hi.tsz]; exact hsz)]
                    · have h1 : ¬ s < (a.put (some s) v).tmps.size := by rw [put_size]; exact hsz
                      have h2 : ¬ s < (va.put (some s) v).tmps.size := by rw [put_size, ← hi.tsz]; exact hsz
                      rw [Array.getElem?_eq_none (Nat.le_of_not_lt h1), Array.getElem?_eq_none (Nat.le_of_not_lt h2)]
                  · rw [put_other hd, put_other hd]
                    refine hi.agree s fun x hx hl ox hox => ?_
                    have hne : x.1 ≠ i := by
                      intro h
                      have hnd := hi.nd
                      rw [List.map_append, List.nodup_append] at hnd
                      exact hnd.2.2 x.1 (List.mem_map_of_mem hx) i (by simp) h
                    exact hs x (by simp at hx ⊢; rcases hx with h | h <;> simp [h]) (by rw [listed_set hltl, if_neg hne]; exact hl) ox hox
                · obtain ⟨hl1, hne⟩ := hsub x.1 hl
                  have hx' : x ∈ E ++ S := by
                    simp at hx
                    rcases hx with h | h | h
                    · simp [h]
                    · simp [h]
                    · rw [h] at hne; exact absurd rfl hne
                  obtain ⟨o', ho', hd, hv, hmode⟩ := hpb x hx' hl1
                  obtain ⟨p1, p2, _⟩ := pairOk_spec (hpair x hx' hl1) ho' ho
                  refine ⟨o', ho', hd, fun s hs => by rw [put_other fun hd => p2 s hd hs]; exact hv s hs, ?_⟩
                  rcases hmode with ⟨hb, Hb, Hr, hbe, hq⟩ | ⟨hb, A, hA, hq⟩
                  · exact .inl ⟨hb, Hb, Hr, hbe, hq.sub fun s hs => put_other fun hd => p1 s hd hs⟩
                  · exact .inr (.inl ⟨hb, A, hA, hq.sub fun s hs => put_other fun hd => p1 s hd hs⟩)
              obtain ⟨S', l', va', V', L'', Hc2, Hq2, Hw2, e', hi2, hr2, heq2, hh2⟩ := rd_pull hpi hord hsel l [] (va.put o.dst v) V L' Hc Hq Hw' (by rw [e]; simp) hinv hrd
              exact ih _ _ va' w' _ S' l' V' L'' Hc2 Hq2 Hw2 e' hi2 (hh'.out.eqv heq2) hr2 hh2 hcnt
            rw [looks_wanted hlook]
            split at hlw
            · rename_i hwn
              rw [hwn]
              simp only [if_true]
              refine wpIn_real (fun _ => trivial) hdf (looks_run hsel' hlook) next ?_ ?_ ?_ hlw
              · rintro d w' ⟨L', Hw', _, he, _⟩
                have h1 := he.defs
                rw [put_defs] at h1
                simp only at h1
                rw [hi.env.defs] at h1
                exact absurd h1 (List.cons_ne_self d ds)
              · rintro c w' ⟨ds', Hw', k, hd, hs, hh'⟩
                exact hK (.panic c) ds' [] (Hw' ++ Hq) a w' k ⟨hi.tsz.trans hs, hi.defs.trans hd, fun t v h => by cases h⟩ hh'.out
              · rintro ⟨_, _, h⟩; exact h
            · rename_i hwn
              rw [Bool.eq_false_iff.2 hwn]
              simp only [Bool.false_eq_true, if_false]
              exact ⟨fun _ _ => trivial, next _ _ hlw⟩
          · obtain ⟨o', ho', hdf, hdst, hcase⟩ := hr
            rw [ho] at ho'; cases ho'
            have hpair : ∀ x ∈ E ++ S, listed.getD x.1 true = false → pairOk ops x.1 i = true := by
              intro x hx hl
              obtain ⟨l1, l2, el⟩ := List.append_of_mem hx
              have epi : pi = l1 ++ x :: (l2 ++ (i, .n) :: l) := by rw [e, el]; simp
              have ho2 := ordOk_drop l1 (by rw [← epi]; exact hord)
              obtain ⟨o', ho', hd', hvals, ⟨hb, _, _, _, _⟩ | ⟨hb, _⟩ | ⟨ha, hs, _⟩⟩ := hi.pend x hx hl
              · obtain ⟨xi, xm⟩ := x
                simp only at hb; subst hb
                simp only [ordOk, Bool.and_eq_true] at ho2
                exact behind_b (x := (i, .n)) ho2.1 (fun y hy hw => hi.np (by rw [el]; simp [hy]) hw hl) (fun h => by cases h)
              · obtain ⟨xi, xm⟩ := x
                simp only at hb; subst hb
                simp only [ordOk, Bool.and_eq_true] at ho2
                exact behind_b (x := (i, .n)) ho2.1 (fun y hy hw => hi.np (by rw [el]; simp [hy]) hw hl) (fun h => by cases h)
              · obtain ⟨s1, s2, es⟩ := List.append_of_mem hs
                have epi' : pi = (E ++ s1) ++ x :: (s2 ++ [(i, .n)] ++ l) := by rw [e, es]; simp
                have ho3 := ordOk_drop (E ++ s1) (by rw [← epi']; exact hord)
                obtain ⟨xi, xm⟩ := x
                simp only at ha; subst ha
                simp only [ordOk, Bool.and_eq_true] at ho3
                refine behind_a ho3.1.2 (fun y hy => ?_) (i, .n) (by simp)
                rcases List.mem_append.1 hy with hy | hy
                · exact hi.quiet y (by rw [es]; simp [hy])
                · simp only [List.mem_singleton] at hy; subst hy; simp
            have hlook : ∀ s ∈ looks ops o, a.tmps[s]? = va.tmps[s]? := by
              intro s hs
              refine hi.agree s fun x hx hl ox hox hd => ?_
              obtain ⟨_, _, h3⟩ := pairOk_spec (hpair x hx hl) hox ho
              rcases h3 with h3 | h3
              · obtain ⟨ed, he, hb, hon⟩ := isPred_mem h3 ho
                have := hpl ed he hb
                rw [hon, hl] at this; cases this
              · exact h3 s hd hs
            have next : ∀ v w' Hn, Hold Γ (Hn ++ (Hw ++ Hq)) F w' → RDc P ro n ops ds Hc Hq K l (putL o.dst v L) (Hn ++ Hw) →
                wpAnyIn (fw ro) 0 P .any ops Q fuel (listed.setIfInBounds i true) (a.put o.dst v) w' := by
              intro v w' Hn hh' hrd
              have hsub : ∀ k, (listed.setIfInBounds i true).getD k true = false → listed.getD k true = false ∧ k ≠ i := by
                intro k hk
                rw [listed_set hltl] at hk
                split at hk
                · cases hk
                · rename_i hne; exact ⟨hk, hne⟩
              have eapp : E ++ (S ++ [(i, .n)]) ++ l = E ++ S ++ (i, Md.n) :: l := by simp
              have hinv : Inv P n ops ds Hc Hq (listed.setIfInBounds i true) (a.put o.dst v) (va.put o.dst v) E (S ++ [(i, .n)]) l V (putL o.dst v L) (Hn ++ Hw) := by
                refine ⟨by simp [hi.size], by rw [eapp]; exact hi.inb, by rw [eapp]; exact hi.all, by rw [eapp]; exact hi.nd, fun x hx => ?_, hdown, hi.env.putO v hdst, by rw [put_defs, put_defs]; exact hi.defs, by rw [put_size, put_size]; exact hi.tsz, fun s hs => ?_, fun x hx hl => ?_, hi.kept.new Hn, fun x hx => ?_⟩
                · rw [listed_set hltl]
                  have hnd := hi.nd
                  rw [List.map_append, List.nodup_append] at hnd
                  have h2 := hnd.2.1
                  simp only [List.map_cons, List.nodup_cons] at h2
                  have : x.1 ≠ i := fun h => h2.1 (by rw [← h]; exact List.mem_map_of_mem hx)
                  rw [if_neg this]; exact hi.lun x (.tail _ hx)
                · by_cases hd : o.dst = some s
                  · rw [hd]
                    by_cases hsz : s < a.tmps.size
                    · rw [put_self hsz, put_self (by rw [← hi.tsz]; exact hsz)]
                    · have h1 : ¬ s < (a.put (some s) v).tmps.size := by rw [put_size]; exact hsz
                      have h2 : ¬ s < (va.put (some s) v).tmps.size := by rw [put_size, ← hi.tsz]; exact hsz
                      rw [Array.getElem?_eq_none (Nat.le_of_not_lt h1), Array.getElem?_eq_none (Nat.le_of_not_lt h2)]
                  · rw [put_other hd, put_other hd]
                    refine hi.agree s fun x hx hl ox hox => ?_
                    have hne : x.1 ≠ i := by
                      intro h
                      have hnd := hi.nd
                      rw [List.map_append, List.nodup_append] at hnd
                      exact hnd.2.2 x.1 (List.mem_map_of_mem hx) i (by simp) h
                    exact hs x (by simp at hx ⊢; rcases hx with h | h <;> simp [h]) (by rw [listed_set hltl, if_neg hne]; exact hl) ox hox
                · obtain ⟨hl1, hne⟩ := hsub x.1 hl
                  have hx' : x ∈ E ++ S := by
                    simp at hx
                    rcases hx with h | h | h
                    · simp [h]
                    · simp [h]
                    · rw [h] at hne; exact absurd rfl hne
                  obtain ⟨o', ho', hd, hv, hmode⟩ := hi.pend x hx' hl1
                  obtain ⟨p1, p2, _⟩ := pairOk_spec (hpair x hx' hl1) ho' ho
                  refine ⟨o', ho', hd, fun s hs => by rw [put_other fun hd => p2 s hd hs]; exact hv s hs, ?_⟩
                  rcases hmode with ⟨hb, Hb, Hr, hbe, hq⟩ | ⟨hb, A, hA, hq⟩ | ⟨ha, hs, hq⟩
                  · exact .inl ⟨hb, Hb, Hr, hbe, hq.sub fun s hs => put_other fun hd => p1 s hd hs⟩
                  · exact .inr (.inl ⟨hb, A, hA, hq.sub fun s hs => put_other fun hd => p1 s hd hs⟩)
                  · refine .inr (.inr ⟨ha, by simp [hs], ?_⟩)
                    have hfr : QAt P n ops o' va (Hn ++ (Hw ++ Hq)) (V x.1) := by
                      intro Γ' F' a' w'' ha' hh''
                      have hsp : Eqv (Hn ++ (Hw ++ Hq)) ((Hw ++ Hq) ++ Hn) := .comm _ _
                      rcases hq Γ' (star F' (sep Hn)) a' w'' ha' (hh''.inn fun x hx => (hsp x).1 hx) with h | ⟨h1, h2, w3, h3, h4⟩
                      · exact .inl h
                      · exact .inr ⟨h1, h2, w3, h3, h4.out.eqv hsp.symm⟩
                    rw [← List.append_assoc] at hfr
                    exact hfr.sub fun s hs => put_other fun hd => p1 s hd hs
                · rcases List.mem_append.1 hx with h | h
                  · exact hi.quiet x h
                  · simp only [List.mem_singleton] at h; subst h; simp
              obtain ⟨S', l', va', V', L'', Hc2, Hq2, Hw2, e', hi2, hr2, heq2, hh2⟩ := rd_pull hpi hord hsel l (S ++ [(i, .n)]) (va.put o.dst v) V (putL o.dst v L) Hc Hq (Hn ++ Hw) (by rw [e]; simp) hinv hrd
              rw [← List.append_assoc] at hh'
              exact ih _ _ va' w' E S' l' V' L'' Hc2 Hq2 Hw2 e' hi2 (hh'.eqv heq2) hr2 hh2 hcnt
            rcases hcase with ⟨hwn, hrd⟩ | ⟨hwn, hstep⟩
            · rw [looks_wanted hlook, wants_ok hi.env hwn]
              simp only [Bool.false_eq_true, if_false]
              exact ⟨fun _ _ => trivial, next undef w [] (by simpa using hh) (by simpa using hrd)⟩
            · rw [looks_wanted hlook, wants_ok hi.env hwn]
              simp only [if_true]
              obtain ⟨v, w', Hn, hrun, hh', hrd⟩ := hstep Γ F va w (Hw ++ Hq) hi.env hh
              refine ⟨fun _ _ => trivial, ?_⟩
              rw [Oper.semAt_eq _ _ _ hdf, looks_run hsel' hlook, hrun]
              exact next v w' Hn hh' hrd

theorem nodup_len : ∀ (m : Nat) (l : List Nat), l.Nodup → (∀ x ∈ l, x < m) → l.length ≤ m
  | 0, l, _, h => by
    cases l with
    | nil => exact Nat.le_refl _
    | cons x l => exact absurd (h x (.head _)) (Nat.not_lt_zero _)
  | m + 1, l, hn, h => by
    have h1 := nodup_len m (l.erase m) (hn.erase m) fun x hx => by
      have h2 := (hn.mem_erase_iff).1 hx
      have := h x h2.2
      omega
    have h3 : l.length ≤ (l.erase m).length + 1 := by
      rw [List.length_erase]; split <;> omega
    omega
theorem nodup_all {m : Nat} {l : List Nat} (hn : l.Nodup) (h : ∀ x ∈ l, x < m) (hl : m ≤ l.length) (i : Nat) (hi : i < m) : i ∈ l := by
  by_cases hm : i ∈ l
  · exact hm
  · have := nodup_len m (i :: l) (List.nodup_cons.2 ⟨hm, hn⟩) fun x hx => by
      cases hx with
      | head => exact hi
      | tail _ hx => exact h x hx
    simp only [List.length_cons] at this
    omega
/-- **A REGION THAT DRAWS ITS ORDER**: one derivation along one chosen order. -/
theorem Go.draw {id : Nat} {L : Lo} {H : List SP} (pi : List (Nat × Md)) (hok : regionOk ops pi = true) (hsel : Region.noSelect ops = true) (hmix : P.follows .mixedOrders = true) {Hw Hq : List SP} (s : Split H Hw Hq)
    (h : RD P ro n ops ds Hq K pi L Hw) : Go P ro n (.region id ops true) ds L H K := by
  intro Γ F a w Q he hh hq
  simp only [regionOk, Bool.and_eq_true, beq_iff_eq] at hok
  obtain ⟨⟨h1, h2⟩, h3⟩ := hok
  refine wpIn_region_any hmix ?_
  have hpp := predsOk_spec h1
  have hinb : ∀ x ∈ pi, x.1 < ops.size := by
    intro x hx
    obtain ⟨l1, l2, el⟩ := List.append_of_mem hx
    obtain ⟨o, ho, _⟩ := hpp.2.2 l1 x l2 el
    exact (Array.getElem?_eq_some_iff.1 ho).1
  have hrep : ∀ k, k < ops.size → (Array.replicate ops.size false).getD k true = false := by
    intro k hk; simp [Array.getD_eq_getD_getElem?, hk]
  have hall : ∀ i, i < ops.size → ∃ m, (i, m) ∈ pi := by
    intro i hi
    have this := nodup_all hpp.2.1 (fun j hj => by
      obtain ⟨x, hx, ex⟩ := List.mem_map.1 hj
      rw [← ex]; exact hinb x hx) (by simp [h3]) i hi
    obtain ⟨x, hx, ex⟩ := List.mem_map.1 this
    exact ⟨x.2, by rw [← ex]; exact hx⟩
  have hinv : Inv P n ops ds [] Hq (Array.replicate ops.size false) a a [] [] pi (fun _ => undef) L Hw := by
    refine ⟨by simp, by simpa using fun x y hx => hinb (x, y) hx, by simpa using hall, by simpa using hpp.2.1, fun x hx => hrep _ (hinb x hx), fun k o hk hl => ?_, he, rfl, rfl, fun s _ => rfl, fun x hx => (by cases hx), Kept.nil, fun x hx => (by cases hx)⟩
    rw [hrep k (Array.getElem?_eq_some_iff.1 hk).1] at hl; cases hl
  obtain ⟨S', l', va', V', L'', Hc2, Hq2, Hw2, e', hi2, hr2, heq2, hh2⟩ := rd_pull h1 h2 hsel pi [] a (fun _ => undef) L [] Hq Hw (by simp) hinv h
  refine rd_sound h1 h2 hsel hq ops.size _ a va' _ [] S' l' V' L'' Hc2 Hq2 Hw2 e' hi2 (((hh.weaken fun x hx => s x hx).drew _).eqv heq2) hr2 hh2 ?_
  have : ∀ (f : Nat → Bool) (l : List Nat), cnt f l ≤ l.length := by
    intro f l
    induction l with
    | nil => exact Nat.le_refl _
    | cons x l ih => simp only [cnt, List.length_cons]; split <;> omega
  have h4 := this (fun i => !(Array.replicate ops.size false).getD i true) (List.range ops.size)
  simpa using h4
end
end Go.Z
