/- The rules for single operations. -/
import Derived.Test.YtlboeehapelabaaDoorZ2
import Derived.WideLaws
set_option linter.unusedVariables false
namespace Go.Z
section
variable {P : Program} {ro : Option Nat} {n : Nat} {ops : Array Oper} {r : List Oper} {ds : List Deferred} {L : Lo} {H : List SP} {K : Kont}
  {T : TypeId} {p : String} {es : Array Edge} {g : Option (Nat × Bool)} {d : Nat}

/-! ### How a quiet operation is taken -/
theorem Ops.v {o : Op} {v : Value} (h : QStep P n ops ⟨some d, o, T, p, es, g⟩ ds L H v) (k : Ops P ro n ops r ds ((d, v) :: L) H K) : Ops P ro n ops (⟨some d, o, T, p, es, g⟩ :: r) ds L H K := Ops.q h k
theorem RD.a {i : Nat} {l : List (Nat × Md)} {Hq Hw : List SP} {o : Op} {v : Value} (ho : ops[i]? = some ⟨some d, o, T, p, es, g⟩) (h : QStep P n ops ⟨some d, o, T, p, es, g⟩ ds L (Hw ++ Hq) v)
    (k : RD P ro n ops ds Hq K l ((d, v) :: L) Hw) : RD P ro n ops ds Hq K ((i, .a) :: l) L Hw := ⟨_, v, ho, h, k⟩
theorem RD.b {i : Nat} {l : List (Nat × Md)} {Hq Hw : List SP} {o : Op} {v : Value} (ho : ops[i]? = some ⟨some d, o, T, p, es, g⟩) (h : QStep P n ops ⟨some d, o, T, p, es, g⟩ ds L Hq v)
    (k : RD P ro n ops ds Hq K l ((d, v) :: L) Hw) : RD P ro n ops ds Hq K ((i, .b) :: l) L Hw := ⟨_, v, [], Hw, ho, .refl _, h, Kept.nil, k⟩
theorem Ops.mono {l : List Oper} {K' : Kont} (h : Ops P ro n ops l ds L H K) (hk : ∀ e ds L H, K e ds L H → K' e ds L H) : Ops P ro n ops l ds L H K' :=
  fun Γ F a w Q he hh hq => h Γ F a w Q he hh fun e ds L H a w k => hq e ds L H a w (hk _ _ _ _ k)
theorem RD.w {i : Nat} {l : List (Nat × Md)} {Hq Hw : List SP} {o : Oper} (ho : ops[i]? = some o) (hd : ∀ c, o.op ≠ .defer c) (h : Ops P ro n ops [o] ds L Hw (Kw ds Hq K fun L' Hw' => RD P ro n ops ds Hq K l L' Hw')) : RD P ro n ops ds Hq K ((i, .w) :: l) L Hw := ⟨o, ho, hd, Ops.mono h fun e ds' L' H' hk => by
    cases e with
    | normal => exact ⟨hk.1, Kept.nil, hk.2⟩
    | _ => exact hk⟩
theorem RDc.sub {l : List (Nat × Md)} {Hc Hq Hw : List SP} {L' : Lo} : ∀ {L : Lo} (s : Sub L L') (h : RDc P ro n ops ds Hc Hq K l L' Hw), RDc P ro n ops ds Hc Hq K l L Hw := by
  induction l generalizing L' Hw Hq Hc with
  | nil => intro L s h; obtain ⟨L2, s2, h⟩ := h; exact ⟨L2, s.trans s2, h⟩
  | cons x l ih =>
    intro L s h
    obtain ⟨i, m⟩ := x
    have wsub : ∀ o b, wants ops L' o = some b → wants ops L o = some b := by
      intro o b hw
      unfold wants at hw ⊢
      cases hg : o.guard with
      | none => simpa [hg] using hw
      | some g =>
        obtain ⟨j, c⟩ := g
        simp only [hg] at hw ⊢
        cases ht : (ops[j]?).bind (·.dst) with
        | none => simp [ht] at hw
        | some t =>
          simp only [ht] at hw ⊢
          cases hl : lk L' t with
          | none => simp [hl] at hw
          | some v => rw [s t v hl]; rw [hl] at hw; exact hw
    have qsub : ∀ o H v, QStep P n ops o ds L' H v → QStep P n ops o ds L H v := by
      rintro o H v ⟨ht, ⟨hw, hv⟩ | ⟨hw, hd, hr⟩⟩
      · exact ⟨ht, .inl ⟨wsub _ _ hw, hv⟩⟩
      · exact ⟨ht, .inr ⟨wsub _ _ hw, hd, fun Γ F a w he hh => hr Γ F a w (he.sub s) hh⟩⟩
    have psub : ∀ dd v, Sub (putL dd v L) (putL dd v L') := by
      intro dd v t u hl
      cases dd with
      | none => exact s t u hl
      | some t' =>
        simp only [putL, lk] at hl ⊢
        split
        · rename_i hb; rw [if_pos hb] at hl; exact hl
        · rename_i hb; rw [if_neg hb] at hl; exact s t u hl
    cases m with
    | a => obtain ⟨o, v, ho, hq, hr⟩ := h; exact ⟨o, v, ho, qsub _ _ _ hq, ih (psub _ _) hr⟩
    | b => obtain ⟨o, v, Hn, Hw', ho, he, hq, hk, hr⟩ := h; exact ⟨o, v, Hn, Hw', ho, he, qsub _ _ _ hq, hk, ih (psub _ _) hr⟩
    | c => obtain ⟨o, v, A, Hr, ho, he, hq, hr⟩ := h; exact ⟨o, v, A, Hr, ho, he, qsub _ _ _ hq, ih (psub _ _) hr⟩
    | w => obtain ⟨o, ho, hd, hr⟩ := h; exact ⟨o, ho, hd, Ops.sub hr s⟩
    | n =>
      obtain ⟨o, ho, hd, hdst, hc⟩ := h
      refine ⟨o, ho, hd, hdst, ?_⟩
      rcases hc with ⟨hw, hr⟩ | ⟨hw, hr⟩
      · exact .inl ⟨wsub _ _ hw, ih (psub _ _) hr⟩
      · refine .inr ⟨wsub _ _ hw, fun Γ F a w H he hh => ?_⟩
        obtain ⟨v, w', Hn, h1, h2, h3⟩ := hr Γ F a w H (he.sub s) hh
        exact ⟨v, w', Hn, h1, h2, ih (psub _ _) h3⟩
theorem RD.sub {l : List (Nat × Md)} {Hq Hw : List SP} {L L' : Lo} (s : Sub L L') (h : RD P ro n ops ds Hq K l L' Hw) : RD P ro n ops ds Hq K l L Hw := RDc.sub s h

/-! ### Building quiet steps -/
theorem qmk {o : Op} {v : Value} (hw : wants ops L ⟨some d, o, T, p, es, g⟩ = some true) (ht : Nat.blt d n = true) (hd : ∀ c, o ≠ .defer c)
    (h : ∀ Γ F a w, Env a n ds L → Hold Γ H F w → ∃ w', (execOp a.eval ⟨some d, o, T, p, es, g⟩).run P w = .ok (.value v) w' ∧ Hold Γ H F w') : QStep P n ops ⟨some d, o, T, p, es, g⟩ ds L H v :=
  ⟨ht, .inr ⟨hw, hd, h⟩⟩
theorem qpure {o : Op} {v : Value} (hw : wants ops L ⟨some d, o, T, p, es, g⟩ = some true) (ht : Nat.blt d n = true) (hd : ∀ c, o ≠ .defer c)
    (h : ∀ a w, Env a n ds L → (execOp a.eval ⟨some d, o, T, p, es, g⟩).run P w = .ok (.value v) w) : QStep P n ops ⟨some d, o, T, p, es, g⟩ ds L H v :=
  qmk hw ht hd fun Γ F a w he hh => ⟨w, h a w he, hh⟩
theorem q_off {o : Op} (hw : wants ops L ⟨some d, o, T, p, es, g⟩ = some false) (ht : Nat.blt d n = true) : QStep P n ops ⟨some d, o, T, p, es, g⟩ ds L H undef := ⟨ht, .inl ⟨hw, rfl⟩⟩

variable {x y z : Operand} {v u : Value}
theorem q_move (hx : evalL L x = some v) (hw : wants ops L ⟨some d, .move x, T, p, es, g⟩ = some true) (ht : Nat.blt d n = true) : QStep P n ops ⟨some d, .move x, T, p, es, g⟩ ds L H v :=
  qpure hw ht (by simp) fun a w he => by simp [execOp, he.eval hx]
theorem q_assign (hx : evalL L x = some v) (hw : wants ops L ⟨some d, .assign x, T, p, es, g⟩ = some true) (ht : Nat.blt d n = true) : QStep P n ops ⟨some d, .assign x, T, p, es, g⟩ ds L H v :=
  qpure hw ht (by simp) fun a w he => by simp [execOp, he.eval hx]
theorem q_pick_t (hc : evalL L z = some (.bool true)) (hx : evalL L x = some v) (hw : wants ops L ⟨some d, .pick z x y, T, p, es, g⟩ = some true) (ht : Nat.blt d n = true) : QStep P n ops ⟨some d, .pick z x y, T, p, es, g⟩ ds L H v :=
  qpure hw ht (by simp) fun a w he => by simp [execOp, asBool, he.eval hc, he.eval hx]
theorem q_pick_f (hc : evalL L z = some (.bool false)) (hy : evalL L y = some v) (hw : wants ops L ⟨some d, .pick z x y, T, p, es, g⟩ = some true) (ht : Nat.blt d n = true) : QStep P n ops ⟨some d, .pick z x y, T, p, es, g⟩ ds L H v :=
  qpure hw ht (by simp) fun a w he => by simp [execOp, asBool, he.eval hc, he.eval hy]
theorem q_extract {vs : Array Value} {i : Nat} (hx : evalL L x = some (.tuple vs)) (hv : vs[i]? = some v) (hw : wants ops L ⟨some d, .extract x i, T, p, es, g⟩ = some true) (ht : Nat.blt d n = true) : QStep P n ops ⟨some d, .extract x i, T, p, es, g⟩ ds L H v :=
  qpure hw ht (by simp) fun a w he => by simp [execOp, Instr.extract, he.eval hx, hv]
theorem q_nil {b : Addr} (hx : evalL L x = some (.pointer (some b))) (hw : wants ops L ⟨some d, .nilCheck x, T, p, es, g⟩ = some true) (ht : Nat.blt d n = true) : QStep P n ops ⟨some d, .nilCheck x, T, p, es, g⟩ ds L H (.pointer (some b)) :=
  qpure hw ht (by simp) fun a w he => by simp [execOp, he.eval hx]
theorem q_not {b : Bool} {T' : TypeId} (hx : evalL L x = some (.bool b)) (hw : wants ops L ⟨some d, .unOp .not T' x, T, p, es, g⟩ = some true) (ht : Nat.blt d n = true) : QStep P n ops ⟨some d, .unOp .not T' x, T, p, es, g⟩ ds L H (.bool (!b)) :=
  qpure hw ht (by simp) fun a w he => by simp [execOp, Op.unary, he.eval hx]
theorem q_not_t {T' : TypeId} (hx : evalL L x = some (.bool true)) (hw : wants ops L ⟨some d, .unOp .not T' x, T, p, es, g⟩ = some true) (ht : Nat.blt d n = true) : QStep P n ops ⟨some d, .unOp .not T' x, T, p, es, g⟩ ds L H (.bool false) :=
  q_not hx hw ht
theorem q_not_f {T' : TypeId} (hx : evalL L x = some (.bool false)) (hw : wants ops L ⟨some d, .unOp .not T' x, T, p, es, g⟩ = some true) (ht : Nat.blt d n = true) : QStep P n ops ⟨some d, .unOp .not T' x, T, p, es, g⟩ ds L H (.bool true) :=
  q_not hx hw ht

/-! ### Whole numbers -/
variable {X Y : TypeId} {k : IntKind} {a b : Int}
def inK (k : IntKind) (n : Int) : Prop := k.min ≤ n ∧ n ≤ k.max
theorem wrap_in {k : IntKind} {n : Int} (h : inK k n) : k.wrap n = n := by
  unfold inK IntKind.min IntKind.max at h
  unfold IntKind.wrap
  cases k <;> simp [IntKind.signed, IntKind.bits] at h ⊢ <;> omega
theorem q_bin_int {bo : BinOp} {v : Value} (hx : evalL L x = some (.int k a)) (hy : evalL L y = some (.int k b))
    (hr : ∀ w, (binOp bo X (.int k a) (.int k b)).run P w = .ok v w) (hw : wants ops L ⟨some d, .binOp bo X x y Y, T, p, es, g⟩ = some true) (ht : Nat.blt d n = true) : QStep P n ops ⟨some d, .binOp bo X x y Y, T, p, es, g⟩ ds L H v :=
  qpure hw ht (by simp) fun A w he => by
    have hg : (eqGuard bo X x y (.int k a) (.int k b)).run P w = .ok () w := by
      unfold eqGuard
      cases bo <;> simp
    simp only [execOp, he.eval hx, he.eval hy, Sem.run_bind, hg, Result.andThen_ok, hr, Sem.run_pure]
theorem q_add (hx : evalL L x = some (.int k a)) (hy : evalL L y = some (.int k b)) (hb : inK k (a + b)) (hw : wants ops L ⟨some d, .binOp .add X x y Y, T, p, es, g⟩ = some true) (ht : Nat.blt d n = true) : QStep P n ops ⟨some d, .binOp .add X x y Y, T, p, es, g⟩ ds L H (.int k (a + b)) :=
  q_bin_int hx hy (fun w => by simp [binOp, Op.intArith, wrap_in hb]) hw ht
theorem q_addw (hx : evalL L x = some (.int k a)) (hy : evalL L y = some (.int k b)) (hw : wants ops L ⟨some d, .binOp .add X x y Y, T, p, es, g⟩ = some true) (ht : Nat.blt d n = true) : QStep P n ops ⟨some d, .binOp .add X x y Y, T, p, es, g⟩ ds L H (.int k (k.wrap (a + b))) :=
  q_bin_int hx hy (fun w => by simp [binOp, Op.intArith]) hw ht
theorem q_sub (hx : evalL L x = some (.int k a)) (hy : evalL L y = some (.int k b)) (hb : inK k (a - b)) (hw : wants ops L ⟨some d, .binOp .sub X x y Y, T, p, es, g⟩ = some true) (ht : Nat.blt d n = true) : QStep P n ops ⟨some d, .binOp .sub X x y Y, T, p, es, g⟩ ds L H (.int k (a - b)) :=
  q_bin_int hx hy (fun w => by simp [binOp, Op.intArith, wrap_in hb]) hw ht
theorem q_mul (hx : evalL L x = some (.int k a)) (hy : evalL L y = some (.int k b)) (hb : inK k (a * b)) (hw : wants ops L ⟨some d, .binOp .mul X x y Y, T, p, es, g⟩ = some true) (ht : Nat.blt d n = true) : QStep P n ops ⟨some d, .binOp .mul X x y Y, T, p, es, g⟩ ds L H (.int k (a * b)) :=
  q_bin_int hx hy (fun w => by simp [binOp, Op.intArith, wrap_in hb]) hw ht
theorem q_quo (hx : evalL L x = some (.int k a)) (hy : evalL L y = some (.int k b)) (h0 : b ≠ 0) (hb : inK k (a.tdiv b)) (hw : wants ops L ⟨some d, .binOp .quo X x y Y, T, p, es, g⟩ = some true) (ht : Nat.blt d n = true) : QStep P n ops ⟨some d, .binOp .quo X x y Y, T, p, es, g⟩ ds L H (.int k (a.tdiv b)) :=
  q_bin_int hx hy (fun w => by simp [binOp, Op.intDiv, h0, wrap_in hb]) hw ht
/-- a quotient, the dividend not negative. -/
theorem q_div (hx : evalL L x = some (.int k a)) (hy : evalL L y = some (.int k b)) (h0 : 0 < b) (ha : 0 ≤ a) (hb : inK k a) (hw : wants ops L ⟨some d, .binOp .quo X x y Y, T, p, es, g⟩ = some true) (ht : Nat.blt d n = true) : QStep P n ops ⟨some d, .binOp .quo X x y Y, T, p, es, g⟩ ds L H (.int k (a / b)) := by
  have e : a.tdiv b = a / b := Int.tdiv_eq_ediv_of_nonneg ha
  have h1 : a / b ≤ a := Int.ediv_le_self b ha
  have h2 : 0 ≤ a / b := Int.ediv_nonneg ha (by omega)
  have h3 : k.min ≤ 0 := by cases k <;> simp [IntKind.min, IntKind.signed, IntKind.bits]
  have := q_quo (P := P) (H := H) (X := X) (Y := Y) (T := T) (p := p) (es := es) (g := g) (ds := ds) hx hy (by omega) (by rw [e]; exact ⟨by omega, by have := hb.2; omega⟩) hw ht
  rwa [e] at this
theorem q_rem (hx : evalL L x = some (.int k a)) (hy : evalL L y = some (.int k b)) (h0 : b ≠ 0) (hw : wants ops L ⟨some d, .binOp .rem X x y Y, T, p, es, g⟩ = some true) (ht : Nat.blt d n = true) : QStep P n ops ⟨some d, .binOp .rem X x y Y, T, p, es, g⟩ ds L H (.int k (a.tmod b)) :=
  q_bin_int hx hy (fun w => by simp [binOp, Op.intDiv, h0]) hw ht
theorem q_mod (hx : evalL L x = some (.int k a)) (hy : evalL L y = some (.int k b)) (h0 : 0 < b) (ha : 0 ≤ a) (hw : wants ops L ⟨some d, .binOp .rem X x y Y, T, p, es, g⟩ = some true) (ht : Nat.blt d n = true) : QStep P n ops ⟨some d, .binOp .rem X x y Y, T, p, es, g⟩ ds L H (.int k (a % b)) := by
  have := q_rem (P := P) (H := H) (X := X) (Y := Y) (T := T) (p := p) (es := es) (g := g) (ds := ds) hx hy (by omega) hw ht
  rwa [Int.tmod_eq_emod_of_nonneg ha] at this
theorem q_lss (hx : evalL L x = some (.int k a)) (hy : evalL L y = some (.int k b)) (hw : wants ops L ⟨some d, .binOp .lss X x y Y, T, p, es, g⟩ = some true) (ht : Nat.blt d n = true) : QStep P n ops ⟨some d, .binOp .lss X x y Y, T, p, es, g⟩ ds L H (.bool (decide (a < b))) :=
  q_bin_int hx hy (fun w => by simp [binOp, Op.intCmp]) hw ht
theorem q_leq (hx : evalL L x = some (.int k a)) (hy : evalL L y = some (.int k b)) (hw : wants ops L ⟨some d, .binOp .leq X x y Y, T, p, es, g⟩ = some true) (ht : Nat.blt d n = true) : QStep P n ops ⟨some d, .binOp .leq X x y Y, T, p, es, g⟩ ds L H (.bool (decide (a ≤ b))) :=
  q_bin_int hx hy (fun w => by simp [binOp, Op.intCmp]) hw ht
theorem q_gtr (hx : evalL L x = some (.int k a)) (hy : evalL L y = some (.int k b)) (hw : wants ops L ⟨some d, .binOp .gtr X x y Y, T, p, es, g⟩ = some true) (ht : Nat.blt d n = true) : QStep P n ops ⟨some d, .binOp .gtr X x y Y, T, p, es, g⟩ ds L H (.bool (decide (b < a))) :=
  q_bin_int hx hy (fun w => by simp [binOp, Op.intCmp]) hw ht
theorem q_geq (hx : evalL L x = some (.int k a)) (hy : evalL L y = some (.int k b)) (hw : wants ops L ⟨some d, .binOp .geq X x y Y, T, p, es, g⟩ = some true) (ht : Nat.blt d n = true) : QStep P n ops ⟨some d, .binOp .geq X x y Y, T, p, es, g⟩ ds L H (.bool (decide (b ≤ a))) :=
  q_bin_int hx hy (fun w => by simp [binOp, Op.intCmp]) hw ht
theorem q_eql (hx : evalL L x = some (.int k a)) (hy : evalL L y = some (.int k b)) (hw : wants ops L ⟨some d, .binOp .eql X x y Y, T, p, es, g⟩ = some true) (ht : Nat.blt d n = true) : QStep P n ops ⟨some d, .binOp .eql X x y Y, T, p, es, g⟩ ds L H (.bool (decide (a = b))) :=
  q_bin_int hx hy (fun w => by simp [binOp, Op.intCmp]; rfl) hw ht
theorem q_neq (hx : evalL L x = some (.int k a)) (hy : evalL L y = some (.int k b)) (hw : wants ops L ⟨some d, .binOp .neq X x y Y, T, p, es, g⟩ = some true) (ht : Nat.blt d n = true) : QStep P n ops ⟨some d, .binOp .neq X x y Y, T, p, es, g⟩ ds L H (.bool (!decide (a = b))) :=
  q_bin_int hx hy (fun w => by simp [binOp, Op.intCmp]; rfl) hw ht
/-- a conversion between whole numbers. -/
theorem q_conv {k' : IntKind} {S D : TypeId} {sd : TypeDesc} (hS : P.underlying S = some sd) (hD : P.underlying D = some (.int k')) (hx : evalL L x = some (.int k a)) (hb : inK k' a) (hw : wants ops L ⟨some d, .convert S D x, T, p, es, g⟩ = some true) (ht : Nat.blt d n = true) : QStep P n ops ⟨some d, .convert S D x, T, p, es, g⟩ ds L H (.int k' a) :=
  qpure hw ht (by simp) fun A w he => by simp [execOp, he.eval hx, convert, underlying, hS, hD, Conv.intToInt, wrap_in hb]
theorem q_convw {k' : IntKind} {S D : TypeId} {sd : TypeDesc} (hS : P.underlying S = some sd) (hD : P.underlying D = some (.int k')) (hx : evalL L x = some (.int k a)) (hw : wants ops L ⟨some d, .convert S D x, T, p, es, g⟩ = some true) (ht : Nat.blt d n = true) : QStep P n ops ⟨some d, .convert S D x, T, p, es, g⟩ ds L H (.int k' (k'.wrap a)) :=
  qpure hw ht (by simp) fun A w he => by simp [execOp, he.eval hx, convert, underlying, hS, hD, Conv.intToInt]
end
end Go.Z
