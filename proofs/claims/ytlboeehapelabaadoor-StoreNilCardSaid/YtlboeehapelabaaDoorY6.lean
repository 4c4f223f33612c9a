/- Quiet operations: soundness. -/
import Derived.Test.YtlboeehapelabaaDoorY5
set_option linter.unusedVariables false
set_option linter.unusedSimpArgs false
namespace Go.Y
open Go.Z
noncomputable section
theorem blt_tt {a b : Nat} (h : Nat.blt a b = true) : a < b := by simpa [Nat.blt_eq] using h
theorem blt_ff {a b : Nat} (h : Nat.blt a b = false) : ¬ a < b := fun h' => by
  have : Nat.blt a b = true := by simpa [Nat.blt_eq] using h'
  rw [h] at this; cases this
/-- The real operation yields what the virtual one says, whatever holds the pieces of memory that it looks at. -/
def QOk (P : Program) (n : Nat) (ops : Array Oper) (o : Oper) (ds : List Deferred) (L : Lo) (ρ : Rho) (W : RW) (v : V) (rd : List Nat) : Prop :=
  ∃ u, R ρ v u ∧ ∀ H, (∀ id ∈ rd, ∃ b ob H', W id = some (b, ob) ∧ Pick H (pt b ob) H') → QStep P n ops o ds L H u
section
variable {P : Program} {n : Nat} {ops : Array Oper} {ds : List Deferred} {L : Lo} {ρ : Rho} {W : RW} {G : GV} {env : Tr V} {hp : Mem}
  {d : Nat} {T T' X Y : TypeId} {p : String} {es : Array Edge} {g : Option (Nat × Bool)} {op : Op} {v : V} {u : Value} {x y z : Operand}
theorem QOk.pure (hv : R ρ v u) (h : ∀ H, QStep P n ops ⟨some d, op, T, p, es, g⟩ ds L H u) : QOk P n ops ⟨some d, op, T, p, es, g⟩ ds L ρ W v [] := ⟨u, hv, fun H _ => h H⟩
theorem QOk.run (hw : wants ops L ⟨some d, op, T, p, es, g⟩ = some true) (ht : Nat.blt d n = true) (hd : ∀ c, op ≠ .defer c) (hv : R ρ v u)
    (h : ∀ a w, Env a n ds L → (execOp a.eval ⟨some d, op, T, p, es, g⟩).run P w = .ok (.value u) w) : QOk P n ops ⟨some d, op, T, p, es, g⟩ ds L ρ W v [] :=
  QOk.pure hv fun H => qpure hw ht hd h
theorem pr_ok {x : Option V} {v : V} {rd : List Nat} (h : pr x = some (v, rd)) : x = some v ∧ rd = [] := by
  unfold pr at h; split at h <;> cases h; exact ⟨rfl, rfl⟩
theorem natOf_ok {v : V} {m : Nat} {u : Value} (h : natOf v = some m) (hv : R ρ v u) : ∃ k, u = .int k (m : Int) := by
  unfold natOf at h
  split at h
  · cases h; cases hv; exact ⟨_, rfl⟩
  · cases h
theorem evN_ok (hG : GOk ρ G) (hE : RE ρ env L) {m : Nat} (h : evN G env x = some m) : ∃ k, evalL L x = some (.int k (m : Int)) := by
  unfold evN at h
  split at h
  · rename_i v hv
    obtain ⟨u, h1, h2⟩ := evO_ok hG hE hv
    obtain ⟨k, rfl⟩ := natOf_ok h h2
    exact ⟨k, h1⟩
  · cases h
theorem qNil_ok (hw : wants ops L ⟨some d, .nilCheck x, T, p, es, g⟩ = some true) (ht : Nat.blt d n = true) {a : V} (hx : evalL L x = some u) (hu : R ρ a u) (h : qNil a = some v) :
    QOk P n ops ⟨some d, .nilCheck x, T, p, es, g⟩ ds L ρ W v [] := by
  unfold qNil at h
  split at h
  · cases h; have hu' := hu; obtain ⟨b, c, _, rfl⟩ := hu
    exact .run hw ht (by simp) hu' fun a w he => by simp [execOp, he.eval hx]
  · cases h; have hu' := hu; obtain ⟨a', b', _, _, rfl⟩ := hu
    exact .run hw ht (by simp) hu' fun a w he => by simp [execOp, he.eval hx]
  · cases h; have hu' := hu; obtain ⟨b, c, _, rfl⟩ := hu
    exact .run hw ht (by simp) hu' fun a w he => by simp [execOp, he.eval hx]
  · cases h; have hu' := hu; obtain ⟨u', _, rfl⟩ := hu
    exact .run hw ht (by simp) hu' fun a w he => by simp [execOp, he.eval hx]
  · cases h
theorem qField_ok {s f : Nat} (hw : wants ops L ⟨some d, .field s x f, T, p, es, g⟩ = some true) (ht : Nat.blt d n = true) {l : List V} (hx : evalL L x = some u) (hu : R ρ (.agg l) u) (h : qField P s f l = some v) :
    QOk P n ops ⟨some d, .field s x f, T, p, es, g⟩ ds L ρ W v [] := by
  unfold qField at h
  split at h
  · rename_i o ft hf
    obtain ⟨l', hl, rfl⟩ := hu
    obtain ⟨u, h1, h2⟩ := partV_ok h hl
    refine .run hw ht (by simp) h1 fun a w he => ?_
    unfold fieldOff2 at hf
    split at hf
    · rename_i fs hus
      split at hf
      · rename_i fl hfl
        cases hf
        simp [execOp, he.eval hx, Instr.field, underlying, hus, hfl, asAgg, h2]
      · cases hf
    · cases hf
  · cases h
theorem qIndexAddr_ok (hw : wants ops L ⟨some d, .indexAddr T' x y, T, p, es, g⟩ = some true) (ht : Nat.blt d n = true) {a : V} {j : Nat} {kk : IntKind} (hx : evalL L x = some u) (hu : R ρ a u) (hy : evalL L y = some (.int kk j)) (h : qIndexAddr P T' a j = some v) :
    QOk P n ops ⟨some d, .indexAddr T' x y, T, p, es, g⟩ ds L ρ W v [] := by
  unfold qIndexAddr at h
  split at h
  · split at h
    · rename_i e hT
      split at h
      · rename_i k hk
        split at h
        · rename_i hj
          cases h
          have hj := blt_tt hj
          obtain ⟨b, c, hr, rfl, _⟩ := hu
          exact .pure ⟨b, c, hr, rfl⟩ fun H => by
            have := q_indexAddr_sl (P := P) (H := H) (T := T) (p := p) (es := es) (g := g) (ds := ds) hT hk hx hy (by omega) (by omega) hw ht
            simpa using this
        · cases h
      · cases h
    · cases h
  · split at h
    · rename_i m e hT
      split at h
      · rename_i k hk
        split at h
        · rename_i hj
          cases h
          have hj := blt_tt hj
          obtain ⟨b, c, hr, rfl⟩ := hu
          exact .pure ⟨b, c, hr, rfl⟩ fun H => by
            have := q_indexAddr_ar (P := P) (H := H) (T := T) (p := p) (es := es) (g := g) (ds := ds) hT hk hx hy (by omega) (by omega) hw ht
            simpa using this
        · cases h
      · cases h
    · cases h
  · cases h
theorem qIndex_ok (hw : wants ops L ⟨some d, .index T' x y, T, p, es, g⟩ = some true) (ht : Nat.blt d n = true) {a : V} {j : Nat} {kk : IntKind} (hx : evalL L x = some u) (hu : R ρ a u) (hy : evalL L y = some (.int kk j)) (h : qIndex P T' a j = some v) :
    QOk P n ops ⟨some d, .index T' x y, T, p, es, g⟩ ds L ρ W v [] := by
  unfold qIndex at h
  split at h
  · split at h
    · rename_i hT
      split at h
      · rename_i c hc
        rw [nth_eq] at hc
        cases h
        cases hu
        exact .pure rfl fun H => by
          have := q_index_s (P := P) (H := H) (T := T) (p := p) (es := es) (g := g) (ds := ds) hT hx hy (by omega) (by simpa using hc) hw ht
          exact this
      · cases h
    · cases h
  · split at h
    · rename_i m e hT
      split at h
      · rename_i k hk
        split at h
        · rename_i hj
          have hj := blt_tt hj
          obtain ⟨l', hl, rfl⟩ := hu
          obtain ⟨u, h1, h2⟩ := partV_ok h hl
          refine .run hw ht (by simp) h1 fun a w he => ?_
          have h3 : (0 : Int) ≤ (j : Int) ∧ (j : Int) < (m : Int) := by omega
          simp [execOp, Instr.index, he.eval hx, he.eval hy, asIntOf, underlying, hT, h3, sizeOf_run w hk, h2, hj]
        · cases h
      · cases h
    · cases h
  · cases h
theorem qSliceStr_ok {lo hi : Option Operand} {i j : Option Nat} {l : List UInt8} (hT : P.underlying T' = some .string) (hw : wants ops L ⟨some d, .slice T' x lo hi none, T, p, es, g⟩ = some true) (ht : Nat.blt d n = true) (hx : evalL L x = some (.string (bs l)))
    (hlo : (lo = none ∧ i = none) ∨ ∃ o m k, lo = some o ∧ i = some m ∧ evalL L o = some (.int k (m : Int))) (hhi : (hi = none ∧ j = none) ∨ ∃ o m k, hi = some o ∧ j = some m ∧ evalL L o = some (.int k (m : Int))) (h : qSliceStr l i j = some v) :
    QOk P n ops ⟨some d, .slice T' x lo hi none, T, p, es, g⟩ ds L ρ W v [] := by
  unfold qSliceStr at h
  rcases hlo with ⟨rfl, rfl⟩ | ⟨ol, ml, kl, rfl, rfl, hl⟩ <;> rcases hhi with ⟨rfl, rfl⟩ | ⟨oh, mh, kh, rfl, rfl, hh⟩
  · cases h
  · dsimp only at h
    split at h
    · rename_i hj
      cases h
      have hj := Nat.le_of_ble_eq_true hj
      exact .pure rfl fun H => by
        have := q_slice_str_h (P := P) (H := H) (T := T) (p := p) (es := es) (g := g) (ds := ds) hT hx hh (by omega) (by omega) hw ht
        simpa using this
    · cases h
  · dsimp only at h
    split at h
    · rename_i hj
      cases h
      have hj := Nat.le_of_ble_eq_true hj
      exact .pure rfl fun H => by
        have := q_slice_str_l (P := P) (H := H) (T := T) (p := p) (es := es) (g := g) (ds := ds) hT hx hl (by omega) (by omega) hw ht
        simpa using this
    · cases h
  · dsimp only at h
    split at h
    · rename_i hi' hj
      cases h
      have hj := Nat.le_of_ble_eq_true hj
      have hi' := Nat.le_of_ble_eq_true hi'
      exact .pure rfl fun H => by
        have := q_slice_str_lh (P := P) (H := H) (T := T) (p := p) (es := es) (g := g) (ds := ds) hT hx hl hh (by omega) (by omega) (by omega) hw ht
        simpa using this
    · cases h
/-- a slice's value, as the rules want it; cutting it -/
theorem isSl_ok {a : V} (h : isSl a = true) (hu : R ρ a u) : ∃ A len cap, u = .slice A len cap ∧ len ≤ cap ∧ lenV a = some len := by
  unfold isSl at h
  split at h
  · obtain ⟨b, c, _, rfl, hl⟩ := hu; exact ⟨_, _, _, rfl, hl, rfl⟩
  · cases hu; exact ⟨_, _, _, rfl, Nat.le_refl _, rfl⟩
  · obtain ⟨A, c, rfl⟩ := hu; exact ⟨_, _, _, rfl, Nat.zero_le _, rfl⟩
  · cases h
theorem cutV_ok {k i j : Nat} {a : V} {A : Option Addr} {len cap : Nat} (h : cutV k a i j = some v) (hu : R ρ a (.slice A len cap)) : i ≤ j ∧ j ≤ len ∧ len ≤ cap ∧ R ρ v (.slice (cutA A k i cap) (j - i) (cap - i)) := by
  unfold cutV at h
  split at h
  · rename_i id i0 off len' cap'
    split at h
    · rename_i h1 h2
      have h1 := Nat.le_of_ble_eq_true h1
      have h2 := Nat.le_of_ble_eq_true h2
      obtain ⟨b, c, hr, he, hl⟩ := hu
      cases he
      split at h
      · rename_i h3
        have h3 := blt_tt h3
        cases h
        refine ⟨h1, h2, hl, b, c, hr, ?_, ?_⟩
        · have hne : ¬ cap'.getD (c - i0) = i := by omega
          simp only [cutA, hne, if_false, Option.map_some, add_none]
          cases cap' with
          | none => simp; omega
          | some m => simp
        · cases cap' with
          | none => simp at hl ⊢; omega
          | some m => simp at hl ⊢; omega
      · rename_i h3
        cases h
        have h3 := blt_ff h3
        have h0 : j - i = 0 := by omega
        rw [h0]
        exact ⟨h1, h2, hl, _, _, rfl⟩
    · cases h
  · split at h
    · rename_i h1 h2
      cases h
      cases hu
      rw [beq_tt h1, beq_tt h2]
      exact ⟨Nat.le_refl _, Nat.le_refl _, Nat.le_refl _, rfl⟩
    · cases h
  · split at h
    · rename_i h1 h2
      cases h
      obtain ⟨A', c', he⟩ := hu
      cases he
      rw [beq_tt h1, beq_tt h2]
      exact ⟨Nat.le_refl _, Nat.le_refl _, Nat.zero_le _, _, _, rfl⟩
    · cases h
  · cases h
theorem cutA_zero {A : Option Addr} {sz c : Nat} : cutA A sz 0 c = A := by
  unfold cutA
  split
  · rfl
  · cases A <;> simp [Addr.add]
theorem qSliceSl_ok {lo hi : Option Operand} {i j : Option Nat} {a : V} {k e : Nat} (hT : P.underlying T' = some (.slice e)) (hk : sizeP P e = some k) (hs : isSl a = true) (hw : wants ops L ⟨some d, .slice T' x lo hi none, T, p, es, g⟩ = some true) (ht : Nat.blt d n = true) (hx : evalL L x = some u) (hu : R ρ a u)
    (hlo : (lo = none ∧ i = none) ∨ ∃ o m k, lo = some o ∧ i = some m ∧ evalL L o = some (.int k (m : Int))) (hhi : (hi = none ∧ j = none) ∨ ∃ o m k, hi = some o ∧ j = some m ∧ evalL L o = some (.int k (m : Int))) (h : qSliceSl k a i j = some v) :
    QOk P n ops ⟨some d, .slice T' x lo hi none, T, p, es, g⟩ ds L ρ W v [] := by
  obtain ⟨A, len, cap, rfl, hlc, hlen⟩ := isSl_ok hs hu
  unfold qSliceSl at h
  rcases hlo with ⟨rfl, rfl⟩ | ⟨ol, ml, kl, rfl, rfl, hl⟩ <;> rcases hhi with ⟨rfl, rfl⟩ | ⟨oh, mh, kh, rfl, rfl, hh⟩
  · cases h
  · dsimp only at h
    obtain ⟨h1, h2, h3, h4⟩ := cutV_ok h hu
    rw [cutA_zero, Nat.sub_zero, Nat.sub_zero] at h4
    exact .pure h4 fun H => by
      have := q_slice_sl_h (P := P) (H := H) (T := T) (p := p) (es := es) (g := g) (ds := ds) hT hk hx hh (by omega) (by omega) hw ht
      simpa using this
  · dsimp only at h
    rw [hlen] at h
    dsimp only at h
    obtain ⟨h1, h2, h3, h4⟩ := cutV_ok h hu
    exact .pure h4 fun H => by
      have := q_slice_sl_l (P := P) (H := H) (T := T) (p := p) (es := es) (g := g) (ds := ds) hT hk hx hl (by omega) (by omega) hw ht
      simpa using this
  · dsimp only at h
    obtain ⟨h1, h2, h3, h4⟩ := cutV_ok h hu
    exact .pure h4 fun H => by
      have := q_slice_sl_lh (P := P) (H := H) (T := T) (p := p) (es := es) (g := g) (ds := ds) hT hk hx hl hh (by omega) (by omega) (by omega) hw ht
      simpa using this
theorem qSliceAr_ok {lo hi : Option Operand} {i j : Option Nat} {N k e id off : Nat} (hT : P.underlying T' = some (.array N e)) (hk : sizeP P e = some k) (hw : wants ops L ⟨some d, .slice T' x lo hi none, T, p, es, g⟩ = some true) (ht : Nat.blt d n = true) (hx : evalL L x = some u) (hu : R ρ (.ptr id off) u)
    (hlo : (lo = none ∧ i = none) ∨ ∃ o m k, lo = some o ∧ i = some m ∧ evalL L o = some (.int k (m : Int))) (hhi : (hi = none ∧ j = none) ∨ ∃ o m k, hi = some o ∧ j = some m ∧ evalL L o = some (.int k (m : Int))) (h : qSliceAr N k id off i j = some v) :
    QOk P n ops ⟨some d, .slice T' x lo hi none, T, p, es, g⟩ ds L ρ W v [] := by
  obtain ⟨b, c, hr, rfl⟩ := hu
  unfold qSliceAr at h
  rcases hlo with ⟨rfl, rfl⟩ | ⟨ol, ml, kl, rfl, rfl, hl⟩ <;> rcases hhi with ⟨rfl, rfl⟩ | ⟨oh, mh, kh, rfl, rfl, hh⟩
  · cases h
    exact .pure ⟨b, c, hr, rfl, Nat.le_refl _⟩ fun H => q_slice_ar_0 hT hk hx hw ht
  · dsimp only at h
    split at h
    · rename_i h1
      have h1 := Nat.le_of_ble_eq_true h1
      cases h
      exact .pure ⟨b, c, hr, rfl, h1⟩ fun H => by
        have := q_slice_ar_h (P := P) (H := H) (T := T) (p := p) (es := es) (g := g) (ds := ds) hT hk hx hh (by omega) (by omega) hw ht
        simpa using this
    · cases h
  · dsimp only at h
    split at h
    · rename_i h1
      have h1 := blt_tt h1
      cases h
      exact .pure ⟨b, c, hr, rfl, Nat.le_refl _⟩ fun H => by
        have := q_slice_ar_l (P := P) (H := H) (T := T) (p := p) (es := es) (g := g) (ds := ds) hT hk hx hl (by omega) (by omega) hw ht
        simpa using this
    · cases h
  · dsimp only at h
    split at h
    · rename_i h1 h2 h3
      have h1 := Nat.le_of_ble_eq_true h1
      have h2 := Nat.le_of_ble_eq_true h2
      have h3 := blt_tt h3
      cases h
      exact .pure ⟨b, c, hr, rfl, by simp; omega⟩ fun H => by
        have := q_slice_ar_lh (P := P) (H := H) (T := T) (p := p) (es := es) (g := g) (ds := ds) hT hk hx hl hh (by omega) (by omega) (by omega) (by omega) hw ht
        simpa using this
    · cases h
theorem qSlice_ok {lo hi : Option Operand} {i j : Option Nat} {a : V} (hw : wants ops L ⟨some d, .slice T' x lo hi none, T, p, es, g⟩ = some true) (ht : Nat.blt d n = true) (hx : evalL L x = some u) (hu : R ρ a u)
    (hlo : (lo = none ∧ i = none) ∨ ∃ o m k, lo = some o ∧ i = some m ∧ evalL L o = some (.int k (m : Int))) (hhi : (hi = none ∧ j = none) ∨ ∃ o m k, hi = some o ∧ j = some m ∧ evalL L o = some (.int k (m : Int))) (h : qSlice P T' a i j = some v) :
    QOk P n ops ⟨some d, .slice T' x lo hi none, T, p, es, g⟩ ds L ρ W v [] := by
  unfold qSlice at h
  split at h
  · rename_i hT
    split at h
    · cases hu; exact qSliceStr_ok hT hw ht hx hlo hhi h
    · cases h
  · rename_i e hT
    split at h
    · rename_i k hs hk; exact qSliceSl_ok hT hk hs hw ht hx hu hlo hhi h
    · cases h
  · rename_i N e hT
    split at h
    · rename_i id off k hk; exact qSliceAr_ok hT hk hw ht hx hu hlo hhi h
    · cases h
  · cases h
theorem optN_ok (hG : GOk ρ G) (hE : RE ρ env L) {lo : Option Operand} {i : Option Nat} (h : optN G env lo = some i) : (lo = none ∧ i = none) ∨ ∃ o m k, lo = some o ∧ i = some m ∧ evalL L o = some (.int k (m : Int)) := by
  unfold optN at h
  split at h
  · cases h; exact .inl ⟨rfl, rfl⟩
  · split at h
    · rename_i m hm; cases h; obtain ⟨k, hk⟩ := evN_ok hG hE hm; exact .inr ⟨_, m, k, rfl, rfl, hk⟩
    · cases h
end
end
end Go.Y
