/- Bits by numerals; slices: cutting, bytes, append, make. -/
import Derived.Test.YtlboeehapelabaaDoorZ5
set_option linter.unusedVariables false
namespace Go.Z
section
variable {P : Program} {ro : Option Nat} {n : Nat} {ops : Array Oper} {r : List Oper} {ds : List Deferred} {L : Lo} {H H' : List SP} {K : Kont}
  {T T' : TypeId} {p : String} {es : Array Edge} {g : Option (Nat × Bool)} {d b off : Nat} {x y z : Operand} {v : Value} {X Y : TypeId} {k k' : IntKind} {a b' m : Int}
theorem q_shlN (N : Int) (hN : (2 : Int) ^ m.toNat = N) (hx : evalL L x = some (.int k a)) (hy : evalL L y = some (.int k' m)) (h0 : (decide (0 ≤ m) && Nat.ble m.toNat k.bits) = true) (hb : inK k (a * N)) (hw : wants ops L ⟨some d, .binOp .shl X x y Y, T, p, es, g⟩ = some true) (ht : Nat.blt d n = true) : QStep P n ops ⟨some d, .binOp .shl X x y Y, T, p, es, g⟩ ds L H (.int k (a * N)) := by
  subst hN
  simp only [Bool.and_eq_true, decide_eq_true_eq] at h0
  exact q_shl hx hy h0.1 (Nat.le_of_ble_eq_true h0.2) hb hw ht
theorem q_shrN (N : Int) (hN : (2 : Int) ^ m.toNat = N) (hx : evalL L x = some (.int k a)) (hy : evalL L y = some (.int k' m)) (h0 : (decide (0 ≤ m) && Nat.ble m.toNat k.bits) = true) (hw : wants ops L ⟨some d, .binOp .shr X x y Y, T, p, es, g⟩ = some true) (ht : Nat.blt d n = true) : QStep P n ops ⟨some d, .binOp .shr X x y Y, T, p, es, g⟩ ds L H (.int k (a / N)) := by
  subst hN
  simp only [Bool.and_eq_true, decide_eq_true_eq] at h0
  exact q_shr hx hy h0.1 (Nat.le_of_ble_eq_true h0.2) hw ht
/-- 'x | y', no bit set in both: 'x' a multiple of N, a power of two, 'y' below it. -/
theorem q_orN (j : Nat) (N : Int) (hN : ((2 ^ j : Nat) : Int) = N) (hx : evalL L x = some (.int k a)) (hy : evalL L y = some (.int k b')) (h0 : 0 ≤ a) (h1 : a % N = 0) (h2 : 0 ≤ b' ∧ b' < N) (h3 : a ≤ k.max) (h4 : b' ≤ k.max) (hw : wants ops L ⟨some d, .binOp .or X x y Y, T, p, es, g⟩ = some true) (ht : Nat.blt d n = true) : QStep P n ops ⟨some d, .binOp .or X x y Y, T, p, es, g⟩ ds L H (.int k (a + b')) := by
  subst hN
  have hq := q_or_nat (P := P) (H := H) (X := X) (Y := Y) (T := T) (p := p) (es := es) (g := g) (ds := ds) hx hy h0 h2.1 h3 h4 hw ht
  obtain ⟨u, rfl⟩ := Int.eq_ofNat_of_zero_le h0
  obtain ⟨w, rfl⟩ := Int.eq_ofNat_of_zero_le h2.1
  have h5 : w < 2 ^ j := by exact_mod_cast h2.2
  have h6 : 2 ^ j ∣ u := by
    have : ((2 ^ j : Nat) : Int) ∣ (u : Int) := Int.dvd_of_emod_eq_zero h1
    exact_mod_cast this
  have := or_add (j := j) (u := (u : Int)) (v := (w : Int)) (by omega) (by simpa using h6) (by omega) (by simpa using h5)
  rw [this] at hq
  simpa using hq
theorem q_indexAddr_sl1 {m c : Nat} {i : Int} {kk : IntKind} {e : TypeId} (hu : P.underlying T' = some (.slice e)) (hk : sizeP P e = some 1) (hx : evalL L x = some (.slice (some ⟨b, off, none⟩) m c)) (hy : evalL L y = some (.int kk i)) (h0 : 0 ≤ i) (h1 : i < m)
    (hw : wants ops L ⟨some d, .indexAddr T' x y, T, p, es, g⟩ = some true) (ht : Nat.blt d n = true) : QStep P n ops ⟨some d, .indexAddr T' x y, T, p, es, g⟩ ds L H (.pointer (some ⟨b, off + i.toNat, none⟩)) := by
  have := q_indexAddr_sl (P := P) (H := H) (T := T) (p := p) (es := es) (g := g) (ds := ds) hu hk hx hy h0 h1 hw ht
  rwa [Nat.mul_one] at this
theorem q_indexAddr_ar1 {m : Nat} {i : Int} {kk : IntKind} {e : TypeId} (hu : P.underlying T' = some (.array m e)) (hk : sizeP P e = some 1) (hx : evalL L x = some (.pointer (some ⟨b, off, none⟩))) (hy : evalL L y = some (.int kk i)) (h0 : 0 ≤ i) (h1 : i < m)
    (hw : wants ops L ⟨some d, .indexAddr T' x y, T, p, es, g⟩ = some true) (ht : Nat.blt d n = true) : QStep P n ops ⟨some d, .indexAddr T' x y, T, p, es, g⟩ ds L H (.pointer (some ⟨b, off + i.toNat, none⟩)) := by
  have := q_indexAddr_ar (P := P) (H := H) (T := T) (p := p) (es := es) (g := g) (ds := ds) hu hk hx hy h0 h1 hw ht
  rwa [Nat.mul_one] at this
theorem lkI {t : Nat} {k : IntKind} {a b : Int} (h : lk L t = some (.int k a)) (e : a = b) : lk L t = some (.int k b) := e ▸ h
theorem lkV {t : Nat} {v u : Value} (h : lk L t = some v) (e : v = u) : lk L t = some u := e ▸ h
theorem i64_le {m : Int} (h : m ≤ 9223372036854775807) : m ≤ IntKind.i64.max := h
theorem u32_le {m : Int} (h : m ≤ 4294967295) : m ≤ IntKind.u32.max := h
end
end Go.Z
