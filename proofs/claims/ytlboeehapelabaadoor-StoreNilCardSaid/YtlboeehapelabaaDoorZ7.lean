/- Slices: what a slice owns, what can be read, append, make, conversions. -/
import Derived.Test.YtlboeehapelabaaDoorZ6
import Derived.Laws.Append
set_option linter.unusedVariables false
set_option linter.unusedSimpArgs false
namespace Go.Z
/-- Not frozen up to 'N'. -/
def FrOk (fr : Nat × Nat) (N : Nat) : Prop := fr.1 ≤ fr.2 ∧ ∀ j, j < N → (fr.1 ≤ j && j < fr.2 : Bool) = false
theorem FrOk.zero {N : Nat} : FrOk (0, 0) N := ⟨Nat.le_refl _, fun j _ => by simp⟩
/-- A slice that nobody else holds: it is nil, or begins a block of its own. -/
def Own (e sz : Nat) (A : Option Addr) (m c : Nat) (cells : List Value) : SP := fun h =>
  (A = none ∧ m = 0 ∧ c = 0 ∧ cells = [] ∧ h = Hp.nil) ∨
  ∃ b junk fr, A = some ⟨b, 0, none⟩ ∧ cells.length = m * sz ∧ (cells ++ junk).length = c * sz ∧ m ≤ c ∧ FrOk fr (c * sz) ∧ blk b (cells ++ junk) e fr h
/-- What a slice's cells read as, wherever they lie. -/
def RdA (C : SP) (A : Option Addr) (cells : List Value) : Prop :=
  ∀ h, C h → cells = [] ∨ ∃ b off l ty fr, A = some ⟨b, off, none⟩ ∧ h b = some (.cells (List.toArray l) ty fr) ∧ (l.drop off).take cells.length = cells
theorem RdA.nil {C : SP} {A : Option Addr} : RdA C A [] := fun _ _ => .inl rfl
theorem RdA.blk {b off : Nat} {l : List Value} {ty : TypeId} {fr : Nat × Nat} {cells : List Value} (h : (l.drop off).take cells.length = cells) : RdA (blk b l ty fr) (some ⟨b, off, none⟩) cells :=
  fun hp e => .inr ⟨b, off, l, ty, fr, rfl, by rw [show hp = _ from e]; simp, h⟩
theorem RdA.own {e' sz m c : Nat} {A : Option Addr} {cells : List Value} : RdA (Own e' sz A m c cells) A cells := by
  rintro h (⟨_, _, _, hc, _⟩ | ⟨b, junk, fr, rfl, _, _, _, _, e⟩)
  · exact .inl hc
  · exact .inr ⟨b, 0, cells ++ junk, e', fr, rfl, by rw [show h = _ from e]; simp, by simp⟩
/-- a part of what can be read. -/
theorem RdA.sub {C : SP} {b off i k : Nat} {cells : List Value} (h : RdA C (some ⟨b, off, none⟩) cells) : RdA C (some ⟨b, off + i, none⟩) ((cells.drop i).take k) := by
  intro hp hc
  rcases h hp hc with h | ⟨b', off', l, ty, fr, e, hb, hl⟩
  · left; simp [h]
  · cases e
    right
    refine ⟨b, off + i, l, ty, fr, rfl, hb, ?_⟩
    rw [← hl]
    apply List.ext_getElem?
    intro j
    simp only [List.getElem?_take, List.getElem?_drop, List.length_take, List.length_drop]
    by_cases h1 : j < k
    · by_cases h2 : i + j < cells.length
      · by_cases h3 : off + (i + j) < l.length
        · simp [h1, h2, show off + i + j = off + (i + j) by omega]
          intro; omega
        · simp [h1, h2, show off + i + j = off + (i + j) by omega]
          intro; omega
      · simp [h1, h2]
        intro h; omega
    · simp [h1]
      intro h; omega

section
variable {P : Program} {Γ w : World} {F : SP} {H H' : List SP} {C : SP} {A : Option Addr} {cells : List Value}
theorem Hold.chunk (hh : Hold Γ H F w) (pk : Pick H C H') : ∃ h1, C h1 ∧ ∀ i o, h1 i = some o → w.heap[i]? = some o := by
  obtain ⟨h1, h2, d, e, a, _⟩ := hh.pick pk
  refine ⟨h1, a, fun i o hi => ?_⟩
  have := congrFun e i
  simp only [hp, Hp.un, hi] at this
  simpa using this
theorem Hold.drop (hh : Hold Γ H F w) (pk : Pick H C H') : Hold Γ H' F w := hh.weaken fun x hx => by
  obtain ⟨h1, h2, d, rfl, _, h⟩ := pk x hx
  exact sep_up H' d h
theorem Hold.rd (hh : Hold Γ H F w) (pk : Pick H C H') (hR : RdA C A cells) (hne : cells ≠ []) : ∃ b off, A = some ⟨b, off, none⟩ ∧ ∀ j, j < cells.length → w.cell? ⟨b, off + j, none⟩ = cells[j]? := by
  obtain ⟨h1, hc, hi⟩ := hh.chunk pk
  rcases hR h1 hc with h | ⟨b, off, l, ty, fr, e, hb, hl⟩
  · exact absurd h hne
  · refine ⟨b, off, e, fun j hj => ?_⟩
    have := hi b _ hb
    simp only [World.cell?, this]
    rw [← hl]
    have h3 : j < (List.take cells.length (List.drop off l)).length := by rw [hl]; exact hj
    simp at h3
    simp [List.getElem?_take, hj]
theorem loadCells_rd {b off : Nat} : ∀ (cells : List Value) (i : Nat) (acc : Array Value), (∀ j, j < cells.length → w.cell? ⟨b, off + (i + j), none⟩ = cells[j]?) →
    (loadCellsFrom ⟨b, off, none⟩ i cells.length acc).run P w = .ok (acc ++ cells.toArray) w := by
  intro cells
  induction cells with
  | nil => intro i acc _; simp [loadCellsFrom]
  | cons v cells ih =>
    intro i acc h
    have h0 := h 0 (by simp)
    simp only [Nat.add_zero, List.getElem?_cons_zero] at h0
    simp only [List.length_cons, loadCellsFrom, add_none, Sem.run_bind, run_load, h0, Result.andThen_ok]
    rw [ih (i + 1) (acc.push v) (fun j hj => by
      have := h (j + 1) (by simp; omega)
      rw [List.getElem?_cons_succ] at this
      rw [show i + 1 + j = i + (j + 1) by omega]; exact this)]
    simp
/-- the cells of a source. -/
theorem firstCells_rd {sz k kc : Nat} (hh : Hold Γ H F w) (pk : Pick H C H') (hR : RdA C A cells) (hl : cells.length = k * sz) : (Builtin.firstCells sz k (.slice A k kc)).run P w = .ok cells.toArray w := by
  cases A with
  | none =>
    have : cells = [] := by
      cases hc : cells with
      | nil => rfl
      | cons v l => obtain ⟨b, off, e, _⟩ := hh.rd pk hR (by simp [hc]); cases e
    simp [Builtin.firstCells, this]
  | some a =>
    by_cases hc : cells = []
    · subst hc
      simp only [Builtin.firstCells, ← hl]
      rfl
    · obtain ⟨b, off, e, hcell⟩ := hh.rd pk hR hc
      cases e
      simp only [Builtin.firstCells, ← hl, loadCells]
      rw [loadCells_rd cells 0 #[] (fun j hj => by simpa using hcell j hj)]
      simp
theorem firstCells_own {e sz m c : Nat} (hh : Hold Γ H F w) (pk : Pick H (Own e sz A m c cells) H') : (Builtin.firstCells sz m (.slice A m c)).run P w = .ok cells.toArray w := by
  obtain ⟨h1, hc, _⟩ := hh.chunk pk
  have hl : cells.length = m * sz := by
    rcases hc with ⟨_, rfl, _, rfl, _⟩ | ⟨b, junk, fr, _, h, _⟩
    · simp
    · exact h
  exact firstCells_rd hh pk .own hl
end

theorem putAt_mid {a b c : List Value} {off : Nat} (h : off = a.length) : putAt (a ++ c) off b = a ++ b ++ c.drop b.length := by
  subst h
  simp [putAt, List.drop_append]
section
variable {P : Program} {Γ w : World} {F : SP} {H H' : List SP} {A : Option Addr} {cells : List Value}
theorem append_run {t xt T e sz by_ m c k : Nat} {x z : Value} {new : List Value} {xd : TypeDesc} (hu : P.underlying t = some (.slice e)) (hxt : P.underlying xt = some xd) (hxd : xd = .string ∨ ∃ e', xd = .slice e')
    (hsz : sizeP P e = some sz) (hby : bytesP P e = some by_) (hz : zeroP P e = some z) (hzc : z.cells.size = sz)
    (hh : Hold Γ H F w) (pk : Pick H (Own e sz A m c cells) H') (hlen : ∀ w, (Builtin.lenOf x).run P w = .ok k w) (hsrc : ∀ w, Hold Γ H F w → (Builtin.firstCells sz k x).run P w = .ok new.toArray w)
    (hnl : new.length = k * sz) (hs : scal new = true) (hb0 : 0 < by_) (hb : (m + k) * by_ ≤ 140737488355328) :
    ∃ A' c' w', (Builtin.append_ #[t, xt] T #[.slice A m c, x]).run P w = .ok (.slice A' (m + k) c') w' ∧ Hold Γ (Own e sz A' (m + k) c' (cells ++ new) :: H') F w' := by
  obtain ⟨i, hi, hib⟩ : ∃ i, P.info? e = some i ∧ i.bytes = by_ := by
    unfold bytesP at hby
    cases hi : P.info? e with
    | none => simp [hi] at hby
    | some i => exact ⟨i, rfl, by simpa [hi] using hby⟩
  have hbi : ∀ w, (typeInfo e).run P w = .ok i w := fun w => by simp [typeInfo, hi]
  have hcl : cells.length = m * sz ∧ m ≤ c := by
    obtain ⟨h1, hc, _⟩ := hh.chunk pk
    rcases hc with ⟨_, rfl, rfl, rfl, _⟩ | ⟨b, junk, fr, _, h, _, h2, _⟩
    · simp
    · exact ⟨h, h2⟩
  -- what is left behind the looks at the types
  have start : ∀ (R : Result Value), ((Sem.run P (if m + k ≤ c then do
          let new ← Builtin.firstCells sz k x
          match A with
            | some a => do
              storeCells (a.add (m * sz)) new.toList
              pure (Value.slice A (m + k) c)
            | x => pure (Value.slice A (m + k) c)
        else do
          let newCap ← choose (Question.appendCap (m + k) c e)
          let old ← Builtin.firstCells sz m (Value.slice A m c)
          let new ← Builtin.firstCells sz k x
          let a ← newRow e (old ++ new ++ Builtin.zeroCells z.cells (newCap - (m + k)))
          pure (Value.slice (some a) (m + k) newCap)) w) = R) → (Builtin.append_ #[t, xt] T #[.slice A m c, x]).run P w = R := by
    intro R hR
    rw [← hR]
    by_cases hroom : m + k ≤ c
    · rcases hxd with rfl | ⟨e', rfl⟩
      all_goals
        unfold Builtin.append_
        simp only [List.getElem?_toArray, List.getElem?_cons_zero, List.getElem?_cons_succ, Sem.run_bind, underlying, run_program, Result.andThen_ok, hu, Sem.run_pure, sizeOf_run w hsz, hxt, Bool.false_eq_true, if_false, Bool.not_false, if_true, hlen, if_pos hroom]
        cases A <;> rfl
    · have hneed : c < m + k := by omega
      have hfits := growslice_fits (old := c) hneed hb
      have h1 : ¬ (((m + k : Nat) : Int) > IntKind.i64.max ∧ (False ∨ i.bytes = 0)) := by
        rintro ⟨_, h | h⟩
        · exact h
        · omega
      have h2 : ¬ (Builtin.nextslicecap (m + k) c * i.bytes > 2 ^ 48) := by rw [hib]; simp only [Nat.reducePow]; omega
      rcases hxd with rfl | ⟨e', rfl⟩
      all_goals
        unfold Builtin.append_
        simp only [List.getElem?_toArray, List.getElem?_cons_zero, List.getElem?_cons_succ, Sem.run_bind, underlying, run_program, Result.andThen_ok, hu, Sem.run_pure, sizeOf_run w hsz, hxt, Bool.false_eq_true, if_false, Bool.not_false, if_true, hlen, if_neg hroom, hbi, if_neg h1, if_neg h2, run_askRoom, zeroValue_run _ hz]
  by_cases hroom : m + k ≤ c
  · simp only [if_pos hroom] at start
    cases A with
    | none =>
      obtain ⟨h1, hc, _⟩ := hh.chunk pk
      rcases hc with ⟨_, rfl, rfl, rfl, _⟩ | ⟨b, junk, fr, hA, _⟩
      · have hk : k = 0 := by omega
        subst hk
        have hn : new = [] := by simpa using hnl
        subst hn
        refine ⟨none, 0, w, start _ ?_, hh.weaken fun x hx => ?_⟩
        · simp only [Sem.run_bind, hsrc w hh, Result.andThen_ok, Sem.run_pure]
        · have := pk x hx
          simp only [List.append_nil]
          exact this
      · cases hA
    | some a =>
      obtain ⟨h1, h2, d, eh, ho, hrest⟩ := hh.pick pk
      rcases ho with ⟨hA, _⟩ | ⟨b, junk, fr, hA, h3, h4, h5, h6, h7⟩
      · cases hA
      · cases hA
        have hmul := Nat.mul_le_mul_right sz hroom
        rw [Nat.add_mul] at hmul
        have hh2 : Hold Γ (blk b (cells ++ junk) e fr :: H') F w := ⟨hh.os, hh.tape, hh.output, by
          rw [eh]; exact star_left_comm ⟨h1, h2, d, rfl, h7, hrest⟩⟩
        obtain ⟨w', e', hh'⟩ := storeCells_run (P := P) (off := m * sz) new 0 (cells ++ junk) w _ hh2 Pick.head hs (by
          rw [h4]; omega) (fun j hj => h6.2 _ (by omega))
        refine ⟨some ⟨b, 0, none⟩, c, w', start _ ?_, hh'.weaken fun x hx => ?_⟩
        · have ea : (⟨b, 0, none⟩ : Addr).add (m * sz) = ⟨b, m * sz, none⟩ := by rw [add_none]; simp
          simp only [Sem.run_bind, hsrc w hh, Result.andThen_ok, ea, List.toList_toArray, e', Sem.run_pure]
        · refine star_mono (fun y hy => ?_) (fun _ h => h) hx
          refine .inr ⟨b, junk.drop new.length, fr, rfl, by simp [h3, hnl, Nat.add_mul], ?_, hroom, h6, ?_⟩
          · simp only [List.length_append, List.length_drop] at h4 ⊢
            omega
          · have : putAt (cells ++ junk) (m * sz + 0) new = cells ++ new ++ junk.drop new.length := putAt_mid (by omega)
            rw [this] at hy
            exact hy
  · simp only [if_neg hroom] at start
    have hfi : (Question.appendCap (m + k) c e).forced = false := rfl
    generalize hcap : (Question.appendCap (m + k) c e).cut (w.tape w.drawn (.appendCap (m + k) c e)) = cap at start
    have hcap1 : m + k ≤ cap := by rw [← hcap]; simp [Question.cut]
    have hh1 : Hold Γ H F { w with drawn := w.drawn + 1 } := hh.drew _
    have hh2 := (hh1.drop pk).newb (.cells (cells ++ new ++ (Builtin.zeroCells z.cells (cap - (m + k))).toList).toArray e)
    refine ⟨some ⟨w.heap.size, 0, none⟩, cap, { w with drawn := w.drawn + 1, heap := w.heap.push (.cells (cells ++ new ++ (Builtin.zeroCells z.cells (cap - (m + k))).toList).toArray e) }, start _ ?_, hh2.weaken fun x hx => ?_⟩
    · have e1 : cells.toArray ++ new.toArray ++ Builtin.zeroCells z.cells (cap - (m + k)) = (cells ++ new ++ (Builtin.zeroCells z.cells (cap - (m + k))).toList).toArray := by simp
      simp only [Sem.run_bind, run_choose, hfi, Bool.false_eq_true, if_false, hcap, Result.andThen_ok, firstCells_own hh1 pk, hsrc _ hh1, newRow, run_newObj, Sem.run_pure, e1]
    · refine star_mono (fun y hy => ?_) (fun _ h => h) hx
      refine .inr ⟨w.heap.size, (Builtin.zeroCells z.cells (cap - (m + k))).toList, (0, 0), rfl, by simp [hcl.1, hnl, Nat.add_mul], ?_, hcap1, .zero, hy⟩
      have hzl : (Builtin.zeroCells z.cells (cap - (m + k))).toList.length = (cap - (m + k)) * sz := by simp [Builtin.zeroCells, hzc]
      simp only [List.length_append, hzl, hcl.1, hnl]
      rw [← Nat.add_mul, ← Nat.add_mul]
      congr 1
      omega

/-! ### The rules -/
variable {ro : Option Nat} {n : Nat} {ops : Array Oper} {r : List Oper} {ds : List Deferred} {L : Lo} {K : Kont} {C : SP} {H2 : List SP}
  {T T' t xt : TypeId} {p : String} {es : Array Edge} {g : Option (Nat × Bool)} {d e sz by_ : Nat} {x y : Operand} {v z : Value} {m c k kc : Nat}
/-- 'append(s, t...)', also with the elements written out (behind their slice's making). -/
theorem Ops.append {B : Option Addr} {new : List Value} (hu : P.underlying t = some (.slice e)) {e' : TypeId} (hxt : P.underlying xt = some (.slice e'))
    (hsz : sizeP P e = some sz) (hby : bytesP P e = some by_) (hz : zeroP P e = some z) (hzc : z.cells.size = sz) (hb0 : Nat.blt 0 by_ = true)
    (hx : evalL L x = some (.slice A m c)) (hy : evalL L y = some (.slice B k kc)) (pk : Pick H (Own e sz A m c cells) H') (pk2 : Pick H C H2) (hR : RdA C B new) (hnl : new.length = k * sz) (hs : scal new = true) (hb : (m + k) * by_ ≤ 140737488355328)
    (hw : wants ops L ⟨some d, .call { callee := .builtin .append, args := #[x, y], argTypes := #[t, xt] }, T, p, es, g⟩ = some true) (ht : Nat.blt d n = true)
    (kk : ∀ A' c', Ops P ro n ops r ds ((d, .slice A' (m + k) c') :: L) (Own e sz A' (m + k) c' (cells ++ new) :: H') K) :
    Ops P ro n ops (⟨some d, .call { callee := .builtin .append, args := #[x, y], argTypes := #[t, xt] }, T, p, es, g⟩ :: r) ds L H K :=
  Ops.val hw (by simp) ht fun Γ F a w he hh => by
    obtain ⟨A', c', w', e1, h'⟩ := append_run (T := T) (k := k) (x := .slice B k kc) hu hxt (.inr ⟨_, rfl⟩) hsz hby hz hzc hh pk (fun w => by simp [Builtin.lenOf]) (fun w hw => firstCells_rd hw pk2 hR hnl) hnl hs (by simpa [Nat.blt_eq] using hb0) hb
    refine ⟨_, w', _, ?_, h', kk A' c'⟩
    simp only [execOp, resolve, he.eval hx, he.eval hy, List.map_toArray, List.map_cons, List.map_nil, Sem.run_bind, Sem.run_pure, Result.andThen_ok, invoke, builtin, e1]
/-- 'append(b, s...)', s a string. -/
theorem Ops.append_str {s : List UInt8} {new : List Value} (hu : P.underlying t = some (.slice e)) (hxt : P.underlying xt = some .string)
    (hsz : sizeP P e = some 1) (hby : bytesP P e = some by_) (hz : zeroP P e = some z) (hzc : z.cells.size = 1) (hb0 : Nat.blt 0 by_ = true)
    (hx : evalL L x = some (.slice A m c)) (hy : evalL L y = some (.string (bs s))) (pk : Pick H (Own e 1 A m c cells) H') (hnew : (s.map fun c => Value.int .u8 c.toNat) = new) (hb : (m + s.length) * by_ ≤ 140737488355328)
    (hw : wants ops L ⟨some d, .call { callee := .builtin .append, args := #[x, y], argTypes := #[t, xt] }, T, p, es, g⟩ = some true) (ht : Nat.blt d n = true)
    (kk : ∀ A' c', Ops P ro n ops r ds ((d, .slice A' (m + s.length) c') :: L) (Own e 1 A' (m + s.length) c' (cells ++ new) :: H') K) :
    Ops P ro n ops (⟨some d, .call { callee := .builtin .append, args := #[x, y], argTypes := #[t, xt] }, T, p, es, g⟩ :: r) ds L H K :=
  Ops.val hw (by simp) ht fun Γ F a w he hh => by
    subst hnew
    obtain ⟨A', c', w', e1, h'⟩ := append_run (T := T) (k := s.length) (x := .string (bs s)) (new := s.map fun c => Value.int .u8 c.toNat) hu hxt (.inl rfl) hsz hby hz hzc hh pk (fun w => by simp [Builtin.lenOf, bs_size]) (fun w hw => by
      simp only [Builtin.firstCells, bs_extract, List.take_length, List.drop_zero, Sem.run_pure]
      simp [bs]) (by simp) (by simp [scal, Value.oneCell']) (by simpa [Nat.blt_eq] using hb0) hb
    refine ⟨_, w', _, ?_, h', kk A' c'⟩
    simp only [execOp, resolve, he.eval hx, he.eval hy, List.map_toArray, List.map_cons, List.map_nil, Sem.run_bind, Sem.run_pure, Result.andThen_ok, invoke, builtin, e1]
/-- the slice of the elements that are written out. -/
theorem Ops.buildSlice {len : Nat} {parts : Array (Nat × Operand)} {pv : List (Nat × Value)} {z : Value} {cs : Array Value} (hu : P.underlying T' = some (.slice e)) (hsz : sizeP P e = some sz) (hz : zeroP P e = some z) (hlen : Nat.ble (len * sz) 16777216 = true) (hpos : Nat.blt 0 (len * sz) = true)
    (hpv : (evalAll L (parts.toList.map (·.2))) = some (pv.map (·.2))) (hpi : parts.toList.map (·.1) = pv.map (·.1))
    (hfill : Instr.fill (fun i => some (i * sz, sz)) ((Array.range (len * sz)).map (z.cells[· % z.cells.size]!)) pv = some cs) (hcs : cs.size = len * sz)
    (hw : wants ops L ⟨some d, .buildSlice T' len parts, T, p, es, g⟩ = some true) (ht : Nat.blt d n = true)
    (kk : ∀ b, Ops P ro n ops r ds ((d, .slice (some ⟨b, 0, none⟩) len len) :: L) (blk b cs.toList e :: H) K) :
    Ops P ro n ops (⟨some d, .buildSlice T' len parts, T, p, es, g⟩ :: r) ds L H K :=
  Ops.val hw (by simp) ht fun Γ F a w he hh => ⟨.slice (some ⟨w.heap.size, 0, none⟩) len len, { w with heap := w.heap.push (.cells cs e) }, pt w.heap.size (.cells cs e) :: H, by
    have h1 : ¬ len * sz > 2 ^ 24 := by have := Nat.le_of_ble_eq_true hlen; simp only [Nat.reducePow]; omega
    have h2 : ¬ len * sz = 0 := by have : 0 < len * sz := by simpa [Nat.blt_eq] using hpos
                                   omega
    have hp : (parts.map fun (i, x) => (i, a.eval x)).toList = pv := by
      have h3 := he.evalAll hpv
      have : parts.toList.map (fun q => (q.1, a.eval q.2)) = pv := by
        have hl : parts.toList.length = pv.length := by have := congrArg List.length hpi; simpa using this
        apply List.ext_getElem
        · simpa using hl
        · intro i hi1 hi2
          have e1 := congrArg (·[i]?) h3
          have e2 := congrArg (·[i]?) hpi
          simp only [List.length_map, Array.length_toList] at hi1
          simp [hi1, hi2] at e1 e2
          simp only [List.getElem_map, Array.getElem_toList]
          exact Prod.ext e2 e1
      simpa using this
    simp only [execOp, Instr.buildSlice, Sem.run_bind, underlying, run_program, Result.andThen_ok, hu, Sem.run_pure, sizeOf_run w hsz, if_neg h1, if_neg h2, zeroValue_run w hz, hp, hfill, newRow, run_newObj], hh.newb _, by
    have := kk w.heap.size; simp only [blk, Array.toArray_toList] at this; exact this⟩
theorem own_of_blk {b len : Nat} {l : List Value} {h : Hp} (hl : l.length = len * sz) (hb : blk b l e (0, 0) h) : Own e sz (some ⟨b, 0, none⟩) len len l h :=
  .inr ⟨b, [], (0, 0), rfl, hl, by simpa using hl, Nat.le_refl _, .zero, by simpa using hb⟩
theorem own_nil {h : Hp} (hb : h = Hp.nil) : Own e sz none 0 0 [] h := .inl ⟨rfl, rfl, rfl, rfl, hb⟩
end
end Go.Z
