/- The rules for memory. -/
import Derived.Test.YtlboeehapelabaaDoorZ3
set_option linter.unusedVariables false
namespace Go.Z
/-- A block of cells. -/
abbrev blk (b : Nat) (l : List Value) (ty : TypeId) (fr : Nat × Nat := (0, 0)) : SP := pt b (.cells l.toArray ty fr)
def scDesc : TypeDesc → Bool
  | .struct _ | .array _ _ => false
  | _ => true
def sizeP (P : Program) (t : TypeId) : Option Nat := (P.info? t).map (·.size)
def bytesP (P : Program) (t : TypeId) : Option Nat := (P.info? t).map (·.bytes)
def zeroP (P : Program) (t : TypeId) : Option Value := (P.info? t).bind (·.zero)
def fieldOff (P : Program) (s : TypeId) (f : Nat) : Option Nat :=
  match P.underlying s with
  | some (.struct fs) => match fs[f]? with
    | some fl => match sizeP P fl.type with | some (_ + 1) => some fl.offset | _ => none
    | none => none
  | _ => none
/-- Where a struct's fields lie, and its zero cells. -/
def layout (P : Program) (t : TypeId) : Option (List (Nat × Nat) × List Value) :=
  match P.underlying t, zeroP P t with
  | some (.struct fs), some z => (fs.toList.mapM fun f => (sizeP P f.type).map fun n => (f.offset, n)).map fun l => (l, z.cells.toList)
  | _, _ => none

section
variable {P : Program} (w : World)
theorem sizeOf_run {t : TypeId} {k : Nat} (h : sizeP P t = some k) : (sizeOf t).run P w = .ok k w := by
  unfold sizeP at h
  cases hi : P.info? t with
  | none => simp [hi] at h
  | some i => simp [sizeOf, typeInfo, hi]; simp [hi] at h; exact h
theorem zeroValue_run {t : TypeId} {z : Value} (h : zeroP P t = some z) : (zeroValue t).run P w = .ok z w := by
  unfold zeroP at h
  cases hi : P.info? t with
  | none => simp [hi] at h
  | some i => simp only [hi, Option.bind_some] at h; simp [zeroValue, typeInfo, hi, h]
theorem isAgg_sc {t : TypeId} {sd : TypeDesc} (h : P.underlying t = some sd) (hs : scDesc sd = true) : (isAgg t).run P w = .ok false w := by
  cases sd <;> simp_all [isAgg, underlying, scDesc]
theorem isAgg_ag {t : TypeId} {sd : TypeDesc} (h : P.underlying t = some sd) (hs : scDesc sd = false) : (isAgg t).run P w = .ok true w := by
  cases sd <;> simp_all [isAgg, underlying, scDesc]
end

section
variable {P : Program} {Γ w : World} {F : SP} {H H' : List SP} {b : Nat} {l : List Value} {ty : TypeId} {fr : Nat × Nat}
theorem Hold.cell (hh : Hold Γ H F w) (pk : Pick H (blk b l ty fr) H') (off : Nat) : w.cell? ⟨b, off, none⟩ = l[off]? := by
  have := hh.block pk
  simp [World.cell?, this]
theorem Hold.frz (hh : Hold Γ H F w) (pk : Pick H (blk b l ty fr) H') (off : Nat) : w.frozen? ⟨b, off, none⟩ = (fr.1 ≤ off && off < fr.2 : Bool) := by
  have := hh.block pk
  simp [World.frozen?, this]
theorem add_none (b off k : Nat) : (⟨b, off, none⟩ : Addr).add k = ⟨b, off + k, none⟩ := by
  unfold Addr.add; split <;> simp_all
theorem loadCells_run {off : Nat} : ∀ (m i : Nat) (acc : Array Value), (∀ j, j < m → ∃ v, w.cell? ⟨b, off + (i + j), none⟩ = some v ∧ l[off + (i + j)]? = some v) →
    (loadCellsFrom ⟨b, off, none⟩ i m acc).run P w = .ok (acc ++ ((l.drop (off + i)).take m).toArray) w := by
  intro m
  induction m with
  | zero => intro i acc _; simp [loadCellsFrom]
  | succ m ih =>
    intro i acc h
    obtain ⟨v, h1, h2⟩ := h 0 (by omega)
    simp only [Nat.add_zero] at h1 h2
    simp only [loadCellsFrom, add_none, Sem.run_bind, run_load, h1, Result.andThen_ok]
    rw [ih (i + 1) (acc.push v) (fun j hj => by
      obtain ⟨u, h3, h4⟩ := h (j + 1) (by omega)
      exact ⟨u, by rw [show i + 1 + j = i + (j + 1) by omega]; exact h3, by rw [show i + 1 + j = i + (j + 1) by omega]; exact h4⟩)]
    congr 1
    have hlt : off + i < l.length := by
      rcases Nat.lt_or_ge (off + i) l.length with h | h
      · exact h
      · rw [List.getElem?_eq_none h] at h2; cases h2
    rw [List.drop_eq_getElem_cons hlt]
    have : l[off + i] = v := by rw [List.getElem?_eq_getElem hlt] at h2; simpa using h2
    simp [this, Nat.add_assoc]
theorem loadVar_sc {t : TypeId} {sd : TypeDesc} {off : Nat} {v : Value} (hu : P.underlying t = some sd) (hs : scDesc sd = true) (hc : w.cell? ⟨b, off, none⟩ = some v) : (loadVar t ⟨b, off, none⟩).run P w = .ok v w := by
  simp [loadVar, isAgg_sc w hu hs, hc]
theorem loadVar_ag {t : TypeId} {sd : TypeDesc} {off k : Nat} {vs : List Value} (hu : P.underlying t = some sd) (hs : scDesc sd = false) (hk : sizeP P t = some k) (hc : ∀ j, w.cell? ⟨b, j, none⟩ = l[j]?)
    (hv : (l.drop off).take k = vs) (hl : vs.length = k) : (loadVar t ⟨b, off, none⟩).run P w = .ok (.agg vs.toArray) w := by
  have h1 : ∀ j, j < k → off + j < l.length := by
    intro j hj
    have := congrArg List.length hv
    simp only [List.length_take, List.length_drop] at this
    rw [hl] at this
    have h2 : k ≤ l.length - off := by
      have := Nat.min_le_right k (l.length - off)
      omega
    omega
  simp only [loadVar, Sem.run_bind, isAgg_ag w hu hs, Result.andThen_ok, if_true, sizeOf_run w hk, loadCells]
  rw [loadCells_run (l := l) k 0 #[] (fun j hj => ⟨l[off + (0 + j)]'(by have := h1 j hj; omega), by rw [hc]; simp, by simp⟩)]
  simp [hv]
end

section
variable {P : Program} {ro : Option Nat} {n : Nat} {ops : Array Oper} {r : List Oper} {ds : List Deferred} {L : Lo} {H H' : List SP} {K : Kont}
  {T T' : TypeId} {p : String} {es : Array Edge} {g : Option (Nat × Bool)} {d b off : Nat} {l : List Value} {ty : TypeId} {fr : Nat × Nat} {sd : TypeDesc} {x y : Operand} {v : Value}

theorem q_load (hu : P.underlying T' = some sd) (hs : scDesc sd = true) (hx : evalL L x = some (.pointer (some ⟨b, off, none⟩))) (pk : Pick H (blk b l ty fr) H') (hv : l[off]? = some v)
    (hw : wants ops L ⟨some d, .load T' x, T, p, es, g⟩ = some true) (ht : Nat.blt d n = true) : QStep P n ops ⟨some d, .load T' x, T, p, es, g⟩ ds L H v :=
  qmk hw ht (by simp) fun Γ F a w he hh => ⟨w, by
    simp only [execOp, he.eval hx, Instr.loadAt, Instr.sureAddr, Sem.run_bind, Sem.run_pure, Result.andThen_ok]
    rw [loadVar_sc hu hs ((hh.cell pk off).trans hv)]; rfl, hh⟩
theorem q_loada {k : Nat} {vs : List Value} (hu : P.underlying T' = some sd) (hs : scDesc sd = false) (hk : sizeP P T' = some k) (hx : evalL L x = some (.pointer (some ⟨b, off, none⟩))) (pk : Pick H (blk b l ty fr) H') (hv : (l.drop off).take k = vs) (hl : vs.length = k)
    (hw : wants ops L ⟨some d, .load T' x, T, p, es, g⟩ = some true) (ht : Nat.blt d n = true) : QStep P n ops ⟨some d, .load T' x, T, p, es, g⟩ ds L H (.agg vs.toArray) :=
  qmk hw ht (by simp) fun Γ F a w he hh => ⟨w, by
    simp only [execOp, he.eval hx, Instr.loadAt, Instr.sureAddr, Sem.run_bind, Sem.run_pure, Result.andThen_ok]
    rw [loadVar_ag hu hs hk (fun j => hh.cell pk j) hv hl]; rfl, hh⟩
theorem q_fieldAddr {s : TypeId} {f k : Nat} (hf : fieldOff P s f = some k) (hx : evalL L x = some (.pointer (some ⟨b, off, none⟩)))
    (hw : wants ops L ⟨some d, .fieldAddr s x f, T, p, es, g⟩ = some true) (ht : Nat.blt d n = true) : QStep P n ops ⟨some d, .fieldAddr s x f, T, p, es, g⟩ ds L H (.pointer (some ⟨b, off + k, none⟩)) :=
  qpure hw ht (by simp) fun a w he => by
    unfold fieldOff at hf
    split at hf
    · rename_i fs hu
      split at hf
      · rename_i fl hfl
        split at hf
        · rename_i j hsz
          cases hf
          simp [execOp, he.eval hx, Instr.fieldAt, underlying, hu, hfl, Instr.sureAddr, fieldPlace, sizeOf_run w hsz, add_none]
        · cases hf
      · cases hf
    · cases hf
theorem q_len_str {s : ByteArray} {ts : Array TypeId} {t0 : TypeId} (h0 : ts[0]? = some t0) (hu : P.underlying t0 = some .string) (hx : evalL L x = some (.string s))
    (hw : wants ops L ⟨some d, .call { callee := .builtin .len, args := #[x], argTypes := ts }, T, p, es, g⟩ = some true) (ht : Nat.blt d n = true) :
    QStep P n ops ⟨some d, .call { callee := .builtin .len, args := #[x], argTypes := ts }, T, p, es, g⟩ ds L H (.int .i64 s.size) :=
  qpure hw ht (by simp) fun a w he => by
    simp [execOp, resolve, invoke, builtin, Builtin.len_, h0, underlying, hu, he.eval hx, goInt]
theorem q_len_sl {A : Option Addr} {m c : Nat} {ts : Array TypeId} {t0 e : TypeId} (h0 : ts[0]? = some t0) (hu : P.underlying t0 = some (.slice e)) (hx : evalL L x = some (.slice A m c))
    (hw : wants ops L ⟨some d, .call { callee := .builtin .len, args := #[x], argTypes := ts }, T, p, es, g⟩ = some true) (ht : Nat.blt d n = true) :
    QStep P n ops ⟨some d, .call { callee := .builtin .len, args := #[x], argTypes := ts }, T, p, es, g⟩ ds L H (.int .i64 m) :=
  qpure hw ht (by simp) fun a w he => by
    simp [execOp, resolve, invoke, builtin, Builtin.len_, h0, underlying, hu, he.eval hx, goInt]
theorem q_index_str {s : ByteArray} {i : Int} {k : IntKind} {c : UInt8} (hu : P.underlying T' = some .string) (hx : evalL L x = some (.string s)) (hy : evalL L y = some (.int k i)) (h0 : 0 ≤ i) (hc : s[i.toNat]? = some c)
    (hw : wants ops L ⟨some d, .index T' x y, T, p, es, g⟩ = some true) (ht : Nat.blt d n = true) : QStep P n ops ⟨some d, .index T' x y, T, p, es, g⟩ ds L H (.int .u8 c.toNat) :=
  qpure hw ht (by simp) fun a w he => by
    simp [execOp, Instr.index, he.eval hx, he.eval hy, asIntOf, underlying, hu, h0, hc]
theorem q_indexAddr_sl {m c k : Nat} {i : Int} {kk : IntKind} {e : TypeId} (hu : P.underlying T' = some (.slice e)) (hk : sizeP P e = some k) (hx : evalL L x = some (.slice (some ⟨b, off, none⟩) m c)) (hy : evalL L y = some (.int kk i)) (h0 : 0 ≤ i) (h1 : i < m)
    (hw : wants ops L ⟨some d, .indexAddr T' x y, T, p, es, g⟩ = some true) (ht : Nat.blt d n = true) : QStep P n ops ⟨some d, .indexAddr T' x y, T, p, es, g⟩ ds L H (.pointer (some ⟨b, off + i.toNat * k, none⟩)) :=
  qpure hw ht (by simp) fun a w he => by
    simp [execOp, Instr.indexAt, he.eval hx, he.eval hy, asIntOf, underlying, hu, h0, h1, sizeOf_run w hk, add_none]
theorem q_indexAddr_ar {m k : Nat} {i : Int} {kk : IntKind} {e : TypeId} (hu : P.underlying T' = some (.array m e)) (hk : sizeP P e = some k) (hx : evalL L x = some (.pointer (some ⟨b, off, none⟩))) (hy : evalL L y = some (.int kk i)) (h0 : 0 ≤ i) (h1 : i < m)
    (hw : wants ops L ⟨some d, .indexAddr T' x y, T, p, es, g⟩ = some true) (ht : Nat.blt d n = true) : QStep P n ops ⟨some d, .indexAddr T' x y, T, p, es, g⟩ ds L H (.pointer (some ⟨b, off + i.toNat * k, none⟩)) :=
  qpure hw ht (by simp) fun a w he => by
    simp [execOp, Instr.indexAt, he.eval hx, he.eval hy, asIntOf, underlying, hu, h0, h1, sizeOf_run w hk, add_none, Instr.sureAddr]
/-- new variables. -/
theorem Ops.alloc {z : Value} (hz : zeroP P T' = some z) (hw : wants ops L ⟨some d, .alloc T', T, p, es, g⟩ = some true) (ht : Nat.blt d n = true)
    (k : ∀ b, Ops P ro n ops r ds ((d, .pointer (some ⟨b, 0, none⟩)) :: L) (blk b z.cells.toList T' :: H) K) : Ops P ro n ops (⟨some d, .alloc T', T, p, es, g⟩ :: r) ds L H K :=
  Ops.val hw (by simp) ht fun Γ F a w he hh => ⟨.pointer (some ⟨w.heap.size, 0, none⟩), { w with heap := w.heap.push (.cells z.cells T') }, pt w.heap.size (.cells z.cells T') :: H, by
    simp only [execOp, Instr.alloc, Sem.run_bind, zeroValue_run w hz, Result.andThen_ok, newVar, newRow, run_newObj, Sem.run_pure], hh.newb _, by
    have := k w.heap.size; simp only [blk, Array.toArray_toList] at this; exact this⟩
theorem Ops.box (hx : evalL L x = some v) (hw : wants ops L ⟨some d, .box T' x, T, p, es, g⟩ = some true) (ht : Nat.blt d n = true)
    (k : ∀ b, Ops P ro n ops r ds ((d, .pointer (some ⟨b, 0, none⟩)) :: L) (blk b v.cells.toList T' :: H) K) : Ops P ro n ops (⟨some d, .box T' x, T, p, es, g⟩ :: r) ds L H K :=
  Ops.val hw (by simp) ht fun Γ F a w he hh => ⟨.pointer (some ⟨w.heap.size, 0, none⟩), { w with heap := w.heap.push (.cells v.cells T') }, pt w.heap.size (.cells v.cells T') :: H, by
    simp only [execOp, Instr.box, he.eval hx, Sem.run_bind, Result.andThen_ok, newVar, newRow, run_newObj, Sem.run_pure], hh.newb _, by
    have := k w.heap.size; simp only [blk, Array.toArray_toList] at this; exact this⟩
end

/-! ### Stores -/
def putAt (l : List Value) (off : Nat) (vs : List Value) : List Value := l.take off ++ vs ++ l.drop (off + vs.length)
theorem putAt_one {l : List Value} {off : Nat} {v : Value} (h : off < l.length) : putAt l off [v] = l.set off v := by
  simp [putAt, List.set_eq_take_append_cons_drop, h]
def scal : List Value → Bool := fun l => l.all (·.oneCell')
section
variable {P : Program} {Γ w : World} {F : SP} {H H' : List SP} {b : Nat} {l : List Value} {ty : TypeId} {fr : Nat × Nat}
theorem Hold.setCell (hh : Hold Γ H F w) (pk : Pick H (blk b l ty fr) H') (off : Nat) (v : Value) : Hold Γ (blk b (l.set off v) ty fr :: H') F (w.setCell ⟨b, off, none⟩ v) := by
  have hb := hh.block pk
  refine hh.turn pk rfl rfl rfl ?_ fun i hi => ?_
  · have hlt : b < w.heap.size := (Array.getElem?_eq_some_iff.1 hb).1
    simp only [World.setCell, Array.getElem?_modify, hb]
    simp
  · simp only [World.setCell, Array.getElem?_modify]
    rw [if_neg (fun h => hi h.symm)]
theorem storeCells_run {off : Nat} : ∀ (vs : List Value) (i : Nat) (l : List Value) (w : World) (H : List SP), Hold Γ H F w → Pick H (blk b l ty fr) H' → scal vs = true → off + i + vs.length ≤ l.length →
    (∀ j, j < vs.length → (fr.1 ≤ off + i + j && off + i + j < fr.2 : Bool) = false) →
    ∃ w', (storeCells ⟨b, off, none⟩ vs i).run P w = .ok () w' ∧ Hold Γ (blk b (putAt l (off + i) vs) ty fr :: H') F w' := by
  intro vs
  induction vs with
  | nil =>
    intro i l w H hh pk _ hl _
    refine ⟨w, rfl, hh.weaken fun x hx => ?_⟩
    have : putAt l (off + i) [] = l := by simp [putAt]
    rw [this]
    exact pk x hx
  | cons v vs ih =>
    intro i l w H hh pk hs hl hf
    simp only [scal, List.all_cons, Bool.and_eq_true] at hs
    have hlt : off + i < l.length := by simp at hl; omega
    have hc : w.cell? ⟨b, off + i, none⟩ = some (l[off + i]) := by rw [hh.cell pk]; simp [hlt]
    have hfz : w.frozen? ⟨b, off + i, none⟩ = false := by rw [hh.frz pk]; exact hf 0 (by simp)
    have h1 := hh.setCell pk (off + i) v
    obtain ⟨w', e, h2⟩ := ih (i + 1) (l.set (off + i) v) _ _ h1 Pick.head hs.2 (by simp at hl ⊢; omega) (fun j hj => by
      have := hf (j + 1) (by simp; omega)
      rwa [show off + (i + 1) + j = off + i + (j + 1) by omega])
    refine ⟨w', ?_, ?_⟩
    · simp only [storeCells, add_none, Sem.run_bind, run_store P w _ v .plain hs.1, hc, hfz, Bool.false_eq_true, if_false, Result.andThen_ok, e]
    · have : putAt (l.set (off + i) v) (off + (i + 1)) vs = putAt l (off + i) (v :: vs) := by
        unfold putAt
        apply List.ext_getElem?
        intro j
        simp only [List.getElem?_append, List.length_append, List.length_take, List.length_set, List.length_cons, List.getElem?_take, List.getElem?_drop, List.getElem?_set]
        have : min (off + (i + 1)) l.length = off + i + 1 := by simp at hl; omega
        have h3 : min (off + i) l.length = off + i := by omega
        simp only [this, h3]
        rcases Nat.lt_trichotomy j (off + i) with h | h | h
        · simp [show j < off + i + 1 + vs.length by omega, show j < off + i + 1 by omega, show j < off + (i + 1) by omega, show ¬ off + i = j by omega, show j < off + i + (vs.length + 1) by omega, h]
        · subst h
          simp [show off + i < off + i + 1 + vs.length by omega, show off + i < off + (i + 1) by omega, hlt]
        · by_cases h4 : j < off + i + 1 + vs.length
          · simp [h4, show ¬ j < off + i + 1 by omega, show ¬ j < off + i by omega, show j < off + i + (vs.length + 1) by omega]
            rw [show j - (off + i) = (j - (off + i + 1)) + 1 by omega]
            simp
          · simp [h4, show ¬ j < off + i by omega, show ¬ j < off + i + (vs.length + 1) by omega]
            have h5 : ¬ off + i = off + (i + 1) + vs.length + (j - (off + i + 1 + vs.length)) := by omega
            simp [h5]
            congr 1
            omega
      rwa [this] at h2
end
section
variable {P : Program} {ro : Option Nat} {n : Nat} {ops : Array Oper} {r : List Oper} {ds : List Deferred} {L : Lo} {H H' : List SP} {K : Kont}
  {T T' : TypeId} {p : String} {es : Array Edge} {g : Option (Nat × Bool)} {d b off : Nat} {l : List Value} {ty : TypeId} {fr : Nat × Nat} {sd : TypeDesc} {x y : Operand} {v : Value}
theorem Ops.storev {k : Nat} (hk : sizeP P T' = some k) (hx : evalL L x = some (.pointer (some ⟨b, off, none⟩))) (hy : evalL L y = some v) (hsz : v.cells.size = k) (hs : scal v.cells.toList = true)
    (pk : Pick H (blk b l ty fr) H') (hl : off + k ≤ l.length) (hf : ∀ j, j < k → (fr.1 ≤ off + j && off + j < fr.2 : Bool) = false)
    (hw : wants ops L ⟨none, .store T' x y, T, p, es, g⟩ = some true)
    (kk : Ops P ro n ops r ds L (blk b (putAt l off v.cells.toList) ty fr :: H') K) : Ops P ro n ops (⟨none, .store T' x y, T, p, es, g⟩ :: r) ds L H K :=
  Ops.skp hw (by simp) rfl fun Γ F a w he hh => by
    obtain ⟨w', e, h'⟩ := storeCells_run (P := P) (off := off) v.cells.toList 0 l w H hh pk hs (by simp; omega) (by simpa [hsz] using hf)
    refine ⟨w', _, ?_, h', by simpa [putL] using kk⟩
    simp only [execOp, he.eval hx, he.eval hy, Instr.storeAt, Instr.sureAddr, storeVar, Sem.run_bind, Sem.run_pure, Result.andThen_ok, sizeOf_run w hk]
    simp [hsz, e]
/-- a store of one cell. -/
theorem Ops.store (hk : sizeP P T' = some 1) (hx : evalL L x = some (.pointer (some ⟨b, off, none⟩))) (hy : evalL L y = some v) (hs : v.oneCell' = true)
    (pk : Pick H (blk b l ty fr) H') (hl : Nat.blt off l.length = true) (hf : (fr.1 ≤ off && off < fr.2 : Bool) = false)
    (hw : wants ops L ⟨none, .store T' x y, T, p, es, g⟩ = some true)
    (kk : Ops P ro n ops r ds L (blk b (l.set off v) ty fr :: H') K) : Ops P ro n ops (⟨none, .store T' x y, T, p, es, g⟩ :: r) ds L H K := by
  have hlt : off < l.length := by simpa [Nat.blt_eq] using hl
  have hv : v.cells = #[v] := by cases v <;> simp_all [Value.cells, Value.oneCell']
  refine Ops.storev hk hx hy (by rw [hv]; rfl) (by rw [hv]; simpa [scal] using hs) pk (by omega) (fun j hj => ?_) hw ?_
  · have : j = 0 := by omega
    subst this; simpa using hf
  · rw [hv]
    have := putAt_one (v := v) hlt
    simpa [this] using kk
end
end Go.Z
