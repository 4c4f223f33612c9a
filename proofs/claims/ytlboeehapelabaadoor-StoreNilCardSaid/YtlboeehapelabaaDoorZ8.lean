/- More on slices: nil, make, cutting, zeros appended, conversions; structs by value; comparisons with nil. -/
import Derived.Test.YtlboeehapelabaaDoorZ7
set_option linter.unusedVariables false
set_option linter.unusedSimpArgs false
namespace Go.Z
theorem sep_nil_own {e sz : Nat} {H : List SP} {h : Hp} (hs : sep H h) : sep (Own e sz none 0 0 [] :: H) h := ⟨Hp.nil, h, fun _ => .inl rfl, (Hp.nil_un _).symm, own_nil rfl, hs⟩
theorem pick_mono {H H' : List SP} {A B : SP} (pk : Pick H A H') (hab : ∀ h, A h → B h) {h : Hp} (hs : sep H h) : sep (B :: H') h := star_mono (fun _ x => hab _ x) (fun _ x => x) (pk h hs)
section
variable {P : Program} {ro : Option Nat} {n : Nat} {ops : Array Oper} {r : List Oper} {ds : List Deferred} {L : Lo} {H H' H2 : List SP} {K : Kont} {C : SP}
  {T T' t xt : TypeId} {p : String} {es : Array Edge} {g : Option (Nat × Bool)} {d e sz by_ b off : Nat} {x y : Operand} {v z : Value} {m c k kc : Nat} {A : Option Addr} {cells : List Value}
/-! ### Turning what is told of memory -/
theorem Go.own_nil {cd : Code} (e sz : Nat) (k : Go P ro n cd ds L (Own e sz none 0 0 [] :: H) K) : Go P ro n cd ds L H K := k.weak fun _ h => sep_nil_own h
theorem Ops.own_nil {l : List Oper} (e sz : Nat) (k : Ops P ro n ops l ds L (Own e sz none 0 0 [] :: H) K) : Ops P ro n ops l ds L H K := k.weak fun _ h => sep_nil_own h
theorem Go.turn {cd : Code} {A B : SP} (pk : Pick H A H') (hab : ∀ h, A h → B h) (k : Go P ro n cd ds L (B :: H') K) : Go P ro n cd ds L H K := k.weak fun _ h => pick_mono pk hab h
theorem Ops.turn {l : List Oper} {A B : SP} (pk : Pick H A H') (hab : ∀ h, A h → B h) (k : Ops P ro n ops l ds L (B :: H') K) : Ops P ro n ops l ds L H K := k.weak fun _ h => pick_mono pk hab h
theorem ops_ex {l : List Oper} {α : Type} {B : α → SP} (k : ∀ x, Ops P ro n ops l ds L (B x :: H) K) : Ops P ro n ops l ds L (ex B :: H) K := by
  intro Γ F a w Q he hh hq
  obtain ⟨h1, h2, d, e, ⟨x, hx⟩, r⟩ := hh.pick Pick.head
  exact k x Γ F a w Q he ⟨hh.os, hh.tape, hh.output, by rw [e]; exact star_left_comm ⟨h1, h2, d, rfl, hx, r⟩⟩ hq
theorem go_ex {cd : Code} {α : Type} {B : α → SP} (k : ∀ x, Go P ro n cd ds L (B x :: H) K) : Go P ro n cd ds L (ex B :: H) K := by
  intro Γ F a w Q he hh hq
  obtain ⟨h1, h2, d, e, ⟨x, hx⟩, r⟩ := hh.pick Pick.head
  exact k x Γ F a w Q he ⟨hh.os, hh.tape, hh.output, by rw [e]; exact star_left_comm ⟨h1, h2, d, rfl, hx, r⟩⟩ hq
theorem go_lft {cd : Code} {q : Prop} {B : SP} (k : q → Go P ro n cd ds L (B :: H) K) : Go P ro n cd ds L (lft q B :: H) K := by
  intro Γ F a w Q he hh hq
  obtain ⟨h1, h2, d, e, ⟨hx, hb⟩, r⟩ := hh.pick Pick.head
  exact k hx Γ F a w Q he ⟨hh.os, hh.tape, hh.output, by rw [e]; exact star_left_comm ⟨h1, h2, d, rfl, hb, r⟩⟩ hq
theorem ops_lft {l : List Oper} {q : Prop} {B : SP} (k : q → Ops P ro n ops l ds L (B :: H) K) : Ops P ro n ops l ds L (lft q B :: H) K := by
  intro Γ F a w Q he hh hq
  obtain ⟨h1, h2, d, e, ⟨hx, hb⟩, r⟩ := hh.pick Pick.head
  exact k hx Γ F a w Q he ⟨hh.os, hh.tape, hh.output, by rw [e]; exact star_left_comm ⟨h1, h2, d, rfl, hb, r⟩⟩ hq
theorem fn_ex {f : FuncId} {args : List Value} {Post : Ending → List SP → Prop} {α : Type} {B : α → SP} (k : ∀ x, Fn P f args (B x :: H) Post) : Fn P f args (ex B :: H) Post := by
  intro Γ F w hh
  obtain ⟨h1, h2, d, e, ⟨x, hx⟩, r⟩ := hh.pick Pick.head
  exact k x Γ F w ⟨hh.os, hh.tape, hh.output, by rw [e]; exact star_left_comm ⟨h1, h2, d, rfl, hx, r⟩⟩
theorem fn_lft {f : FuncId} {args : List Value} {Post : Ending → List SP → Prop} {q : Prop} {B : SP} (k : q → Fn P f args (B :: H) Post) : Fn P f args (lft q B :: H) Post := by
  intro Γ F w hh
  obtain ⟨h1, h2, d, e, ⟨hx, hb⟩, r⟩ := hh.pick Pick.head
  exact k hx Γ F w ⟨hh.os, hh.tape, hh.output, by rw [e]; exact star_left_comm ⟨h1, h2, d, rfl, hb, r⟩⟩
/-- an owned slice that is not empty, laid open. -/
theorem own_open (hne : cells ≠ []) {h : Hp} (ho : Own e sz A m c cells h) : ∃ b junk fr, A = some ⟨b, 0, none⟩ ∧ cells.length = m * sz ∧ (cells ++ junk).length = c * sz ∧ m ≤ c ∧ FrOk fr (c * sz) ∧ blk b (cells ++ junk) e fr h := by
  rcases ho with ⟨_, _, _, h, _⟩ | h
  · exact absurd h hne
  · exact h
theorem Go.open_own {cd : Code} (pk : Pick H (Own e sz A m c cells) H') (hne : cells ≠ [])
    (k : ∀ b junk fr, A = some ⟨b, 0, none⟩ → cells.length = m * sz → (cells ++ junk).length = c * sz → m ≤ c → FrOk fr (c * sz) → Go P ro n cd ds L (blk b (cells ++ junk) e fr :: H') K) : Go P ro n cd ds L H K := by
  intro Γ F a w Q he hh hq
  obtain ⟨h1, h2, d, eh, ho, r⟩ := hh.pick pk
  obtain ⟨b, junk, fr, h3, h4, h5, h6, h7, h8⟩ := own_open hne ho
  exact k b junk fr h3 h4 h5 h6 h7 Γ F a w Q he ⟨hh.os, hh.tape, hh.output, by rw [eh]; exact star_left_comm ⟨h1, h2, d, rfl, h8, r⟩⟩ hq
theorem own_shut {b : Nat} {junk : List Value} {fr : Nat × Nat} (h4 : cells.length = m * sz) (h5 : (cells ++ junk).length = c * sz) (h6 : m ≤ c) (h7 : FrOk fr (c * sz)) : ∀ h, blk b (cells ++ junk) e fr h → Own e sz (some ⟨b, 0, none⟩) m c cells h :=
  fun h hb => .inr ⟨b, junk, fr, rfl, h4, h5, h6, h7, hb⟩
/-- where a slice's cells lie, where it has any. -/
theorem Go.rd {cd : Code} (pk : Pick H C H') (hR : RdA C A cells) (hne : cells ≠ []) (k : ∀ b off, A = some ⟨b, off, none⟩ → Go P ro n cd ds L H K) : Go P ro n cd ds L H K := by
  intro Γ F a w Q he hh hq
  obtain ⟨b, off, e, _⟩ := hh.rd pk hR hne
  exact k b off e Γ F a w Q he hh hq
theorem Ops.rd {l : List Oper} (pk : Pick H C H') (hR : RdA C A cells) (hne : cells ≠ []) (k : ∀ b off, A = some ⟨b, off, none⟩ → Ops P ro n ops l ds L H K) : Ops P ro n ops l ds L H K := by
  intro Γ F a w Q he hh hq
  obtain ⟨b, off, e, _⟩ := hh.rd pk hR hne
  exact k b off e Γ F a w Q he hh hq
theorem Fn.rd {f : FuncId} {args : List Value} {Post : Ending → List SP → Prop} (pk : Pick H C H') (hR : RdA C A cells) (hne : cells ≠ []) (k : ∀ b off, A = some ⟨b, off, none⟩ → Fn P f args H Post) : Fn P f args H Post := by
  intro Γ F w hh
  obtain ⟨b, off, e, _⟩ := hh.rd pk hR hne
  exact k b off e Γ F w hh
/-- a load out of what can be read. -/
theorem q_loadr {sd : TypeDesc} {j : Nat} (hu : P.underlying T' = some sd) (hs : scDesc sd = true) (hx : evalL L x = some (.pointer (some ⟨b, off + j, none⟩))) (pk : Pick H C H') (hR : RdA C (some ⟨b, off, none⟩) cells) (hv : cells[j]? = some v)
    (hw : wants ops L ⟨some d, .load T' x, T, p, es, g⟩ = some true) (ht : Nat.blt d n = true) : QStep P n ops ⟨some d, .load T' x, T, p, es, g⟩ ds L H v :=
  qmk hw ht (by simp) fun Γ F a w he hh => ⟨w, by
    have hlt : j < cells.length := by
      rcases Nat.lt_or_ge j cells.length with h | h
      · exact h
      · rw [List.getElem?_eq_none h] at hv; cases hv
    have hne : cells ≠ [] := by intro h; rw [h] at hlt; simp at hlt
    obtain ⟨b', off', e, hc⟩ := hh.rd pk hR hne
    cases e
    simp only [execOp, he.eval hx, Instr.loadAt, Instr.sureAddr, Sem.run_bind, Sem.run_pure, Result.andThen_ok]
    rw [loadVar_sc hu hs ((hc j hlt).trans hv)]; rfl, hh⟩
theorem q_loadar {sd : TypeDesc} {j : Nat} {vs : List Value} (hu : P.underlying T' = some sd) (hs : scDesc sd = false) (hk : sizeP P T' = some k) (hx : evalL L x = some (.pointer (some ⟨b, off + j, none⟩))) (pk : Pick H C H') (hR : RdA C (some ⟨b, off, none⟩) cells)
    (hv : (cells.drop j).take k = vs) (hl : vs.length = k) (h0 : Nat.blt 0 k = true)
    (hw : wants ops L ⟨some d, .load T' x, T, p, es, g⟩ = some true) (ht : Nat.blt d n = true) : QStep P n ops ⟨some d, .load T' x, T, p, es, g⟩ ds L H (.agg vs.toArray) :=
  qmk hw ht (by simp) fun Γ F a w he hh => ⟨w, by
    have hk0 : 0 < k := by simpa [Nat.blt_eq] using h0
    have hlt : j + k ≤ cells.length := by
      have := congrArg List.length hv
      simp only [List.length_take, List.length_drop, hl] at this
      have := Nat.min_le_right k (cells.length - j)
      omega
    have hne : cells ≠ [] := by intro h; rw [h] at hlt; simp at hlt; omega
    obtain ⟨b', off', e, hc⟩ := hh.rd pk hR hne
    cases e
    simp only [execOp, he.eval hx, Instr.loadAt, Instr.sureAddr, Sem.run_bind, Sem.run_pure, Result.andThen_ok]
    simp only [loadVar, Sem.run_bind, isAgg_ag w hu hs, Result.andThen_ok, if_true, sizeOf_run w hk, loadCells]
    have h3 := loadCells_rd (P := P) (w := w) (b := b) (off := off + j) vs 0 #[] (fun i hi => by
      have h4 := hc (j + i) (by omega)
      rw [show off + j + (0 + i) = off + (j + i) by omega, h4, ← hv]
      have : i < k := by omega
      simp [List.getElem?_take, List.getElem?_drop, this])
    rw [hl] at h3
    rw [h3]
    simp, hh⟩

/-! ### make; cutting -/
theorem Ops.make {i j : Int} {k1 k2 : IntKind} (hu : P.underlying T' = some (.slice e)) (hsz : sizeP P e = some sz) (hby : bytesP P e = some by_) (hz : zeroP P e = some z) (hzc : z.cells.size = sz)
    (hx : evalL L x = some (.int k1 i)) (hy : evalL L y = some (.int k2 j)) (h0 : 0 ≤ i) (h1 : i ≤ j) (h2 : j ≤ 9223372036854775807) (hb : j.toNat * by_ ≤ 281474976710656) (hsp : Nat.blt 0 sz = true)
    (hw : wants ops L ⟨some d, .makeSlice T' x y, T, p, es, g⟩ = some true) (ht : Nat.blt d n = true)
    (kk : ∀ A, Ops P ro n ops r ds ((d, .slice A i.toNat j.toNat) :: L) (Own e sz A i.toNat j.toNat ((List.replicate i.toNat z.cells.toList).flatten) :: H) K) : Ops P ro n ops (⟨some d, .makeSlice T' x y, T, p, es, g⟩ :: r) ds L H K :=
  Ops.val hw (by simp) ht fun Γ F a w he hh => by
    obtain ⟨info, hi, hib⟩ : ∃ info, P.info? e = some info ∧ info.bytes = by_ := by
      unfold bytesP at hby
      cases hi : P.info? e with
      | none => simp [hi] at hby
      | some info => exact ⟨info, rfl, by simpa [hi] using hby⟩
    have hti : (typeInfo e).run P w = .ok info w := by simp [typeInfo, hi]
    have hwi : IntKind.i64.wrap i = i := wrap_in (i64_in (by omega))
    have hwj : IntKind.i64.wrap j = j := wrap_in (i64_in (by omega))
    have hsp' : 0 < sz := by simpa [Nat.blt_eq] using hsp
    let cs : List Value := (List.replicate j.toNat z.cells.toList).flatten
    have hcs : (if j.toNat * sz = 0 then (#[] : Array Value) else z.cells) = (if j.toNat * sz = 0 then #[] else z.cells) := rfl
    have hrow : ∀ zz : Array Value, (zz = if j.toNat * sz = 0 then (#[] : Array Value) else z.cells) → ((Array.range (j.toNat * sz)).map (zz[· % zz.size]!)) = cs.toArray := by
      intro zz hzz
      by_cases h : j.toNat * sz = 0
      · have : j.toNat = 0 := by rcases Nat.mul_eq_zero.1 h with h | h <;> omega
        simp [cs, this]
      · rw [if_neg h] at hzz; subst hzz
        apply Array.ext
        · simp [cs, hzc]
        · intro q hq1 hq2
          simp only [Array.size_map, Array.size_range] at hq1
          have hmod : q % z.cells.size < z.cells.size := Nat.mod_lt _ (by omega)
          simp only [Array.getElem_map, Array.getElem_range, List.getElem_toArray]
          rw [getElem!_pos z.cells _ hmod]
          have hfl : ∀ (N q : Nat) (h : q < ((List.replicate N z.cells.toList).flatten).length), ((List.replicate N z.cells.toList).flatten)[q] = z.cells[q % z.cells.size]'(Nat.mod_lt _ (by omega)) := by
            intro N
            induction N with
            | zero => intro q h; simp at h
            | succ N ih =>
              intro q h
              simp only [List.replicate_succ, List.flatten_cons] at h ⊢
              by_cases hlt : q < z.cells.size
              · rw [List.getElem_append_left (by simpa using hlt)]
                simp [Nat.mod_eq_of_lt hlt]
              · rw [List.getElem_append_right (by simpa using Nat.le_of_not_lt hlt)]
                rw [ih]
                simp only [Array.length_toList]
                congr 1
                rw [Nat.mod_eq_sub_mod (Nat.le_of_not_lt hlt)]
          exact (hfl j.toNat q (by simpa [cs] using hq2)).symm
    refine ⟨.slice (some ⟨w.heap.size, 0, none⟩) i.toNat j.toNat, { w with heap := w.heap.push (.cells cs.toArray e) }, _, ?_, ?_, kk (some ⟨w.heap.size, 0, none⟩)⟩
    · have hj0 : ¬ j < 0 := by omega
      have hi0 : ¬ i < 0 := by omega
      have hij : ¬ i > j := by omega
      have hbj : ¬ (281474976710656 : Int) < (info.bytes : Int) * j := by
        rw [hib]
        have : ((by_ : Int) * j) = ((j.toNat * by_ : Nat) : Int) := by
          rw [Nat.mul_comm, Int.natCast_mul, Int.toNat_of_nonneg (by omega)]
        rw [this]; omega
      by_cases h : j.toNat * sz = 0
      · have hj : j.toNat = 0 := by rcases Nat.mul_eq_zero.1 h with h | h <;> omega
        simp [execOp, Instr.makeSlice, he.eval hx, he.eval hy, underlying, hu, asInt, asIntOf, hti, hwi, hwj, hj0, hi0, hij, hbj, sizeOf_run w hsz, hj, newRow, cs]
        congr 2
        apply Array.ext <;> simp
      · have hr := hrow z.cells (by rw [if_neg h])
        simp [execOp, Instr.makeSlice, he.eval hx, he.eval hy, underlying, hu, asInt, asIntOf, hti, hwi, hwj, hj0, hi0, hij, hbj, sizeOf_run w hsz, newRow, zeroValue_run w hz, hr]
        exact fun h' => absurd h' h
    · refine (hh.newb (.cells cs.toArray e)).weaken fun q hq => star_mono (fun h' hb' => ?_) (fun _ h => h) hq
      have hsplit : cs = (List.replicate i.toNat z.cells.toList).flatten ++ (List.replicate (j.toNat - i.toNat) z.cells.toList).flatten := by
        simp only [cs]
        rw [← List.flatten_append, List.replicate_append_replicate]
        congr 2; omega
      refine .inr ⟨w.heap.size, (List.replicate (j.toNat - i.toNat) z.cells.toList).flatten, (0, 0), rfl, by simp [hzc], ?_, by omega, .zero, ?_⟩
      · rw [← hsplit]; simp [cs, hzc]
      · rw [← hsplit]; exact hb'

/-- where a cut slice begins. -/
def cutA (A : Option Addr) (sz i c : Nat) : Option Addr := if c = i then A else A.map (·.add (i * sz))
theorem RdA.cut {i k : Nat} (h : RdA C A cells) (hk : cells.drop (i * sz) = [] ∨ k = 0 ∨ c ≠ i) : RdA C (cutA A sz i c) ((cells.drop (i * sz)).take k) := by
  intro hp hc
  rcases hk with hk | hk | hk
  · left; simp [hk]
  · left; simp [hk]
  · cases A with
    | none =>
      rcases h hp hc with h | ⟨b, off, l, ty, fr, e, _⟩
      · left; simp [h]
      · cases e
    | some a =>
      rcases h hp hc with h0 | ⟨b, off, l, ty, fr, e, hb, hl⟩
      · left; simp [h0]
      · cases e
        have := RdA.sub (i := i * sz) (k := k) h hp hc
        simpa [cutA, hk, add_none] using this
section cut
variable {i j : Int} {k1 k2 : IntKind} {lo hi : Operand} {len cap : Nat}
theorem q_slice_sl_lh (hu : P.underlying T' = some (.slice e)) (hk : sizeP P e = some sz) (hx : evalL L x = some (.slice A len cap)) (hl : evalL L lo = some (.int k1 i)) (hh : evalL L hi = some (.int k2 j)) (h0 : 0 ≤ i) (h1 : i ≤ j) (h2 : j ≤ cap)
    (hw : wants ops L ⟨some d, .slice T' x (some lo) (some hi) none, T, p, es, g⟩ = some true) (ht : Nat.blt d n = true) : QStep P n ops ⟨some d, .slice T' x (some lo) (some hi) none, T, p, es, g⟩ ds L H (.slice (cutA A sz i.toNat cap) (j.toNat - i.toNat) (cap - i.toNat)) :=
  qpure hw ht (by simp) fun a w he => by
    have h3 : 0 ≤ j ∧ j ≤ (cap : Int) := by omega
    have h4 : 0 ≤ i ∧ i ≤ ((j.toNat : Nat) : Int) := by omega
    simp only [execOp, Option.map_some, Option.map_none, Instr.sliceAt, he.eval hx, he.eval hl, he.eval hh, Sem.run_bind, underlying, run_program, Result.andThen_ok, hu, Sem.run_pure, Instr.slice, Instr.sliceBounds, Instr.sliceBound, asIntOf, Option.isSome_none, Bool.false_eq_true, if_true]
    simp only [Sem.run_pure, h3, h4, and_self, if_true, Result.andThen_ok, sizeOf_run w hk, cutA]
theorem q_slice_sl_l (hu : P.underlying T' = some (.slice e)) (hk : sizeP P e = some sz) (hx : evalL L x = some (.slice A len cap)) (hl : evalL L lo = some (.int k1 i)) (h0 : 0 ≤ i) (h1 : i ≤ len)
    (hw : wants ops L ⟨some d, .slice T' x (some lo) none none, T, p, es, g⟩ = some true) (ht : Nat.blt d n = true) : QStep P n ops ⟨some d, .slice T' x (some lo) none none, T, p, es, g⟩ ds L H (.slice (cutA A sz i.toNat cap) (len - i.toNat) (cap - i.toNat)) :=
  qpure hw ht (by simp) fun a w he => by
    have h4 : 0 ≤ i ∧ i ≤ (len : Int) := by omega
    simp only [execOp, Option.map_some, Option.map_none, Instr.sliceAt, he.eval hx, he.eval hl, Sem.run_bind, underlying, run_program, Result.andThen_ok, hu, Sem.run_pure, Instr.slice, Instr.sliceBounds, Instr.sliceBound, asIntOf, Option.isSome_none, Bool.false_eq_true, if_true]
    simp only [Sem.run_pure, h4, and_self, if_true, if_false, Bool.false_eq_true, Result.andThen_ok, sizeOf_run w hk, cutA]
theorem q_slice_sl_h (hu : P.underlying T' = some (.slice e)) (hk : sizeP P e = some sz) (hx : evalL L x = some (.slice A len cap)) (hh : evalL L hi = some (.int k2 j)) (h0 : 0 ≤ j) (h2 : j ≤ cap)
    (hw : wants ops L ⟨some d, .slice T' x none (some hi) none, T, p, es, g⟩ = some true) (ht : Nat.blt d n = true) : QStep P n ops ⟨some d, .slice T' x none (some hi) none, T, p, es, g⟩ ds L H (.slice A j.toNat cap) :=
  qpure hw ht (by simp) fun a w he => by
    have h3 : 0 ≤ j ∧ j ≤ (cap : Int) := by omega
    have h5 : (if cap = 0 then A else A.map (·.add (0 * sz))) = A := by
      split
      · rfl
      · cases A <;> simp [Addr.add]
    simp only [execOp, Option.map_some, Option.map_none, Instr.sliceAt, he.eval hx, he.eval hh, Sem.run_bind, underlying, run_program, Result.andThen_ok, hu, Sem.run_pure, Instr.slice, Instr.sliceBounds, Instr.sliceBound, asIntOf, Option.isSome_none, Bool.false_eq_true, if_true]
    simp only [Sem.run_pure, h3, and_self, if_true, Result.andThen_ok, sizeOf_run w hk, h5, Nat.sub_zero]
/-- an array's cells as a slice. -/
theorem q_slice_ar_0 {N : Nat} (hu : P.underlying T' = some (.array N e)) (hk : sizeP P e = some sz) (hx : evalL L x = some (.pointer (some ⟨b, off, none⟩)))
    (hw : wants ops L ⟨some d, .slice T' x none none none, T, p, es, g⟩ = some true) (ht : Nat.blt d n = true) : QStep P n ops ⟨some d, .slice T' x none none none, T, p, es, g⟩ ds L H (.slice (some ⟨b, off, none⟩) N N) :=
  qpure hw ht (by simp) fun a w he => by
    simp only [execOp, Option.map_none, Instr.sliceAt, he.eval hx, Sem.run_bind, underlying, run_program, Result.andThen_ok, hu, Sem.run_pure, Instr.sureAddr, Instr.sliceBounds, sizeOf_run w hk]
    simp [Addr.add]
theorem q_slice_ar_lh {N : Nat} (hu : P.underlying T' = some (.array N e)) (hk : sizeP P e = some sz) (hx : evalL L x = some (.pointer (some ⟨b, off, none⟩))) (hl : evalL L lo = some (.int k1 i)) (hh : evalL L hi = some (.int k2 j)) (h0 : 0 ≤ i) (h1 : i ≤ j) (h2 : j ≤ N) (hlt : i < N)
    (hw : wants ops L ⟨some d, .slice T' x (some lo) (some hi) none, T, p, es, g⟩ = some true) (ht : Nat.blt d n = true) : QStep P n ops ⟨some d, .slice T' x (some lo) (some hi) none, T, p, es, g⟩ ds L H (.slice (some ⟨b, off + i.toNat * sz, none⟩) (j.toNat - i.toNat) (N - i.toNat)) :=
  qpure hw ht (by simp) fun a w he => by
    have h3 : 0 ≤ j ∧ j ≤ (N : Int) := by omega
    have h4 : 0 ≤ i ∧ i ≤ ((j.toNat : Nat) : Int) := by omega
    have h5 : ¬ N = i.toNat := by omega
    simp only [execOp, Option.map_some, Option.map_none, Instr.sliceAt, he.eval hx, he.eval hl, he.eval hh, Sem.run_bind, underlying, run_program, Result.andThen_ok, hu, Sem.run_pure, Instr.sureAddr, Instr.sliceBounds, Instr.sliceBound, asIntOf, Option.isSome_none, Bool.false_eq_true]
    simp [h3, h4, sizeOf_run w hk, h5, add_none]
    exact fun h => absurd h (by omega)
theorem q_slice_ar_h {N : Nat} (hu : P.underlying T' = some (.array N e)) (hk : sizeP P e = some sz) (hx : evalL L x = some (.pointer (some ⟨b, off, none⟩))) (hh : evalL L hi = some (.int k2 j)) (h0 : 0 ≤ j) (h2 : j ≤ N)
    (hw : wants ops L ⟨some d, .slice T' x none (some hi) none, T, p, es, g⟩ = some true) (ht : Nat.blt d n = true) : QStep P n ops ⟨some d, .slice T' x none (some hi) none, T, p, es, g⟩ ds L H (.slice (some ⟨b, off, none⟩) j.toNat N) :=
  qpure hw ht (by simp) fun a w he => by
    have h3 : 0 ≤ j ∧ j ≤ (N : Int) := by omega
    simp only [execOp, Option.map_some, Option.map_none, Instr.sliceAt, he.eval hx, he.eval hh, Sem.run_bind, underlying, run_program, Result.andThen_ok, hu, Sem.run_pure, Instr.sureAddr, Instr.sliceBounds, Instr.sliceBound, asIntOf, Option.isSome_none, Bool.false_eq_true]
    simp [h3, sizeOf_run w hk, Addr.add]
theorem q_slice_ar_l {N : Nat} (hu : P.underlying T' = some (.array N e)) (hk : sizeP P e = some sz) (hx : evalL L x = some (.pointer (some ⟨b, off, none⟩))) (hl : evalL L lo = some (.int k1 i)) (h0 : 0 ≤ i) (hlt : i < N)
    (hw : wants ops L ⟨some d, .slice T' x (some lo) none none, T, p, es, g⟩ = some true) (ht : Nat.blt d n = true) : QStep P n ops ⟨some d, .slice T' x (some lo) none none, T, p, es, g⟩ ds L H (.slice (some ⟨b, off + i.toNat * sz, none⟩) (N - i.toNat) (N - i.toNat)) :=
  qpure hw ht (by simp) fun a w he => by
    have h4 : 0 ≤ i ∧ i ≤ (N : Int) := by omega
    have h5 : ¬ N = i.toNat := by omega
    simp only [execOp, Option.map_some, Option.map_none, Instr.sliceAt, he.eval hx, he.eval hl, Sem.run_bind, underlying, run_program, Result.andThen_ok, hu, Sem.run_pure, Instr.sureAddr, Instr.sliceBounds, Instr.sliceBound, asIntOf, Option.isSome_none, Bool.false_eq_true]
    simp [h4, sizeOf_run w hk, h5, add_none]
/-- a slice as the array that it begins with. -/
theorem q_sliceToArr {N : Nat} (hu : P.underlying T' = some (.array N e)) (hx : evalL L x = some (.slice A len cap)) (h0 : N ≤ len)
    (hw : wants ops L ⟨some d, .sliceToArrayPointer T' x, T, p, es, g⟩ = some true) (ht : Nat.blt d n = true) : QStep P n ops ⟨some d, .sliceToArrayPointer T' x, T, p, es, g⟩ ds L H (.pointer A) :=
  qpure hw ht (by simp) fun a w he => by
    have h1 : ¬ len < N := by omega
    simp [execOp, Instr.arrayAt, he.eval hx, underlying, hu, h1]
end cut

/-! ### Conversions between strings and bytes -/
theorem q_conv_same {S D : TypeId} {sd : TypeDesc} {s : List UInt8} (hS : P.underlying S = some sd) (hD : P.underlying D = some .string) (hx : evalL L x = some (.string (bs s)))
    (hw : wants ops L ⟨some d, .convert S D x, T, p, es, g⟩ = some true) (ht : Nat.blt d n = true) : QStep P n ops ⟨some d, .convert S D x, T, p, es, g⟩ ds L H (.string (bs s)) :=
  qpure hw ht (by simp) fun a w he => by
    cases sd <;> simp [execOp, convert, he.eval hx, underlying, hS, hD]
theorem bytesToString_loop (f : Value → ByteArray → Sem (ForInStep ByteArray)) (hf : ∀ (c : Int) s, f (.int .u8 c) s = Pure.pure (.yield (s.push (UInt8.ofNat c.toNat)))) (w : World) : ∀ (cs : List UInt8) (s0 : ByteArray),
    (forIn (m := Sem) (cs.map fun c => Value.int .u8 (c.toNat : Int)) s0 f).run P w = .ok (s0 ++ bs cs) w := by
  intro cs
  induction cs with
  | nil => intro s0; simp [bs]; exact ByteArray.ext (by simp)
  | cons c cs ih =>
    intro s0
    simp only [List.map_cons, List.forIn_cons, hf, Sem.run_bind, Sem.run_pure, Result.andThen_ok]
    rw [ih]
    congr 1
    apply ByteArray.ext
    simp [bs]
theorem q_conv_bs {S D : TypeId} {s : List UInt8} {len cap : Nat} (hS : P.underlying S = some (.slice e)) (hE : P.underlying e = some (.int .u8)) (hD : P.underlying D = some .string) (hx : evalL L x = some (.slice A len cap)) (pk : Pick H C H') (hR : RdA C A (s.map fun c => Value.int .u8 (c.toNat : Int))) (hl : s.length = len)
    (hw : wants ops L ⟨some d, .convert S D x, T, p, es, g⟩ = some true) (ht : Nat.blt d n = true) : QStep P n ops ⟨some d, .convert S D x, T, p, es, g⟩ ds L H (.string (bs s)) :=
  qmk hw ht (by simp) fun Γ F a w he hh => ⟨w, by
    cases A with
    | none =>
      have : s = [] := by
        cases hs : s with
        | nil => rfl
        | cons c l => obtain ⟨b, off, e, _⟩ := hh.rd pk hR (by simp [hs]); cases e
      subst this
      simp [execOp, convert, he.eval hx, underlying, hS, hE, hD, Conv.bytesToString, bs]
      rfl
    | some ad =>
      have hlc : (loadCells ad len).run P w = .ok (s.map fun c => Value.int .u8 (c.toNat : Int)).toArray w := by
        have := firstCells_rd (P := P) (sz := 1) (k := len) (kc := cap) hh pk hR (by simp [hl])
        simpa [Builtin.firstCells] using this
      have hem : ByteArray.empty ++ bs s = bs s := by apply ByteArray.ext; simp [bs]
      simp only [execOp, convert, he.eval hx, underlying, Sem.run_bind, run_program, Result.andThen_ok, hS, hE, hD, Sem.run_pure, Conv.bytesToString, hlc, List.forIn_toArray]
      rw [bytesToString_loop (P := P) _ (fun c s => rfl) w s ByteArray.empty, hem]
      rfl, hh⟩
theorem Ops.conv_sb {S D : TypeId} {s : List UInt8} (hS : P.underlying S = some .string) (hD : P.underlying D = some (.slice e)) (hE : P.underlying e = some (.int .u8)) (hx : evalL L x = some (.string (bs s)))
    (hw : wants ops L ⟨some d, .convert S D x, T, p, es, g⟩ = some true) (ht : Nat.blt d n = true)
    (kk : ∀ A c, Ops P ro n ops r ds ((d, .slice A s.length c) :: L) (Own e 1 A s.length c (s.map fun c => Value.int .u8 (c.toNat : Int)) :: H) K) : Ops P ro n ops (⟨some d, .convert S D x, T, p, es, g⟩ :: r) ds L H K :=
  Ops.val hw (by simp) ht fun Γ F a w he hh => by
    have hfi : (Question.appendCap s.length 0 e).forced = false := rfl
    generalize hcap : (Question.appendCap s.length 0 e).cut (w.tape w.drawn (.appendCap s.length 0 e)) = cap
    have hcap1 : s.length ≤ cap := by rw [← hcap]; simp [Question.cut]
    let cells : List Value := s.map fun c => Value.int .u8 (c.toNat : Int)
    let junk : List Value := List.replicate (cap - s.length) (.int .u8 0)
    let o1 : Obj := .cells (cells ++ junk).toArray e
    have hsz : (cells ++ junk).length = cap := by simp [cells, junk]; omega
    have hh1 := ((hh.drew (w.drawn + 1)).newb o1)
    let w1 : World := { w with drawn := w.drawn + 1, heap := w.heap.push o1 }
    have hb1 : w1.heap[w.heap.size]? = some o1 := by simp [w1]
    let w2 : World := w1.freeze ⟨w.heap.size, cap, none⟩ 1
    have hh2 : Hold Γ (pt w.heap.size (.cells (cells ++ junk).toArray e (cap, cap + 1)) :: H) F w2 := by
      refine hh1.turn Pick.head rfl rfl rfl ?_ fun i hi => ?_
      · simp only [w2, World.freeze, Nat.one_ne_zero, if_false, Array.getElem?_modify, if_true, hb1, o1]
        simp
      · simp only [w2, World.freeze]
        simp only [Nat.one_ne_zero, if_false, Array.getElem?_modify]
        rw [if_neg (fun h => hi h.symm)]
    refine ⟨.slice (some ⟨w.heap.size, 0, none⟩) s.length cap, w2, Own e 1 (some ⟨w.heap.size, 0, none⟩) s.length cap cells :: H, ?_, hh2.weaken fun q hq => star_mono (fun h' hb' => ?_) (fun _ h => h) hq, kk _ _⟩
    · have e1 : (bs s).data.map (fun b => Value.int .u8 (b.toNat : Int)) ++ Array.replicate (cap - s.length) (Value.int .u8 0) = (cells ++ junk).toArray := by simp [bs, cells, junk]
      have e2 : w1.shape? w.heap.size = some (e, cap) := by simp [World.shape?, hb1, o1, hsz]
      simp only [execOp, convert, he.eval hx, underlying, Sem.run_bind, run_program, Result.andThen_ok, hS, hD, hE, Sem.run_pure, Conv.stringToBytes, bs_size, run_choose, hfi, Bool.false_eq_true, if_false, hcap, newRow, e1, run_newObj, markStringish, run_shape]
      have e3 : World.shape? { w with drawn := w.drawn + 1, heap := w.heap.push (.cells (cells ++ junk).toArray e) } w.heap.size = some (e, cap) := e2
      simp only [e3, run_freeze, Result.andThen_ok, Sem.run_pure]
      rfl
    · exact .inr ⟨w.heap.size, junk, (cap, cap + 1), rfl, by simp [cells], by simpa using hsz, hcap1, ⟨by simp, fun j hj => by simp; omega⟩, hb'⟩
end
end Go.Z
