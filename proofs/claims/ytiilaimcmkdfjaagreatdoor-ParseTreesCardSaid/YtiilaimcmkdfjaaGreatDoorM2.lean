/- More on slices: nil, make, cutting, zeros appended, conversions; structs by value; comparisons with nil. -/
import Derived.Test.YtiilaimcmkdfjaaGreatDoorM1
import Derived.Lib.UnsafeStr
import Derived.Laws.Externs
import Derived.Lib.MakeNoZero
import Derived.Scope
set_option linter.unusedVariables false
set_option linter.unusedSimpArgs false
namespace Go.Z
theorem sep_nil_own {e sz : Nat} {H : List SP} {h : Hp} (hs : sep H h) : sep (Own e sz none 0 0 [] :: H) h := ⟨Hp.nil, h, λ _ => .inl rfl, (Hp.nil_un _).symm, own_nil rfl, hs⟩
section
variable {P : Program} {ro : Option Nat} {n : Nat} {ops : Array Oper} {r : List Oper} {ds : List Deferred} {L : Lo} {H H' H2 : List SP} {K : Kont} {C : SP}
 {T T' t xt : TypeId} {p : String} {es : Array Edge} {g : Option (Nat × Bool)} {d e sz by_ b off : Nat} {x y : Operand} {v z : Value} {m c k kc : Nat} {A : Option Addr} {cells : List Value}
theorem q_loadr {sd : TypeDesc} {j : Nat} (hu : P.underlying T' = some sd) (hs : scDesc sd = true) (hx : evalL L x = some (.pointer (some ⟨b, off + j, none⟩))) (pk : Pick H C H') (hR : RdA C (some ⟨b, off, none⟩) cells) (hv : cells[j]? = some v)
  (hw : wants ops L ⟨some d, .load T' x, T, p, es, g⟩ = some true) (ht : Nat.blt d n = true) : QStep P n ops ⟨some d, .load T' x, T, p, es, g⟩ ds L H v :=
 qmk hw ht (by simp) λ Γ F a w he hh => ⟨w, by
  have hlt : j < cells.length := by
   rcases Nat.lt_or_ge j cells.length with h | h
   ·exact h
   ·rw [List.getElem?_eq_none h] at hv; cases hv
  have hne : cells ≠ [] := by intro h; rw [h] at hlt; simp at hlt
  obtain ⟨b', off', e, hc⟩ := hh.rd pk hR hne
  cases e
  simp only [execOp, he.eval hx, Instr.loadAt, Instr.sureAddr, Sem.run_bind, Sem.run_pure, Result.andThen_ok]
  rw [zkA hu hs ((hc j hlt).trans hv)]; rfl, hh⟩
theorem q_loadar {sd : TypeDesc} {j : Nat} {vs : List Value} (hu : P.underlying T' = some sd) (hs : scDesc sd = false) (hk : sizeP P T' = some k) (hx : evalL L x = some (.pointer (some ⟨b, off + j, none⟩))) (pk : Pick H C H') (hR : RdA C (some ⟨b, off, none⟩) cells)
  (hv : (cells.drop j).take k = vs) (hl : vs.length = k) (h0 : Nat.blt 0 k = true)
  (hw : wants ops L ⟨some d, .load T' x, T, p, es, g⟩ = some true) (ht : Nat.blt d n = true) : QStep P n ops ⟨some d, .load T' x, T, p, es, g⟩ ds L H (.agg vs.toArray) :=
 qmk hw ht (by simp) λ Γ F a w he hh => ⟨w, by
  have hk0 : 0 < k := by simpa [Nat.blt_eq] using h0
  have hlt : j + k <= cells.length := by
   have := congrArg List.length hv
   simp only [List.length_take, List.length_drop, hl] at this
   have := Nat.min_le_right k (cells.length - j)
   omega
  have hne : cells ≠ [] := by intro h; rw [h] at hlt; simp at hlt; omega
  obtain ⟨b', off', e, hc⟩ := hh.rd pk hR hne
  cases e
  simp only [execOp, he.eval hx, Instr.loadAt, Instr.sureAddr, Sem.run_bind, Sem.run_pure, Result.andThen_ok]
  simp only [loadVar, Sem.run_bind, isAgg_ag w hu hs, Result.andThen_ok, if_true, zqg w hk, loadCells]
  have h3 := zkQ (P := P) (w := w) (b := b) (off := off + j) vs 0 #[] (λ i hi => by
   have h4 := hc (j + i) (by omega)
   rw [show off + j + (0 + i) = off + (j + i) by omega, h4, <- hv]
   have : i < k := by omega
   simp [List.getElem?_take, List.getElem?_drop, this])
  rw [hl] at h3
  rw [h3]
  simp, hh⟩
theorem Ops.make {i j : Int} {k1 k2 : IntKind} (hu : P.underlying T' = some (.slice e)) (hsz : sizeP P e = some sz) (hby : bytesP P e = some by_) (hz : zeroP P e = some z) (hzc : z.cells.size = sz)
  (hx : evalL L x = some (.int k1 i)) (hy : evalL L y = some (.int k2 j)) (h0 : 0 <= i) (h1 : i <= j) (h2 : j <= 9223372036854775807) (hb : j.toNat * by_ <= 281474976710656) (hsp : Nat.blt 0 sz = true)
  (hw : wants ops L ⟨some d, .makeSlice T' x y, T, p, es, g⟩ = some true) (ht : Nat.blt d n = true)
  (kk : ∀ A, Ops P ro n ops r ds ((d, .slice A i.toNat j.toNat) :: L) (Own e sz A i.toNat j.toNat ((List.replicate i.toNat z.cells.toList).flatten) :: H) K) : Ops P ro n ops (⟨some d, .makeSlice T' x y, T, p, es, g⟩ :: r) ds L H K :=
 Ops.val hw (by simp) ht λ Γ F a w he hh => by
  obtain ⟨info, hi, hib⟩ : ∃ info, P.info? e = some info /\ info.bytes = by_ := by
   unfold bytesP at hby
   cases hi : P.info? e with
   | none => simp [hi] at hby
   | some info => exact ⟨info, rfl, by simpa [hi] using hby⟩
  have hti : (typeInfo e).run P w = .ok info w := by simp [typeInfo, hi]
  have hwi : IntKind.i64.wrap i = i := zxR (i64_in (by omega))
  have hwj : IntKind.i64.wrap j = j := zxR (i64_in (by omega))
  have hsp' : 0 < sz := by simpa [Nat.blt_eq] using hsp
  let cs : List Value := (List.replicate j.toNat z.cells.toList).flatten
  have hcs : (if j.toNat * sz = 0 then (#[] : Array Value) else z.cells) = (if j.toNat * sz = 0 then #[] else z.cells) := rfl
  have hrow : ∀ zz : Array Value, (zz = if j.toNat * sz = 0 then (#[] : Array Value) else z.cells) -> ((Array.range (j.toNat * sz)).map (zz[· % zz.size]!)) = cs.toArray := by
   intro zz hzz
   by_cases h : j.toNat * sz = 0
   ·have : j.toNat = 0 := by rcases Nat.mul_eq_zero.1 h with h | h <;> omega
    simp [cs, this]
   ·rw [if_neg h] at hzz; subst hzz
    apply Array.ext
    ·simp [cs, hzc]
    ·intro q hq1 hq2
     simp only [Array.size_map, Array.size_range] at hq1
     have hmod : q % z.cells.size < z.cells.size := Nat.mod_lt _ (by omega)
     simp only [Array.getElem_map, Array.getElem_range, List.getElem_toArray]
     rw [getElem!_pos z.cells _ hmod]
     have hfl : ∀ (N q : Nat) (h : q < ((List.replicate N z.cells.toList).flatten).length), ((List.replicate N z.cells.toList).flatten)[q] = z.cells[q % z.cells.size]'(Nat.mod_lt _ (by omega)) := by
      intro N
      induction N with
      | zero => intro q h; simp at h
      | succ N ih =>
       intro q h
       simp only [List.replicate_succ, List.flatten_cons] at h ⊢
       by_cases hlt : q < z.cells.size
       ·rw [List.getElem_append_left (by simpa using hlt)]
        simp [Nat.mod_eq_of_lt hlt]
       ·rw [List.getElem_append_right (by simpa using Nat.le_of_not_lt hlt)]
        rw [ih]
        simp only [Array.length_toList]
        congr 1
        rw [Nat.mod_eq_sub_mod (Nat.le_of_not_lt hlt)]
     exact (hfl j.toNat q (by simpa [cs] using hq2)).symm
  refine ⟨.slice (some ⟨w.heap.size, 0, none⟩) i.toNat j.toNat, { w with heap := w.heap.push (.cells cs.toArray e) }, _, ?_, ?_, kk (some ⟨w.heap.size, 0, none⟩)⟩
  ·have hj0 : ¬ j < 0 := by omega
   have hi0 : ¬ i < 0 := by omega
   have hij : ¬ i > j := by omega
   have hbj : ¬ (281474976710656 : Int) < (info.bytes : Int) * j := by
    rw [hib]
    have : ((by_ : Int) * j) = ((j.toNat * by_ : Nat) : Int) := by
     rw [Nat.mul_comm, Int.natCast_mul, Int.toNat_of_nonneg (by omega)]
    rw [this]; omega
   by_cases h : j.toNat * sz = 0
   ·have hj : j.toNat = 0 := by rcases Nat.mul_eq_zero.1 h with h | h <;> omega
    simp [execOp, Instr.makeSlice, he.eval hx, he.eval hy, underlying, hu, asInt, asIntOf, hti, hwi, hwj, hj0, hi0, hij, hbj, zqg w hsz, hj, newRow, cs]
    congr 2
    apply Array.ext <;> simp
   ·have hr := hrow z.cells (by rw [if_neg h])
    simp [execOp, Instr.makeSlice, he.eval hx, he.eval hy, underlying, hu, asInt, asIntOf, hti, hwi, hwj, hj0, hi0, hij, hbj, zqg w hsz, newRow, zql w hz, hr]
    exact λ h' => absurd h' h
  ·refine (hh.newb (.cells cs.toArray e)).weaken λ q hq => zqd (λ h' hb' => ?_) (λ _ h => h) hq
   have hsplit : cs = (List.replicate i.toNat z.cells.toList).flatten ++ (List.replicate (j.toNat - i.toNat) z.cells.toList).flatten := by
    simp only [cs]
    rw [<- List.flatten_append, List.replicate_append_replicate]
    congr 2; omega
   refine .inr ⟨w.heap.size, (List.replicate (j.toNat - i.toNat) z.cells.toList).flatten, (0, 0), rfl, by simp [hzc], ?_, by omega, .zero, ?_⟩
   ·rw [<- hsplit]; simp [cs, hzc]
   ·rw [<- hsplit]; exact hb'
def cutA (A : Option Addr) (sz i c : Nat) : Option Addr := if c = i then A else A.map (·.add (i * sz))
section cut
variable {i j : Int} {k1 k2 : IntKind} {lo hi : Operand} {len cap : Nat}
theorem zxW (hu : P.underlying T' = some (.slice e)) (hk : sizeP P e = some sz) (hx : evalL L x = some (.slice A len cap)) (hl : evalL L lo = some (.int k1 i)) (hh : evalL L hi = some (.int k2 j)) (h0 : 0 <= i) (h1 : i <= j) (h2 : j <= cap)
  (hw : wants ops L ⟨some d, .slice T' x (some lo) (some hi) none, T, p, es, g⟩ = some true) (ht : Nat.blt d n = true) : QStep P n ops ⟨some d, .slice T' x (some lo) (some hi) none, T, p, es, g⟩ ds L H (.slice (cutA A sz i.toNat cap) (j.toNat - i.toNat) (cap - i.toNat)) :=
 qpure hw ht (by simp) λ a w he => by
  have h3 : 0 <= j /\ j <= (cap : Int) := by omega
  have h4 : 0 <= i /\ i <= ((j.toNat : Nat) : Int) := by omega
  simp only [execOp, Option.map_some, Option.map_none, Instr.sliceAt, he.eval hx, he.eval hl, he.eval hh, Sem.run_bind, underlying, run_program, Result.andThen_ok, hu, Sem.run_pure, Instr.slice, Instr.sliceBounds, Instr.sliceBound, asIntOf, Option.isSome_none, Bool.false_eq_true, if_true]
  simp only [Sem.run_pure, h3, h4, and_self, if_true, Result.andThen_ok, zqg w hk, cutA]
theorem zji (hu : P.underlying T' = some (.slice e)) (hk : sizeP P e = some sz) (hx : evalL L x = some (.slice A len cap)) (hl : evalL L lo = some (.int k1 i)) (h0 : 0 <= i) (h1 : i <= len)
  (hw : wants ops L ⟨some d, .slice T' x (some lo) none none, T, p, es, g⟩ = some true) (ht : Nat.blt d n = true) : QStep P n ops ⟨some d, .slice T' x (some lo) none none, T, p, es, g⟩ ds L H (.slice (cutA A sz i.toNat cap) (len - i.toNat) (cap - i.toNat)) :=
 qpure hw ht (by simp) λ a w he => by
  have h4 : 0 <= i /\ i <= (len : Int) := by omega
  simp only [execOp, Option.map_some, Option.map_none, Instr.sliceAt, he.eval hx, he.eval hl, Sem.run_bind, underlying, run_program, Result.andThen_ok, hu, Sem.run_pure, Instr.slice, Instr.sliceBounds, Instr.sliceBound, asIntOf, Option.isSome_none, Bool.false_eq_true, if_true]
  simp only [Sem.run_pure, h4, and_self, if_true, if_false, Bool.false_eq_true, Result.andThen_ok, zqg w hk, cutA]
theorem zjj (hu : P.underlying T' = some (.slice e)) (hk : sizeP P e = some sz) (hx : evalL L x = some (.slice A len cap)) (hh : evalL L hi = some (.int k2 j)) (h0 : 0 <= j) (h2 : j <= cap)
  (hw : wants ops L ⟨some d, .slice T' x none (some hi) none, T, p, es, g⟩ = some true) (ht : Nat.blt d n = true) : QStep P n ops ⟨some d, .slice T' x none (some hi) none, T, p, es, g⟩ ds L H (.slice A j.toNat cap) :=
 qpure hw ht (by simp) λ a w he => by
  have h3 : 0 <= j /\ j <= (cap : Int) := by omega
  have h5 : (if cap = 0 then A else A.map (·.add (0 * sz))) = A := by
   split
   ·rfl
   ·cases A <;> simp [Addr.add]
  simp only [execOp, Option.map_some, Option.map_none, Instr.sliceAt, he.eval hx, he.eval hh, Sem.run_bind, underlying, run_program, Result.andThen_ok, hu, Sem.run_pure, Instr.slice, Instr.sliceBounds, Instr.sliceBound, asIntOf, Option.isSome_none, Bool.false_eq_true, if_true]
  simp only [Sem.run_pure, h3, and_self, if_true, Result.andThen_ok, zqg w hk, h5, Nat.sub_zero]
theorem q_slice_ar_0 {N : Nat} (hu : P.underlying T' = some (.array N e)) (hk : sizeP P e = some sz) (hx : evalL L x = some (.pointer (some ⟨b, off, none⟩)))
  (hw : wants ops L ⟨some d, .slice T' x none none none, T, p, es, g⟩ = some true) (ht : Nat.blt d n = true) : QStep P n ops ⟨some d, .slice T' x none none none, T, p, es, g⟩ ds L H (.slice (some ⟨b, off, none⟩) N N) :=
 qpure hw ht (by simp) λ a w he => by
  simp only [execOp, Option.map_none, Instr.sliceAt, he.eval hx, Sem.run_bind, underlying, run_program, Result.andThen_ok, hu, Sem.run_pure, Instr.sureAddr, Instr.sliceBounds, zqg w hk]
  simp [Addr.add]
theorem q_slice_ar_lh {N : Nat} (hu : P.underlying T' = some (.array N e)) (hk : sizeP P e = some sz) (hx : evalL L x = some (.pointer (some ⟨b, off, none⟩))) (hl : evalL L lo = some (.int k1 i)) (hh : evalL L hi = some (.int k2 j)) (h0 : 0 <= i) (h1 : i <= j) (h2 : j <= N) (hlt : i < N)
  (hw : wants ops L ⟨some d, .slice T' x (some lo) (some hi) none, T, p, es, g⟩ = some true) (ht : Nat.blt d n = true) : QStep P n ops ⟨some d, .slice T' x (some lo) (some hi) none, T, p, es, g⟩ ds L H (.slice (some ⟨b, off + i.toNat * sz, none⟩) (j.toNat - i.toNat) (N - i.toNat)) :=
 qpure hw ht (by simp) λ a w he => by
  have h3 : 0 <= j /\ j <= (N : Int) := by omega
  have h4 : 0 <= i /\ i <= ((j.toNat : Nat) : Int) := by omega
  have h5 : ¬ N = i.toNat := by omega
  simp only [execOp, Option.map_some, Option.map_none, Instr.sliceAt, he.eval hx, he.eval hl, he.eval hh, Sem.run_bind, underlying, run_program, Result.andThen_ok, hu, Sem.run_pure, Instr.sureAddr, Instr.sliceBounds, Instr.sliceBound, asIntOf, Option.isSome_none, Bool.false_eq_true]
  simp [h3, h4, zqg w hk, h5, zqF]
  exact λ h => absurd h (by omega)
theorem zkM {N : Nat} (hu : P.underlying T' = some (.array N e)) (hk : sizeP P e = some sz) (hx : evalL L x = some (.pointer (some ⟨b, off, none⟩))) (hh : evalL L hi = some (.int k2 j)) (h0 : 0 <= j) (h2 : j <= N)
  (hw : wants ops L ⟨some d, .slice T' x none (some hi) none, T, p, es, g⟩ = some true) (ht : Nat.blt d n = true) : QStep P n ops ⟨some d, .slice T' x none (some hi) none, T, p, es, g⟩ ds L H (.slice (some ⟨b, off, none⟩) j.toNat N) :=
 qpure hw ht (by simp) λ a w he => by
  have h3 : 0 <= j /\ j <= (N : Int) := by omega
  simp only [execOp, Option.map_some, Option.map_none, Instr.sliceAt, he.eval hx, he.eval hh, Sem.run_bind, underlying, run_program, Result.andThen_ok, hu, Sem.run_pure, Instr.sureAddr, Instr.sliceBounds, Instr.sliceBound, asIntOf, Option.isSome_none, Bool.false_eq_true]
  simp [h3, zqg w hk, Addr.add]
theorem q_slice_ar_l {N : Nat} (hu : P.underlying T' = some (.array N e)) (hk : sizeP P e = some sz) (hx : evalL L x = some (.pointer (some ⟨b, off, none⟩))) (hl : evalL L lo = some (.int k1 i)) (h0 : 0 <= i) (hlt : i < N)
  (hw : wants ops L ⟨some d, .slice T' x (some lo) none none, T, p, es, g⟩ = some true) (ht : Nat.blt d n = true) : QStep P n ops ⟨some d, .slice T' x (some lo) none none, T, p, es, g⟩ ds L H (.slice (some ⟨b, off + i.toNat * sz, none⟩) (N - i.toNat) (N - i.toNat)) :=
 qpure hw ht (by simp) λ a w he => by
  have h4 : 0 <= i /\ i <= (N : Int) := by omega
  have h5 : ¬ N = i.toNat := by omega
  simp only [execOp, Option.map_some, Option.map_none, Instr.sliceAt, he.eval hx, he.eval hl, Sem.run_bind, underlying, run_program, Result.andThen_ok, hu, Sem.run_pure, Instr.sureAddr, Instr.sliceBounds, Instr.sliceBound, asIntOf, Option.isSome_none, Bool.false_eq_true]
  simp [h4, zqg w hk, h5, zqF]
theorem zkN {N : Nat} (hu : P.underlying T' = some (.array N e)) (hx : evalL L x = some (.slice A len cap)) (h0 : N <= len)
  (hw : wants ops L ⟨some d, .sliceToArrayPointer T' x, T, p, es, g⟩ = some true) (ht : Nat.blt d n = true) : QStep P n ops ⟨some d, .sliceToArrayPointer T' x, T, p, es, g⟩ ds L H (.pointer A) :=
 qpure hw ht (by simp) λ a w he => by
  have h1 : ¬ len < N := by omega
  simp [execOp, Instr.arrayAt, he.eval hx, underlying, hu, h1]
end cut
theorem zjJ {S D : TypeId} {sd : TypeDesc} {s : List UInt8} (hS : P.underlying S = some sd) (hD : P.underlying D = some .string) (hx : evalL L x = some (.string (bs s)))
  (hw : wants ops L ⟨some d, .convert S D x, T, p, es, g⟩ = some true) (ht : Nat.blt d n = true) : QStep P n ops ⟨some d, .convert S D x, T, p, es, g⟩ ds L H (.string (bs s)) :=
 qpure hw ht (by simp) λ a w he => by
  cases sd <;> simp [execOp, convert, he.eval hx, underlying, hS, hD]
theorem zkn (f : Value -> ByteArray -> Sem (ForInStep ByteArray)) (hf : ∀ (c : Int) s, f (.int .u8 c) s = Pure.pure (.yield (s.push (UInt8.ofNat c.toNat)))) (w : World) : ∀ (cs : List UInt8) (s0 : ByteArray),
  (forIn (m := Sem) (cs.map λ c => Value.int .u8 (c.toNat : Int)) s0 f).run P w = .ok (s0 ++ bs cs) w := by
 intro cs
 induction cs with
 | nil => intro s0; simp [bs]; exact ByteArray.ext (by simp)
 | cons c cs ih =>
  intro s0
  simp only [List.map_cons, List.forIn_cons, hf, Sem.run_bind, Sem.run_pure, Result.andThen_ok]
  rw [ih]
  congr 1
  apply ByteArray.ext
  simp [bs]
theorem q_conv_bs {S D : TypeId} {s : List UInt8} {len cap : Nat} (hS : P.underlying S = some (.slice e)) (hE : P.underlying e = some (.int .u8)) (hD : P.underlying D = some .string) (hx : evalL L x = some (.slice A len cap)) (pk : Pick H C H') (hR : RdA C A (s.map λ c => Value.int .u8 (c.toNat : Int))) (hl : s.length = len)
  (hw : wants ops L ⟨some d, .convert S D x, T, p, es, g⟩ = some true) (ht : Nat.blt d n = true) : QStep P n ops ⟨some d, .convert S D x, T, p, es, g⟩ ds L H (.string (bs s)) :=
 qmk hw ht (by simp) λ Γ F a w he hh => ⟨w, by
  cases A with
  | none =>
   have : s = [] := by
    cases hs : s with
    | nil => rfl
    | cons c l => obtain ⟨b, off, e, _⟩ := hh.rd pk hR (by simp [hs]); cases e
   subst this
   simp [execOp, convert, he.eval hx, underlying, hS, hE, hD, Conv.bytesToString, bs]
   rfl
  | some ad =>
   have hlc : (loadCells ad len).run P w = .ok (s.map λ c => Value.int .u8 (c.toNat : Int)).toArray w := by
    have := zqW (P := P) (sz := 1) (k := len) (kc := cap) hh pk hR (by simp [hl])
    simpa [Builtin.firstCells] using this
   have hem : ByteArray.empty ++ bs s = bs s := by apply ByteArray.ext; simp [bs]
   simp only [execOp, convert, he.eval hx, underlying, Sem.run_bind, run_program, Result.andThen_ok, hS, hE, hD, Sem.run_pure, Conv.bytesToString, hlc, List.forIn_toArray]
   rw [zkn (P := P) _ (λ c s => rfl) w s ByteArray.empty, hem]
   rfl, hh⟩
theorem Ops.conv_sb {S D : TypeId} {s : List UInt8} (hS : P.underlying S = some .string) (hD : P.underlying D = some (.slice e)) (hE : P.underlying e = some (.int .u8)) (hx : evalL L x = some (.string (bs s)))
  (hw : wants ops L ⟨some d, .convert S D x, T, p, es, g⟩ = some true) (ht : Nat.blt d n = true)
  (kk : ∀ A c, Ops P ro n ops r ds ((d, .slice A s.length c) :: L) (Own e 1 A s.length c (s.map λ c => Value.int .u8 (c.toNat : Int)) :: H) K) : Ops P ro n ops (⟨some d, .convert S D x, T, p, es, g⟩ :: r) ds L H K :=
 Ops.val hw (by simp) ht λ Γ F a w he hh => by
  have hfi : (Question.appendCap s.length 0 e).forced = false := rfl
  generalize hcap : (Question.appendCap s.length 0 e).cut (w.tape w.drawn (.appendCap s.length 0 e)) = cap
  have hcap1 : s.length <= cap := by rw [<- hcap]; simp [Question.cut]
  let cells : List Value := s.map λ c => Value.int .u8 (c.toNat : Int)
  let junk : List Value := List.replicate (cap - s.length) (.int .u8 0)
  let o1 : Obj := .cells (cells ++ junk).toArray e
  have hsz : (cells ++ junk).length = cap := by simp [cells, junk]; omega
  have hh1 := ((hh.drew (w.drawn + 1)).newb o1)
  let w1 : World := { w with drawn := w.drawn + 1, heap := w.heap.push o1 }
  have hb1 : w1.heap[w.heap.size]? = some o1 := by simp [w1]
  let w2 : World := w1.freeze ⟨w.heap.size, cap, none⟩ 1
  have hh2 : Hold Γ (pt w.heap.size (.cells (cells ++ junk).toArray e (cap, cap + 1)) :: H) F w2 := by
   refine hh1.turn Pick.head rfl rfl rfl ?_ λ i hi => ?_
   ·simp only [w2, World.freeze, Nat.one_ne_zero, if_false, Array.getElem?_modify, if_true, hb1, o1]
    simp
   ·simp only [w2, World.freeze]
    simp only [Nat.one_ne_zero, if_false, Array.getElem?_modify]
    rw [if_neg (λ h => hi h.symm)]
  refine ⟨.slice (some ⟨w.heap.size, 0, none⟩) s.length cap, w2, Own e 1 (some ⟨w.heap.size, 0, none⟩) s.length cap cells :: H, ?_, hh2.weaken λ q hq => zqd (λ h' hb' => ?_) (λ _ h => h) hq, kk _ _⟩
  ·have e1 : (bs s).data.map (λ b => Value.int .u8 (b.toNat : Int)) ++ Array.replicate (cap - s.length) (Value.int .u8 0) = (cells ++ junk).toArray := by simp [bs, cells, junk]
   have e2 : w1.shape? w.heap.size = some (e, cap) := by simp [World.shape?, hb1, o1, hsz]
   simp only [execOp, convert, he.eval hx, underlying, Sem.run_bind, run_program, Result.andThen_ok, hS, hD, hE, Sem.run_pure, Conv.stringToBytes, zxb, run_choose, hfi, Bool.false_eq_true, if_false, hcap, newRow, e1, run_newObj, markStringish, run_shape]
   have e3 : World.shape? { w with drawn := w.drawn + 1, heap := w.heap.push (.cells (cells ++ junk).toArray e) } w.heap.size = some (e, cap) := e2
   simp only [e3, run_freeze, Result.andThen_ok, Sem.run_pure]
   rfl
  ·exact .inr ⟨w.heap.size, junk, (cap, cap + 1), rfl, by simp [cells], by simpa using hsz, hcap1, ⟨by simp, λ j hj => by simp; omega⟩, hb'⟩
end
end Go.Z
namespace Go.Z
def fieldOff2 (P : Program) (s : TypeId) (f : Nat) : Option (Nat × TypeId) :=
 match P.underlying s with
 | some (.struct fs) => match fs[f]? with
  | some fl => some (fl.offset, fl.type)
  | none => none
 | _ => none
section
variable {P : Program} {ro : Option Nat} {n : Nat} {ops : Array Oper} {r : List Oper} {ds : List Deferred} {L : Lo} {H H' H2 : List SP} {K : Kont} {C : SP}
 {T T' t xt : TypeId} {p : String} {es : Array Edge} {g : Option (Nat × Bool)} {d e sz by_ b off : Nat} {x y : Operand} {v z : Value} {m c k kc : Nat} {A : Option Addr} {cells : List Value}
theorem places_run (w : World) : ∀ (fs : List Field) (l : List (Nat × Nat)), (fs.mapM λ f => (sizeP P f.type).map λ n => (f.offset, n)) = some l -> (fs.mapM (m := Sem) λ f => do Pure.pure (f.offset, <- sizeOf f.type)).run P w = .ok l w := by
 intro fs
 induction fs with
 | nil => intro l h; simp at h; subst h; rfl
 | cons f fs ih =>
  intro l h
  simp only [List.mapM_cons] at h ⊢
  cases hs : sizeP P f.type with
  | none => simp [hs] at h
  | some k =>
   cases hr : (fs.mapM λ f => (sizeP P f.type).map λ n => (f.offset, n)) with
   | none => simp [hs, hr] at h
   | some l' =>
    simp [hs, hr] at h
    subst h
    simp only [Sem.run_bind, zqg w hs, Result.andThen_ok, Sem.run_pure, ih l' hr]
theorem q_build {parts : Array (Nat × Operand)} {pl : List (Nat × Nat)} {zc : List Value} {pv : List (Nat × Value)} {cs : Array Value} (hl : layout P T' = some (pl, zc))
  (hpv : evalAll L (parts.toList.map (·.2)) = some (pv.map (·.2))) (hpi : parts.toList.map (·.1) = pv.map (·.1)) (hf : Instr.fill (pl.toArray[·]?) zc.toArray pv = some cs)
  (hw : wants ops L ⟨some d, .build T' parts, T, p, es, g⟩ = some true) (ht : Nat.blt d n = true) : QStep P n ops ⟨some d, .build T' parts, T, p, es, g⟩ ds L H (.agg cs) :=
 qpure hw ht (by simp) λ a w he => by
  unfold layout at hl
  split at hl
  ·rename_i fs z hu hz
   cases hm : (fs.toList.mapM λ f => (sizeP P f.type).map λ n => (f.offset, n)) with
   | none => rw [hm] at hl; simp at hl
   | some l =>
    rw [hm] at hl
    simp only [Option.map_some, Option.some.injEq, Prod.mk.injEq] at hl
    obtain ⟨rfl, rfl⟩ := hl
    have hp : (parts.map λ (i, x) => (i, a.eval x)).toList = pv := by
     have h3 := he.evalAll hpv
     have : parts.toList.map (λ q => (q.1, a.eval q.2)) = pv := by
      have hl : parts.toList.length = pv.length := by have := congrArg List.length hpi; simpa using this
      apply List.ext_getElem
      ·simpa using hl
      ·intro i hi1 hi2
       have e1 := congrArg (·[i]?) h3
       have e2 := congrArg (·[i]?) hpi
       simp only [List.length_map, Array.length_toList] at hi1
       simp [hi1, hi2] at e1 e2
       simp only [List.getElem_map, Array.getElem_toList]
       exact Prod.ext e2 e1
     simpa using this
    have hpr := places_run (P := P) w _ _ hm
    simp only [execOp, Instr.build, Sem.run_bind, zql w hz, Result.andThen_ok, underlying, run_program, hu, Sem.run_pure, Array.mapM_eq_mapM_toList, Sem.run_map, hpr, hp]
    simp only [Array.toArray_toList] at hf
    rw [hf]
    rfl
  ·cases hl
variable {X Y E : TypeId} {a1 : Addr} {b1 b2 : Bool}
theorem zqH {bo : BinOp} {u1 u2 v : Value} (hx : evalL L x = some u1) (hy : evalL L y = some u2) (hg : ∀ w, (eqGuard bo X x y u1 u2).run P w = .ok () w) (hr : ∀ w, (binOp bo X u1 u2).run P w = .ok v w)
  (hw : wants ops L ⟨some d, .binOp bo X x y Y, T, p, es, g⟩ = some true) (ht : Nat.blt d n = true) : QStep P n ops ⟨some d, .binOp bo X x y Y, T, p, es, g⟩ ds L H v :=
 qpure hw ht (by simp) λ A w he => by
  simp only [execOp, he.eval hx, he.eval hy, Sem.run_bind, hg, Result.andThen_ok, hr, Sem.run_pure]
theorem q_bool_eql (hu : P.underlying X = some .bool) (hx : evalL L x = some (.bool b1)) (hy : evalL L y = some (.bool b2)) (hw : wants ops L ⟨some d, .binOp .eql X x y Y, T, p, es, g⟩ = some true) (ht : Nat.blt d n = true) : QStep P n ops ⟨some d, .binOp .eql X x y Y, T, p, es, g⟩ ds L H (.bool (b1 == b2)) :=
 zqH hx hy (λ w => by simp [eqGuard]) (λ w => by
  have h1 : ∀ dp, (Op.equalIn (dp + 1) X (.bool b1) (.bool b2)).run P w = .ok (b1 == b2) w := λ dp => by simp [Op.equalIn, underlying, hu]
  have h2 : (Op.equal X (.bool b1) (.bool b2)).run P w = .ok (b1 == b2) w := h1 9999
  have h3 : binOp .eql X (.bool b1) (.bool b2) = (do Pure.pure (.bool ((<- Op.equal X (.bool b1) (.bool b2))))) := rfl
  rw [h3]; simp only [Sem.run_bind, h2, Result.andThen_ok, Sem.run_pure]) hw ht
theorem q_bool_neq (hu : P.underlying X = some .bool) (hx : evalL L x = some (.bool b1)) (hy : evalL L y = some (.bool b2)) (hw : wants ops L ⟨some d, .binOp .neq X x y Y, T, p, es, g⟩ = some true) (ht : Nat.blt d n = true) : QStep P n ops ⟨some d, .binOp .neq X x y Y, T, p, es, g⟩ ds L H (.bool (!(b1 == b2))) :=
 zqH hx hy (λ w => by simp [eqGuard]) (λ w => by
  have h1 : ∀ dp, (Op.equalIn (dp + 1) X (.bool b1) (.bool b2)).run P w = .ok (b1 == b2) w := λ dp => by simp [Op.equalIn, underlying, hu]
  have h2 : (Op.equal X (.bool b1) (.bool b2)).run P w = .ok (b1 == b2) w := h1 9999
  have h3 : binOp .neq X (.bool b1) (.bool b2) = (do Pure.pure (.bool (!(<- Op.equal X (.bool b1) (.bool b2))))) := rfl
  rw [h3]; simp only [Sem.run_bind, h2, Result.andThen_ok, Sem.run_pure, Bool.not_true, Bool.not_false]) hw ht
theorem q_slnil_eql {m c m' c' : Nat} {A : Option Addr} (hu : P.underlying X = some (.slice E)) (hx : evalL L x = some (.slice A m c)) (hy : evalL L y = some (.slice none m' c')) (hw : wants ops L ⟨some d, .binOp .eql X x y Y, T, p, es, g⟩ = some true) (ht : Nat.blt d n = true) : QStep P n ops ⟨some d, .binOp .eql X x y Y, T, p, es, g⟩ ds L H (.bool A.isNone) :=
 zqH hx hy (λ w => by simp [eqGuard]) (λ w => by
  have h1 : ∀ dp, (Op.equalIn (dp + 1) X (.slice A m c) (.slice none m' c')).run P w = .ok A.isNone w := λ dp => by cases A <;> simp [Op.equalIn, underlying, hu]
  have h2 : (Op.equal X (.slice A m c) (.slice none m' c')).run P w = .ok A.isNone w := h1 9999
  have h3 : binOp .eql X (.slice A m c) (.slice none m' c') = (do Pure.pure (.bool ((<- Op.equal X (.slice A m c) (.slice none m' c'))))) := rfl
  rw [h3]; simp only [Sem.run_bind, h2, Result.andThen_ok, Sem.run_pure]) hw ht
theorem q_makeInterface {sd : TypeDesc} (hu : P.underlying T' = some sd) (hs : (match sd with | .interface _ => true | _ => false) = false) (hx : evalL L x = some v)
  (hw : wants ops L ⟨some d, .makeInterface T' x, T, p, es, g⟩ = some true) (ht : Nat.blt d n = true) : QStep P n ops ⟨some d, .makeInterface T' x, T, p, es, g⟩ ds L H (.iface T' v) :=
 qpure hw ht (by simp) λ a w he => by
  cases sd <;> simp_all [execOp, Instr.makeInterface, he.eval hx, underlying]
theorem q_makeFunc {fn : Go.Fn} {xs ys : Array Operand} {vs us : List Value} (hx : evalAll L xs.toList = some vs) (hy : evalAll L ys.toList = some us)
  (hw : wants ops L ⟨some d, .makeFunc fn xs ys, T, p, es, g⟩ = some true) (ht : Nat.blt d n = true) : QStep P n ops ⟨some d, .makeFunc fn xs ys, T, p, es, g⟩ ds L H (.func fn vs.toArray us.toArray) :=
 qpure hw ht (by simp) λ a w he => by
  have h1 := he.evalAll hx
  have h2 := he.evalAll hy
  have e1 : xs.map a.eval = vs.toArray := by apply Array.ext'; simpa using h1
  have e2 : ys.map a.eval = us.toArray := by apply Array.ext'; simpa using h2
  simp [execOp, Instr.makeFunc, e1, e2]
theorem Ops.panic {ct : TypeId} {d' : Option Nat} (hx : evalL L x = some (.iface ct v)) (hw : wants ops L ⟨d', .panic x, T, p, es, g⟩ = some true) (k : K (.panic [{ v := .iface ct v, recovered := false }]) ds L H) :
  Ops P ro n ops (⟨d', .panic x, T, p, es, g⟩ :: r) ds L H K := by
 intro Γ F a w Q he hh hq
 simp only [lw, zqU he hw, if_true]
 refine ⟨λ _ _ => trivial, ?_⟩
 rw [Oper.semAt_eq _ _ _ (by simp)]
 have : (execOp a.eval ⟨d', .panic x, T, p, es, g⟩).run P w = .halt (.panic (.iface ct v)) w := by simp [execOp, Instr.panic, he.eval hx]
 rw [this]
 exact hq (.panic _) _ _ _ _ _ k he hh
theorem Ops.callv {dd : Option Nat} {fo : Operand} {f : FuncId} {first cap : Array Value} {xs : Array Operand} {ts : Array TypeId} {vs : List Value} {Hc Hr : List SP} {Post : Ending -> List SP -> Prop}
  (hc : zqK P f) (hfo : evalL L fo = some (.func (.func f) first cap)) (hw : wants ops L ⟨dd, .call { callee := .value fo, args := xs, argTypes := ts }, T, p, es, g⟩ = some true) (ht : dstOk dd n = true)
  (hx : evalAll L xs.toList = some vs) (spec : Fn P f (first.toList ++ vs ++ cap.toList) Hc Post) (s : Split H Hc Hr)
  (k : ∀ e Hc', Post e Hc' -> After P ro n ops r dd ds L Hr K e Hc') : Ops P ro n ops (⟨dd, .call { callee := .value fo, args := xs, argTypes := ts }, T, p, es, g⟩ :: r) ds L H K := by
 obtain ⟨fn, h1, h2, h3⟩ := hc
 refine Ops.enter hw (by simp) ht (λ Γ F a w he hh => ?_) spec s k
 have hargs := he.evalAll hx
 have this : xs.map a.eval = vs.toArray := by apply Array.ext'; simpa using hargs
 have hng' : ¬ fn.name = "runtime.NumGoroutine" := by simpa using h3
 have hb' : ¬ fn.body = none := by cases h : fn.body <;> simp_all
 have e1 : first ++ vs.toArray ++ cap = (first.toList ++ vs ++ cap.toList).toArray := by simp
 simp only [execOp, resolve, Sem.run_bind, he.eval hfo]
 simp [Deferred.ofValue, invoke, callFunc, h1, hb', hng', this]
end
end Go.Z
namespace Go.Z
section
variable {P : Program} {ro : Option Nat} {n : Nat} {ops : Array Oper} {r : List Oper} {ds : List Deferred} {L : Lo} {H H' H2 : List SP} {K : Kont} {C : SP}
 {T T' t xt : TypeId} {p : String} {es : Array Edge} {g : Option (Nat × Bool)} {d e sz by_ b off : Nat} {x y : Operand} {v z : Value} {m c k kc : Nat} {A B : Option Addr} {cells : List Value}
theorem Ops.append_zeros {i : Int} {ki kx : IntKind} (hu : P.underlying t = some (.slice e)) (hxt : P.underlying xt = some (.int kx))
  (hsz : sizeP P e = some sz) (hby : bytesP P e = some by_) (hz : zeroP P e = some z) (hzc : z.cells.size = sz) (hb0 : Nat.blt 0 by_ = true) (hs0 : Nat.blt 0 sz = true) (hzs : scal z.cells.toList = true)
  (hx : evalL L x = some (.slice A m c)) (hy : evalL L y = some (.int ki i)) (h0 : 0 <= i) (pk : Pick H (Own e sz A m c cells) H') (hb : (m + i.toNat) * by_ <= 140737488355328)
  (hw : wants ops L ⟨some d, .call { callee := .builtin .append, args := #[x, y], argTypes := #[t, xt] }, T, p, es, g⟩ = some true) (ht : Nat.blt d n = true)
  (kk : ∀ A' c', Ops P ro n ops r ds ((d, .slice A' (m + i.toNat) c') :: L) (Own e sz A' (m + i.toNat) c' (cells ++ (List.replicate i.toNat z.cells.toList).flatten) :: H') K) :
  Ops P ro n ops (⟨some d, .call { callee := .builtin .append, args := #[x, y], argTypes := #[t, xt] }, T, p, es, g⟩ :: r) ds L H K :=
 Ops.val hw (by simp) ht λ Γ F a w he hh => by
  have hb0' : 0 < by_ := by simpa [Nat.blt_eq] using hb0
  have hs0' : 0 < sz := by simpa [Nat.blt_eq] using hs0
  obtain ⟨info, hi, hib⟩ : ∃ i, P.info? e = some i /\ i.bytes = by_ := by
   unfold bytesP at hby
   cases hi : P.info? e with
   | none => simp [hi] at hby
   | some i => exact ⟨i, rfl, by simpa [hi] using hby⟩
  have hbi : ∀ w, (typeInfo e).run P w = .ok info w := λ w => by simp [typeInfo, hi]
  have hcl : cells.length = m * sz /\ m <= c := by
   obtain ⟨h1, hc, _⟩ := hh.chunk pk
   rcases hc with ⟨_, rfl, rfl, rfl, _⟩ | ⟨b, junk, fr, _, h, _, h2, _⟩
   ·simp
   ·exact ⟨h, h2⟩
  generalize hk : i.toNat = k at *
  have hik : i = (k : Int) := by omega
  have hm1 : m + k <= (m + k) * by_ := Nat.le_mul_of_pos_right _ hb0'
  have hwi : IntKind.i64.wrap i = i := zxR (i64_in (by omega))
  have hneg : ¬ i < 0 := by omega
  have hbig : ¬ i * (info.bytes : Int) > 2 ^ 48 := by
   rw [hib, hik]
   have h5 : ((2 : Int) ^ 48) = 281474976710656 := by decide
   have h6 : k * by_ <= (m + k) * by_ := Nat.mul_le_mul_right _ (by omega)
   have h7 : ((k : Int) * (by_ : Int)) = ((k * by_ : Nat) : Int) := by simp
   rw [h5, h7]; omega
  have hzfl : ∀ N, (Builtin.zeroCells z.cells N).toList = (List.replicate N z.cells.toList).flatten := by
   intro N
   have hfl : ∀ (N q : Nat) (h : q < ((List.replicate N z.cells.toList).flatten).length), ((List.replicate N z.cells.toList).flatten)[q] = z.cells[q % z.cells.size]'(Nat.mod_lt _ (by omega)) := by
    intro N
    induction N with
    | zero => intro q h; simp at h
    | succ N ih =>
     intro q h
     simp only [List.replicate_succ, List.flatten_cons] at h ⊢
     by_cases hlt : q < z.cells.size
     ·rw [List.getElem_append_left (by simpa using hlt)]
      simp [Nat.mod_eq_of_lt hlt]
     ·rw [List.getElem_append_right (by simpa using Nat.le_of_not_lt hlt)]
      rw [ih]
      simp only [Array.length_toList]
      congr 1
      rw [Nat.mod_eq_sub_mod (Nat.le_of_not_lt hlt)]
   apply List.ext_getElem
   ·simp [Builtin.zeroCells, hzc]
   ·intro q h1 h2
    have hmod : q % z.cells.size < z.cells.size := Nat.mod_lt _ (by omega)
    simp only [Builtin.zeroCells, Array.toList_map, List.getElem_map, Array.toList_range, List.getElem_range]
    rw [getElem!_pos z.cells _ hmod]
    exact (hfl N q h2).symm
  have hnew : ∀ w : World, (Sem.run P (if k * sz = 0 then (Pure.pure #[] : Sem (Array Value)) else do Pure.pure (Builtin.zeroCells (<- zeroValue e).cells k)) w) = .ok ((List.replicate k z.cells.toList).flatten).toArray w := by
   intro w
   by_cases hk0 : k * sz = 0
   ·have : k = 0 := by rcases Nat.mul_eq_zero.1 hk0 with h | h <;> omega
    simp [this]
   ·simp only [if_neg hk0, Sem.run_bind, zql w hz, Result.andThen_ok, Sem.run_pure]
    rw [<- hzfl]
  have hscal : scal ((List.replicate k z.cells.toList).flatten) = true := by
   simp only [scal, List.all_eq_true, List.mem_flatten, List.mem_replicate] at hzs ⊢
   rintro x ⟨l, ⟨_, rfl⟩, hx⟩
   exact hzs x hx
  have hlen : ((List.replicate k z.cells.toList).flatten).length = k * sz := by simp [hzc]
  -- as in 'append_run'
  by_cases hroom : m + k <= c
  ·cases A with
   | none =>
    obtain ⟨h1, hc, _⟩ := hh.chunk pk
    rcases hc with ⟨_, rfl, rfl, rfl, _⟩ | ⟨b, junk, fr, hA, _⟩
    ·have hk0 : k = 0 := by omega
     subst hk0
     refine ⟨.slice none 0 0, w, Own e sz none 0 0 [] :: H', ?_, hh.weaken λ q hq => pk q hq, kk none 0⟩
     have hi0 : i = 0 := by omega
     subst hi0
     simp [execOp, resolve, he.eval hx, he.eval hy, invoke, builtin, Builtin.append_, underlying, hu, hxt, zqg w hsz, hbi, asInt, asIntOf, hwi]
    ·cases hA
   | some ad =>
    obtain ⟨h1, h2, d', eh, ho, hrest⟩ := hh.pick pk
    rcases ho with ⟨hA, _⟩ | ⟨b, junk, fr, hA, h3, h4, h5, h6, h7⟩
    ·cases hA
    ·cases hA
     have hmul := Nat.mul_le_mul_right sz hroom
     rw [Nat.add_mul] at hmul
     have hh2 : Hold Γ (blk b (cells ++ junk) e fr :: H') F w := ⟨hh.os, hh.tape, hh.output, by
      rw [eh]; exact zqk ⟨h1, h2, d', rfl, h7, hrest⟩⟩
     obtain ⟨w', e', hh'⟩ := zqM (P := P) (off := m * sz) ((List.replicate k z.cells.toList).flatten) 0 (cells ++ junk) w _ hh2 Pick.head hscal (by
      rw [h4, hlen]; omega) (λ j hj => h6.2 _ (by rw [hlen] at hj; omega))
     refine ⟨.slice (some ⟨b, 0, none⟩) (m + k) c, w', _, ?_, hh'.weaken λ x hx => ?_, kk _ _⟩
     ·have ea : (⟨b, 0, none⟩ : Addr).add (m * sz) = ⟨b, m * sz, none⟩ := by rw [zqF]; simp
      simp only [execOp, resolve, he.eval hx, he.eval hy, List.map_toArray, List.map_cons, List.map_nil, Sem.run_bind, Sem.run_pure, Result.andThen_ok, invoke, builtin, Builtin.append_, List.getElem?_toArray, List.getElem?_cons_zero, List.getElem?_cons_succ, underlying, run_program, hu, zqg w hsz, hxt, if_true, asInt, asIntOf, hwi, if_neg hneg, hbi, if_neg hbig, hk, if_pos hroom, Bool.not_true, Bool.false_eq_true, if_false, hnew, ea, List.toList_toArray, e']
     ·refine zqd (λ y hy => ?_) (λ _ h => h) hx
      refine .inr ⟨b, junk.drop ((List.replicate k z.cells.toList).flatten).length, fr, rfl, by simp only [List.length_append, h3, hlen, Nat.add_mul], ?_, hroom, h6, ?_⟩
      ·simp only [List.length_append, List.length_drop] at h4 ⊢
       rw [hlen]; omega
      ·have : putAt (cells ++ junk) (m * sz + 0) ((List.replicate k z.cells.toList).flatten) = cells ++ ((List.replicate k z.cells.toList).flatten) ++ junk.drop ((List.replicate k z.cells.toList).flatten).length := putAt_mid (by omega)
       rw [this] at hy
       exact hy
  ·have hneed : c < m + k := by omega
   have hfits := growslice_fits (old := c) hneed hb
   have hmax : ¬ (((m + k : Nat) : Int) > IntKind.i64.max /\ (True \/ info.bytes = 0)) := by
    have : IntKind.i64.max = 9223372036854775807 := rfl
    rintro ⟨h, _⟩; omega
   have h2 : ¬ (Builtin.nextslicecap (m + k) c * info.bytes > 2 ^ 48) := by rw [hib]; simp only [Nat.reducePow]; omega
   have hfi : (Question.appendCap (m + k) c e).forced = false := rfl
   generalize hcap : (Question.appendCap (m + k) c e).cut (w.tape w.drawn (.appendCap (m + k) c e)) = cap
   have hcap1 : m + k <= cap := by rw [<- hcap]; simp [Question.cut]
   have hh1 : Hold Γ H F { w with drawn := w.drawn + 1 } := hh.drew _
   have hh2 := (hh1.drop pk).newb (.cells (cells ++ (List.replicate k z.cells.toList).flatten ++ (Builtin.zeroCells z.cells (cap - (m + k))).toList).toArray e)
   refine ⟨.slice (some ⟨w.heap.size, 0, none⟩) (m + k) cap, { w with drawn := w.drawn + 1, heap := w.heap.push (.cells (cells ++ (List.replicate k z.cells.toList).flatten ++ (Builtin.zeroCells z.cells (cap - (m + k))).toList).toArray e) }, _, ?_, hh2.weaken λ x hx => ?_, kk _ _⟩
   ·have e1 : cells.toArray ++ ((List.replicate k z.cells.toList).flatten).toArray ++ Builtin.zeroCells z.cells (cap - (m + k)) = (cells ++ (List.replicate k z.cells.toList).flatten ++ (Builtin.zeroCells z.cells (cap - (m + k))).toList).toArray := by simp
    simp only [execOp, resolve, he.eval hx, he.eval hy, List.map_toArray, List.map_cons, List.map_nil, Sem.run_bind, Sem.run_pure, Result.andThen_ok, invoke, builtin, Builtin.append_, List.getElem?_toArray, List.getElem?_cons_zero, List.getElem?_cons_succ, underlying, run_program, hu, zqg w hsz, hxt, if_true, asInt, asIntOf, hwi, if_neg hneg, hbi, if_neg hbig, hk, if_neg hroom, Bool.not_true, Bool.false_eq_true, if_false, if_neg hmax, if_neg h2, run_choose, hfi, hcap, run_askRoom, zjE hh1 pk, hnew, zql _ hz, newRow, run_newObj, e1]
   ·refine zqd (λ y hy => ?_) (λ _ h => h) hx
    refine .inr ⟨w.heap.size, (Builtin.zeroCells z.cells (cap - (m + k))).toList, (0, 0), rfl, by simp only [List.length_append, hcl.1, hlen, Nat.add_mul], ?_, hcap1, .zero, hy⟩
    have hzl : (Builtin.zeroCells z.cells (cap - (m + k))).toList.length = (cap - (m + k)) * sz := by simp [Builtin.zeroCells, hzc]
    simp only [List.length_append, hzl, hcl.1, hlen]
    rw [<- Nat.add_mul, <- Nat.add_mul]
    congr 1
    omega
end
end Go.Z
namespace Go.Z
section
variable {P : Program} {n : Nat} {ops : Array Oper} {ds : List Deferred} {L : Lo} {H H' : List SP} {d : Nat} {T : TypeId} {p : String} {es : Array Edge} {g : Option (Nat × Bool)} {x : Operand}
theorem rowAt_mono {fits : TypeId -> Bool} {e c c' off k : Nat} (hc : c <= c') : ∀ {d : Nat}, rowAt P fits d e c off k = true -> rowAt P fits d e c' off k = true
 | 0, h => h
 | d + 1, h => by
  unfold rowAt at h ⊢
  dsimp only at h ⊢
  split at h
  ·cases h
  ·rename_i h0
   rw [if_neg h0]
   rw [Bool.or_eq_true] at h ⊢
   rcases h with h | h
   ·left
    simp only [Bool.and_eq_true, decide_eq_true_eq] at h ⊢
    exact ⟨⟨h.1.1, by omega⟩, h.2⟩
   ·right
    rw [Bool.and_eq_true, decide_eq_true_eq] at h ⊢
    exact ⟨by omega, h.2⟩
theorem liesAt_mono {e c c' off u : Nat} (hc : c <= c') : ∀ {d k : Nat}, liesAt P d e c off u k = true -> liesAt P d e c' off u k = true
 | 0, k, h => h
 | d + 1, k, h => by
  unfold liesAt at h ⊢
  rw [Bool.or_eq_true] at h ⊢
  rcases h with h | h
  ·exact .inl (rowAt_mono hc h)
  ·right
   split at h
   ·rename_i m u' hu
    exact liesAt_mono hc h
   ·cases h
theorem ptr_up {S D t s : TypeId} {a : Addr} {ty c : Nat} {w : World} {ti : TypeInfo} (hS : P.underlying S = some (.pointer t)) (hD : P.underlying D = some .unsafePointer) (hti : P.info? t = some ti) (hs : Nat.beq ti.size 0 = false)
  (hsh : w.shape? a.block = some (ty, c)) (hoff : a.off < c) : (convert S D (.pointer (some a))).run P w = .ok (.pointer (some a)) w := by
 have h0 : ti.size ≠ 0 := λ e => by rw [e] at hs; cases hs
 have h1 : ¬ c <= a.off := by omega
 simp [convert, Conv.unsafePointer, Conv.seenAt, viewAt, underlying, hS, hD, hsh, cellsIn, sizeOf, typeInfo, hti, h0, h1]
theorem ptr_down {S D u s : TypeId} {a : Addr} {ty c : Nat} {w : World} {ti : TypeInfo} (hS : P.underlying S = some .unsafePointer) (hD : P.underlying D = some (.pointer u)) (hti : P.info? u = some ti)
  (hsh : w.shape? a.block = some (ty, c)) (hl : liesAt P P.depth ty (c / P.cellsOf ty) a.off u 1 = true) : (convert S D (.pointer (some a))).run P w = .ok (.pointer (some a)) w := by
 simp [convert, Conv.unsafePointer, Conv.seenAt, viewAt, underlying, hS, hD, hsh, cellsIn, sizeOf, typeInfo, hti, variablesAt, hl]
theorem ptr_nil {S D t : TypeId} {w : World} (h : (P.underlying S = some (.pointer t) /\ P.underlying D = some .unsafePointer) \/ (P.underlying S = some .unsafePointer /\ P.underlying D = some (.pointer t))) : (convert S D (.pointer none)).run P w = .ok (.pointer none) w := by
 rcases h with ⟨hS, hD⟩ | ⟨hS, hD⟩ <;> simp [convert, Conv.unsafePointer, underlying, hS, hD]
end
end Go.Z
namespace Go.Z
def idxB (c : UInt8) : List UInt8 -> Nat -> Option Nat
 | [], _ => none
 | x :: l, i => match Nat.beq x.toNat c.toNat with | true => some i | false => idxB c l (i + 1)
def indexB (l : List UInt8) (c : UInt8) : Int := match idxB c l 0 with | some i => .ofNat i | none => -1
theorem toNat_beq (x c : UInt8) : Nat.beq x.toNat c.toNat = (x == c) := by
 rw [Bool.eq_iff_iff, Nat.beq_eq, beq_iff_eq]
 exact ⟨λ h => UInt8.toNat_inj.1 h, λ h => by rw [h]⟩
theorem idxB_find (c : UInt8) : ∀ (l : List UInt8) (k : Nat), idxB c l k = (List.range' k l.length).find? λ i => (l[i - k]?.getD default) == c
 | [], k => rfl
 | x :: l, k => by
  simp only [idxB, toNat_beq, List.length_cons, List.range'_succ, List.find?_cons, Nat.sub_self, List.getElem?_cons_zero, Option.getD_some]
  cases h : x == c with
  | true => rfl
  | false =>
   rw [idxB_find c l (k + 1)]
   have : ∀ (m : List Nat), (∀ i ∈ m, k + 1 <= i) -> m.find? (λ i => (l[i - (k + 1)]?.getD default) == c) = m.find? (λ i => ((x :: l)[i - k]?.getD default) == c) := by
    intro m
    induction m with
    | nil => intro _; rfl
    | cons i m ih =>
     intro hm
     have h1 := hm i (by simp)
     obtain ⟨j, rfl⟩ := Nat.exists_eq_add_of_le h1
     have e : k + 1 + j - k = j + 1 := by omega
     have e2 : k + 1 + j - (k + 1) = j := by omega
     simp only [List.find?_cons, e, e2, List.getElem?_cons_succ]
     rw [ih λ i hi => hm i (by simp [hi])]
   exact this _ λ i hi => (List.mem_range'_1.1 hi).1
theorem firstIdx_bs (l : List UInt8) (c : UInt8) : firstIdx (bs l) c = indexB l c := by
 unfold firstIdx indexB
 rw [idxB_find]
 have e : (λ i => (bs l)[i]! == c) = λ i => (l[i - 0]?.getD default) == c := by
  funext i
  congr 1
  rw [getElem!_def, bs_get]
  show _ = (l[i]?).getD default
  cases l[i]? <;> rfl
 rw [e, zxb, List.range_eq_range']
 split <;> rename_i h <;> rw [h]
 rfl
def extFn (name : String) : Option (Array Value -> Sem Value) := match name == "internal/abi.NoEscape" with
 | true => some Extern.AbiNoEscape.same
 | false => match name == "internal/bytealg.IndexByteString" with
  | true => some Extern.BytealgIndexByte.indexByte
  | false => none
theorem ext_find {fn : Func} {E : Array Value -> Sem Value} (h1 : extFn fn.name = some E) (h2 : fn.origin = "") : Extern.findNext fn = none /\ Extern.find fn = some E := by
 have a2 : Extern.allNextRows.lookup "" = none := by kernel_rfl
 unfold extFn at h1
 split at h1
 ·rename_i hn
  rw [beq_iff_eq] at hn
  cases h1
  have a1 : Extern.allNextRows.lookup "internal/abi.NoEscape" = none := by kernel_rfl
  have a3 : Extern.allGenericRows.lookup "internal/abi.NoEscape" = none := by kernel_rfl
  have a4 : Extern.allTypedRows.lookup "internal/abi.NoEscape" = none := by kernel_rfl
  have a5 : Extern.allRows.lookup "internal/abi.NoEscape" = some Extern.AbiNoEscape.same := by kernel_rfl
  exact ⟨by simp [Extern.findNext, hn, h2, a1, a2], by simp [Extern.find, hn, h2, a3, a4, a5]⟩
 ·split at h1
  ·rename_i hn
   rw [beq_iff_eq] at hn
   cases h1
   have a1 : Extern.allNextRows.lookup "internal/bytealg.IndexByteString" = none := by kernel_rfl
   have a3 : Extern.allGenericRows.lookup "internal/bytealg.IndexByteString" = none := by kernel_rfl
   have a4 : Extern.allTypedRows.lookup "internal/bytealg.IndexByteString" = none := by kernel_rfl
   have a5 : Extern.allRows.lookup "internal/bytealg.IndexByteString" = some Extern.BytealgIndexByte.indexByte := by kernel_rfl
   exact ⟨by simp [Extern.findNext, hn, h2, a1, a2], by simp [Extern.find, hn, h2, a3, a4, a5]⟩
  ·cases h1
theorem mnz_callFunc {P : Program} {f : Nat} {fn : Func} {m : Nat} {t e : TypeId} {w : World} (hf : P.funcs[f]? = some fn) (hb : fn.body = none) (h1 : fn.name = "internal/bytealg.MakeNoZero") (h2 : fn.origin = "") (h3 : fn.resultTypes = #[t]) (ht : P.underlying t = some (.slice e)) (hm : m < 1000000) :
  ∃ cs : Array Value, (callFunc f #[.int .i64 m]).run P w = .ok (.value (.slice (some ⟨w.heap.size, 0, none⟩) m cs.size)) (w.drew.drew.alloc (.cells cs e)) /\ m <= cs.size := by
 have a2 : Extern.allNextRows.lookup "" = none := by kernel_rfl
 have a1 : Extern.allNextRows.lookup "internal/bytealg.MakeNoZero" = none := by kernel_rfl
 have a3 : Extern.allGenericRows.lookup "internal/bytealg.MakeNoZero" = none := by kernel_rfl
 have a4 : Extern.allTypedRows.lookup "internal/bytealg.MakeNoZero" = some Extern.BytealgMakeNoZero.makeNoZero := by kernel_rfl
 have h4 : Extern.findNext fn = none := by simp [Extern.findNext, h1, h2, a1, a2]
 have h5 : Extern.find fn = some (Extern.BytealgMakeNoZero.makeNoZero fn.params fn.resultTypes) := by simp [Extern.find, h1, h2, a3, a4]
 obtain ⟨cs, hr, hle, _⟩ := Lib.run_makeNoZero (P := P) w fn.params t e ht m (by omega)
 refine ⟨cs, ?_, hle⟩
 rw [run_callFunc_extern hf (by rw [h1]; decide) (by simp [hb]) h4 h5, h3, hr]
 rfl
theorem zjr {P : Program} {f : Nat} {fn : Func} {E : Array Value -> Sem Value} {args : Array Value} {u : Value} {w : World} (hf : P.funcs[f]? = some fn) (hb : fn.body = none) (h1 : extFn fn.name = some E) (h2 : fn.origin = "")
  (hE : (E args).run P w = .ok u w) : (callFunc f args).run P w = .ok (.value u) w := by
 obtain ⟨h3, h4⟩ := ext_find h1 h2
 have hn : (fn.name == "runtime.NumGoroutine") = false := by
  rw [beq_eq_false_iff_ne]
  intro hn
  rw [hn] at h1
  exact absurd h1 (by simp [extFn])
 rw [run_callFunc_extern hf hn (by simp [hb]) h3 h4, hE]
 rfl
section
variable {P : Program} {b : Frame} {a : Act} {k : List Item} {cs : List Frame} {w : World}
theorem zxi {c : Code} : step P (lone (b.atR a (.code (.scope c) :: k)) cs w) = .next (lone (b.atR a (.code c :: .inScope c :: k)) cs w) :=
 step_lone_go (by simp [stepG, stepG.exec, Frame.atR])
theorem stepR_inScope {c : Code} : step P (lone (b.atR a (.inScope c :: k)) cs w) = .next (lone (b.atR a k) cs w) :=
 step_lone_go (by simp [stepG, stepG.exec, Frame.atR])
theorem wpIn_scope {F : Fence} {n : Nat} {c : Code} {Q : Exit -> Act -> World -> Prop} (h : c.wpIn F n P (Exit.noGoto Q) a w) : (Code.scope c).wpIn F n P Q a w := by
 intro b k cs hro hb hr
 have h0 : (lone (b.atR a (.code (.scope c) :: k)) cs w).fenced P F := fenced_calm hb hr rfl
 obtain ⟨e, a₁, w₁, hq, harr⟩ := h b (.inScope c :: k) cs hro hb hr
 cases e with
 | normal => exact ⟨.normal, a₁, w₁, hq, .head h0 zxi (StepsIn.trans harr (.one (fenced_calm hb hr rfl) stepR_inScope))⟩
 | exit id =>
  have hx : exitTo id (.inScope c :: k) = exitTo id k := by simp [exitTo]
  exact ⟨.exit id, a₁, w₁, hq, λ k' hk => .head h0 zxi (harr.1 k' (by rw [hx]; exact hk)),
   λ hr' hk => let ⟨k₁, h1, h2⟩ := harr.2 hr' (by rw [hx]; exact hk); ⟨k₁, h1, .head h0 zxi h2⟩⟩
 | goto l => exact hq.elim
 | ret => exact ⟨_, a₁, w₁, hq, .of_steps (.one h0 zxi) harr⟩
 | panic ch => exact ⟨_, a₁, w₁, hq, .of_steps (.one h0 zxi) harr⟩
 | outgrown => exact ⟨_, a₁, w₁, hq, .of_steps (.one h0 zxi) harr⟩
end
section
variable {P : Program} {ro : Option Nat} {n : Nat} {ds : List Deferred} {L : Lo} {H : List SP} {K : Kont}
def Kont.scope (K : Kont) : Kont
 | .goto _, _, _, _ => False
 | e, ds, L, H => K e ds L H
theorem Go.scope {c : Code} (h : Go P ro n c ds L H (Kont.scope K)) : Go P ro n (.scope c) ds L H K := by
 intro Γ F a w Q he hh hq
 refine wpIn_scope (h Γ F a w _ he hh ?_)
 intro e ds' L' H' a' w' k he' hh'
 cases e with
 | normal => exact hq .normal _ _ _ _ _ k he' hh'
 | exit i => exact hq (.exit i) _ _ _ _ _ k he' hh'
 | goto i => exact k.elim
 | ret => exact hq .ret _ _ _ _ _ k he' hh'
 | panic c => exact hq (.panic c) _ _ _ _ _ k he' hh'
end
end Go.Z
namespace Go.Z
def OwnO (e sz : Nat) (A : Option Addr) (m c : Nat) (cells : List Value) : SP := λ h =>
 ∃ b pre junk fr, A = some ⟨b, pre.length, none⟩ /\ cells.length = m * sz /\ (cells ++ junk).length = c * sz /\ m <= c /\ FrOk fr (pre ++ (cells ++ junk)).length /\ blk b (pre ++ (cells ++ junk)) e fr h
theorem RdA.ownO {e' sz m c : Nat} {A : Option Addr} {cells : List Value} : RdA (OwnO e' sz A m c cells) A cells := by
 rintro h ⟨b, pre, junk, fr, rfl, _, _, _, _, e⟩
 exact .inr ⟨b, pre.length, pre ++ (cells ++ junk), e', fr, rfl, by rw [show h = _ from e]; simp, by simp⟩
theorem putAt_mid2 {p a b c : List Value} {off : Nat} (h : off = p.length + a.length) : putAt (p ++ (a ++ c)) off b = p ++ (a ++ b ++ c.drop b.length) := by
 subst h
 have e1 : p ++ (a ++ c) = (p ++ a) ++ c := by simp
 rw [e1, putAt_mid (a := p ++ a) (by simp)]
 simp
section
variable {P : Program} {Γ w : World} {F : SP} {H H' : List SP} {A : Option Addr} {cells : List Value}
theorem append_runO {t xt T e e' sz by_ m c k : Nat} {x z : Value} {new : List Value} (hu : P.underlying t = some (.slice e)) (hxt : P.underlying xt = some (.slice e'))
  (hsz : sizeP P e = some sz) (hby : bytesP P e = some by_) (hz : zeroP P e = some z) (hzc : z.cells.size = sz)
  (hh : Hold Γ H F w) (pk : Pick H (OwnO e sz A m c cells) H') (hlen : ∀ w, (Builtin.lenOf x).run P w = .ok k w) (hsrc : ∀ w, Hold Γ H F w -> (Builtin.firstCells sz k x).run P w = .ok new.toArray w)
  (hnl : new.length = k * sz) (hs : scal new = true) (hb0 : 0 < by_) (hb : (m + k) * by_ <= 140737488355328) :
  ∃ A' c' w', (Builtin.append_ #[t, xt] T #[.slice A m c, x]).run P w = .ok (.slice A' (m + k) c') w' /\ Hold Γ (OwnO e sz A' (m + k) c' (cells ++ new) :: H') F w' := by
 obtain ⟨i, hi, hib⟩ : ∃ i, P.info? e = some i /\ i.bytes = by_ := by
  unfold bytesP at hby
  cases hi : P.info? e with
  | none => simp [hi] at hby
  | some i => exact ⟨i, rfl, by simpa [hi] using hby⟩
 have hbi : ∀ w, (typeInfo e).run P w = .ok i w := λ w => by simp [typeInfo, hi]
 have hcl : cells.length = m * sz /\ m <= c := by
  obtain ⟨h1, hc, _⟩ := hh.chunk pk
  obtain ⟨b, pre, junk, fr, _, h, _, h2, _⟩ := hc
  exact ⟨h, h2⟩
 -- what is left behind the looks at the types
 have start : ∀ (R : Result Value), ((Sem.run P (if m + k <= c then do
     let new <- Builtin.firstCells sz k x
     match A with
      | some a => do
       storeCells (a.add (m * sz)) new.toList
       pure (Value.slice A (m + k) c)
      | x => pure (Value.slice A (m + k) c)
    else do
     let newCap <- choose (Question.appendCap (m + k) c e)
     let old <- Builtin.firstCells sz m (Value.slice A m c)
     let new <- Builtin.firstCells sz k x
     let a <- newRow e (old ++ new ++ Builtin.zeroCells z.cells (newCap - (m + k)))
     pure (Value.slice (some a) (m + k) newCap)) w) = R) -> (Builtin.append_ #[t, xt] T #[.slice A m c, x]).run P w = R := by
  intro R hR
  rw [<- hR]
  by_cases hroom : m + k <= c
  ·unfold Builtin.append_
   simp only [List.getElem?_toArray, List.getElem?_cons_zero, List.getElem?_cons_succ, Sem.run_bind, underlying, run_program, Result.andThen_ok, hu, Sem.run_pure, zqg w hsz, hxt, Bool.false_eq_true, if_false, Bool.not_false, if_true, hlen, if_pos hroom]
   cases A <;> rfl
  ·have hneed : c < m + k := by omega
   have hfits := growslice_fits (old := c) hneed hb
   have h1 : ¬ (((m + k : Nat) : Int) > IntKind.i64.max /\ (False \/ i.bytes = 0)) := by
    rintro ⟨_, h | h⟩
    ·exact h
    ·omega
   have h2 : ¬ (Builtin.nextslicecap (m + k) c * i.bytes > 2 ^ 48) := by rw [hib]; simp only [Nat.reducePow]; omega
   unfold Builtin.append_
   simp only [List.getElem?_toArray, List.getElem?_cons_zero, List.getElem?_cons_succ, Sem.run_bind, underlying, run_program, Result.andThen_ok, hu, Sem.run_pure, zqg w hsz, hxt, Bool.false_eq_true, if_false, Bool.not_false, if_true, hlen, if_neg hroom, hbi, if_neg h1, if_neg h2, run_askRoom, zql _ hz]
 obtain ⟨h1, h2, d, eh, ho, hrest⟩ := hh.pick pk
 obtain ⟨b, pre, junk, fr, hA, h3, h4, h5, h6, h7⟩ := ho
 subst hA
 by_cases hroom : m + k <= c
 ·simp only [if_pos hroom] at start
  have hmul := Nat.mul_le_mul_right sz hroom
  rw [Nat.add_mul] at hmul
  have hh2 : Hold Γ (blk b (pre ++ (cells ++ junk)) e fr :: H') F w := ⟨hh.os, hh.tape, hh.output, by
   rw [eh]; exact zqk ⟨h1, h2, d, rfl, h7, hrest⟩⟩
  obtain ⟨w', e', hh'⟩ := zqM (P := P) (off := pre.length + m * sz) new 0 (pre ++ (cells ++ junk)) w _ hh2 Pick.head hs (by
   rw [List.length_append, h4]; omega) (λ j hj => h6.2 _ (by rw [List.length_append, h4]; omega))
  have hput : putAt (pre ++ (cells ++ junk)) (pre.length + m * sz + 0) new = pre ++ (cells ++ new ++ junk.drop new.length) := putAt_mid2 (by omega)
  refine ⟨some ⟨b, pre.length, none⟩, c, w', start _ ?_, hh'.weaken λ x hx => ?_⟩
  ·have ea : (⟨b, pre.length, none⟩ : Addr).add (m * sz) = ⟨b, pre.length + m * sz, none⟩ := by rw [zqF]
   simp only [Sem.run_bind, hsrc w hh, Result.andThen_ok, ea, List.toList_toArray, e', Sem.run_pure]
  ·refine zqd (λ y hy => ?_) (λ _ h => h) hx
   rw [hput] at hy
   have hl : (pre ++ (cells ++ new ++ List.drop new.length junk)).length = (pre ++ (cells ++ junk)).length := by
    simp only [List.length_append, List.length_drop] at h4 ⊢
    omega
   refine ⟨b, pre, junk.drop new.length, fr, rfl, by simp [h3, hnl, Nat.add_mul], ?_, hroom, by rw [hl]; exact h6, hy⟩
   simp only [List.length_append, List.length_drop] at h4 ⊢
   omega
 ·simp only [if_neg hroom] at start
  have hfi : (Question.appendCap (m + k) c e).forced = false := rfl
  generalize hcap : (Question.appendCap (m + k) c e).cut (w.tape w.drawn (.appendCap (m + k) c e)) = cap at start
  have hcap1 : m + k <= cap := by rw [<- hcap]; simp [Question.cut]
  have hh1 : Hold Γ H F { w with drawn := w.drawn + 1 } := hh.drew _
  have hh2 := (hh1.drop pk).newb (.cells (cells ++ new ++ (Builtin.zeroCells z.cells (cap - (m + k))).toList).toArray e)
  refine ⟨some ⟨w.heap.size, 0, none⟩, cap, { w with drawn := w.drawn + 1, heap := w.heap.push (.cells (cells ++ new ++ (Builtin.zeroCells z.cells (cap - (m + k))).toList).toArray e) }, start _ ?_, hh2.weaken λ x hx => ?_⟩
  ·have e1 : cells.toArray ++ new.toArray ++ Builtin.zeroCells z.cells (cap - (m + k)) = (cells ++ new ++ (Builtin.zeroCells z.cells (cap - (m + k))).toList).toArray := by simp
   have e2 := zqW (P := P) (kc := c) hh1 pk .ownO hcl.1
   simp only [Sem.run_bind, run_choose, hfi, Bool.false_eq_true, if_false, hcap, Result.andThen_ok, e2, hsrc _ hh1, newRow, run_newObj, Sem.run_pure, e1]
  ·refine zqd (λ y hy => ?_) (λ _ h => h) hx
   refine ⟨w.heap.size, [], (Builtin.zeroCells z.cells (cap - (m + k))).toList, (0, 0), rfl, by simp [hcl.1, hnl, Nat.add_mul], ?_, hcap1, .zero, hy⟩
   have hzl : (Builtin.zeroCells z.cells (cap - (m + k))).toList.length = (cap - (m + k)) * sz := by simp [Builtin.zeroCells, hzc]
   simp only [List.length_append, hzl, hcl.1, hnl]
   rw [<- Nat.add_mul, <- Nat.add_mul]
   congr 1
   omega
variable {ro : Option Nat} {n : Nat} {ops : Array Oper} {r : List Oper} {ds : List Deferred} {L : Lo} {K : Kont} {C : SP} {H2 : List SP}
 {T T' t xt : TypeId} {p : String} {es : Array Edge} {g : Option (Nat × Bool)} {d e sz by_ : Nat} {x y : Operand} {v z : Value} {m c k kc : Nat}
theorem Ops.appendO {B : Option Addr} {new : List Value} (hu : P.underlying t = some (.slice e)) {e' : TypeId} (hxt : P.underlying xt = some (.slice e'))
  (hsz : sizeP P e = some sz) (hby : bytesP P e = some by_) (hz : zeroP P e = some z) (hzc : z.cells.size = sz) (hb0 : Nat.blt 0 by_ = true)
  (hx : evalL L x = some (.slice A m c)) (hy : evalL L y = some (.slice B k kc)) (pk : Pick H (OwnO e sz A m c cells) H') (pk2 : Pick H C H2) (hR : RdA C B new) (hnl : new.length = k * sz) (hs : scal new = true) (hb : (m + k) * by_ <= 140737488355328)
  (hw : wants ops L ⟨some d, .call { callee := .builtin .append, args := #[x, y], argTypes := #[t, xt] }, T, p, es, g⟩ = some true) (ht : Nat.blt d n = true)
  (kk : ∀ A' c', Ops P ro n ops r ds ((d, .slice A' (m + k) c') :: L) (OwnO e sz A' (m + k) c' (cells ++ new) :: H') K) :
  Ops P ro n ops (⟨some d, .call { callee := .builtin .append, args := #[x, y], argTypes := #[t, xt] }, T, p, es, g⟩ :: r) ds L H K :=
 Ops.val hw (by simp) ht λ Γ F a w he hh => by
  obtain ⟨A', c', w', e1, h'⟩ := append_runO (T := T) (k := k) (x := .slice B k kc) hu hxt hsz hby hz hzc hh pk (λ w => by simp [Builtin.lenOf]) (λ w hw => zqW hw pk2 hR hnl) hnl hs (by simpa [Nat.blt_eq] using hb0) hb
  refine ⟨_, w', _, ?_, h', kk A' c'⟩
  simp only [execOp, resolve, he.eval hx, he.eval hy, List.map_toArray, List.map_cons, List.map_nil, Sem.run_bind, Sem.run_pure, Result.andThen_ok, invoke, builtin, e1]
end
end Go.Z
