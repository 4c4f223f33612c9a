/- Appending, by the source; zeros appended; slices made of elements written out. -/
import Derived.Test.YtlboeehapelabaaDoorZ9
set_option linter.unusedVariables false
set_option linter.unusedSimpArgs false
namespace Go.Z
section
variable {P : Program} {ro : Option Nat} {n : Nat} {ops : Array Oper} {r : List Oper} {ds : List Deferred} {L : Lo} {H H' H2 : List SP} {K : Kont} {C : SP}
  {T T' t xt : TypeId} {p : String} {es : Array Edge} {g : Option (Nat × Bool)} {d e sz by_ b off : Nat} {x y : Operand} {v z : Value} {m c k kc : Nat} {A B : Option Addr} {cells : List Value}
/-- the elements are written out: their slice lies in a block of its own, which is not needed further. -/
theorem Ops.append_blk {e' : TypeId} {l : List Value} {fr : Nat × Nat} {ty : TypeId} (hu : P.underlying t = some (.slice e)) (hxt : P.underlying xt = some (.slice e'))
    (hsz : sizeP P e = some sz) (hby : bytesP P e = some by_) (hz : zeroP P e = some z) (hzc : z.cells.size = sz) (hb0 : Nat.blt 0 by_ = true)
    (hx : evalL L x = some (.slice A m c)) (hy : evalL L y = some (.slice (some ⟨b, 0, none⟩) k kc)) (pk : Pick H (Own e sz A m c cells) H') (pk2 : Pick H' (blk b l ty fr) H2) (hnl : l.length = k * sz) (hs : scal l = true) (hb : (m + k) * by_ ≤ 140737488355328)
    (hw : wants ops L ⟨some d, .call { callee := .builtin .append, args := #[x, y], argTypes := #[t, xt] }, T, p, es, g⟩ = some true) (ht : Nat.blt d n = true)
    (kk : ∀ A' c', Ops P ro n ops r ds ((d, .slice A' (m + k) c') :: L) (Own e sz A' (m + k) c' (cells ++ l) :: H2) K) :
    Ops P ro n ops (⟨some d, .call { callee := .builtin .append, args := #[x, y], argTypes := #[t, xt] }, T, p, es, g⟩ :: r) ds L H K := by
  have pk3 : Pick H (blk b l ty fr) (Own e sz A m c cells :: H2) := fun h hh => by
    have h1 := pk h hh
    have h2 := star_mono (fun _ x => x) (fun _ x => pk2 _ x) h1
    exact star_left_comm h2
  refine Ops.append hu hxt hsz hby hz hzc hb0 hx hy pk pk3 (RdA.blk (by simp)) hnl hs hb hw ht fun A' c' => (kk A' c').weak fun h hh => ?_
  exact star_mono (fun _ x => x) (fun y hy => by
    obtain ⟨h1, h2, dd, rfl, _, h⟩ := pk2 y hy
    exact sep_up H2 dd h) hh
theorem Ops.append_own {e' : TypeId} {new : List Value} {sz2 : Nat} {e2 : TypeId} (hu : P.underlying t = some (.slice e)) (hxt : P.underlying xt = some (.slice e'))
    (hsz : sizeP P e = some sz) (hby : bytesP P e = some by_) (hz : zeroP P e = some z) (hzc : z.cells.size = sz) (hb0 : Nat.blt 0 by_ = true)
    (hx : evalL L x = some (.slice A m c)) (hy : evalL L y = some (.slice B k kc)) (pk : Pick H (Own e sz A m c cells) H') (pk2 : Pick H' (Own e2 sz2 B k kc new) H2) (hnl : new.length = k * sz) (hs : scal new = true) (hb : (m + k) * by_ ≤ 140737488355328)
    (hw : wants ops L ⟨some d, .call { callee := .builtin .append, args := #[x, y], argTypes := #[t, xt] }, T, p, es, g⟩ = some true) (ht : Nat.blt d n = true)
    (kk : ∀ A' c', Ops P ro n ops r ds ((d, .slice A' (m + k) c') :: L) (Own e sz A' (m + k) c' (cells ++ new) :: H') K) :
    Ops P ro n ops (⟨some d, .call { callee := .builtin .append, args := #[x, y], argTypes := #[t, xt] }, T, p, es, g⟩ :: r) ds L H K := by
  have pk3 : Pick H (Own e2 sz2 B k kc new) (Own e sz A m c cells :: H2) := fun h hh => by
    have h1 := pk h hh
    have h2 := star_mono (fun _ x => x) (fun _ x => pk2 _ x) h1
    exact star_left_comm h2
  exact Ops.append hu hxt hsz hby hz hzc hb0 hx hy pk pk3 .own hnl hs hb hw ht kk
/-- the source lies in another chunk, wherever. -/
theorem Ops.append_rd {e' : TypeId} {new : List Value} (hu : P.underlying t = some (.slice e)) (hxt : P.underlying xt = some (.slice e'))
    (hsz : sizeP P e = some sz) (hby : bytesP P e = some by_) (hz : zeroP P e = some z) (hzc : z.cells.size = sz) (hb0 : Nat.blt 0 by_ = true)
    (hx : evalL L x = some (.slice A m c)) (hy : evalL L y = some (.slice B k kc)) (pk : Pick H (Own e sz A m c cells) H') (hR : RdA C B new) (pk2 : Pick H' C H2) (hnl : new.length = k * sz) (hs : scal new = true) (hb : (m + k) * by_ ≤ 140737488355328)
    (hw : wants ops L ⟨some d, .call { callee := .builtin .append, args := #[x, y], argTypes := #[t, xt] }, T, p, es, g⟩ = some true) (ht : Nat.blt d n = true)
    (kk : ∀ A' c', Ops P ro n ops r ds ((d, .slice A' (m + k) c') :: L) (Own e sz A' (m + k) c' (cells ++ new) :: H') K) :
    Ops P ro n ops (⟨some d, .call { callee := .builtin .append, args := #[x, y], argTypes := #[t, xt] }, T, p, es, g⟩ :: r) ds L H K := by
  have pk3 : Pick H C (Own e sz A m c cells :: H2) := fun h hh => by
    have h1 := pk h hh
    have h2 := star_mono (fun _ x => x) (fun _ x => pk2 _ x) h1
    exact star_left_comm h2
  exact Ops.append hu hxt hsz hby hz hzc hb0 hx hy pk pk3 hR hnl hs hb hw ht kk
/-- 'append(b, make([]T, k)...)', as the compiler has it. -/
theorem Ops.append_zeros {i : Int} {ki kx : IntKind} (hu : P.underlying t = some (.slice e)) (hxt : P.underlying xt = some (.int kx))
    (hsz : sizeP P e = some sz) (hby : bytesP P e = some by_) (hz : zeroP P e = some z) (hzc : z.cells.size = sz) (hb0 : Nat.blt 0 by_ = true) (hs0 : Nat.blt 0 sz = true) (hzs : scal z.cells.toList = true)
    (hx : evalL L x = some (.slice A m c)) (hy : evalL L y = some (.int ki i)) (h0 : 0 ≤ i) (pk : Pick H (Own e sz A m c cells) H') (hb : (m + i.toNat) * by_ ≤ 140737488355328)
    (hw : wants ops L ⟨some d, .call { callee := .builtin .append, args := #[x, y], argTypes := #[t, xt] }, T, p, es, g⟩ = some true) (ht : Nat.blt d n = true)
    (kk : ∀ A' c', Ops P ro n ops r ds ((d, .slice A' (m + i.toNat) c') :: L) (Own e sz A' (m + i.toNat) c' (cells ++ (List.replicate i.toNat z.cells.toList).flatten) :: H') K) :
    Ops P ro n ops (⟨some d, .call { callee := .builtin .append, args := #[x, y], argTypes := #[t, xt] }, T, p, es, g⟩ :: r) ds L H K :=
  Ops.val hw (by simp) ht fun Γ F a w he hh => by
    have hb0' : 0 < by_ := by simpa [Nat.blt_eq] using hb0
    have hs0' : 0 < sz := by simpa [Nat.blt_eq] using hs0
    obtain ⟨info, hi, hib⟩ : ∃ i, P.info? e = some i ∧ i.bytes = by_ := by
      unfold bytesP at hby
      cases hi : P.info? e with
      | none => simp [hi] at hby
      | some i => exact ⟨i, rfl, by simpa [hi] using hby⟩
    have hbi : ∀ w, (typeInfo e).run P w = .ok info w := fun w => by simp [typeInfo, hi]
    have hcl : cells.length = m * sz ∧ m ≤ c := by
      obtain ⟨h1, hc, _⟩ := hh.chunk pk
      rcases hc with ⟨_, rfl, rfl, rfl, _⟩ | ⟨b, junk, fr, _, h, _, h2, _⟩
      · simp
      · exact ⟨h, h2⟩
    generalize hk : i.toNat = k at *
    have hik : i = (k : Int) := by omega
    have hm1 : m + k ≤ (m + k) * by_ := Nat.le_mul_of_pos_right _ hb0'
    have hwi : IntKind.i64.wrap i = i := wrap_in (i64_in (by omega))
    have hneg : ¬ i < 0 := by omega
    have hbig : ¬ i * (info.bytes : Int) > 2 ^ 48 := by
      rw [hib, hik]
      have h5 : ((2 : Int) ^ 48) = 281474976710656 := by decide
      have h6 : k * by_ ≤ (m + k) * by_ := Nat.mul_le_mul_right _ (by omega)
      have h7 : ((k : Int) * (by_ : Int)) = ((k * by_ : Nat) : Int) := by simp
      rw [h5, h7]; omega
    have hzfl : ∀ N, (Builtin.zeroCells z.cells N).toList = (List.replicate N z.cells.toList).flatten := by
      intro N
      have hfl : ∀ (N q : Nat) (h : q < ((List.replicate N z.cells.toList).flatten).length), ((List.replicate N z.cells.toList).flatten)[q] = z.cells[q % z.cells.size]'(Nat.mod_lt _ (by omega)) := by
        intro N
        induction N with
        | zero => intro q h; simp at h
        | succ N ih =>
          intro q h
          simp only [List.replicate_succ, List.flatten_cons] at h ⊢
          by_cases hlt : q < z.cells.size
          · rw [List.getElem_append_left (by simpa using hlt)]
            simp [Nat.mod_eq_of_lt hlt]
          · rw [List.getElem_append_right (by simpa using Nat.le_of_not_lt hlt)]
            rw [ih]
            simp only [Array.length_toList]
            congr 1
            rw [Nat.mod_eq_sub_mod (Nat.le_of_not_lt hlt)]
      apply List.ext_getElem
      · simp [Builtin.zeroCells, hzc]
      · intro q h1 h2
        have hmod : q % z.cells.size < z.cells.size := Nat.mod_lt _ (by omega)
        simp only [Builtin.zeroCells, Array.toList_map, List.getElem_map, Array.toList_range, List.getElem_range]
        rw [getElem!_pos z.cells _ hmod]
        exact (hfl N q h2).symm
    have hnew : ∀ w : World, (Sem.run P (if k * sz = 0 then (Pure.pure #[] : Sem (Array Value)) else do Pure.pure (Builtin.zeroCells (← zeroValue e).cells k)) w) = .ok ((List.replicate k z.cells.toList).flatten).toArray w := by
      intro w
      by_cases hk0 : k * sz = 0
      · have : k = 0 := by rcases Nat.mul_eq_zero.1 hk0 with h | h <;> omega
        simp [this]
      · simp only [if_neg hk0, Sem.run_bind, zeroValue_run w hz, Result.andThen_ok, Sem.run_pure]
        rw [← hzfl]
    have hscal : scal ((List.replicate k z.cells.toList).flatten) = true := by
      simp only [scal, List.all_eq_true, List.mem_flatten, List.mem_replicate] at hzs ⊢
      rintro x ⟨l, ⟨_, rfl⟩, hx⟩
      exact hzs x hx
    have hlen : ((List.replicate k z.cells.toList).flatten).length = k * sz := by simp [hzc]
    -- as in 'append_run'
    by_cases hroom : m + k ≤ c
    · cases A with
      | none =>
        obtain ⟨h1, hc, _⟩ := hh.chunk pk
        rcases hc with ⟨_, rfl, rfl, rfl, _⟩ | ⟨b, junk, fr, hA, _⟩
        · have hk0 : k = 0 := by omega
          subst hk0
          refine ⟨.slice none 0 0, w, Own e sz none 0 0 [] :: H', ?_, hh.weaken fun q hq => pk q hq, kk none 0⟩
          have hi0 : i = 0 := by omega
          subst hi0
          simp [execOp, resolve, he.eval hx, he.eval hy, invoke, builtin, Builtin.append_, underlying, hu, hxt, sizeOf_run w hsz, hbi, asInt, asIntOf, hwi]
        · cases hA
      | some ad =>
        obtain ⟨h1, h2, d', eh, ho, hrest⟩ := hh.pick pk
        rcases ho with ⟨hA, _⟩ | ⟨b, junk, fr, hA, h3, h4, h5, h6, h7⟩
        · cases hA
        · cases hA
          have hmul := Nat.mul_le_mul_right sz hroom
          rw [Nat.add_mul] at hmul
          have hh2 : Hold Γ (blk b (cells ++ junk) e fr :: H') F w := ⟨hh.os, hh.tape, hh.output, by
            rw [eh]; exact star_left_comm ⟨h1, h2, d', rfl, h7, hrest⟩⟩
          obtain ⟨w', e', hh'⟩ := storeCells_run (P := P) (off := m * sz) ((List.replicate k z.cells.toList).flatten) 0 (cells ++ junk) w _ hh2 Pick.head hscal (by
            rw [h4, hlen]; omega) (fun j hj => h6.2 _ (by rw [hlen] at hj; omega))
          refine ⟨.slice (some ⟨b, 0, none⟩) (m + k) c, w', _, ?_, hh'.weaken fun x hx => ?_, kk _ _⟩
          · have ea : (⟨b, 0, none⟩ : Addr).add (m * sz) = ⟨b, m * sz, none⟩ := by rw [add_none]; simp
            simp only [execOp, resolve, he.eval hx, he.eval hy, List.map_toArray, List.map_cons, List.map_nil, Sem.run_bind, Sem.run_pure, Result.andThen_ok, invoke, builtin, Builtin.append_, List.getElem?_toArray, List.getElem?_cons_zero, List.getElem?_cons_succ, underlying, run_program, hu, sizeOf_run w hsz, hxt, if_true, asInt, asIntOf, hwi, if_neg hneg, hbi, if_neg hbig, hk, if_pos hroom, Bool.not_true, Bool.false_eq_true, if_false, hnew, ea, List.toList_toArray, e']
          · refine star_mono (fun y hy => ?_) (fun _ h => h) hx
            refine .inr ⟨b, junk.drop ((List.replicate k z.cells.toList).flatten).length, fr, rfl, by simp only [List.length_append, h3, hlen, Nat.add_mul], ?_, hroom, h6, ?_⟩
            · simp only [List.length_append, List.length_drop] at h4 ⊢
              rw [hlen]; omega
            · have : putAt (cells ++ junk) (m * sz + 0) ((List.replicate k z.cells.toList).flatten) = cells ++ ((List.replicate k z.cells.toList).flatten) ++ junk.drop ((List.replicate k z.cells.toList).flatten).length := putAt_mid (by omega)
              rw [this] at hy
              exact hy
    · have hneed : c < m + k := by omega
      have hfits := growslice_fits (old := c) hneed hb
      have hmax : ¬ (((m + k : Nat) : Int) > IntKind.i64.max ∧ (True ∨ info.bytes = 0)) := by
        have : IntKind.i64.max = 9223372036854775807 := rfl
        rintro ⟨h, _⟩; omega
      have h2 : ¬ (Builtin.nextslicecap (m + k) c * info.bytes > 2 ^ 48) := by rw [hib]; simp only [Nat.reducePow]; omega
      have hfi : (Question.appendCap (m + k) c e).forced = false := rfl
      generalize hcap : (Question.appendCap (m + k) c e).cut (w.tape w.drawn (.appendCap (m + k) c e)) = cap
      have hcap1 : m + k ≤ cap := by rw [← hcap]; simp [Question.cut]
      have hh1 : Hold Γ H F { w with drawn := w.drawn + 1 } := hh.drew _
      have hh2 := (hh1.drop pk).newb (.cells (cells ++ (List.replicate k z.cells.toList).flatten ++ (Builtin.zeroCells z.cells (cap - (m + k))).toList).toArray e)
      refine ⟨.slice (some ⟨w.heap.size, 0, none⟩) (m + k) cap, { w with drawn := w.drawn + 1, heap := w.heap.push (.cells (cells ++ (List.replicate k z.cells.toList).flatten ++ (Builtin.zeroCells z.cells (cap - (m + k))).toList).toArray e) }, _, ?_, hh2.weaken fun x hx => ?_, kk _ _⟩
      · have e1 : cells.toArray ++ ((List.replicate k z.cells.toList).flatten).toArray ++ Builtin.zeroCells z.cells (cap - (m + k)) = (cells ++ (List.replicate k z.cells.toList).flatten ++ (Builtin.zeroCells z.cells (cap - (m + k))).toList).toArray := by simp
        simp only [execOp, resolve, he.eval hx, he.eval hy, List.map_toArray, List.map_cons, List.map_nil, Sem.run_bind, Sem.run_pure, Result.andThen_ok, invoke, builtin, Builtin.append_, List.getElem?_toArray, List.getElem?_cons_zero, List.getElem?_cons_succ, underlying, run_program, hu, sizeOf_run w hsz, hxt, if_true, asInt, asIntOf, hwi, if_neg hneg, hbi, if_neg hbig, hk, if_neg hroom, Bool.not_true, Bool.false_eq_true, if_false, if_neg hmax, if_neg h2, run_choose, hfi, hcap, run_askRoom, firstCells_own hh1 pk, hnew, zeroValue_run _ hz, newRow, run_newObj, e1]
      · refine star_mono (fun y hy => ?_) (fun _ h => h) hx
        refine .inr ⟨w.heap.size, (Builtin.zeroCells z.cells (cap - (m + k))).toList, (0, 0), rfl, by simp only [List.length_append, hcl.1, hlen, Nat.add_mul], ?_, hcap1, .zero, hy⟩
        have hzl : (Builtin.zeroCells z.cells (cap - (m + k))).toList.length = (cap - (m + k)) * sz := by simp [Builtin.zeroCells, hzc]
        simp only [List.length_append, hzl, hcl.1, hlen]
        rw [← Nat.add_mul, ← Nat.add_mul]
        congr 1
        omega
end
end Go.Z
