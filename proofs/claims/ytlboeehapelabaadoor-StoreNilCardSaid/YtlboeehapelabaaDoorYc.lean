/- Loud operations: slices. -/
import Derived.Test.YtlboeehapelabaaDoorYb
set_option linter.unusedVariables false
set_option linter.unusedSimpArgs false
namespace Go.Y
open Go.Z
noncomputable section
def flatV (k : Nat) (l : List V) : List V := (List.replicate k l).flatten
theorem zc_flat (z : Value) (hz : 0 < z.cells.size) : ∀ N, ((Array.range (N * z.cells.size)).map (z.cells[· % z.cells.size]!)).toList = (List.replicate N z.cells.toList).flatten := by
  intro N
  have hfl : ∀ (N q : Nat) (h : q < ((List.replicate N z.cells.toList).flatten).length), ((List.replicate N z.cells.toList).flatten)[q] = z.cells[q % z.cells.size]'(Nat.mod_lt _ (by omega)) := by
    intro N
    induction N with
    | zero => intro q h; simp at h
    | succ N ih =>
      intro q h
      simp only [List.replicate_succ, List.flatten_cons] at h ⊢
      by_cases hlt : q < z.cells.size
      · rw [List.getElem_append_left (by simpa using hlt)]
        simp [Nat.mod_eq_of_lt hlt]
      · rw [List.getElem_append_right (by simpa using Nat.le_of_not_lt hlt)]
        rw [ih]
        simp only [Array.length_toList]
        congr 1
        rw [Nat.mod_eq_sub_mod (Nat.le_of_not_lt hlt)]
  apply List.ext_getElem
  · simp
  · intro q h1 h2
    have hmod : q % z.cells.size < z.cells.size := Nat.mod_lt _ (by omega)
    simp only [Array.toList_map, List.getElem_map, Array.toList_range, List.getElem_range]
    rw [getElem!_pos z.cells _ hmod]
    exact (hfl N q h2).symm
section
variable {P : Program} {ro : Option Nat} {n : Nat} {ops : Array Oper} {r : List Oper} {ds : List Deferred} {L : Lo} {H H' : List SP} {K : Kont} {ρ : Rho} {W : RW} {G : GV} {env : Tr V} {hp hp' : Mem}
  {d : Nat} {T T' X Y t xt e sz by_ : TypeId} {p : String} {es : Array Edge} {g : Option (Nat × Bool)} {op : Op} {v : V} {u : Value} {x y z : Operand} {A : Option Addr} {m c : Nat} {cells : List Value}
theorem RL.flat {l : List V} {us : List Value} (h : RL ρ l us) : ∀ k, RL ρ (flatV k l) ((List.replicate k us).flatten)
  | 0 => .nil
  | k + 1 => by simp only [flatV, List.replicate_succ, List.flatten_cons]; exact h.append (RL.flat h k)
def lBuildSlice (P : Program) (G : GV) (env : Tr V) (hp : Mem) (t : TypeId) (len : Nat) (parts : Array (Nat × Operand)) : Option (List (V × Mem)) :=
  match P.underlying t with
  | some (.slice e) => match sizeP P e, zeroV P e, mapO (evO G env) (parts.toList.map (·.2)) with
    | some sz, some z, some vs => match Nat.ble (len * sz) 16777216, Nat.blt 0 (len * sz), Nat.beq (cellsV z).length sz, fillV (fun i => some (i * sz, sz)) (flatV len (cellsV z)) ((parts.toList.map (·.1)).zip vs) with
      | true, true, true, some l => one (.sl hp.n 0 0 len none) (hp.newS (.cells l e sz))
      | _, _, _, _ => none
    | _, _, _ => none
  | _ => none
theorem lBuildSlice_ok (hG : GOk ρ G) (hE : RE ρ env L) (hH : HR ρ hp W) {len : Nat} {parts : Array (Nat × Operand)} (hw : wants ops L ⟨some d, .buildSlice T' len parts, T, p, es, g⟩ = some true) (ht : Nat.blt d n = true) {outs : List (V × Mem)} (h : lBuildSlice P G env hp T' len parts = some outs) (k : Cont P ro n ops r ds L K ρ hp W (some d) outs) :
    Ops P ro n ops (⟨some d, .buildSlice T' len parts, T, p, es, g⟩ :: r) ds L (spl hp.n W) K := by
  unfold lBuildSlice at h
  split at h
  · rename_i e hT
    split at h
    · rename_i sz z vs hsz hz hvs
      split at h
      · rename_i l h1 h2 h3 hf
        obtain ⟨hp', h4, rfl⟩ := one_ok h
        obtain ⟨hs, rfl⟩ := newS_ok h4
        obtain ⟨zr, hzr, hzv⟩ := zeroV_ok (ρ := ρ) hz
        obtain ⟨zc, hc1, hc2⟩ := cellsV_ok hzv
        have h3 := beq_tt h3
        have hzs : zr.cells.size = sz := by rw [hc1]; simp [hc2.length, h3]
        obtain ⟨us, hus, hvu⟩ := evOs_ok hG hE hvs
        have hpos := blt_tt h2
        have hsz0 : 0 < sz := Nat.pos_of_mul_pos_left hpos
        have hul : (parts.toList.map (·.1)).length = us.length := by
          rw [hvu.length]
          have := congrArg (Option.map List.length) hvs
          have hm : ∀ {l : List Operand} {r : List V}, mapO (evO G env) l = some r → r.length = l.length := by
            intro l
            induction l with
            | nil => intro r h; simp only [mapO, Option.some.injEq] at h; subst h; rfl
            | cons a l ih =>
              intro r h
              simp only [mapO] at h
              split at h
              · split at h
                · rename_i y _ ys hys; cases h; simp [ih hys]
                · cases h
              · cases h
          rw [hm hvs]; simp
        have hrp := RPs.zip (is := parts.toList.map (·.1)) hvu (by rw [← hvu.length]; exact hul)
        obtain ⟨rr, h5, h6, h7⟩ := fillV_ok hf (hc2.flat len) hrp
        have hzl : (zr.cells.toList) = zc := by rw [hc1]
        have hflat := zc_flat zr (by omega) len
        rw [hzs, hzl] at hflat
        have hbase : (Array.range (len * sz)).map (zr.cells[· % zr.cells.size]!) = ((List.replicate len zc).flatten).toArray := by
          rw [hzs, ← hflat]
        have hrl : rr.length = len * sz := by
          rw [h6.length, h7]
          have := (hc2.flat len).length
          rw [← this]; simp [hc2.length, h3]
        refine Ops.buildSlice hT hsz hzr h1 h2 (pv := (parts.toList.map (·.1)).zip us) (cs := rr.toArray) ?_ ?_ ?_ ?_ hw ht fun b => ?_
        · rw [hus]; congr 1
          rw [List.map_snd_zip]; omega
        · rw [List.map_fst_zip]; omega
        · rw [hbase]; exact h5
        · simpa using hrl
        · rw [List.toList_toArray]
          exact blk_new (c := len) hH hs h6 hrl fun W' hH' hst => k _ (List.mem_singleton.2 rfl) _ W' _ (rho_new hH _) hH' ⟨b, len, upd_same, rfl, by simp⟩ rfl hst
      · cases h
    · cases h
  · cases h
def lBuildEmpty (P : Program) (hp : Mem) (t : TypeId) (parts : Array (Nat × Operand)) : Option (List (V × Mem)) :=
  match P.underlying t, parts.toList with
  | some (.slice e), [] => match sizeP P e with
    | some sz => one (.sl hp.n 0 0 0 none) (hp.newS (.cells [] e sz))
    | none => none
  | _, _ => none
theorem lBuildEmpty_run {parts : Array (Nat × Operand)} {outs : List (V × Mem)} (h : lBuildEmpty P hp T' parts = some outs) :
    ∃ e sz, outs = [(.sl hp.n 0 0 0 none, hp.new (.cells [] e sz))] ∧ small hp.n = true ∧ ∀ (a : Act) (w : World), (execOp a.eval ⟨some d, .buildSlice T' 0 parts, T, p, es, g⟩).run P w = .ok (.value (.slice (some ⟨w.heap.size, 0, none⟩) 0 0)) { w with heap := w.heap.push (.cells #[] e) } := by
  unfold lBuildEmpty at h
  split at h
  · rename_i e hT hparts
    split at h
    · rename_i sz hsz
      obtain ⟨hp', h1, rfl⟩ := one_ok h
      obtain ⟨hs, rfl⟩ := newS_ok h1
      refine ⟨e, sz, rfl, hs, fun a w => ?_⟩
      have e1 : parts = #[] := by cases parts; simp at hparts; simp [hparts]
      subst e1
      simp [execOp, Instr.buildSlice, underlying, hT, sizeOf_run w hsz, Instr.fill, newRow]
      congr 2
      apply Array.ext'
      simp
    · cases h
  · cases h
theorem lBuildEmpty_ok (hH : HR ρ hp W) {parts : Array (Nat × Operand)} (hw : wants ops L ⟨some d, .buildSlice T' 0 parts, T, p, es, g⟩ = some true) (ht : Nat.blt d n = true) {outs : List (V × Mem)} (h : lBuildEmpty P hp T' parts = some outs) (k : Cont P ro n ops r ds L K ρ hp W (some d) outs) :
    Ops P ro n ops (⟨some d, .buildSlice T' 0 parts, T, p, es, g⟩ :: r) ds L (spl hp.n W) K := by
  obtain ⟨e, sz, rfl, hs, hrun⟩ := lBuildEmpty_run (d := d) (T := T) (p := p) (es := es) (g := g) h
  refine Ops.val hw (by simp) ht fun Γ F a w he hh => ⟨_, _, _, hrun a w, hh.newb _, ?_⟩
  exact blk_new (us := []) (c := 0) hH hs RL.nil (by simp) fun W' hH' hst => k _ (List.mem_singleton.2 rfl) _ W' _ (rho_new hH _) hH' ⟨_, 0, upd_same, rfl, by simp⟩ rfl hst
def lMakeSlice (P : Program) (G : GV) (env : Tr V) (hp : Mem) (t : TypeId) (x y : Operand) : Option (List (V × Mem)) :=
  match P.underlying t with
  | some (.slice e) => match sizeP P e, bytesP P e, zeroV P e, evN G env x, evN G env y with
    | some sz, some by_, some z, some i, some j => match Nat.beq (cellsV z).length sz, Nat.ble i j, Nat.ble j 9223372036854775807, Nat.ble (j * by_) 281474976710656, Nat.blt 0 sz, Nat.blt 0 j with
      | true, true, true, true, true, true => one (.sl hp.n 0 0 i none) (hp.newS (.cells (flatV i (cellsV z)) e sz))
      | _, _, _, _, _, _ => none
    | _, _, _, _, _ => none
  | _ => none
theorem lMakeSlice_ok (hG : GOk ρ G) (hE : RE ρ env L) (hH : HR ρ hp W) (hw : wants ops L ⟨some d, .makeSlice T' x y, T, p, es, g⟩ = some true) (ht : Nat.blt d n = true) {outs : List (V × Mem)} (h : lMakeSlice P G env hp T' x y = some outs) (k : Cont P ro n ops r ds L K ρ hp W (some d) outs) :
    Ops P ro n ops (⟨some d, .makeSlice T' x y, T, p, es, g⟩ :: r) ds L (spl hp.n W) K := by
  unfold lMakeSlice at h
  split at h
  · rename_i e hT
    split at h
    · rename_i sz by_ z i j hsz hby hz hi hj
      split at h
      · rename_i h1 h2 h3 h4 h5 h6
        obtain ⟨hp', h7, rfl⟩ := one_ok h
        obtain ⟨hs, rfl⟩ := newS_ok h7
        obtain ⟨zr, hzr, hzv⟩ := zeroV_ok (ρ := ρ) hz
        obtain ⟨zc, hc1, hc2⟩ := cellsV_ok hzv
        obtain ⟨k1, hx⟩ := evN_ok hG hE hi
        obtain ⟨k2, hy⟩ := evN_ok hG hE hj
        have h1 := beq_tt h1
        have h2 := Nat.le_of_ble_eq_true h2
        have h3 := Nat.le_of_ble_eq_true h3
        have h4 := Nat.le_of_ble_eq_true h4
        have h6 := blt_tt h6
        have hzs : zr.cells.size = sz := by rw [hc1]; simp [hc2.length, h1]
        have hzl : (zr.cells.toList) = zc := by rw [hc1]
        refine Ops.make hT hsz hby hzr hzs hx hy (by omega) (by omega) (by omega) (by simpa using h4) h5 hw ht fun A => ?_
        simp only [Int.toNat_natCast, hzl]
        exact own_close hH hs (hc2.flat i) (.inr (by omega)) fun b W' hA hm hH' hst => by
          subst hA
          exact k _ (List.mem_singleton.2 rfl) _ W' _ (rho_new hH _) hH' ⟨b, j, upd_same, rfl, hm⟩ rfl hst
      · cases h
    · cases h
  · cases h
/-- The slice that is appended to, as one that owns its memory: its chunk goes. -/
def dstOf (hp : Mem) (e sz : Nat) (x : V) : Option (List V × Nat × Mem × Option Nat) :=
  match x with
  | .nils => some ([], 0, hp, none)
  | .sl id i off len none => match hp.t.get id with
    | some (.cells l ty s) => match Nat.beq i 0, Nat.beq off 0, Nat.beq ty e, Nat.beq s sz, takeN (len * sz) l with
      | true, true, true, true, some r => match hp.putS id none with | some h => some (r, len, h, some id) | none => none
      | _, _, _, _, _ => none
    | _ => none
  | _ => none
theorem dstOf_ok (hH : HR ρ hp W) (hu : R ρ v u) {r0 : List V} {m0 : Nat} {h0 : Mem} {idk : Option Nat} (h : dstOf hp e sz v = some (r0, m0, h0, idk)) (hsz : 0 < sz) :
    ∃ A c W0 cells, u = .slice A m0 c ∧ HR ρ h0 W0 ∧ h0.n = hp.n ∧ RL ρ r0 cells ∧ cells.length = m0 * sz ∧ (∀ id, idk ≠ some id → W0 id = W id) ∧ (Stay hp W W0 ∧ h0.ro = hp.ro) ∧ ∀ x, sep (spl hp.n W) x → sep (Own e sz A m0 c cells :: spl hp.n W0) x := by
  unfold dstOf at h
  split at h
  · cases h; cases hu
    exact ⟨none, 0, W, [], rfl, hH, rfl, .nil, by simp, fun _ _ => rfl, ⟨.refl, rfl⟩, fun x hx => sep_nil_own hx⟩
  · rename_i id i off len
    split at h
    · rename_i l ty s hc
      split at h
      · rename_i r h1 h2 h3 h4 h5
        split at h
        · rename_i h' hput
          cases h
          have hro := putS_ro hput
          obtain ⟨hs, rfl⟩ := putS_ok hput
          have h1 := beq_tt h1
          have h2 := beq_tt h2
          have h3 := beq_tt h3
          have h4 := beq_tt h4
          subst h1; subst h2; subst h3; subst h4
          obtain ⟨h6, h7⟩ := takeN_ok h5
          obtain ⟨b, c, hr, hlt, hle, rl, h8, h9⟩ := own_of (len := m0) hH hc (by
            have : (l.take (m0 * s)).length = m0 * s := by rw [← h6, h7]
            simp only [List.length_take] at this; omega) hsz
          obtain ⟨b', c', hr', rfl, hl⟩ := hu
          rw [hr] at hr'; cases hr'
          rw [← h6] at h8
          refine ⟨some ⟨b, 0, none⟩, c, upd W id none, rl, by simp, hH.kill hs, rfl, h8, by rw [h8.length, h7], fun j hj => upd_other (fun e => hj (by rw [e])), ⟨Stay.put hro, rfl⟩, h9⟩
        · cases h
      · cases h
    · cases h
  · cases h
end
end
end Go.Y
