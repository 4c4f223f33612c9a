/- Structs built; new memory as a step; rules for calls of methods, of the extern, of what is deferred, of rounds. -/
import Derived.Test.YtlboeehapelabaaDoorYi
import Derived.Test.YtlboeehapelabaaDoorYg
import Derived.RangeFuncRecord
import Derived.RecoverIn
import Derived.Laws.Externs
set_option linter.unusedVariables false
set_option linter.unusedSimpArgs false
namespace Go.Y
open Go.Z
noncomputable section
section
variable {P : Program} {ro : Option Nat} {n : Nat} {ops : Array Oper} {r : List Oper} {ds : List Deferred} {L : Lo} {H H' : List SP} {K : Kont} {ρ : Rho} {W : RW} {G : GV} {env : Tr V} {hp hp' : Mem}
  {d : Nat} {dd : Option Nat} {T T' X Y t xt e sz by_ : TypeId} {p : String} {es : Array Edge} {g : Option (Nat × Bool)} {op : Op} {v : V} {u : Value} {x y z : Operand} {A : Option Addr} {m c : Nat} {cells : List Value} {C : SP}
theorem mapO_len {α β : Type} {f : α → Option β} : ∀ {l : List α} {r : List β}, mapO f l = some r → r.length = l.length
  | [], r, h => by simp only [mapO, Option.some.injEq] at h; subst h; rfl
  | a :: l, r, h => by
    simp only [mapO] at h
    split at h
    · split at h
      · rename_i y _ ys hys; cases h; simp [mapO_len hys]
      · cases h
    · cases h
theorem parts_ok (hG : GOk ρ G) (hE : RE ρ env L) {parts : Array (Nat × Operand)} {vs : List V} (h : mapO (evO G env) (parts.toList.map (·.2)) = some vs) :
    ∃ us : List Value, RL ρ vs us ∧ (evalAll L (parts.toList.map (·.2)) = some (((parts.toList.map (·.1)).zip us).map (·.2))) ∧ parts.toList.map (·.1) = ((parts.toList.map (·.1)).zip us).map (·.1) ∧ RPs ρ ((parts.toList.map (·.1)).zip vs) ((parts.toList.map (·.1)).zip us) := by
  obtain ⟨us, hus, hvu⟩ := evOs_ok hG hE h
  have hul : (parts.toList.map (·.1)).length = us.length := by
    rw [hvu.length, mapO_len h]; simp
  refine ⟨us, hvu, ?_, ?_, RPs.zip hvu (by rw [← hvu.length]; exact hul)⟩
  · rw [hus]; congr 1
    rw [List.map_snd_zip]; omega
  · rw [List.map_fst_zip]; omega
theorem nth_fun {α : Type} (l : List α) : (fun i => l.toArray[i]?) = nth l := by funext i; rw [nth_eq]; simp
theorem qBuild_ok (hG : GOk ρ G) (hE : RE ρ env L) {parts : Array (Nat × Operand)} (hw : wants ops L ⟨some d, .build T' parts, T, p, es, g⟩ = some true) (ht : Nat.blt d n = true) {rd : List Nat} (h : qBuild P G env T' parts = some (v, rd)) :
    QOk P n ops ⟨some d, .build T' parts, T, p, es, g⟩ ds L ρ W v rd := by
  unfold qBuild at h
  split at h
  · rename_i pl zc hl
    split at h
    · rename_i zv vs hz hvs
      split at h
      · rename_i l hf
        cases h
        obtain ⟨us, h1, h2, h3, h4⟩ := parts_ok hG hE hvs
        obtain ⟨rr, h5, h6, h7⟩ := fillV_ok hf (mapO_ok hz) h4
        rw [← nth_fun] at h5
        exact .pure ⟨_, h6, rfl⟩ fun H => q_build hl h2 h3 h5 hw ht
      · cases h
    · cases h
  · cases h
theorem quietA_ok (hG : GOk ρ G) (hE : RE ρ env L) (hH : HR ρ hp W) (hw : wants ops L ⟨some d, op, T, p, es, g⟩ = some true) (ht : Nat.blt d n = true) {rd : List Nat} (h : quietA P G env hp op = some (v, rd)) :
    QOk P n ops ⟨some d, op, T, p, es, g⟩ ds L ρ W v rd := by
  unfold quietA at h
  split at h
  · exact qBuild_ok hG hE hw ht h
  · exact quiet_ok hG hE hH hw ht h
/-- New memory alone. -/
theorem newV_ok (hG : GOk ρ G) (hE : RE ρ env L) (hH : HR ρ hp W) {o : Oper} {h' : Mem} (h : newV P G env hp o.op = some [(v, h')]) (a : Act) (w : World) (he : Env a n ds L) :
    ∃ u ob c, (execOp a.eval o).run P w = .ok (.value u) { w with heap := w.heap.push ob } ∧ HR (upd ρ hp.n (some (w.heap.size, c))) h' (upd W hp.n (some (w.heap.size, ob))) ∧
      R (upd ρ hp.n (some (w.heap.size, c))) v u ∧ h'.n = hp.n + 1 ∧ h'.ro = hp.ro := by
  unfold newV at h
  split at h
  · rename_i t hop
    unfold lAlloc at h
    split at h
    · rename_i z hz
      obtain ⟨hp', h1, h2⟩ := one_ok h
      cases h2
      obtain ⟨hs, rfl⟩ := newS_ok h1
      obtain ⟨zr, hzr, hzv⟩ := zeroV_ok (ρ := ρ) hz
      obtain ⟨us, hc1, hc2⟩ := cellsV_ok hzv
      refine ⟨.pointer (some ⟨w.heap.size, 0, none⟩), .cells us.toArray t, 1, ?_, hH.new hs ?_, ⟨_, _, upd_same, rfl⟩, rfl, rfl⟩
      · simp only [execOp, hop, Instr.alloc, Sem.run_bind, zeroValue_run w hzr, Result.andThen_ok, newVar, newRow, run_newObj, Sem.run_pure, hc1]
      · exact ⟨1, us, [], (0, 0), upd_same, hc2.mono (rho_new hH _), by simp, by simp [hc2.length], .zero⟩
    · cases h
  · rename_i t x hop
    unfold lBox at h
    split at h
    · rename_i z hz
      obtain ⟨hp', h1, h2⟩ := one_ok h
      cases h2
      obtain ⟨hs, rfl⟩ := newS_ok h1
      obtain ⟨zr, hzr, hzv⟩ := evO_ok hG hE hz
      obtain ⟨us, hc1, hc2⟩ := cellsV_ok hzv
      refine ⟨.pointer (some ⟨w.heap.size, 0, none⟩), .cells us.toArray t, 1, ?_, hH.new hs ?_, ⟨_, _, upd_same, rfl⟩, rfl, rfl⟩
      · simp only [execOp, hop, Instr.box, he.eval hzr, Sem.run_bind, Result.andThen_ok, newVar, newRow, run_newObj, Sem.run_pure, hc1]
      · exact ⟨1, us, [], (0, 0), upd_same, hc2.mono (rho_new hH _), by simp, by simp [hc2.length], .zero⟩
    · cases h
  · rename_i t parts hop
    unfold lBuildEmpty at h
    split at h
    · rename_i e hT hparts
      split at h
      · rename_i sz hsz
        obtain ⟨hp', h1, h2⟩ := one_ok h
        cases h2
        obtain ⟨hs, rfl⟩ := newS_ok h1
        have e1 : parts = #[] := by cases parts; simp at hparts; simp [hparts]
        subst e1
        refine ⟨.slice (some ⟨w.heap.size, 0, none⟩) 0 0, .cells #[] e, 0, ?_, hH.new hs ?_, ⟨_, _, upd_same, rfl, by simp⟩, rfl, rfl⟩
        · simp [execOp, hop, Instr.buildSlice, underlying, hT, sizeOf_run w hsz, Instr.fill, newRow]
          congr 2
          apply Array.ext'
          simp
        · exact ⟨0, [], [], (0, 0), upd_same, .nil, by simp, by simp, .zero⟩
      · cases h
    · cases h
  · rename_i t len parts hne hop
    unfold lBuildSlice at h
    split at h
    · rename_i e hT
      split at h
      · rename_i sz z vs hsz hz hvs
        split at h
        · rename_i l h1 h2 h3 hf
          obtain ⟨hp', h4, h5⟩ := one_ok h
          cases h5
          obtain ⟨hs, rfl⟩ := newS_ok h4
          obtain ⟨zr, hzr, hzv⟩ := zeroV_ok (ρ := ρ) hz
          obtain ⟨zc, hc1, hc2⟩ := cellsV_ok hzv
          have h3 := beq_tt h3
          have hzs : zr.cells.size = sz := by rw [hc1]; simp [hc2.length, h3]
          obtain ⟨us, hvu, hpv, hpi, hrp⟩ := parts_ok hG hE hvs
          have hpos := blt_tt h2
          have hsz0 : 0 < sz := Nat.pos_of_mul_pos_left hpos
          obtain ⟨rr, h5, h6, h7⟩ := fillV_ok hf (hc2.flat len) hrp
          have hzl : (zr.cells.toList) = zc := by rw [hc1]
          have hflat := zc_flat zr (by omega) len
          rw [hzs, hzl] at hflat
          have hbase : (Array.range (len * sz)).map (zr.cells[· % zr.cells.size]!) = ((List.replicate len zc).flatten).toArray := by
            rw [hzs, ← hflat]
          have hrl : rr.length = len * sz := by
            rw [h6.length, h7]
            have := (hc2.flat len).length
            rw [← this]; simp [hc2.length, h3]
          rw [← hbase] at h5
          refine ⟨.slice (some ⟨w.heap.size, 0, none⟩) len len, .cells rr.toArray e, len, ?_, hH.new hs ?_, ⟨_, _, upd_same, rfl, by simp⟩, rfl, rfl⟩
          · have h1 : ¬ len * sz > 2 ^ 24 := by have := Nat.le_of_ble_eq_true h1; simp only [Nat.reducePow]; omega
            have h2 : ¬ len * sz = 0 := by omega
            have hp : (parts.map fun (i, x) => (i, a.eval x)).toList = (parts.toList.map (·.1)).zip us := by
              have h3 := he.evalAll hpv
              have : parts.toList.map (fun q => (q.1, a.eval q.2)) = (parts.toList.map (·.1)).zip us := by
                have hl : parts.toList.length = ((parts.toList.map (·.1)).zip us).length := by have := congrArg List.length hpi; simpa using this
                apply List.ext_getElem
                · simpa using hl
                · intro i hi1 hi2
                  have e1 := congrArg (·[i]?) h3
                  have e2 := congrArg (·[i]?) hpi
                  simp only [List.length_map, Array.length_toList] at hi1
                  have hi3 : i < us.length := by simp at hi2; omega
                  have hz : ((List.map (fun x => x.fst) parts.toList).zip us)[i]? = some (parts[i].1, us[i]) := by
                    rw [List.getElem?_eq_getElem (by simpa using hi2)]
                    simp
                  simp [hi1, hi3, hz] at e1 ⊢
                  exact e1
              simpa using this
            simp only [execOp, hop, Instr.buildSlice, Sem.run_bind, underlying, run_program, Result.andThen_ok, hT, Sem.run_pure, sizeOf_run w hsz, if_neg h1, if_neg h2, zeroValue_run w hzr, hp, h5, newRow, run_newObj]
          · exact ⟨len, rr, [], (0, 0), upd_same, h6.mono (rho_new hH _), by simp, by simpa using hrl, .zero⟩
        · cases h
      · cases h
    · cases h
  · cases h
end
end
end Go.Y
