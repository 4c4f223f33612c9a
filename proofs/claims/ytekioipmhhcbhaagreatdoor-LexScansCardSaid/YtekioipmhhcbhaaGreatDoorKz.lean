/- PROVED: the statement LexScans: for every string the law LexScans answers true. Conditions: the row's own (the listed package-level variables hold what the program's text lays). -/
import Derived.Test.YtekioipmhhcbhaaGreatDoorV6
import Derived.Test.YtekioipmhhcbhaaGreatDoorRows
import Derived.Test.YtekioipmhhcbhaaGreatDoorTie
import Derived.Test.YtekioipmhhcbhaaGreatDoorCards
import Derived.ProofKit
import Derived.OpenShut
import Derived.LaidMore
import Derived.Lay
import Derived.SevenTiedAt
import Derived.Stop.Joined
import Derived.Lib.SmallJoins
import Derived.Carry
set_option linter.unusedVariables false
set_option linter.unusedSimpArgs false
namespace Go.Proofs.YtekioipmhhcbhaaGreatDoor
open Go.ChangeShapes Go.WideShapes Go.ChangeAt Go.RowKit Go.Joins
open Go.Y (varO TrulyV calls_var law_post)
open Go.WideMaps Go.WideElems
open Go.ChangeMaps (open_string)
def spaceU : List Value := spaceL.map fun n => Value.int .u8 (.ofNat n)
theorem own : ownKnob Tryz.prog.godebug = none := by kernel_rfl
theorem laidOut : laidOutB Tryz.prog = true := by kernel_rfl
theorem space_datum : (Rows.laid_strings_asciiSpace : DataW Unit) = .agg (spaceL.map fun n => .lit (.int .u8 (.ofNat n))) := by kernel_rfl
theorem zkn : spaceL.length = 256 := by kernel_rfl
theorem space_cell {W : World} (h : laidMetH Tryz.prog Rows.lexScansRow.laid W) : ∃ ty, W.heap[0]? = some (varO spaceU [] ty (0, 0)) := by
  rw [MakeChecks.laidMetH_plain _ _ _ (by kernel_rfl)] at h
  obtain ⟨ps, hv, _, hfr⟩ := h
  obtain ⟨g1, t1, cs1, f1, p1, q1, _, _, _, _, hv, rfl⟩ := hv
  obtain ⟨g2, t2, cs2, f2, p2, q2, _, _, _, _, hv, rfl⟩ := hv
  obtain ⟨g, t, cs, fuel, p, q, hg, ht, hvar, hd, _, rfl⟩ := hv
  obtain rfl := Option.some.inj ((show Tryz.prog.globalNamed "strings.asciiSpace" = some 0 by kernel_rfl).symm.trans hg)
  obtain rfl := Option.some.inj ((show (Tryz.prog.globals[0]?).map (·.type) = some 51 by kernel_rfl).symm.trans ht)
  obtain ⟨xs, m, _, ex, hcl, hl, hel⟩ := DataW.trod_array Tryz.underlying51 hd
  have c5 : Tryz.prog.cellsOf 5 = 1 := by kernel_rfl
  have c51 : Tryz.prog.cellsOf 51 = 256 := by kernel_rfl
  rw [c51] at hcl
  have e3 : xs.map (·.1) = spaceL.map fun n => (DataW.lit (.int .u8 (.ofNat n)) : DataW Unit) := by
    have := (Prod.mk.inj ex).1
    rw [space_datum] at this
    exact (DataW.agg.inj this).symm
  have hcs : cs.toList = spaceU := by
    refine List.ext_getElem? fun r => ?_
    rcases Nat.lt_or_ge r 256 with hr | hr
    · have hE := hel r hr
      rw [c5, Nat.mul_one, List.getElem?_eq_getElem (by omega)] at hE
      obtain ⟨z, e1, e2, _⟩ := DataW.trod_int Tryz.underlying5 hE
      have e4 : (xs.map (·.1))[r]? = (spaceL.map fun n => (DataW.lit (.int .u8 (.ofNat n)) : DataW Unit))[r]? := by rw [e3]
      rw [List.getElem?_map, List.getElem?_map, List.getElem?_eq_getElem (by omega : r < xs.length), List.getElem?_eq_getElem (by rw [zkn]; exact hr : r < spaceL.length), e2] at e4
      have hz : z = .ofNat (spaceL[r]'(by rw [zkn]; exact hr)) := by
        simp only [Option.map_some, Option.some.injEq, DataW.lit.injEq, Lit.int.injEq, true_and] at e4
        exact e4
      have : cs.toList[r]? = some (.int .u8 z) := by
        have h0 : ((cs.toList.drop r).take 1)[0]? = some (.int .u8 z) := by rw [e1]; rfl
        simpa using h0
      rw [this, hz, spaceU, List.getElem?_map, List.getElem?_eq_getElem (by rw [zkn]; exact hr : r < spaceL.length)]
      rfl
    · rw [List.getElem?_eq_none (by omega), List.getElem?_eq_none (by rw [spaceU, List.length_map, zkn]; exact hr)]
  have hsz : cs.size = 256 := by rw [← Array.length_toList]; exact hcl
  obtain ⟨⟨c, ty, hb⟩, _⟩ := hfr 0 0 (by
    simp only [List.mem_append]
    refine .inr (.inr (.inl (.inl ?_)))
    unfold MemPlace.row
    exact List.mem_map.2 ⟨0, List.mem_range.2 (by rw [hsz]; omega), rfl⟩)
  refine ⟨ty, ?_⟩
  have hc : c = cs := by
    simp only [World.var?, hg, Option.bind_some, hb, Option.some.injEq] at hvar
    exact hvar
  rw [hb, hc]
  unfold varO
  rw [List.append_nil, ← hcs]
set_option maxRecDepth 100000 in
theorem lifted (os : Os) (started : os.Started) (H : Type) (enc : TypeId × Value → H) :
    ReturnsInHanded {} Tryz.checked os 3 .any (fun w args => (Rows.lexScansSpec.pre enc Tryz.prog Tryz.f3 Rows.lexScansRow.domain false w args ∧ laidMetH Tryz.prog Rows.lexScansRow.laid w) ∧ sizedMet enc Tryz.prog Tryz.f3 (OpenSpec.ofChange Rows.lexScansSpec) false w args)
      (Rows.lexScansSpec.post enc Tryz.prog Tryz.f3 false true false false) := by
  refine returnsInHanded_of_change_and (C := Tryz.checked) (X := fun w _ => laidMetH Tryz.prog Rows.lexScansRow.laid w) (fun _ _ _ hh h => h.of_heap hh) own started (by kernel_rfl) Tryz.func3
    (ChangeSpec.witness_shaped (enc := enc) (C := Tryz.checked) (os := os) (X := fun w _ => laidMetH Tryz.prog Rows.lexScansRow.laid w) false (World.laidAll Tryz.prog os Rows.lexScansRow.laid) #[.string (Z.bs [])] 8 (World.laidAll_os _ _ _)
      (World.shaped_of_ZipB (by kernel_rfl) (by kernel_rfl)) (by kernel_rfl) (by kernel_rfl) (by kernel_rfl)
      (by rw [MakeChecks.laidMetH_plain _ _ _ (by kernel_rfl)]; exact laidMet_laidAll _ (by kernel_rfl) (by kernel_rfl))) ?_
  intro W base args ds gs before hval0 hW hc _ hL _
  have hval : ∀ (j : Nat) t v, Tryz.f3.params[j]? = some t → args[j]? = some v → Value.okWide Tryz.prog W .any base t v := hval0
  have hW' := hW
  obtain ⟨p, q, hA0, hV, rfl, _, _⟩ := hW
  have hA : DataW.TrodAll enc Tryz.prog W 0 (fun _ => true) true Tryz.f3.params.toList args.toList ds p := hA0
  rw [Tryz.params3] at hA hval
  obtain ⟨v0, d0, rfl, rfl, h0⟩ := trodAll_one hA
  obtain ⟨x0, rfl, rfl, rfl, _⟩ := open_string Tryz.underlying9 (hval 0 9 v0 rfl rfl) h0
  obtain ⟨ty, hcell⟩ := space_cell hL
  have fn := scans_fn x0.data.toList [] ty
  rw [Z.bs_data] at fn
  refine (calls_var fn W hcell).mono fun e W' ⟨he, hb⟩ => ?_
  subst he
  have hgs : gs = [] := by
    cases gs with
    | nil => rfl
    | cons g r => exact absurd hV (by intro h; cases h)
  exact ⟨_, rfl, law_post (tb := 4) laidOut (by kernel_rfl) (by kernel_rfl) Tryz.underlying4 rfl hW' (by subst hgs; rfl) hb⟩
theorem row_holds : Rows.LexScansSaid :=
  OpenClaim.holds_of_wide 3 Tryz.f3 rfl rfl rfl rfl rfl rfl rfl ⟨rfl, rfl, rfl, rfl, rfl⟩ rfl rfl rfl rfl rfl (by kernel_rfl) Tryz.func3 (by kernel_rfl)
    (of_decide_eq_true (by kernel_rfl)) (by unfold Func.isWrapper; first | (rw [if_pos (by decide +kernel)]; kernel_rfl) | (rw [if_neg (by decide +kernel)]; exact ⟨rfl, rfl⟩))
    (fun os started H enc _ => lifted os started H enc)
theorem lexScans_holds : Rows.LexScansCardSaid :=
  Claim7.holds_tied_plain_at .later [] [.data, .listed, .data, .pinned, .pinned] true Rows.lexScansCard.stood.harness true row_holds (fun _ h => by cases h) (by kernel_rfl) (fun _ h => by cases h) lexScans_row_tie rfl ⟨rfl, rfl⟩ (by kernel_rfl) rfl
    (fun f fn hf hfn => by
      obtain rfl : f = 3 := Option.some.inj ((show Tryz.prog.funcNamed "zermelo/zermelolaw06.LexScans" = some 3 by kernel_rfl).symm.trans hf) |>.symm
      obtain rfl : fn = Tryz.f3 := (Option.some.inj (Tryz.func3.symm.trans hfn)).symm
      exact ⟨by kernel_rfl, fun j t ht => by
        rw [Tryz.params3] at ht
        have hm : t ∈ [9] := by simpa using Array.mem_of_getElem? ht
        have hall : ([9].all fun u => !Tryz.prog.wantsStandIn u) = true := by kernel_rfl
        exact (show Tryz.prog.wantsStandIn t = false by simpa using List.all_eq_true.1 hall t hm)⟩)
    (by kernel_rfl)
#print axioms lexScans_holds
end Go.Proofs.YtekioipmhhcbhaaGreatDoor
