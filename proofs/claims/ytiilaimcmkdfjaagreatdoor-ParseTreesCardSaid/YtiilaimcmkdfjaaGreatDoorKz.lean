/- PROVED: the statement ParseTrees: for every two trees and path the law ParseTrees answers true. Conditions: the row's own (the listed package-level variables hold what the program's text lays). -/
import Derived.Test.YtiilaimcmkdfjaaGreatDoorC7
import Derived.Test.YtiilaimcmkdfjaaGreatDoorC5
import Derived.Test.YtiilaimcmkdfjaaGreatDoorK1
import Derived.Test.YtiilaimcmkdfjaaGreatDoorK2
import Derived.Test.YtiilaimcmkdfjaaGreatDoorK3
import Derived.JoinedOf
import Derived.Test.YtiilaimcmkdfjaaGreatDoorRows
import Derived.Test.YtiilaimcmkdfjaaGreatDoorTie
import Derived.Test.YtiilaimcmkdfjaaGreatDoorCards
import Derived.ProofKit
import Derived.OpenShut
import Derived.LaidMore
import Derived.Lay
import Derived.Carry
import Derived.SevenTiedAt
import Derived.Stop.Joined
import Derived.Lib.SmallJoins
set_option linter.unusedVariables false
set_option linter.unusedSimpArgs false
set_option maxHeartbeats 4000000
namespace Go.Proofs.YtiilaimcmkdfjaaGreatDoor
open Go.ChangeShapes Go.WideShapes Go.ChangeAt Go.RowKit Go.Joins
open Go.Y (varO law_post RL norhoX RX_R)
open Go.Q (calls_varX extG inExt_G arg_slice)
open Go.WideMaps Go.WideElems
def spaceU : List Value := spaceL.map λ n => Value.int .u8 (.ofNat n)
theorem ints_rel {ρ : Go.Y.Rho} : ∀ l : List Nat, RL ρ (ints l) (l.map λ n => Value.int .u8 (.ofNat n))
 | [] => .nil
 | n :: l => .cons rfl (ints_rel l)
theorem own : ownKnob Tryz.prog.godebug = none := by kernel_rfl
theorem laidOut : laidOutB Tryz.prog = true := j5
theorem space_datum : (Rows.laid_strings_asciiSpace : DataW Unit) = .agg (spaceL.map λ n => .lit (.int .u8 (.ofNat n))) := by kernel_rfl
theorem zjU : spaceL.length = 256 := by kernel_rfl
theorem space_cell {W : World} (h : laidMetH Tryz.prog Rows.parseTreesRow.laid W) : ∃ ty, W.heap[0]? = some (varO spaceU [] ty (0, 0)) := by
 rw [MakeChecks.laidMetH_plain _ _ _ (by kernel_rfl)] at h
 obtain ⟨ps, hv, _, hfr⟩ := h
 obtain ⟨g1, t1, cs1, f1, p1, q1, _, _, _, _, hv, rfl⟩ := hv
 obtain ⟨g2, t2, cs2, f2, p2, q2, _, _, _, _, hv, rfl⟩ := hv
 obtain ⟨g3, t3, cs3, f3, p3, q3, _, _, _, _, hv, rfl⟩ := hv
 obtain ⟨g4, t4, cs4, f4, p4, q4, _, _, _, _, hv, rfl⟩ := hv
 obtain ⟨g5, t5, cs5, f5, p5, q5, _, _, _, _, hv, rfl⟩ := hv
 obtain ⟨g6, t6, cs6, f6, p6, q6, _, _, _, _, hv, rfl⟩ := hv
 obtain ⟨g7, t7, cs7, f7, p7, q7, _, _, _, _, hv, rfl⟩ := hv
 obtain ⟨g, t, cs, fuel, p, q, hg, ht, hvar, hd, _, rfl⟩ := hv
 obtain rfl := Option.some.inj ((show Tryz.prog.globalNamed "strings.asciiSpace" = some 0 by kernel_rfl).symm.trans hg)
 obtain rfl := Option.some.inj ((show (Tryz.prog.globals[0]?).map (·.type) = some 183 by kernel_rfl).symm.trans ht)
 obtain ⟨xs, m, _, ex, hcl, hl, hel⟩ := DataW.trod_array Tryz.underlying183 hd
 have c5 : Tryz.prog.cellsOf 5 = 1 := by kernel_rfl
 have cA : Tryz.prog.cellsOf 183 = 256 := by kernel_rfl
 rw [cA] at hcl
 have e3 : xs.map (·.1) = spaceL.map λ n => (DataW.lit (.int .u8 (.ofNat n)) : DataW Unit) := by
  have := (Prod.mk.inj ex).1
  rw [space_datum] at this
  exact (DataW.agg.inj this).symm
 have hcs : cs.toList = spaceU := by
  refine List.ext_getElem? λ r => ?_
  rcases Nat.lt_or_ge r 256 with hr | hr
  ·have hE := hel r hr
   rw [c5, Nat.mul_one, List.getElem?_eq_getElem (by omega)] at hE
   obtain ⟨z, e1, e2, _⟩ := DataW.trod_int Tryz.underlying5 hE
   have e4 : (xs.map (·.1))[r]? = (spaceL.map λ n => (DataW.lit (.int .u8 (.ofNat n)) : DataW Unit))[r]? := by rw [e3]
   rw [List.getElem?_map, List.getElem?_map, List.getElem?_eq_getElem (by omega : r < xs.length), List.getElem?_eq_getElem (by rw [zjU]; exact hr : r < spaceL.length), e2] at e4
   have hz : z = .ofNat (spaceL[r]'(by rw [zjU]; exact hr)) := by
    simp only [Option.map_some, Option.some.injEq, DataW.lit.injEq, Lit.int.injEq, true_and] at e4
    exact e4
   have : cs.toList[r]? = some (.int .u8 z) := by
    have h0 : ((cs.toList.drop r).take 1)[0]? = some (.int .u8 z) := by rw [e1]; rfl
    simpa using h0
   rw [this, hz, spaceU, List.getElem?_map, List.getElem?_eq_getElem (by rw [zjU]; exact hr : r < spaceL.length)]
   rfl
  ·rw [List.getElem?_eq_none (by omega), List.getElem?_eq_none (by rw [spaceU, List.length_map, zjU]; exact hr)]
 have hsz : cs.size = 256 := by rw [<- Array.length_toList]; exact hcl
 obtain ⟨⟨c, ty, hb⟩, _⟩ := hfr 0 0 (by
  simp only [List.mem_append]
  refine .inr (.inr (.inr (.inr (.inr (.inr (.inr (.inl (.inl ?_))))))))
  unfold MemPlace.row
  exact List.mem_map.2 ⟨0, List.mem_range.2 (by rw [hsz]; omega), rfl⟩)
 refine ⟨ty, ?_⟩
 have hc : c = cs := by
  simp only [World.var?, hg, Option.bind_some, hb, Option.some.injEq] at hvar
  exact hvar
 rw [hb, hc]
 unfold varO
 rw [List.append_nil, <- hcs]
set_option maxRecDepth 100000 in
theorem lifted (os : Os) (started : os.Started) (H : Type) (enc : TypeId × Value -> H) :
  ReturnsInHanded {} Tryz.checked os 4 .any (λ w args => (Rows.parseTreesSpec.pre enc Tryz.prog Tryz.f4 Rows.parseTreesRow.domain false w args /\ laidMetH Tryz.prog Rows.parseTreesRow.laid w) /\ sizedMet enc Tryz.prog Tryz.f4 (OpenSpec.ofChange Rows.parseTreesSpec) false w args)
   (Rows.parseTreesSpec.post enc Tryz.prog Tryz.f4 false true false false) := by
 refine returnsInHanded_of_change_and (C := Tryz.checked) (X := λ w _ => laidMetH Tryz.prog Rows.parseTreesRow.laid w) (λ _ _ _ hh h => h.of_heap hh) own started (by kernel_rfl) Tryz.func4
  (ChangeSpec.witness_shaped (enc := enc) (C := Tryz.checked) (os := os) (X := λ w _ => laidMetH Tryz.prog Rows.parseTreesRow.laid w) false (World.laidAll Tryz.prog os Rows.parseTreesRow.laid) #[.agg #[.int .i64 0, .string (Z.bs []), .int .i64 0, .int .i64 0, .slice none 0 0], .agg #[.int .i64 0, .string (Z.bs []), .int .i64 0, .int .i64 0, .slice none 0 0], .slice none 0 0] 8 (World.laidAll_os _ _ _)
   (World.shaped_of_ZipB (by kernel_rfl) (by kernel_rfl)) (by kernel_rfl) (by kernel_rfl) (by kernel_rfl)
   (by rw [MakeChecks.laidMetH_plain _ _ _ (by kernel_rfl)]; exact laidMet_laidAll _ (by kernel_rfl) (by kernel_rfl))) ?_
 intro W base args ds gs before hval0 hW hc _ hL _
 have hval : ∀ (j : Nat) t v, Tryz.f4.params[j]? = some t -> args[j]? = some v -> Value.okWide Tryz.prog W .any base t v := hval0
 have hW' := hW
 obtain ⟨p, q, hA0, hV, rfl, _, _⟩ := hW
 have hA : DataW.TrodAll enc Tryz.prog W 0 (λ _ => true) true Tryz.f4.params.toList args.toList ds p := hA0
 rw [Tryz.params4] at hA hval
 obtain ⟨v0, v1, v2, d0, d1, d2, p0, p1, p2, rfl, rfl, rfl, h0, h1, h2⟩ := trodAll_three hA
 obtain ⟨ty, hcell⟩ := space_cell hL
 have hx : Go.Q.InExt (extG W 0) W false := inExt_G λ cs ty' fr hh i v hi => by
  rw [hcell] at hh
  cases hh
  have hi' : (spaceU ++ [])[i]? = some v := by simpa using hi
  rw [List.append_nil, spaceU, List.getElem?_map] at hi'
  obtain ⟨n, _, rfl⟩ := Option.map_eq_some_iff.1 hi'
  exact ⟨_, rfl⟩
 obtain ⟨n, r0⟩ := arg_nd hx (tI := 3) (tS := 9) (tL := 22) Tryz.underlying24 Tryz.underlying22 Tryz.underlying3 Tryz.underlying9 (by kernel_rfl) (by kernel_rfl) (by kernel_rfl) (by kernel_rfl) ⟨rfl, rfl⟩ ⟨rfl, rfl⟩ ⟨rfl, rfl⟩ ⟨rfl, rfl⟩ ⟨rfl, rfl⟩ (hval 0 24 v0 rfl rfl) h0
 obtain ⟨x, r1⟩ := arg_nd hx (tI := 3) (tS := 9) (tL := 22) Tryz.underlying24 Tryz.underlying22 Tryz.underlying3 Tryz.underlying9 (by kernel_rfl) (by kernel_rfl) (by kernel_rfl) (by kernel_rfl) ⟨rfl, rfl⟩ ⟨rfl, rfl⟩ ⟨rfl, rfl⟩ ⟨rfl, rfl⟩ ⟨rfl, rfl⟩ (hval 1 24 v1 rfl rfl) h1
 obtain ⟨P, r2, _, _⟩ := arg_slice hx Tryz.underlying25 (hval 2 25 v2 rfl rfl) h2 (m := 5) (sh := [.int .i64]) (by kernel_rfl)
 have fn := Go.Q.var_fnX (X := extG W 0) (g := 0) rfl rfl (trees_run n x P) (ints_rel spaceL) (by rw [w_eta, w_eta]; exact .cons (r0 (norhoX (extG W 0)) rfl) (.cons (r1 (norhoX (extG W 0)) rfl) (.cons (RX_R (ρ := norhoX (extG W 0)) r2) .nil))) [] ty
 refine (calls_varX W hcell fn).mono λ e W' ⟨he, hb⟩ => ?_
 subst he
 have hgs : gs = [] := by
  cases gs with
  | nil => rfl
  | cons g r => exact absurd hV (by intro h; cases h)
 exact ⟨_, rfl, law_post (tb := 4) laidOut (by kernel_rfl) (by kernel_rfl) Tryz.underlying4 rfl hW' (by subst hgs; rfl) hb⟩
theorem facts : joinedFacts Tryz.prog 4 Tryz.f4 Rows.parseTreesSpec Rows.parseTreesRow = true := by
 unfold joinedFacts
 repeat' (with_reducible refine Bool.and_eq_true_iff.mpr ⟨?_, ?_⟩)
 all_goals first | with_reducible exact j1 | with_reducible exact j2 | with_reducible exact j3 | with_reducible exact j4 | with_reducible exact j5 | with_reducible exact j6 | (as_aux_lemma => kernel_rfl)
theorem row_holds : Rows.ParseTreesSaid :=
 OpenClaim.holds_of_wide 4 Tryz.f4 rfl rfl rfl rfl rfl rfl rfl ⟨rfl, rfl, rfl, rfl, rfl⟩ rfl rfl rfl rfl rfl (by as_aux_lemma => kernel_rfl) Tryz.func4 facts
  (of_decide_eq_true (by as_aux_lemma => kernel_rfl)) (by unfold Func.isWrapper; first | (rw [if_pos (by decide +kernel)]; kernel_rfl) | (rw [if_neg (by decide +kernel)]; exact ⟨rfl, rfl⟩))
  (λ os started H enc _ => lifted os started H enc)
theorem parseTrees_holds : Rows.ParseTreesCardSaid :=
 Claim7.holds_tied_plain_at .later [] [.data, .data, .data, .data, .sentinel, .sentinel, .listed, .data, .pinned, .pinned] true Rows.parseTreesCard.stood.harness true row_holds (λ _ h => by cases h) (by as_aux_lemma => kernel_rfl) (λ _ h => by cases h) parseTrees_row_tie rfl ⟨rfl, rfl⟩ (by as_aux_lemma => kernel_rfl) rfl
  (λ f fn hf hfn => by
   obtain rfl : f = 4 := Option.some.inj ((show Tryz.prog.funcNamed "zermelo/zermelolaw08.ParseTrees" = some 4 by as_aux_lemma => kernel_rfl).symm.trans hf) |>.symm
   obtain rfl : fn = Tryz.f4 := (Option.some.inj (Tryz.func4.symm.trans hfn)).symm
   exact ⟨by as_aux_lemma => kernel_rfl, λ j t ht => by
    rw [Tryz.params4] at ht
    have hm : t ∈ [24, 24, 25] := by simpa using Array.mem_of_getElem? ht
    have hall : ([24, 24, 25].all λ u => !Tryz.prog.wantsStandIn u) = true := by as_aux_lemma => kernel_rfl
    exact (show Tryz.prog.wantsStandIn t = false by simpa using List.all_eq_true.1 hall t hm)⟩)
  j9
#print axioms parseTrees_holds
end Go.Proofs.YtiilaimcmkdfjaaGreatDoor
