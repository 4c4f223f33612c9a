/- PROVED: the statement LexChanges: for every source, edit and string that is put the law LexChanges answers true. Conditions: the row's own (the listed package-level variables hold what the program's text lays). -/
import Derived.Test.YtekioipmhhcbhaaDoorV7
import Derived.Test.YtekioipmhhcbhaaDoorRows
import Derived.Test.YtekioipmhhcbhaaDoorTie
import Derived.Test.YtekioipmhhcbhaaDoorCards
import Derived.ProofKit
import Derived.OpenShut
import Derived.LaidMore
import Derived.Lay
import Derived.SevenTiedAt
import Derived.Stop.Joined
import Derived.Lib.SmallJoins
import Derived.Carry
set_option linter.unusedVariables false
set_option linter.unusedSimpArgs false
namespace Go.Proofs.YtekioipmhhcbhaaDoor
open Go.ChangeShapes Go.WideShapes Go.ChangeAt Go.RowKit Go.Joins
open Go.Y (varO TrulyV calls_var law_post)
open Go.WideMaps Go.WideElems
open Go.ChangeMaps (open_string)
def spaceU : List Value := spaceL.map λ n => Value.int .u8 (.ofNat n)
theorem own : ownKnob Tryd.prog.godebug = none := by kernel_rfl
theorem laidOut : laidOutB Tryd.prog = true := by kernel_rfl
theorem space_datum : (Rows.laid_strings_asciiSpace : DataW Unit) = .agg (spaceL.map λ n => .lit (.int .u8 (.ofNat n))) := by kernel_rfl
theorem zkk : spaceL.length = 256 := by kernel_rfl
theorem space_cell {W : World} (h : laidMetH Tryd.prog Rows.lexChangesRow.laid W) : ∃ ty, W.heap[0]? = some (varO spaceU [] ty (0, 0)) := by
 rw [MakeChecks.laidMetH_plain _ _ _ (by kernel_rfl)] at h
 obtain ⟨ps, hv, _, hfr⟩ := h
 obtain ⟨g1, t1, cs1, f1, p1, q1, _, _, _, _, hv, rfl⟩ := hv
 obtain ⟨g2, t2, cs2, f2, p2, q2, _, _, _, _, hv, rfl⟩ := hv
 obtain ⟨g, t, cs, fuel, p, q, hg, ht, hvar, hd, _, rfl⟩ := hv
 obtain rfl := Option.some.inj ((show Tryd.prog.globalNamed "strings.asciiSpace" = some 0 by kernel_rfl).symm.trans hg)
 obtain rfl := Option.some.inj ((show (Tryd.prog.globals[0]?).map (·.type) = some 51 by kernel_rfl).symm.trans ht)
 obtain ⟨xs, m, _, ex, hcl, hl, hel⟩ := DataW.trod_array Tryd.underlying51 hd
 have c5 : Tryd.prog.cellsOf 5 = 1 := by kernel_rfl
 have c51 : Tryd.prog.cellsOf 51 = 256 := by kernel_rfl
 rw [c51] at hcl
 have e3 : xs.map (·.1) = spaceL.map λ n => (DataW.lit (.int .u8 (.ofNat n)) : DataW Unit) := by
  have := (Prod.mk.inj ex).1
  rw [space_datum] at this
  exact (DataW.agg.inj this).symm
 have hcs : cs.toList = spaceU := by
  refine List.ext_getElem? λ r => ?_
  rcases Nat.lt_or_ge r 256 with hr | hr
  ·have hE := hel r hr
   rw [c5, Nat.mul_one, List.getElem?_eq_getElem (by omega)] at hE
   obtain ⟨z, e1, e2, _⟩ := DataW.trod_int Tryd.underlying5 hE
   have e4 : (xs.map (·.1))[r]? = (spaceL.map λ n => (DataW.lit (.int .u8 (.ofNat n)) : DataW Unit))[r]? := by rw [e3]
   rw [List.getElem?_map, List.getElem?_map, List.getElem?_eq_getElem (by omega : r < xs.length), List.getElem?_eq_getElem (by rw [zkk]; exact hr : r < spaceL.length), e2] at e4
   have hz : z = .ofNat (spaceL[r]'(by rw [zkk]; exact hr)) := by
    simp only [Option.map_some, Option.some.injEq, DataW.lit.injEq, Lit.int.injEq, true_and] at e4
    exact e4
   have : cs.toList[r]? = some (.int .u8 z) := by
    have h0 : ((cs.toList.drop r).take 1)[0]? = some (.int .u8 z) := by rw [e1]; rfl
    simpa using h0
   rw [this, hz, spaceU, List.getElem?_map, List.getElem?_eq_getElem (by rw [zkk]; exact hr : r < spaceL.length)]
   rfl
  ·rw [List.getElem?_eq_none (by omega), List.getElem?_eq_none (by rw [spaceU, List.length_map, zkk]; exact hr)]
 have hsz : cs.size = 256 := by rw [<- Array.length_toList]; exact hcl
 obtain ⟨⟨c, ty, hb⟩, _⟩ := hfr 0 0 (by
  simp only [List.mem_append]
  refine .inr (.inr (.inl (.inl ?_)))
  unfold MemPlace.row
  exact List.mem_map.2 ⟨0, List.mem_range.2 (by rw [hsz]; omega), rfl⟩)
 refine ⟨ty, ?_⟩
 have hc : c = cs := by
  simp only [World.var?, hg, Option.bind_some, hb, Option.some.injEq] at hvar
  exact hvar
 rw [hb, hc]
 unfold varO
 rw [List.append_nil, <- hcs]
set_option maxRecDepth 100000 in
theorem lifted (os : Os) (started : os.Started) (H : Type) (enc : TypeId × Value -> H) :
  ReturnsInHanded {} Tryd.checked os 8 .any (λ w args => (Rows.lexChangesSpec.pre enc Tryd.prog Tryd.f8 Rows.lexChangesRow.domain false w args /\ laidMetH Tryd.prog Rows.lexChangesRow.laid w) /\ sizedMet enc Tryd.prog Tryd.f8 (OpenSpec.ofChange Rows.lexChangesSpec) false w args)
   (Rows.lexChangesSpec.post enc Tryd.prog Tryd.f8 false true false false) := by
 refine returnsInHanded_of_change_and (C := Tryd.checked) (X := λ w _ => laidMetH Tryd.prog Rows.lexChangesRow.laid w) (λ _ _ _ hh h => h.of_heap hh) own started (by kernel_rfl) Tryd.func8
  (ChangeSpec.witness_shaped (enc := enc) (C := Tryd.checked) (os := os) (X := λ w _ => laidMetH Tryd.prog Rows.lexChangesRow.laid w) false (World.laidAll Tryd.prog os Rows.lexChangesRow.laid) #[.string (Z.bs []), .int .i64 0, .int .i64 0, .string (Z.bs [])] 8 (World.laidAll_os _ _ _)
   (World.shaped_of_ZipB (by kernel_rfl) (by kernel_rfl)) (by kernel_rfl) (by kernel_rfl) (by kernel_rfl)
   (by rw [MakeChecks.laidMetH_plain _ _ _ (by kernel_rfl)]; exact laidMet_laidAll _ (by kernel_rfl) (by kernel_rfl))) ?_
 intro W base args ds gs before hval0 hW hc _ hL _
 have hval : ∀ (j : Nat) t v, Tryd.f8.params[j]? = some t -> args[j]? = some v -> Value.okWide Tryd.prog W .any base t v := hval0
 have hW' := hW
 obtain ⟨p, q, hA0, hV, rfl, _, _⟩ := hW
 have hA : DataW.TrodAll enc Tryd.prog W 0 (λ _ => true) true Tryd.f8.params.toList args.toList ds p := hA0
 rw [Tryd.params8] at hA hval
 obtain ⟨v0, v1, v2, v3, d0, d1, d2, d3, p0, p1, p2, p3, rfl, rfl, rfl, h0, h1, h2, h3⟩ := trodAll_four hA
 obtain ⟨x0, rfl, rfl, rfl, _⟩ := open_string Tryd.underlying9 (hval 0 9 v0 rfl rfl) h0
 obtain ⟨x1, rfl, rfl, rfl, _⟩ := open_int Tryd.underlying3 (hval 1 3 v1 rfl rfl) h1
 obtain ⟨x2, rfl, rfl, rfl, _⟩ := open_int Tryd.underlying3 (hval 2 3 v2 rfl rfl) h2
 obtain ⟨x3, rfl, rfl, rfl, _⟩ := open_string Tryd.underlying9 (hval 3 9 v3 rfl rfl) h3
 obtain ⟨ty, hcell⟩ := space_cell hL
 have fn := ch_fn x0.data.toList x1 x2 x3.data.toList [] ty
 rw [Z.bs_data, Z.bs_data] at fn
 refine (calls_var fn W hcell).mono λ e W' ⟨he, hb⟩ => ?_
 subst he
 have hgs : gs = [] := by
  cases gs with
  | nil => rfl
  | cons g r => exact absurd hV (by intro h; cases h)
 exact ⟨_, rfl, law_post (tb := 4) laidOut (by kernel_rfl) (by kernel_rfl) Tryd.underlying4 rfl hW' (by subst hgs; rfl) hb⟩
theorem row_holds : Rows.LexChangesSaid :=
 OpenClaim.holds_of_wide 8 Tryd.f8 rfl rfl rfl rfl rfl rfl rfl ⟨rfl, rfl, rfl, rfl, rfl⟩ rfl rfl rfl rfl rfl (by kernel_rfl) Tryd.func8 (by kernel_rfl)
  (of_decide_eq_true (by kernel_rfl)) (by unfold Func.isWrapper; first | (rw [if_pos (by decide +kernel)]; kernel_rfl) | (rw [if_neg (by decide +kernel)]; exact ⟨rfl, rfl⟩))
  (λ os started H enc _ => lifted os started H enc)
theorem lexChanges_holds : Rows.LexChangesCardSaid :=
 Claim7.holds_tied_plain_at .later [] [.data, .listed, .data, .pinned, .pinned] true Rows.lexChangesCard.stood.harness true row_holds (λ _ h => by cases h) (by kernel_rfl) (λ _ h => by cases h) lexChanges_row_tie rfl ⟨rfl, rfl⟩ (by kernel_rfl) rfl
  (λ f fn hf hfn => by
   obtain rfl : f = 8 := Option.some.inj ((show Tryd.prog.funcNamed "zermelo/zermelolaw06.LexChanges" = some 8 by kernel_rfl).symm.trans hf) |>.symm
   obtain rfl : fn = Tryd.f8 := (Option.some.inj (Tryd.func8.symm.trans hfn)).symm
   exact ⟨by kernel_rfl, λ j t ht => by
    rw [Tryd.params8] at ht
    have hm : t ∈ [9, 3, 3, 9] := by simpa using Array.mem_of_getElem? ht
    have hall : ([9, 3, 3, 9].all λ u => !Tryd.prog.wantsStandIn u) = true := by kernel_rfl
    exact (show Tryd.prog.wantsStandIn t = false by simpa using List.all_eq_true.1 hall t hm)⟩)
  (by kernel_rfl)
#print axioms lexChanges_holds
end Go.Proofs.YtekioipmhhcbhaaDoor
