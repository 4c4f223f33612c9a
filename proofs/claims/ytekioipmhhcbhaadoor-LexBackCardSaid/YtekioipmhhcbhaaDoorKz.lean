/- the statement LexBack: for every two strings the law LexBack answers true -/
import Derived.Test.YtekioipmhhcbhaaDoorVc
import Derived.Test.YtekioipmhhcbhaaDoorM9
import Derived.Test.YtekioipmhhcbhaaDoorKk
import Derived.HandedShaped
import Derived.Shelf.Vars
import Derived.Test.YtekioipmhhcbhaaDoorRows
import Derived.Test.YtekioipmhhcbhaaDoorTie
import Derived.Test.YtekioipmhhcbhaaDoorCards
import Derived.ProofKit
import Derived.OpenShut
import Derived.LaidMore
import Derived.Lay
import Derived.SevenTiedAt
import Derived.Stop.Joined
import Derived.Lib.SmallJoins
import Derived.Carry
set_option linter.unusedVariables false
set_option linter.unusedSimpArgs false
namespace Go.Proofs.YtekioipmhhcbhaaDoor
open Go.ChangeShapes Go.WideShapes Go.ChangeAt Go.RowKit Go.Joins
open Go.Y (varO law_post)
open Go.Q (zyx extG)
open Go.WideMaps Go.WideElems
open Go.ChangeMaps (open_string)
def spaceU : List Value := spaceL.map λ n => Value.int .u8 (.ofNat n)
theorem own : ownKnob Tryd.prog.godebug = none := by kernel_rfl
theorem laidOut : laidOutB Tryd.prog = true := by kernel_rfl
theorem space_datum : (Rows.laid_strings_asciiSpace : DataW Unit) = .agg (spaceL.map λ n => .lit (.int .u8 (.ofNat n))) := by kernel_rfl
theorem zkD : spaceL.length = 256 := by kernel_rfl
theorem space_cell {W : World} (h : laidMetH Tryd.prog Rows.lexBackRow.laid W) : ∃ ty, W.heap[0]? = some (varO spaceU [] ty (0, 0)) := by
 rw [MakeChecks.laidMetH_plain _ _ _ (by kernel_rfl)] at h
 obtain ⟨ps, hv, _, hfr⟩ := h
 obtain ⟨g1, t1, cs1, f1, p1, q1, _, _, _, _, hv, rfl⟩ := hv
 obtain ⟨g2, t2, cs2, f2, p2, q2, _, _, _, _, hv, rfl⟩ := hv
 obtain ⟨g, t, cs, fuel, p, q, hg, ht, hvar, hd, _, rfl⟩ := hv
 obtain rfl := Option.some.inj ((show Tryd.prog.globalNamed "strings.asciiSpace" = some 0 by kernel_rfl).symm.trans hg)
 obtain rfl := Option.some.inj ((show (Tryd.prog.globals[0]?).map (·.type) = some 51 by kernel_rfl).symm.trans ht)
 obtain ⟨xs, m, _, ex, hcl, hl, hel⟩ := DataW.trod_array Tryd.underlying51 hd
 have c5 : Tryd.prog.cellsOf 5 = 1 := by kernel_rfl
 have c51 : Tryd.prog.cellsOf 51 = 256 := by kernel_rfl
 rw [c51] at hcl
 have e3 : xs.map (·.1) = spaceL.map λ n => (DataW.lit (.int .u8 (.ofNat n)) : DataW Unit) := by
  have := (Prod.mk.inj ex).1
  rw [space_datum] at this
  exact (DataW.agg.inj this).symm
 have hcs : cs.toList = spaceU := by
  refine List.ext_getElem? λ r => ?_
  rcases Nat.lt_or_ge r 256 with hr | hr
  ·have hE := hel r hr
   rw [c5, Nat.mul_one, List.getElem?_eq_getElem (by omega)] at hE
   obtain ⟨z, e1, e2, _⟩ := DataW.trod_int Tryd.underlying5 hE
   have e4 : (xs.map (·.1))[r]? = (spaceL.map λ n => (DataW.lit (.int .u8 (.ofNat n)) : DataW Unit))[r]? := by rw [e3]
   rw [List.getElem?_map, List.getElem?_map, List.getElem?_eq_getElem (by omega : r < xs.length), List.getElem?_eq_getElem (by rw [zkD]; exact hr : r < spaceL.length), e2] at e4
   have hz : z = .ofNat (spaceL[r]'(by rw [zkD]; exact hr)) := by
    simp only [Option.map_some, Option.some.injEq, DataW.lit.injEq, Lit.int.injEq, true_and] at e4
    exact e4
   have : cs.toList[r]? = some (.int .u8 z) := by
    have h0 : ((cs.toList.drop r).take 1)[0]? = some (.int .u8 z) := by rw [e1]; rfl
    simpa using h0
   rw [this, hz, spaceU, List.getElem?_map, List.getElem?_eq_getElem (by rw [zkD]; exact hr : r < spaceL.length)]
   rfl
  ·rw [List.getElem?_eq_none (by omega), List.getElem?_eq_none (by rw [spaceU, List.length_map, zkD]; exact hr)]
 have hsz : cs.size = 256 := by rw [<- Array.length_toList]; exact hcl
 obtain ⟨⟨c, ty, hb⟩, _⟩ := hfr 0 0 (by
  simp only [List.mem_append]
  refine .inr (.inr (.inl (.inl ?_)))
  unfold MemPlace.row
  exact List.mem_map.2 ⟨0, List.mem_range.2 (by rw [hsz]; omega), rfl⟩)
 refine ⟨ty, ?_⟩
 have hc : c = cs := by
  simp only [World.var?, hg, Option.bind_some, hb, Option.some.injEq] at hvar
  exact hvar
 rw [hb, hc]
 unfold varO
 rw [List.append_nil, <- hcs]
theorem zvB {H : Type} {enc : TypeId × Value -> H} {a : Assume} {C : Checked} {os : Os} {f : FuncId} {fn : Func} {s : ChangeSpec} {conds : List PathCond} {apart fresh handsOn again : Bool} {X : World -> Array Value -> Prop}
  (hX : ∀ (w w' : World) (args : Array Value), w.heap = w'.heap -> X w args -> X w' args) (own : ownKnob C.prog.godebug = none) (started : os.Started) (noInit : C.prog.inits.idxOf? f = none) (hfn : C.prog.funcs[f]? = some fn)
  (witness : ∃ (w : World) (tape : Tape) (i : Input), w.os = os /\ (w.forCall tape i).Shaped C.prog /\ i.vars = [] /\ Input.okWide C.prog (w.forCall tape i) .any w.heap.size f i /\
   ((s.pre enc C.prog fn conds apart (w.forCall tape i).memory i.args /\ X (w.forCall tape i).memory i.args) /\ sizedMet enc C.prog fn (OpenSpec.ofChange s) apart (w.forCall tape i).memory i.args) /\ a.holds C.prog (lone (Frame.enter C.prog f i.args .normal) [] (w.forCall tape i)))
  (contract : ∀ (W : World) (base : Nat) (args : Array Value) (ds gs : List (DataW H)) (before : List MemPlace), (∀ (j : Nat) t v, fn.params[j]? = some t -> args[j]? = some v -> Value.okWide C.prog W .any base t v) ->
   DataW.Whole enc C.prog fn.params.toList s.vars apart W args.toList ds gs before -> X W args -> W.ShapedOpen C.prog -> Calls C.prog f args W λ e W' => ∃ v, e = .returned v /\ s.post enc C.prog fn apart fresh handsOn again W args v W') :
  ReturnsInHanded a C os f .any (λ w args => (s.pre enc C.prog fn conds apart w args /\ X w args) /\ sizedMet enc C.prog fn (OpenSpec.ofChange s) apart w args) (s.post enc C.prog fn apart fresh handsOn again) := by
 refine returnsInHanded_of_calls own started noInit witness ?_
 intro w tape i _ hsh _ hok hpre hholds
 obtain ⟨_, _, _, fn', hfn', _, _, _, _, hval⟩ := hok
 obtain rfl : fn' = fn := Option.some.inj (hfn'.symm.trans hfn)
 obtain ⟨⟨⟨ds, gs, before, hw, hc⟩, hx⟩, hz⟩ := hpre
 refine (contract (w.forCall tape i) w.heap.size i.args ds gs before hval (DataW.Whole.of_heap (w' := w.forCall tape i) (by rfl) hw) (hX _ _ _ (by rfl) hx) hsh).mono λ e W' ⟨v, he, hp⟩ => ?_
 subst he
 exact ChangeSpec.post_blind hp
set_option maxRecDepth 100000 in
theorem lifted (os : Os) (started : os.Started) (H : Type) (enc : TypeId × Value -> H) :
  ReturnsInHanded {} Tryd.checked os 7 .any (λ w args => (Rows.lexBackSpec.pre enc Tryd.prog Tryd.f7 Rows.lexBackRow.domain false w args /\ laidMetH Tryd.prog Rows.lexBackRow.laid w) /\ sizedMet enc Tryd.prog Tryd.f7 (OpenSpec.ofChange Rows.lexBackSpec) false w args)
   (Rows.lexBackSpec.post enc Tryd.prog Tryd.f7 false true false false) := by
 refine zvB (C := Tryd.checked) (X := λ w _ => laidMetH Tryd.prog Rows.lexBackRow.laid w) (λ _ _ _ hh h => h.of_heap hh) own started (by kernel_rfl) Tryd.func7
  (ChangeSpec.witness_shaped (enc := enc) (C := Tryd.checked) (os := os) (X := λ w _ => laidMetH Tryd.prog Rows.lexBackRow.laid w) false (World.laidAll Tryd.prog os Rows.lexBackRow.laid) #[.string (Z.bs []), .string (Z.bs [])] 8 (World.laidAll_os _ _ _)
   (World.shaped_of_ZipB (by kernel_rfl) (by kernel_rfl)) (by kernel_rfl) (by kernel_rfl) (by kernel_rfl)
   (by rw [MakeChecks.laidMetH_plain _ _ _ (by kernel_rfl)]; exact laidMet_laidAll _ (by kernel_rfl) (by kernel_rfl))) ?_
 intro W base args ds gs before hval0 hW hL hsh
 have hval : ∀ (j : Nat) t v, Tryd.f7.params[j]? = some t -> args[j]? = some v -> Value.okWide Tryd.prog W .any base t v := hval0
 have hW' := hW
 obtain ⟨p, q, hA0, hV, rfl, _, _⟩ := hW
 have hA : DataW.TrodAll enc Tryd.prog W 0 (λ _ => true) true Tryd.f7.params.toList args.toList ds p := hA0
 rw [Tryd.params7] at hA hval
 obtain ⟨v0, v1, d0, d1, p0, p1, rfl, rfl, rfl, h0, h1⟩ := trodAll_two hA
 obtain ⟨x0, rfl, rfl, rfl, _⟩ := open_string Tryd.underlying9 (hval 0 9 v0 rfl rfl) h0
 obtain ⟨x1, rfl, rfl, rfl, _⟩ := open_string Tryd.underlying9 (hval 1 9 v1 rfl rfl) h1
 obtain ⟨ty, hcell⟩ := space_cell hL
 have hm : @MaxOk (extG W 0) := by
  obtain ⟨m, hm⟩ := Go.Proofs.cell_of_shapedOpen_int (g := 1) (zero := #[.int .i64 0]) (t := 3) hsh (of_decide_eq_true (by kernel_rfl)) (by kernel_rfl) rfl (by kernel_rfl) (by kernel_rfl) Tryd.underlying3
  unfold World.cell? at hm
  dsimp only at hm
  split at hm
  ·rename_i c ty fr hc
   exact ⟨c, ty, fr, m, hc, by simpa using hm⟩
  ·cases hm
 have fn := @Go.Q.var_fnX (extG W 0) Tryd.prog _ 0 _ _ _ (by rfl) rfl _ [.sstr (x0.data.toList), .sstr (x1.data.toList)] _ [.string (Z.bs (x0.data.toList)), .string (Z.bs (x1.data.toList))] (λ ty => @back_run (extG W 0) hm x0.data.toList x1.data.toList ty) (@space_rel (extG W 0)) (by refine ⟨_, _, rfl, ⟨_, _, rfl, rfl, rfl⟩, rfl⟩) [] ty
 rw [Z.bs_data, Z.bs_data] at fn
 refine (zyx W hcell fn).mono λ e W' ⟨he, hb⟩ => ?_
 subst he
 have hgs : gs = [] := by
  cases gs with
  | nil => rfl
  | cons g r => exact absurd hV (by intro h; cases h)
 exact ⟨_, rfl, law_post (tb := 4) laidOut (by kernel_rfl) (by kernel_rfl) Tryd.underlying4 rfl hW' (by subst hgs; rfl) hb⟩
theorem row_holds : Rows.LexBackSaid :=
 OpenClaim.holds_of_wide 7 Tryd.f7 rfl rfl rfl rfl rfl rfl rfl ⟨rfl, rfl, rfl, rfl, rfl⟩ rfl rfl rfl rfl rfl (by kernel_rfl) Tryd.func7 (by kernel_rfl)
  (of_decide_eq_true (by kernel_rfl)) (by unfold Func.isWrapper; first | (rw [if_pos (by decide +kernel)]; kernel_rfl) | (rw [if_neg (by decide +kernel)]; exact ⟨rfl, rfl⟩))
  (λ os started H enc _ => lifted os started H enc)
theorem lexBack_holds : Rows.LexBackCardSaid :=
 Claim7.holds_tied_plain_at .later [] [.data, .listed, .data, .pinned, .pinned] true Rows.lexBackCard.stood.harness true row_holds (λ _ h => by cases h) (by kernel_rfl) (λ _ h => by cases h) lexBack_row_tie rfl ⟨rfl, rfl⟩ (by kernel_rfl) rfl
  (λ f fn hf hfn => by
   obtain rfl : f = 7 := Option.some.inj ((show Tryd.prog.funcNamed "zermelo/zermelolaw06.LexBack" = some 7 by kernel_rfl).symm.trans hf) |>.symm
   obtain rfl : fn = Tryd.f7 := (Option.some.inj (Tryd.func7.symm.trans hfn)).symm
   exact ⟨by kernel_rfl, λ j t ht => by
    rw [Tryd.params7] at ht
    have hm : t ∈ [9, 9] := by simpa using Array.mem_of_getElem? ht
    have hall : ([9, 9].all λ u => !Tryd.prog.wantsStandIn u) = true := by kernel_rfl
    exact (show Tryd.prog.wantsStandIn t = false by simpa using List.all_eq_true.1 hall t hm)⟩)
  (by kernel_rfl)
#print axioms lexBack_holds
end Go.Proofs.YtekioipmhhcbhaaDoor
