/- PROVED: the statement StoreCrashes: for every disk, list of events, number and plan, the law StoreCrashes answers true. Conditions: the row's own (the listed package-level variables hold what the program's text lays). -/
import Derived.Test.YteajbfgkllmjhaaDoorC4
import Derived.Test.YteajbfgkllmjhaaDoorRows
import Derived.Test.YteajbfgkllmjhaaDoorTie
import Derived.Test.YteajbfgkllmjhaaDoorCards
import Derived.ProofKit
import Derived.OpenShut
import Derived.LaidMore
import Derived.Lay
import Derived.Carry
import Derived.SevenTiedAt
import Derived.Stop.Joined
import Derived.Lib.SmallJoins
set_option linter.unusedVariables false
set_option linter.unusedSimpArgs false
namespace Go.Proofs.YteajbfgkllmjhaaDoor
open Go.ChangeShapes Go.WideShapes Go.ChangeAt Go.RowKit Go.Joins
open Go.Y (law_post)
open Go.Q (calls_X extW inExt_W arg_struct arg_slice)
open Go.WideMaps Go.WideElems
theorem own : ownKnob Tryd.prog.godebug = none := by kernel_rfl
theorem laidOut : laidOutB Tryd.prog = true := by kernel_rfl
set_option maxRecDepth 100000 in
theorem lifted (os : Os) (started : os.Started) (H : Type) (enc : TypeId × Value -> H) :
  ReturnsInHanded {} Tryd.checked os 3 .any (λ w args => (Rows.storeCrashesSpec.pre enc Tryd.prog Tryd.f3 Rows.storeCrashesRow.domain false w args /\ laidMetH Tryd.prog Rows.storeCrashesRow.laid w) /\ sizedMet enc Tryd.prog Tryd.f3 (OpenSpec.ofChange Rows.storeCrashesSpec) false w args)
   (Rows.storeCrashesSpec.post enc Tryd.prog Tryd.f3 false true false false) := by
 refine returnsInHanded_of_change_and (C := Tryd.checked) (X := λ w _ => laidMetH Tryd.prog Rows.storeCrashesRow.laid w) (λ _ _ _ hh h => h.of_heap hh) own started (by kernel_rfl) Tryd.func3
  (ChangeSpec.witness_shaped (enc := enc) (C := Tryd.checked) (os := os) (X := λ w _ => laidMetH Tryd.prog Rows.storeCrashesRow.laid w) false (World.laidAll Tryd.prog os Rows.storeCrashesRow.laid) #[.agg #[.slice none 0 0], .slice none 0 0, .int .i64 0, .slice none 0 0] 8 (World.laidAll_os _ _ _)
   (World.shaped_of_ZipB (by kernel_rfl) (by kernel_rfl)) (by kernel_rfl) (by kernel_rfl) (by kernel_rfl)
   (by rw [MakeChecks.laidMetH_plain _ _ _ (by kernel_rfl)]; exact laidMet_laidAll _ (by kernel_rfl) (by kernel_rfl))) ?_
 intro W base args ds gs before hval0 hW hc _ hL _
 have hval : ∀ (j : Nat) t v, Tryd.f3.params[j]? = some t -> args[j]? = some v -> Value.okWide Tryd.prog W .any base t v := hval0
 have hW' := hW
 obtain ⟨p, q, hA0, hV, rfl, _, _⟩ := hW
 have hA : DataW.TrodAll enc Tryd.prog W 0 (λ _ => true) true Tryd.f3.params.toList args.toList ds p := hA0
 rw [Tryd.params3] at hA hval
 obtain ⟨v0, v1, v2, v3, d0, d1, d2, d3, p0, p1, p2, p3, rfl, rfl, rfl, h0, h1, h2, h3⟩ := trodAll_four hA
 letI : Go.Y.Ext := extW W
 obtain ⟨l0, r0, s0, k0⟩ := arg_struct (inExt_W W true) Tryd.underlying24 (hval 0 24 v0 rfl rfl) h0 (m := 5) (sh := [.xs [.str]]) (by kernel_rfl)
 obtain ⟨L, r1, s1, k1⟩ := arg_slice (inExt_W W true) Tryd.underlying25 (hval 1 25 v1 rfl rfl) h1 (m := 5) (sh := [.int .i64, .str]) (by kernel_rfl)
 obtain ⟨a, rfl, rfl, rfl, _⟩ := open_int Tryd.underlying3 (hval 2 3 v2 rfl rfl) h2
 obtain ⟨Q, r3, s3, k3⟩ := arg_slice (inExt_W W true) Tryd.underlying26 (hval 3 26 v3 rfl rfl) h3 (m := 5) (sh := [.int .u8]) (by kernel_rfl)
 obtain ⟨q, r', rfl, ⟨S, rfl⟩, hr'⟩ := s0
 have hr' : r' = [] := hr'
 subst hr'
 have r0 := r0 Go.Y.norho
 have hS : ∀ r ∈ S, Go.Y.shR [.str] r := by
  obtain ⟨l', ⟨u, us, hu, _, _⟩, _⟩ := r0
  obtain ⟨_, _, _, _, _, _, g, _⟩ := hu
  exact g
 have fn := law_fn (n := a) (plan_ok s3 k3.2) (norm_strs hS k0.1.2) r0 r1 r3
 refine (calls_X W fn).mono λ e W' ⟨he, hb⟩ => ?_
 subst he
 have hgs : gs = [] := by
  cases gs with
  | nil => rfl
  | cons g r => exact absurd hV (by intro h; cases h)
 exact ⟨_, rfl, law_post (tb := 4) laidOut (by kernel_rfl) (by kernel_rfl) Tryd.underlying4 rfl hW' (by subst hgs; rfl) hb⟩
theorem row_holds : Rows.StoreCrashesSaid :=
 OpenClaim.holds_of_wide 3 Tryd.f3 rfl rfl rfl rfl rfl rfl rfl ⟨rfl, rfl, rfl, rfl, rfl⟩ rfl rfl rfl rfl rfl (by kernel_rfl) Tryd.func3 (by kernel_rfl)
  (of_decide_eq_true (by kernel_rfl)) (by unfold Func.isWrapper; first | (rw [if_pos (by decide +kernel)]; kernel_rfl) | (rw [if_neg (by decide +kernel)]; exact ⟨rfl, rfl⟩))
  (λ os started H enc _ => lifted os started H enc)
theorem storeCrashes_holds : Rows.StoreCrashesCardSaid :=
 Claim7.holds_tied_plain_at .later [] [.data, .pinned] true Rows.storeCrashesCard.stood.harness true row_holds (λ _ h => by cases h) (by kernel_rfl) (λ _ h => by cases h) storeCrashes_row_tie rfl ⟨rfl, rfl⟩ (by kernel_rfl) rfl
  (λ f fn hf hfn => by
   obtain rfl : f = 3 := Option.some.inj ((show Tryd.prog.funcNamed "zermelo/zermelolaw36.StoreCrashes" = some 3 by kernel_rfl).symm.trans hf) |>.symm
   obtain rfl : fn = Tryd.f3 := (Option.some.inj (Tryd.func3.symm.trans hfn)).symm
   exact ⟨by kernel_rfl, λ j t ht => by
    rw [Tryd.params3] at ht
    have hm : t ∈ [24, 25, 3, 26] := by simpa using Array.mem_of_getElem? ht
    have hall : ([24, 25, 3, 26].all λ u => !Tryd.prog.wantsStandIn u) = true := by kernel_rfl
    exact (show Tryd.prog.wantsStandIn t = false by simpa using List.all_eq_true.1 hall t hm)⟩)
  (by kernel_rfl)
#print axioms storeCrashes_holds
end Go.Proofs.YteajbfgkllmjhaaDoor
