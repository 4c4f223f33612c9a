/- PROVED: the statement StoreFormats: for every number of sectors and every string, the law StoreFormats answers true. Conditions: the row's own (the listed package-level variables hold what the program's text lays). -/
import Derived.Test.YtlboeehapelabaaGreatDoorFe
import Derived.Test.YtlboeehapelabaaGreatDoorFs
import Derived.Test.YtlboeehapelabaaGreatDoorRows
import Derived.Test.YtlboeehapelabaaGreatDoorTie
import Derived.Test.YtlboeehapelabaaGreatDoorCards
import Derived.ProofKit
import Derived.OpenShut
import Derived.LaidMore
import Derived.Lay
import Derived.SevenTiedAt
import Derived.Stop.Joined
import Derived.Lib.SmallJoins
set_option linter.unusedVariables false
set_option linter.unusedSimpArgs false
namespace Go.Proofs.YtlboeehapelabaaGreatDoor
open Go.ChangeShapes Go.WideShapes Go.ChangeAt Go.RowKit Go.Joins
open Go.Y (Truly calls_of law_post)
open Go.WideMaps Go.WideElems
open Go.ChangeMaps (open_string)
theorem formats_fn (n : Int) (t : List UInt8) : Z.Fn Tryz.prog 3 [.int .i64 n, .string (Z.bs t)] [] Truly :=
  (Q.fn_of (formats_run known12 n t) rfl (.cons rfl (.cons rfl .nil)) (Post := fun en => en = .returned (.bool true)) (fun e hp en ρ hen hk => by
    subst hk
    cases en with
    | returned u => exact congrArg _ (show u = .bool true from hen)
    | panicked ch => exact hen.elim
    | outgrown => exact hen.elim)).2
theorem own : ownKnob Tryz.prog.godebug = none := by kernel_rfl
theorem laidOut : laidOutB Tryz.prog = true := by kernel_rfl
set_option maxRecDepth 100000 in
theorem lifted (os : Os) (started : os.Started) (H : Type) (enc : TypeId × Value → H) :
    ReturnsInHanded {} Tryz.checked os 3 .any (fun w args => (Rows.storeFormatsSpec.pre enc Tryz.prog Tryz.f3 Rows.storeFormatsRow.domain false w args ∧ laidMetH Tryz.prog Rows.storeFormatsRow.laid w) ∧ sizedMet enc Tryz.prog Tryz.f3 (OpenSpec.ofChange Rows.storeFormatsSpec) false w args)
      (Rows.storeFormatsSpec.post enc Tryz.prog Tryz.f3 false true false false) := by
  refine returnsInHanded_of_change_and (C := Tryz.checked) (X := fun w _ => laidMetH Tryz.prog Rows.storeFormatsRow.laid w) (fun _ _ _ hh h => h.of_heap hh) own started (by kernel_rfl) Tryz.func3
    (ChangeSpec.witness_shaped (enc := enc) (C := Tryz.checked) (os := os) (X := fun w _ => laidMetH Tryz.prog Rows.storeFormatsRow.laid w) false (World.laidAll Tryz.prog os Rows.storeFormatsRow.laid) #[.int .i64 0, .string (Z.bs [])] 8 (World.laidAll_os _ _ _)
      (World.shaped_of_ZipB (by kernel_rfl) (by kernel_rfl)) (by kernel_rfl) (by kernel_rfl) (by kernel_rfl)
      (by rw [MakeChecks.laidMetH_plain _ _ _ (by kernel_rfl)]; exact laidMet_laidAll _ (by kernel_rfl) (by kernel_rfl))) ?_
  intro W base args ds gs before hval0 hW hc _ hL _
  have hval : ∀ (j : Nat) t v, Tryz.f3.params[j]? = some t → args[j]? = some v → Value.okWide Tryz.prog W .any base t v := hval0
  have hW' := hW
  obtain ⟨p, q, hA0, hV, rfl, _, _⟩ := hW
  have hA : DataW.TrodAll enc Tryz.prog W 0 (fun _ => true) true Tryz.f3.params.toList args.toList ds p := hA0
  rw [Tryz.params3] at hA hval
  obtain ⟨v0, v1, d0, d1, p0, p1, rfl, rfl, rfl, h0, h1⟩ := trodAll_two hA
  obtain ⟨a, rfl, rfl, rfl, _⟩ := open_int Tryz.underlying3 (hval 0 3 v0 rfl rfl) h0
  obtain ⟨s0, rfl, rfl, rfl, _⟩ := open_string Tryz.underlying9 (hval 1 9 v1 rfl rfl) h1
  have fn := formats_fn a s0.data.toList
  rw [Z.bs_data] at fn
  refine (calls_of fn W).mono fun e W' ⟨he, hb⟩ => ?_
  subst he
  have hgs : gs = [] := by
    cases gs with
    | nil => rfl
    | cons g r => exact absurd hV (by intro h; cases h)
  exact ⟨_, rfl, law_post (tb := 4) laidOut (by kernel_rfl) (by kernel_rfl) Tryz.underlying4 rfl hW' (by subst hgs; rfl) hb⟩
theorem row_holds : Rows.StoreFormatsSaid :=
  OpenClaim.holds_of_wide 3 Tryz.f3 rfl rfl rfl rfl rfl rfl rfl ⟨rfl, rfl, rfl, rfl, rfl⟩ rfl rfl rfl rfl rfl (by kernel_rfl) Tryz.func3 (by kernel_rfl)
    (of_decide_eq_true (by kernel_rfl)) (by unfold Func.isWrapper; first | (rw [if_pos (by decide +kernel)]; kernel_rfl) | (rw [if_neg (by decide +kernel)]; exact ⟨rfl, rfl⟩))
    (fun os started H enc _ => lifted os started H enc)
theorem storeFormats_holds : Rows.StoreFormatsCardSaid :=
  Claim7.holds_tied_plain_at .later [] [.data, .pinned] true Rows.storeFormatsCard.stood.harness true row_holds (fun _ h => by cases h) (by kernel_rfl) (fun _ h => by cases h) storeFormats_row_tie rfl ⟨rfl, rfl⟩ (by kernel_rfl) rfl
    (fun f fn hf hfn => by
      obtain rfl : f = 3 := Option.some.inj ((show Tryz.prog.funcNamed "zermelo/zermelolaw36.StoreFormats" = some 3 by kernel_rfl).symm.trans hf) |>.symm
      obtain rfl : fn = Tryz.f3 := (Option.some.inj (Tryz.func3.symm.trans hfn)).symm
      exact ⟨by kernel_rfl, fun j t ht => by
        rw [Tryz.params3] at ht
        have hm : t ∈ [3, 9] := by simpa using Array.mem_of_getElem? ht
        have hall : ([3, 9].all fun u => !Tryz.prog.wantsStandIn u) = true := by kernel_rfl
        exact (show Tryz.prog.wantsStandIn t = false by simpa using List.all_eq_true.1 hall t hm)⟩)
    (by kernel_rfl)
#print axioms storeFormats_holds
end Go.Proofs.YtlboeehapelabaaGreatDoor
