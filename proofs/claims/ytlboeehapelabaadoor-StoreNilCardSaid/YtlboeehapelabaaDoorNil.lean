/- PROVED: the statement StoreNil: for every act, the law StoreNil answers true (on a nil store, and on a zero one, every method returns ErrState, or a zero value). Conditions: the row's own (the two listed variables read as laid), tied to the program's text by the given tie. -/
import Derived.Test.YtlboeehapelabaaDoorYr
import Derived.Test.YtlboeehapelabaaDoorRows
import Derived.Test.YtlboeehapelabaaDoorTie
import Derived.Test.YtlboeehapelabaaDoorCards
import Derived.ProofKit
import Derived.OpenShut
import Derived.LaidMore
import Derived.Lay
import Derived.SevenTiedAt
import Derived.Stop.Joined
import Derived.Lib.SmallJoins
set_option linter.unusedVariables false
set_option linter.unusedSimpArgs false
namespace Go.Proofs.YtlboeehapelabaaDoor
open Go.ChangeShapes Go.WideShapes Go.ChangeAt Go.RowKit Go.Joins Go.Y
open Go.WideMaps Go.WideElems
open Go.ChangeMaps (open_string)
theorem mixed : Tryd.prog.follows .mixedOrders = true := by kernel_rfl
theorem noNG : (Tryd.prog.funcs.all fun fn => !(fn.name == "runtime.NumGoroutine")) = true := by kernel_rfl
theorem sanity_run : go Tryd.prog ⟨.nil, []⟩ 3000 (.call 6 [] nomem isT) = true := by kernel_rfl
theorem sanity_fn : Z.Callable Tryd.prog 6 ∧ Z.Fn Tryd.prog 6 [] [] Truly := run_true mixed noNG known_nil sanity_run RL.nil
theorem nil_run : go Tryd.prog ⟨.nil, [(6, .bool true)]⟩ 3000 (.call 4 [.agg [.anyI .u8, .anyS, .anyS]] nomem isT) = true := by kernel_rfl
theorem nil_fn (k : Int) (a b : List UInt8) : Z.Fn Tryd.prog 4 [.agg #[.int .u8 k, .string (Z.bs a), .string (Z.bs b)]] [] Truly :=
  (run_true mixed noNG (known_true sanity_fn) nil_run (RL.cons ⟨_, RL.cons ⟨k, rfl⟩ (RL.cons ⟨a, rfl⟩ (RL.cons ⟨b, rfl⟩ RL.nil)), rfl⟩ RL.nil)).2
theorem own : ownKnob Tryd.prog.godebug = none := by kernel_rfl
theorem laidOut : laidOutB Tryd.prog = true := by kernel_rfl
set_option maxRecDepth 100000 in
theorem lifted (os : Os) (started : os.Started) (H : Type) (enc : TypeId × Value → H) :
    ReturnsInHanded {} Tryd.checked os 4 .any (fun w args => (Rows.storeNilSpec.pre enc Tryd.prog Tryd.f4 Rows.storeNilRow.domain false w args ∧ laidMetH Tryd.prog Rows.storeNilRow.laid w) ∧ sizedMet enc Tryd.prog Tryd.f4 (OpenSpec.ofChange Rows.storeNilSpec) false w args)
      (Rows.storeNilSpec.post enc Tryd.prog Tryd.f4 false true false false) := by
  refine returnsInHanded_of_change_and (C := Tryd.checked) (X := fun w _ => laidMetH Tryd.prog Rows.storeNilRow.laid w) (fun _ _ _ hh h => h.of_heap hh) own started (by kernel_rfl) Tryd.func4
    (ChangeSpec.witness_shaped (enc := enc) (C := Tryd.checked) (os := os) (X := fun w _ => laidMetH Tryd.prog Rows.storeNilRow.laid w) false (World.laidAll Tryd.prog os Rows.storeNilRow.laid) #[.agg #[.int .u8 0, .string (Z.bs []), .string (Z.bs [])]] 8 (World.laidAll_os _ _ _)
      (World.shaped_of_ZipB (by kernel_rfl) (by kernel_rfl)) (by kernel_rfl) (by kernel_rfl) (by kernel_rfl)
      (by rw [MakeChecks.laidMetH_plain _ _ _ (by kernel_rfl)]; exact laidMet_laidAll _ (by kernel_rfl) (by kernel_rfl))) ?_
  intro W base args ds gs before hval0 hW hc _ hL _
  have hval : ∀ (j : Nat) t v, Tryd.f4.params[j]? = some t → args[j]? = some v → Value.okWide Tryd.prog W .any base t v := hval0
  have hW' := hW
  obtain ⟨p, q, hA0, hV, rfl, _, _⟩ := hW
  have hA : DataW.TrodAll enc Tryd.prog W 0 (fun _ => true) true Tryd.f4.params.toList args.toList ds p := hA0
  rw [Tryd.params4] at hA hval
  obtain ⟨v0, d0, rfl, rfl, h0⟩ := trodAll_one hA
  obtain ⟨c0, c1, c2, y0, y1, y2, n, rfl, rfl, _, t0, t1, t2⟩ := open_agg3 Tryd.underlying40 (by kernel_rfl) (by kernel_rfl) (hval 0 40 v0 rfl rfl) h0
  obtain ⟨k, rfl⟩ : ∃ k, c0 = .int .u8 k := by
    obtain ⟨z, e1, e2, _⟩ := DataW.trod_int Tryd.underlying5 t0
    exact ⟨z, by simpa using e1⟩
  obtain ⟨a, rfl⟩ : ∃ a, c1 = .string (Z.bs a) := by
    obtain ⟨s, e1, _⟩ := DataW.trod_string Tryd.underlying9 t1
    exact ⟨s.data.toList, by simp only [List.cons.injEq, and_true] at e1; rw [e1, Z.bs_data]⟩
  obtain ⟨b, rfl⟩ : ∃ b, c2 = .string (Z.bs b) := by
    obtain ⟨s, e1, _⟩ := DataW.trod_string Tryd.underlying9 t2
    exact ⟨s.data.toList, by simp only [List.cons.injEq, and_true] at e1; rw [e1, Z.bs_data]⟩
  refine (calls_of (nil_fn k a b) W).mono fun e W' ⟨he, hb⟩ => ?_
  subst he
  have hgs : gs = [] := by
    cases gs with
    | nil => rfl
    | cons g r => exact absurd hV (by intro h; cases h)
  exact ⟨_, rfl, law_post (tb := 4) laidOut (by kernel_rfl) (by kernel_rfl) Tryd.underlying4 rfl hW' (by subst hgs; rfl) hb⟩
theorem row_holds : Rows.StoreNilSaid :=
  OpenClaim.holds_of_wide 4 Tryd.f4 rfl rfl rfl rfl rfl rfl rfl ⟨rfl, rfl, rfl, rfl, rfl⟩ rfl rfl rfl rfl rfl (by kernel_rfl) Tryd.func4 (by kernel_rfl)
    (of_decide_eq_true (by kernel_rfl)) (by unfold Func.isWrapper; first | (rw [if_pos (by decide +kernel)]; kernel_rfl) | (rw [if_neg (by decide +kernel)]; exact ⟨rfl, rfl⟩))
    (fun os started H enc _ => lifted os started H enc)
theorem storeNil_holds : Rows.StoreNilCardSaid :=
  Claim7.holds_tied_plain_at .later [] [.data, .pinned] true Rows.storeNilCard.stood.harness true row_holds (fun _ h => by cases h) (by kernel_rfl) (fun _ h => by cases h) storeNil_row_tie rfl ⟨rfl, rfl⟩ (by kernel_rfl) rfl
    (fun f fn hf hfn => by
      obtain rfl : f = 4 := Option.some.inj ((show Tryd.prog.funcNamed "zermelo/zermelolaw36.StoreNil" = some 4 by kernel_rfl).symm.trans hf) |>.symm
      obtain rfl : fn = Tryd.f4 := (Option.some.inj (Tryd.func4.symm.trans hfn)).symm
      exact ⟨by kernel_rfl, fun j t ht => by
        rw [Tryd.params4] at ht
        have hm : t ∈ [40] := by simpa using Array.mem_of_getElem? ht
        have hall : ([40].all fun u => !Tryd.prog.wantsStandIn u) = true := by kernel_rfl
        exact (show Tryd.prog.wantsStandIn t = false by simpa using List.all_eq_true.1 hall t hm)⟩)
    (by kernel_rfl)
#print axioms storeNil_holds
end Go.Proofs.YtlboeehapelabaaDoor
