/- Chapter 36: 'sanity' answers true. -/
import Derived.Test.YtlboeehapelabaaGreatDoorM6
import Derived.Test.YtlboeehapelabaaGreatDoorProg
set_option linter.unusedVariables false
set_option linter.unusedSimpArgs false
namespace Go.Proofs.YtlboeehapelabaaGreatDoor
open Go.Y
noncomputable section
theorem smixed : Tryz.prog.follows .mixedOrders = true := by kernel_rfl
theorem snoNG : (Tryz.prog.funcs.all fun fn => !(fn.name == "runtime.NumGoroutine")) = true := by kernel_rfl
theorem sanity_run : go Tryz.prog ⟨.nil, [], []⟩ 3000 (.call 12 [] nomem isT) = true := by kernel_rfl
theorem sanity_fn : Z.Callable Tryz.prog 12 ∧ Z.Fn Tryz.prog 12 [] [] Truly := run_true smixed snoNG known_nil sanity_run RL.nil
theorem known12 : KnOk Tryz.prog ⟨.nil, [(12, [], .val (.bool true))], []⟩ := known_true sanity_fn
end
end Go.Proofs.YtlboeehapelabaaGreatDoor
