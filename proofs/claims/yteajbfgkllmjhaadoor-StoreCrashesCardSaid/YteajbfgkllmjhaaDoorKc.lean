/- Chapter 36: 'sanity' answers true. -/
import Derived.Test.YteajbfgkllmjhaaDoorM9
import Derived.Test.YteajbfgkllmjhaaDoorProg
set_option linter.unusedVariables false
set_option linter.unusedSimpArgs false
namespace Go.Proofs.YteajbfgkllmjhaaDoor
open Go.Y
noncomputable section
theorem smixed : Tryd.prog.follows .mixedOrders = true := by kernel_rfl
theorem snoNG : (Tryd.prog.funcs.all λ fn => !(fn.name == "runtime.NumGoroutine")) = true := by kernel_rfl
theorem sanity_run : go Tryd.prog ⟨.nil, [], []⟩ 3000 (.call 5 [] nomem isT) = true := by kernel_rfl
theorem sanity_fn : Z.Callable Tryd.prog 5 /\ Z.Fn Tryd.prog 5 [] [] Truly := run_true smixed snoNG zqx sanity_run RL.nil
end
end Go.Proofs.YteajbfgkllmjhaaDoor
