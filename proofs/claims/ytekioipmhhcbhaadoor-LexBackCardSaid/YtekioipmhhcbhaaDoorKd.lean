/- Chapter 6: 'awake' answers true wherever the table of spaces is laid. -/
import Derived.Test.YtekioipmhhcbhaaDoorKa
set_option linter.unusedVariables false
set_option linter.unusedSimpArgs false
namespace Go.Proofs.YtekioipmhhcbhaaDoor
open Go.Y
noncomputable section
theorem awake_run (ty : Nat) : go Tryd.prog G06 5000 (.call 9 [] (varM spaceV ty) (isRes (.val (.bool true)))) = true := by kernel_rfl
end
end Go.Proofs.YtekioipmhhcbhaaDoor
