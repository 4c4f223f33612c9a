/- The program's own marks. -/
import Derived.Test.YtekioipmhhcbhaaDoorM6
import Derived.Test.YtekioipmhhcbhaaDoorProg

namespace Go.Proofs.YtekioipmhhcbhaaDoor
open Go Go.Z
noncomputable section
theorem qmix : Tryd.prog.follows .mixedOrders = true := by kernel_rfl
theorem qNG0 : (Tryd.prog.funcs.all λ fn => !(fn.name == "runtime.NumGoroutine")) = true := by kernel_rfl
theorem qNG : ∀ (f : Nat) (fn : Func), Tryd.prog.funcs[f]? = some fn -> (fn.name == "runtime.NumGoroutine") = false := by
 intro f fn hf
 have h1 := Array.all_eq_true.1 qNG0 f (Array.getElem?_eq_some_iff.1 hf).1
 rw [(Array.getElem?_eq_some_iff.1 hf).2] at h1
 simpa using h1
end
end Go.Proofs.YtekioipmhhcbhaaDoor
