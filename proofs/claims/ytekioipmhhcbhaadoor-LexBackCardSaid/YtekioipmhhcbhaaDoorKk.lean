/- What is known of the calls that the scanner begins with, and of 'awake'. -/
import Derived.Test.YtekioipmhhcbhaaDoorKd
import Derived.Test.YtekioipmhhcbhaaDoorKm
import Derived.Test.YtekioipmhhcbhaaDoorM9
set_option linter.unusedVariables false
set_option linter.unusedSectionVars false
set_option linter.unusedSimpArgs false
namespace Go.Proofs.YtekioipmhhcbhaaDoor
open Go Go.Z Go.Q
open Go.Y hiding KE KK KR go Task go_sound
noncomputable section
variable [Ext]
def kn9 : List (Nat × List V × KRes) := [(9, [], .val (.bool true))]
theorem known06 : KnOk Tryd.prog G06 := 
 kn_one (zkP mixed noNG rfl (@zqf noExt _ _ _) (by kernel_rfl) (by kernel_rfl) words_run _) (kn_one (zkP mixed noNG rfl (@zqf noExt _ _ _) (by kernel_rfl) (by kernel_rfl) signs_run _) (kn_one (zkP mixed noNG rfl (@zqf noExt _ _ _) (by kernel_rfl) (by kernel_rfl) class_run _) (λ f a r h => by cases h)))
theorem known9 : KnOk Tryd.prog ⟨varG 0, kn9, [(0, spaceV)]⟩ :=
 kn_one (zkP mixed noNG rfl (@known06 noExt) (by kernel_rfl) (by kernel_rfl) awake_run _) (λ f a r h => by cases h)
theorem ints_rel : ∀ l : List Nat, RL norho (ints l) (l.map λ n => Value.int .u8 (.ofNat n))
 | [] => .nil
 | n :: l => .cons rfl (ints_rel l)
theorem space_rel : RL norho spaceV (spaceL.map λ n => Value.int .u8 (.ofNat n)) := ints_rel spaceL
end
end Go.Proofs.YtekioipmhhcbhaaDoor
