/- What is known of the calls that the scanner begins with, and of 'awake'. -/
import Derived.Test.YtekioipmhhcbhaaGreatDoorKd
import Derived.Test.YtekioipmhhcbhaaGreatDoorKm
import Derived.Test.YtekioipmhhcbhaaGreatDoorM9
set_option linter.unusedVariables false
set_option linter.unusedSectionVars false
set_option linter.unusedSimpArgs false
namespace Go.Proofs.YtekioipmhhcbhaaGreatDoor
open Go Go.Z Go.Q
open Go.Y hiding KE KK KR go Task go_sound
noncomputable section
variable [Ext]
theorem known06 : KnOk Tryz.prog G06 := 
 kn_one (zjJ mixed noNG rfl (@zqb noExt _ _ _) (by kernel_rfl) (by kernel_rfl) words_run _) (kn_one (zjJ mixed noNG rfl (@zqb noExt _ _ _) (by kernel_rfl) (by kernel_rfl) signs_run _) (kn_one (zjJ mixed noNG rfl (@zqb noExt _ _ _) (by kernel_rfl) (by kernel_rfl) class_run _) (λ f a r h => by cases h)))
theorem ints_rel : ∀ l : List Nat, RL norho (ints l) (l.map λ n => Value.int .u8 (.ofNat n))
 | [] => .nil
 | n :: l => .cons rfl (ints_rel l)
theorem space_rel : RL norho spaceV (spaceL.map λ n => Value.int .u8 (.ofNat n)) := ints_rel spaceL
end
end Go.Proofs.YtekioipmhhcbhaaGreatDoor
