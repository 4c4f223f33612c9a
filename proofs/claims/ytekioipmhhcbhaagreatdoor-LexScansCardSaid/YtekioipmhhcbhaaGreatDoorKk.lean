/- What is known of the calls that the scanner begins with, and of 'awake'. -/
import Derived.Test.YtekioipmhhcbhaaGreatDoorKd
import Derived.Test.YtekioipmhhcbhaaGreatDoorKm
import Derived.Test.YtekioipmhhcbhaaGreatDoorM9
set_option linter.unusedVariables false
set_option linter.unusedSimpArgs false
namespace Go.Proofs.YtekioipmhhcbhaaGreatDoor
open Go Go.Z Go.Q
open Go.Y hiding KE KK KR go Task go_sound
noncomputable section
def kn9 : List (Nat × List V × KRes) := [(6, [], .val (.bool true))]
theorem known06 : KnOk Tryz.prog G06 := 
  kn_one (zkv mixed noNG rfl zqc (by kernel_rfl) (by kernel_rfl) words_run _) (kn_one (zkv mixed noNG rfl zqc (by kernel_rfl) (by kernel_rfl) signs_run _) (kn_one (zkv mixed noNG rfl zqc (by kernel_rfl) (by kernel_rfl) class_run _) (fun f a r h => by cases h)))
theorem known9 : KnOk Tryz.prog ⟨varG 0, kn9, [(0, spaceV)]⟩ :=
  kn_one (zkv mixed noNG rfl known06 (by kernel_rfl) (by kernel_rfl) awake_run _) (fun f a r h => by cases h)
theorem ints_rel : ∀ l : List Nat, RL norho (ints l) (l.map fun n => Value.int .u8 (.ofNat n))
  | [] => .nil
  | n :: l => .cons rfl (ints_rel l)
theorem space_rel : RL norho spaceV (spaceL.map fun n => Value.int .u8 (.ofNat n)) := ints_rel spaceL
end
end Go.Proofs.YtekioipmhhcbhaaGreatDoor
