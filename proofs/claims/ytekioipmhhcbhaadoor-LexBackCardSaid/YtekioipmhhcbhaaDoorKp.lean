/- Lines and columns of a source: plain laws, with no program in sight. -/
import Derived.Test.YtekioipmhhcbhaaDoorM2
set_option linter.unusedVariables false
set_option linter.unusedSimpArgs false
namespace Go.W6
open Go.Z
def lc (s : List UInt8) : Nat -> Nat × Nat
 | 0 => (1, 1)
 | i + 1 => if (s.getD i 0).toNat = 10 then ((lc s i).1 + 1, 1) else ((lc s i).1, (lc s i).2 + 1)
def fs (s : List UInt8) : Nat -> Nat × Nat
 | 0 => (1, 0)
 | i + 1 => if (s.getD i 0).toNat = 10 then ((fs s i).1 + 1, i + 1) else fs s i
theorem fs_le (s : List UInt8) : ∀ i, (fs s i).2 <= i /\ 1 <= (fs s i).1 /\ (fs s i).1 <= i + 1
 | 0 => by simp [fs]
 | i + 1 => by
  have := fs_le s i
  unfold fs
  split <;> refine ⟨?_, ?_, ?_⟩ <;> (try dsimp only) <;> omega
theorem lc_fs (s : List UInt8) : ∀ i, lc s i = ((fs s i).1, i - (fs s i).2 + 1)
 | 0 => rfl
 | i + 1 => by
  have h := fs_le s i
  unfold lc fs
  rw [lc_fs s i]
  split
  ·simp
  ·simp; omega
theorem lc_le (s : List UInt8) (i : Nat) : 1 <= (lc s i).1 /\ (lc s i).1 <= i + 1 /\ 1 <= (lc s i).2 /\ (lc s i).2 <= i + 1 := by
 have h := fs_le s i
 rw [lc_fs]
 simp; omega
end Go.W6
