/- Lines and columns of a source: plain laws, with no program in sight. -/
import Derived.Test.YtekioipmhhcbhaaDoorM2
set_option linter.unusedVariables false
set_option linter.unusedSimpArgs false
namespace Go.W6
open Go.Z
def lc (s : List UInt8) : Nat → Nat × Nat
  | 0 => (1, 1)
  | i + 1 => if (s.getD i 0).toNat = 10 then ((lc s i).1 + 1, 1) else ((lc s i).1, (lc s i).2 + 1)
def fs (s : List UInt8) : Nat → Nat × Nat
  | 0 => (1, 0)
  | i + 1 => if (s.getD i 0).toNat = 10 then ((fs s i).1 + 1, i + 1) else fs s i
theorem fs_le (s : List UInt8) : ∀ i, (fs s i).2 ≤ i ∧ 1 ≤ (fs s i).1 ∧ (fs s i).1 ≤ i + 1
  | 0 => by simp [fs]
  | i + 1 => by
    have := fs_le s i
    unfold fs
    split <;> refine ⟨?_, ?_, ?_⟩ <;> (try dsimp only) <;> omega
theorem lc_fs (s : List UInt8) : ∀ i, lc s i = ((fs s i).1, i - (fs s i).2 + 1)
  | 0 => rfl
  | i + 1 => by
    have h := fs_le s i
    unfold lc fs
    rw [lc_fs s i]
    split
    · simp
    · simp; omega
theorem lc_le (s : List UInt8) (i : Nat) : 1 ≤ (lc s i).1 ∧ (lc s i).1 ≤ i + 1 ∧ 1 ≤ (lc s i).2 ∧ (lc s i).2 ≤ i + 1 := by
  have h := fs_le s i
  rw [lc_fs]
  simp; omega
def lineAt (s : List UInt8) : Nat → Option Nat
  | 0 => some 0
  | k + 1 => match lineAt s k with
    | none => none
    | some a => match idxB 10 (s.drop a) 0 with
      | some i => some (a + i + 1)
      | none => none
def longAt (s : List UInt8) (a : Nat) : Nat := match idxB 10 (s.drop a) 0 with
  | some i => i
  | none => s.length - a
def offF (s : List UInt8) (line col : Int) : Int × Int :=
  if 1 ≤ line ∧ 1 ≤ col then match lineAt s (line.toNat - 1) with
    | some a => if col ≤ longAt s a + 1 then (a + col - 1, 0) else (0, 5)
    | none => (0, 5)
  else (0, 5)
theorem idxB_some {l : List UInt8} : ∀ {k i : Nat}, idxB 10 l k = some i → k ≤ i ∧ i < k + l.length ∧ (l.getD (i - k) 0).toNat = 10 ∧ ∀ j, k ≤ j → j < i → (l.getD (j - k) 0).toNat ≠ 10 := by
  induction l with
  | nil => intro k i h; simp [idxB] at h
  | cons x l ih =>
    intro k i h
    simp only [idxB] at h
    split at h
    · rename_i hx
      cases h
      have hx := Nat.eq_of_beq_eq_true hx
      refine ⟨Nat.le_refl _, by simp, by simpa using hx, fun j h1 h2 => by omega⟩
    · rename_i hx
      have hx := Nat.ne_of_beq_eq_false hx
      obtain ⟨h1, h2, h3, h4⟩ := ih h
      refine ⟨by omega, by simp; omega, ?_, fun j a1 a2 => ?_⟩
      · obtain ⟨d, hd⟩ : ∃ d, i - k = d + 1 := ⟨i - k - 1, by omega⟩
        rw [hd]; simpa [show i - (k + 1) = d by omega] using h3
      · rcases Nat.eq_or_lt_of_le a1 with rfl | a1
        · simpa using hx
        · obtain ⟨d, hd⟩ : ∃ d, j - k = d + 1 := ⟨j - k - 1, by omega⟩
          have := h4 j a1 a2
          rw [hd]; simpa [show j - (k + 1) = d by omega] using this
theorem idxB_none {l : List UInt8} : ∀ {k : Nat}, idxB 10 l k = none → ∀ j, j < l.length → (l.getD j 0).toNat ≠ 10 := by
  induction l with
  | nil => intro k h j hj; simp at hj
  | cons x l ih =>
    intro k h j hj
    simp only [idxB] at h
    split at h
    · cases h
    · rename_i hx
      have hx := Nat.ne_of_beq_eq_false hx
      cases j with
      | zero => simpa using hx
      | succ j => simpa using ih h j (by simpa using hj)
theorem drop_getD (s : List UInt8) (a j : Nat) : (s.drop a).getD j 0 = s.getD (a + j) 0 := by
  simp [List.getD_eq_getElem?_getD, List.getElem?_drop]
theorem idx_line {s : List UInt8} {a i : Nat} (h : idxB 10 (s.drop a) 0 = some i) : a + i < s.length ∧ (s.getD (a + i) 0).toNat = 10 ∧ ∀ j, a ≤ j → j < a + i → (s.getD j 0).toNat ≠ 10 := by
  obtain ⟨h1, h2, h3, h4⟩ := idxB_some h
  rw [drop_getD] at h3
  simp only [List.length_drop] at h2
  refine ⟨by omega, by simpa using h3, fun j a1 a2 => ?_⟩
  have := h4 (j - a) (by omega) (by omega)
  rw [drop_getD] at this
  simpa [show a + (j - a) = j by omega] using this
theorem idx_last {s : List UInt8} {a : Nat} (h : idxB 10 (s.drop a) 0 = none) : ∀ j, a ≤ j → j < s.length → (s.getD j 0).toNat ≠ 10 := by
  intro j a1 a2
  have := idxB_none h (j - a) (by simp; omega)
  rw [drop_getD] at this
  simpa [show a + (j - a) = j by omega] using this
theorem idx_found {s : List UInt8} {a j : Nat} (h1 : a ≤ j) (h2 : j < s.length) (h3 : (s.getD j 0).toNat = 10) (h4 : ∀ x, a ≤ x → x < j → (s.getD x 0).toNat ≠ 10) : idxB 10 (s.drop a) 0 = some (j - a) := by
  cases h : idxB 10 (s.drop a) 0 with
  | none => exact absurd h3 (idx_last h j h1 h2)
  | some i =>
    obtain ⟨a1, a2, a3⟩ := idx_line h
    rcases Nat.lt_trichotomy (a + i) j with hlt | heq | hgt
    · exact absurd a2 (h4 _ (by omega) hlt)
    · congr 1; omega
    · exact absurd h3 (a3 j h1 hgt)
theorem idx_gone {s : List UInt8} {a : Nat} (h4 : ∀ x, a ≤ x → x < s.length → (s.getD x 0).toNat ≠ 10) : idxB 10 (s.drop a) 0 = none := by
  cases h : idxB 10 (s.drop a) 0 with
  | none => rfl
  | some i =>
    obtain ⟨a1, a2, a3⟩ := idx_line h
    exact absurd a2 (h4 _ (by omega) a1)
theorem lineAt_up {s : List UInt8} {k : Nat} (h : lineAt s k = none) : ∀ m, k ≤ m → lineAt s m = none := by
  intro m hm
  induction m with
  | zero => have : k = 0 := by omega
            subst this; exact h
  | succ m ih =>
    rcases Nat.eq_or_lt_of_le hm with rfl | hm
    · exact h
    · unfold lineAt; rw [ih (by omega)]
theorem lineAt_le {s : List UInt8} : ∀ {k a : Nat}, lineAt s k = some a → a ≤ s.length
  | 0, a, h => by cases h; omega
  | k + 1, a, h => by
    unfold lineAt at h
    split at h
    · cases h
    · split at h
      · rename_i hi
        cases h
        have := (idx_line hi).1
        omega
      · cases h
theorem off_hit {s : List UInt8} {line col : Int} {n a : Nat} (h : lineAt s n = some a) (hn : (n : Int) + 1 = line) (hc : 1 ≤ col) (hl : col ≤ longAt s a + 1) : offF s line col = (a + col - 1, 0) := by
  unfold offF
  rw [if_pos ⟨by omega, hc⟩, show line.toNat - 1 = n by omega, h]
  simp [hl]
theorem off_miss {s : List UInt8} {line col : Int} {n a : Nat} (h : lineAt s n = some a) (hn : (n : Int) + 1 = line) (hc : ¬ (1 ≤ col ∧ col ≤ longAt s a + 1)) : offF s line col = (0, 5) := by
  unfold offF
  split
  · rename_i h1
    rw [show line.toNat - 1 = n by omega, h]
    have : ¬ (col ≤ longAt s a + 1) := fun h2 => hc ⟨h1.2, h2⟩
    simp [this]
  · rfl
theorem off_past {s : List UInt8} {line col : Int} {n a : Nat} (h : lineAt s n = some a) (hn : (n : Int) + 1 < line) (hi : idxB 10 (s.drop a) 0 = none) : offF s line col = (0, 5) := by
  unfold offF
  split
  · have : lineAt s (n + 1) = none := by unfold lineAt; rw [h]; simp [hi]
    rw [lineAt_up this (line.toNat - 1) (by omega)]
  · rfl
theorem off_low {s : List UInt8} {line col : Int} (h : line < 1 ∨ col < 1) : offF s line col = (0, 5) := by
  unfold offF
  rw [if_neg (by omega)]
end Go.W6
