/- Chapter 8: arguments that are trees. -/
import Derived.Test.YtiilaimcmkdfjaaGreatDoorC1
import Derived.Test.YtiilaimcmkdfjaaGreatDoorM9
set_option linter.unusedVariables false
set_option linter.unusedSectionVars false
set_option linter.unusedSimpArgs false
namespace Go.Proofs.YtiilaimcmkdfjaaGreatDoor
open Go Go.Z Go.Q
open Go.Y hiding KE KK KR go Task go_sound
open Go.ChangeShapes Go.WideShapes Go.Deep
noncomputable section
theorem rows_app : ∀ (l m : List Nd), rows (l ++ m) = rows l ++ rows m
 | [], m => rfl
 | x :: l, m => by simp only [List.cons_append, rows, rows_app l m]
theorem row_sh (x : Nd) : shR nodeSh x.row := by
 obtain ⟨k, t, n, l, ks⟩ := x
 exact ⟨_, _, rfl, ⟨_, .inl rfl⟩, _, _, rfl, ⟨_, .inl rfl⟩, _, _, rfl, ⟨_, .inl rfl⟩, _, _, rfl, ⟨_, .inl rfl⟩, _, _, rfl, ⟨_, rfl⟩, rfl⟩
theorem rows_sh : ∀ (l : List Nd), ∀ r ∈ rows l, shR nodeSh r
 | [], r, h => by cases h
 | x :: l, r, h => by
  simp only [rows] at h
  cases h with
  | head => exact row_sh x
  | tail _ h => exact rows_sh l r h
section
variable {H : Type} {enc : TypeId × Value -> H} {P : Program} {w : World} {base : Nat} {spare : Nat -> Bool} {held : Bool}
theorem trod_nd {X : Hp} (hx : InExt X w false) {tI tS tL tN : TypeId} {f0 f1 f2 f3 f4 : Field} (hN : P.underlying tN = some (.struct #[f0, f1, f2, f3, f4])) (hL : P.underlying tL = some (.slice tN)) (hI : P.underlying tI = some (.int .i64)) (hS : P.underlying tS = some .string)
  (cN : P.cellsOf tN = 5) (cL : P.cellsOf tL = 1) (cI : P.cellsOf tI = 1) (cS : P.cellsOf tS = 1) (e0 : f0.type = tI /\ f0.offset = 0) (e1 : f1.type = tS /\ f1.offset = 1) (e2 : f2.type = tI /\ f2.offset = 2) (e3 : f3.type = tI /\ f3.offset = 3) (e4 : f4.type = tL /\ f4.offset = 4) :
  ∀ {fuel : Nat} {cs : List Value} {x : DataW H × List MemPlace}, DataW.trod enc P w base spare held fuel tN cs = some x -> ∃ nd : Nd, RXL X nd.row cs := by
 intro fuel
 induction fuel using Nat.strongRecOn with
 | _ fuel ih =>
 intro cs x h
 obtain ⟨xs, n1, rfl, _, hcl, hxl, hf⟩ := DataW.trod_struct hN h
 rw [cN] at hcl
 match cs, hcl with
 | [c0, c1, c2, c3, c4], _ =>
 match xs, hxl with
 | [y0, y1, y2, y3, y4], _ =>
 have h0 := hf 0 f0 rfl
 have h1 := hf 1 f1 rfl
 have h2 := hf 2 f2 rfl
 have h3 := hf 3 f3 rfl
 have h4 := hf 4 f4 rfl
 rw [e0.1, e0.2, cI] at h0
 rw [e1.1, e1.2, cS] at h1
 rw [e2.1, e2.2, cI] at h2
 rw [e3.1, e3.2, cI] at h3
 rw [e4.1, e4.2, cL] at h4
 obtain ⟨k, g0, _⟩ := DataW.trod_int hI h0
 obtain ⟨t, g1, _⟩ := DataW.trod_string hS h1
 obtain ⟨n, g2, _⟩ := DataW.trod_int hI h2
 obtain ⟨l, g3, _⟩ := DataW.trod_int hI h3
 have q0 : c0 = .int .i64 k := by simpa using g0
 have q1 : c1 = .string t := by simpa using g1
 have q2 : c2 = .int .i64 n := by simpa using g2
 have q3 : c3 = .int .i64 l := by simpa using g3
 subst q0 q1 q2 q3
 have fin : ∀ ks : List Nd, RX X (.xs (rows ks) nodeSh) c4 -> ∃ nd : Nd, RXL X nd.row [.int .i64 k, .string t, .int .i64 n, .int .i64 l, c4] := λ ks hks =>
  ⟨.mk k t.data.toList n l ks, _, _, rfl, ⟨_, _, congrArg Value.string (bs_data t).symm, ⟨_, _, rfl, ⟨_, _, rfl, ⟨_, _, hks, rfl, rfl⟩, rfl⟩, rfl⟩, rfl⟩, rfl⟩
 rcases DataW.trod_slice hL h4 with ⟨g4, _⟩ | ⟨a, len, cap, elems, rest, n2, rfl, g4, _, hb, hl, hm, hlen, hel, _⟩
 ·have q4 : c4 = .slice none 0 0 := by simpa using g4
  subst q4
  exact fin [] ⟨none, 0, [], rfl, Nat.le_refl 0, rfl, λ r hr => (by cases hr), .inl rfl⟩
 ·have q4 : c4 = .slice (some a) len cap := by simpa using g4
  subst q4
  have key : ∀ k, k <= len -> ∃ (l : List Nd) (us : List Value), l.length = k /\ us.length = k * 5 /\ RXLL X (rows l) us /\ ∀ j, j < us.length -> w.cell? (a.add j) = us[j]? := by
   intro k
   induction k with
   | zero => exact λ _ => ⟨[], [], rfl, by simp, rfl, λ j hj => by simp at hj⟩
   | succ k ihk =>
    intro hk
    obtain ⟨l, us, l1, l2, l3, l6⟩ := ihk (by omega)
    have he := hel k (by omega)
    rw [List.getElem?_eq_getElem (by omega)] at he
    obtain ⟨cs', c1, c2⟩ := Option.bind_eq_some_iff.1 he
    obtain ⟨_, c3, c4⟩ := World.cells?_some c1
    obtain ⟨nd, r1⟩ := ih n2 (by omega) c2
    have hcl : cs'.length = 5 := by rw [c3, cN]
    refine ⟨l ++ [nd], us ++ cs', by simp [l1], by rw [List.length_append, l2, hcl, Nat.add_mul, Nat.one_mul], by rw [rows_app]; exact RXLL_snoc l3 r1, λ j hj => ?_⟩
    rw [List.length_append] at hj
    rcases Nat.lt_or_ge j us.length with hj' | hj'
    ·rw [List.getElem?_append_left hj']; exact l6 j hj'
    ·rw [List.getElem?_append_right hj', <- c4 (j - us.length) (by omega), add_add, cN, <- l2]
     congr 2; omega
  obtain ⟨l, us, l1, l2, l3, l6⟩ := key len (Nat.le_refl _)
  refine fin l ⟨some a, cap, us, by rw [zqc, l1], by rw [zqc, l1]; exact hl, l3, rows_sh l, ?_⟩
  rcases Nat.eq_zero_or_pos us.length with z0 | z0
  ·exact .inl (List.eq_nil_of_length_eq_zero z0)
  ·obtain ⟨b, off, c, ty, fr, rfl, g1, g2⟩ := cells_at z0 l6
   refine .inr ⟨b, off, c, ty, fr, rfl, hx b c ty fr g1 (.inr ?_), g2⟩
   cases l with
   | nil => rw [show us = [] from l3] at z0; cases z0
   | cons r l =>
    obtain ⟨x1, x2, y1, y2, rfl⟩ := l3
    obtain ⟨i, v, i1, i2, i3⟩ := notB_cell (sh := nodeSh) rfl (row_sh r) y1
    refine ⟨off + i, v, ?_, i3⟩
    have e1 : ((c.toList.drop off).take (x1 ++ x2).length)[i]? = some v := by
     rw [g2, List.getElem?_append_left i1]; exact i2
    rw [List.getElem?_take_of_lt (by rw [List.length_append]; omega), List.getElem?_drop, Array.getElem?_toList] at e1
    exact e1
theorem arg_nd {X : Hp} (hx : InExt X w false) {r : Reach} {b0 : Nat} {v : Value} {d : DataW H} {ps : List MemPlace} {tI tS tL tN : TypeId} {f0 f1 f2 f3 f4 : Field} (hN : P.underlying tN = some (.struct #[f0, f1, f2, f3, f4])) (hL : P.underlying tL = some (.slice tN)) (hI : P.underlying tI = some (.int .i64)) (hS : P.underlying tS = some .string)
  (cN : P.cellsOf tN = 5) (cL : P.cellsOf tL = 1) (cI : P.cellsOf tI = 1) (cS : P.cellsOf tS = 1) (e0 : f0.type = tI /\ f0.offset = 0) (e1 : f1.type = tS /\ f1.offset = 1) (e2 : f2.type = tI /\ f2.offset = 2) (e3 : f3.type = tI /\ f3.offset = 3) (e4 : f4.type = tL /\ f4.offset = 4)
  (hv : Value.okWide P w r b0 tN v) (h : DataW.Trod enc P w base spare held tN v d ps) : ∃ nd : Nd, ∀ ρ : Rho, ρ.x = X -> R ρ nd.v v := by
 obtain ⟨cs, rfl, _⟩ := okWide_struct hN hv
 obtain ⟨n, h⟩ := h
 obtain ⟨nd, h1⟩ := trod_nd hx hN hL hI hS cN cL cI cS e0 e1 e2 e3 e4 h
 exact ⟨nd, λ ρ e => ⟨cs.toList, RXL_RL (by rw [e]; exact h1), by simp⟩⟩
end
end
end Go.Proofs.YtiilaimcmkdfjaaGreatDoor
