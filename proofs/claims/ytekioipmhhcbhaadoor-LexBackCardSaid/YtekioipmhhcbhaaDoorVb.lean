/- lex.Join's second loop: the rounds behind the third token. -/
import Derived.Test.YtekioipmhhcbhaaDoorV9
set_option linter.unusedVariables false
set_option linter.unusedSectionVars false
set_option linter.unusedSimpArgs false
set_option maxRecDepth 100000
set_option maxHeartbeats 8000000
namespace Go.Proofs.YtekioipmhhcbhaaDoor
open Go Go.Z Go.Q Go.W6
open Go.Y hiding KE KK KR go Task go_sound
noncomputable section
variable [Ext]
variable {hro : List Lk} {k : KK} {ty : Nat} {xs : List (List V)}
theorem zwy (hX : MaxOk) (i : Nat) (st : JS) (f : FJ) (hf : f = .c \/ f = .d \/ f = .e) (r0 r1 r2 r3 : List V) (h : RoundJ xs ⟨i, st, f, r0, r1, r2, r3⟩) (hk1 : i = xs.length -> ∀ (w : V) (tl : List UInt8), k (.exit 2) [] (ofE (ts1J.zip (leJ xs.length 0 (.ssl 2 0 xs.length 1) xs.length))) ⟨6, ofM ([0, 1, 3, 4].zip [spC ty, tokC xs, joC [.ptr 3 0, .ssl 4 0 (txt st.1).length 1, w, .sstr tl], .byt (txt st.1) 5]), hro⟩)
  (hk2 : runJ (xs.map kt) ([], []) = ([], 3) -> ∀ (i : Int) (m : Nat), k .ret [] (ofE (ts1J.zip (leJ xs.length 3 (.ssl 2 0 xs.length 1) i))) ⟨m, ofM ([0, 1].zip [spC ty, tokC xs]), hro⟩) : TJ hro k ty xs (.s ⟨i, st, f, r0, r1, r2, r3⟩) := by
 refine go_sound qmix qNG zqf (gj_fs hX) (zqz rfl) 300 _ ?_
 have hi : i <= xs.length := h.inv.1.2
 have hL := h.rows.1
 have pB : 0 < (txt st.1).length := h.inv.2.1
 have mB : (txt st.1).length <= 20000 := h.inv.2.2.1
 have pBi : (0 : Int) < ((txt st.1).length : Nat) := by omega
 have mT : (cat st.2).length <= 12006 := rj_tail h
 have c5 : I64 ((i : Int) + 1) := by unfold I64; omega
 rcases hf with rfl | rfl | rfl
 all_goals
  refine ⟨trivial, λ h1 => ?_, λ h16 => ?_⟩
  rotate_left
  focus
   have h16 : ¬ (i : Int) < xs.length := of_decide_eq_false h16
   have e : i = xs.length := by omega
   subst e
   exact ⟨leJ xs.length 0 (.ssl 2 0 xs.length 1) xs.length, [0, 1, 3, 4], [spC ty, tokC xs, joC [.ptr 3 0, .ssl 4 0 (txt st.1).length 1, _, .sstr (cat st.2)], .byt (txt st.1) 5], Nat.le_refl 6, rfl, rfl, ⟨zqa _, zqa _, zqa _, zqa _, zqa _, zqa _, zqa _, trivial⟩, ⟨⟨_, rfl, zqb _⟩, ⟨_, rfl, zqb _⟩, ⟨_, rfl, zqb _⟩, ⟨_, rfl, zqb _⟩, trivial⟩, hk1 rfl _ (cat st.2)⟩
  have h1 : (i : Int) < xs.length := of_decide_eq_true h1
  have hlt : i < xs.length := by omega
  obtain ⟨eS, lS, pS⟩ := rj_s h hlt
  have eS : sJ xs i = spW (kt (xs.getD i [])) := eS
  have lS : (sJ xs i).length <= 4002 := lS
  have pS : 0 < (sJ xs i).length := pS
  have ef : fitsF st.2 (kt (xs.getD i [])) = (decide ((scanF (cat st.2 ++ sJ xs i)).2.2 = 0) && _) := rj_fit h hlt
  have ne : st.1 ≠ [] := rj_ne h
  have lg : 20000 < (txt (stepJ st (kt (xs.getD i []))).1).length -> _ := rj_long h hlt
  have dT : (cat st.2).length + (sJ xs i).length <= 9223372036854775807 := by omega
  have sl : (scanF (cat st.2 ++ sJ xs i)).1.length <= (cat st.2).length + (sJ xs i).length := by have := scan_le2 (cat st.2 ++ sJ xs i); rwa [List.length_append] at this
  have eB : List.take (txt st.1).length (txt st.1) = txt st.1 := List.take_length
  have lB : (txt st.1).length + 1 <= (List.take (txt st.1).length (txt st.1) ++ [32]).length := by rw [eB, List.length_append]; exact Nat.le_refl _
  have eC : List.take ((txt st.1).length + 1) (List.take (txt st.1).length (txt st.1) ++ [32]) ++ sJ xs i = txt st.1 ++ [32] ++ spW (kt (xs.getD i [])) := by rw [eB, List.take_of_length_le (by simp), eS]
  have eD : List.take (txt st.1).length (txt st.1) ++ sJ xs i = txt st.1 ++ spW (kt (xs.getD i [])) := by rw [eB, eS]
  have fitQ : fitsF st.2 (kt (xs.getD i [])) = true -> (stepJ st (kt (xs.getD i []))).2 = lastN (st.2 ++ [kt (xs.getD i [])]) /\ txt (stepJ st (kt (xs.getD i []))).1 = txt st.1 ++ spW (kt (xs.getD i [])) := λ h => ⟨(zkA (.inr h)).2, (zkA (.inr h)).1⟩
  have sepQ : fitsF st.2 (kt (xs.getD i [])) = false -> (stepJ st (kt (xs.getD i []))).2 = [kt (xs.getD i [])] /\ txt (stepJ st (kt (xs.getD i []))).1 = txt st.1 ++ [32] ++ spW (kt (xs.getD i [])) := λ h => ⟨(zvN ne h).2, (zvN ne h).1⟩
  have eR : rJ xs i = xs.getD i [] := rJ_eq xs i
  have cc : ∀ (c : List V), chle (.cells (c ++ rV (rJ xs i)) 34 6) (.cells (c ++ rV (xs.getD i [])) 34 6) := λ c => by rw [eR]; exact zqb _
  have ch : ∀ (c : List V), chle (.cellsH (c ++ rV (rJ xs i)) 34 6) (.cellsH (c ++ rV (xs.getD i [])) 34 6) := λ c => by rw [eR]; exact zqb _
  have i1 : 0 + (i : Int).toNat < xs.length := by omega
  have i2 : 0 + (i : Int).toNat < (xs.map wR).length := by rw [List.length_map]; omega
  have x0 : (0 : Int) <= (i : Int) := Int.natCast_nonneg i
  have st2 := h.inv.2.2.2.1
  dsimp only at st2
  have eT2 : fitsF st.2 (kt (xs.getD i [])) = false -> cat (stepJ st (kt (xs.getD i []))).2 = sJ xs i := λ h => by rw [(sepQ h).1, eS]; simp [cat]
  have lenF : ∀ {b : List UInt8}, txt (stepJ st (kt (xs.getD i []))).1 = b -> b.length <= 20000 -> (txt (stepJ st (kt (xs.getD i []))).1).length <= 20000 := λ h1 h2 => by rw [h1]; exact h2
  have hm1 : r1 ∈ xs := h.inv.2.2.2.2.1 r1 (by show r1 ∈ [r1, r2, r3]; simp)
  have t1 := rj_tok h hm1
  have dF : (vS (r1.getD 1 .und)).length <= 20000 := by have := h.rows.2 r1 hm1; exact Nat.le_trans this (by decide)
  have e1 : (spR r1).1 = spW (kt r1) := t1.2.1
  have eT : cat st.2 = spW (kt r1) ++ (spW (kt r2) ++ spW (kt r3)) := by rw [st2]; simp [rowsJ, cat]
  have dF1 : (0 : Int) <= ((spR r1).1.length : Nat) := Int.natCast_nonneg _
  have dF2 : ((spR r1).1.length : Int) <= ((cat st.2 ++ sJ xs i).length : Nat) := by rw [eT, e1]; simp only [List.length_append]; omega
  have tl2 : (stepJ st (kt (xs.getD i []))).2 = lastN (st.2 ++ [kt (xs.getD i [])]) -> List.drop (((spR r1).1.length : Nat) : Int).toNat (cat st.2 ++ sJ xs i) = cat (stepJ st (kt (xs.getD i []))).2 := λ h => by
   rw [h, eT, e1, eS, st2, Int.toNat_natCast, List.append_assoc, List.drop_left]
   simp [rowsJ, lastN, cat]
  refine ⟨⟨x0, h1⟩, i1, ⟨x0, h1⟩, i2, trivial, trivial, λ h2 => ⟨dT, rfl, trivial, λ h3 => ⟨⟨rfl, rfl, rfl, rfl, (List.length_map ..).symm, rfl, (by omega : (scanF (cat st.2 ++ sJ xs i)).1.length <= 30000)⟩, λ h4 => ?_, λ h7 => ?_⟩, λ h10 => ?_⟩, λ h13 => absurd pBi (of_decide_eq_false h13)⟩
  ·have h3 : ((scanF (cat st.2 ++ sJ xs i)).2.2 : Int) = 0 := of_decide_eq_true h3
   have ff : fitsF st.2 (kt (xs.getD i [])) = true := ef.trans (by rw [decide_eq_true (show (scanF (cat st.2 ++ sJ xs i)).2.2 = 0 by omega), Bool.true_and]; exact h4)
   refine ⟨⟨⟨pB, Nat.le_refl _⟩, trivial, (by omega : ((txt st.1).length + (sJ xs i).length) * 1 <= 140737488355328), (by omega : 0 < (txt st.1).length + (sJ xs i).length)⟩, trivial, dT, ⟨dF, rfl⟩, trivial, ⟨dF1, dF2⟩, trivial, trivial, λ h5 => ?_, λ h6 => ⟨c5, ?_⟩⟩
   ·have h5 : (20000 : Int) < ((txt st.1).length + (sJ xs i).length : Nat) := of_decide_eq_true h5
    exact leafR (hro := hro) (k := k) (x := .z) (hk2 (lg (by rw [(fitQ ff).2, List.length_append, <- eS]; omega))) 17 (by decide) rfl rfl rfl
   ·have h6 : ¬ (20000 : Int) < ((txt st.1).length + (sJ xs i).length : Nat) := of_decide_eq_false h6
    exact leafN (hro := hro) (k := k) (x := .s ⟨i, st, .a, r0, r1, r2, r3⟩) (inv_fit h.inv hlt ff (lenF (fitQ ff).2 (by rw [List.length_append, <- eS]; omega))) (by show xs.length - (i + 1) < xs.length - i; omega) 17 14 16 rfl (by show (txt st.1).length + (sJ xs i).length = (txt (stepJ st (kt (xs.getD i []))).1).length; rw [(fitQ ff).2, List.length_append, eS]) (tl2 (fitQ ff).1) (eD.trans (fitQ ff).2.symm) (by decide) rfl rfl rfl rfl rfl rfl rfl (zqa _) (by first | exact cc (rV r1 ++ (rV r2 ++ rV r3)) | exact ch (rV r1 ++ (rV r2 ++ rV r3))) ⟨rfl, rfl, rfl, rfl⟩ rfl
  ·have ff : fitsF st.2 (kt (xs.getD i [])) = false := ef.trans (by rw [Bool.and_eq_false_iff]; exact .inr h7)
   refine ⟨⟨⟨pB, Nat.le_refl _⟩, (λ v hv => byte_32 hv), (by omega : ((txt st.1).length + 1) * 1 <= 140737488355328), Nat.succ_pos _⟩, ⟨⟨Nat.succ_pos _, lB⟩, trivial, (by omega : ((txt st.1).length + 1 + (sJ xs i).length) * 1 <= 140737488355328), (by omega : 0 < (txt st.1).length + 1 + (sJ xs i).length)⟩, trivial, (by omega : 0 + (sJ xs i).length <= 9223372036854775807), trivial, trivial, λ h8 => ?_, λ h9 => ⟨c5, ?_⟩⟩
   ·have h8 : (20000 : Int) < ((txt st.1).length + 1 + (sJ xs i).length : Nat) := of_decide_eq_true h8
    exact leafR (hro := hro) (k := k) (x := .z) (hk2 (lg (by rw [(sepQ ff).2, List.length_append, List.length_append, <- eS]; simp only [List.length_cons, List.length_nil]; omega))) 19 (by decide) rfl rfl rfl
   ·have h9 : ¬ (20000 : Int) < ((txt st.1).length + 1 + (sJ xs i).length : Nat) := of_decide_eq_false h9
    exact leafN (hro := hro) (k := k) (x := .s ⟨i, st, .a, r0, r1, r2, r3⟩) (inv_sep h.inv hlt ff (lenF (sepQ ff).2 (by rw [List.length_append, List.length_append, <- eS]; simp only [List.length_cons, List.length_nil]; omega))) (by show xs.length - (i + 1) < xs.length - i; omega) 19 16 18 rfl (by show (txt st.1).length + 1 + (sJ xs i).length = (txt (stepJ st (kt (xs.getD i []))).1).length; rw [(sepQ ff).2, List.length_append, List.length_append, eS]; rfl) (eT2 ff).symm (eC.trans (sepQ ff).2.symm) (by decide) rfl rfl rfl rfl rfl rfl rfl (zqa _) (cc []) ⟨rfl, rfl, rfl, rfl⟩ rfl
  ·have h10 : ¬ ((scanF (cat st.2 ++ sJ xs i)).2.2 : Int) = 0 := of_decide_eq_false h10
   have ff : fitsF st.2 (kt (xs.getD i [])) = false := ef.trans (by rw [decide_eq_false (show ¬ (scanF (cat st.2 ++ sJ xs i)).2.2 = 0 by omega)]; rfl)
   refine ⟨⟨⟨pB, Nat.le_refl _⟩, (λ v hv => byte_32 hv), (by omega : ((txt st.1).length + 1) * 1 <= 140737488355328), Nat.succ_pos _⟩, ⟨⟨Nat.succ_pos _, lB⟩, trivial, (by omega : ((txt st.1).length + 1 + (sJ xs i).length) * 1 <= 140737488355328), (by omega : 0 < (txt st.1).length + 1 + (sJ xs i).length)⟩, trivial, (by omega : 0 + (sJ xs i).length <= 9223372036854775807), trivial, trivial, λ h8 => ?_, λ h9 => ⟨c5, ?_⟩⟩
   ·have h8 : (20000 : Int) < ((txt st.1).length + 1 + (sJ xs i).length : Nat) := of_decide_eq_true h8
    exact leafR (hro := hro) (k := k) (x := .z) (hk2 (lg (by rw [(sepQ ff).2, List.length_append, List.length_append, <- eS]; simp only [List.length_cons, List.length_nil]; omega))) 15 (by decide) rfl rfl rfl
   ·have h9 : ¬ (20000 : Int) < ((txt st.1).length + 1 + (sJ xs i).length : Nat) := of_decide_eq_false h9
    exact leafN (hro := hro) (k := k) (x := .s ⟨i, st, .a, r0, r1, r2, r3⟩) (inv_sep h.inv hlt ff (lenF (sepQ ff).2 (by rw [List.length_append, List.length_append, <- eS]; simp only [List.length_cons, List.length_nil]; omega))) (by show xs.length - (i + 1) < xs.length - i; omega) 15 12 14 rfl (by show (txt st.1).length + 1 + (sJ xs i).length = (txt (stepJ st (kt (xs.getD i []))).1).length; rw [(sepQ ff).2, List.length_append, List.length_append, eS]; rfl) (eT2 ff).symm (eC.trans (sepQ ff).2.symm) (by decide) rfl rfl rfl rfl rfl rfl rfl (zqa _) (cc []) ⟨rfl, rfl, rfl, rfl⟩ rfl
end
end Go.Proofs.YtekioipmhhcbhaaDoor
