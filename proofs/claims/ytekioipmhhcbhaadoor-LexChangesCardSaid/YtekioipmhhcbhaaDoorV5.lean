/- The scan of two sources with a line feed between them: plain laws, no program in sight. -/
import Derived.Test.YtekioipmhhcbhaaDoorV3
import Derived.Test.YtekioipmhhcbhaaDoorV4
set_option linter.unusedVariables false
set_option linter.unusedSimpArgs false
set_option maxRecDepth 20000
namespace Go.Proofs.YtekioipmhhcbhaaDoor
open Go Go.Z Go.W6
noncomputable section
inductive Ends (s : List UInt8) : Nat -> List Tok -> Scn -> Prop
 | stop {i l r} : stepF s i l = r -> endB r = true -> Ends s i l r
 | step {i l i' l' r} : stepF s i l = .go i' l' -> Ends s i' l' r -> Ends s i l r
theorem Ends.det {s : List UInt8} {i : Nat} {l : List Tok} {r r' : Scn} (h : Ends s i l r) (h' : Ends s i l r') : r = r' := by
 induction h with
 | stop h1 h2 =>
  cases h' with
  | stop h3 h4 => exact h1.symm.trans h3
  | step h3 h4 => rw [h1] at h3; subst h3; cases h2
 | step h1 h2 ih =>
  cases h' with
  | stop h3 h4 => rw [h1] at h3; subst h3; cases h4
  | step h3 h4 =>
   rw [h1] at h3
   cases h3
   exact ih h4
theorem zvh {s : List UInt8} {i i' : Nat} {l l' : List Tok} (hi : i <= s.length) (h : stepF s i l = .go i' l') : i < i' /\ i' <= s.length /\ l'.length = l.length + 1 := by
 unfold stepF at h
 split at h
 ·cases h
 ·rename_i j hj
  have h1 := (zjY _ i (Nat.le_refl _) hi).1 j hj
  split at h
  ·cases h
  ·split at h
   ·cases h
   ·rename_i t ht
    have h2 := tok_le (by omega) ht
    split at h
    ·cases h
    ·split at h
     ·cases h
     ·cases h
      refine ⟨by omega, h2.2.1, by simp⟩
theorem run_succ (s : List UInt8) (n : Nat) : runF s (n + 1) = match runF s n with | .go i l => stepF s i l | r => r := rfl
theorem run_reach {s : List UInt8} : ∀ n, (∃ i l, runF s n = .go i l /\ n <= i /\ i <= s.length /\ l.length = n) \/ endB (runF s n) = true
 | 0 => .inl ⟨0, [], rfl, Nat.le_refl _, Nat.zero_le _, rfl⟩
 | n + 1 => by
  rw [run_succ]
  rcases run_reach (s := s) n with ⟨i, l, h, h1, h2, h3⟩ | h
  ·rw [h]
   dsimp only
   cases hs : stepF s i l with
   | go i' l' =>
    have := zvh h2 hs
    exact .inl ⟨i', l', rfl, by omega, this.2.1, by omega⟩
   | done l' => exact .inr rfl
   | err a e => exact .inr rfl
  ·right
   cases hr : runF s n with
   | go i l => rw [hr] at h; cases h
   | done l' => rfl
   | err a e => rfl
theorem end_end (s : List UInt8) : endB (zqv s) = true := by
 unfold zqv
 rcases run_reach (s := s) (s.length + 1) with ⟨i, l, h, h1, h2, h3⟩ | h
 ·omega
 ·exact h
theorem ends_run {s : List UInt8} : ∀ {n i l r}, runF s n = .go i l -> Ends s i l r -> Ends s 0 [] r
 | 0, i, l, r, h, he => by cases h; exact he
 | n + 1, i, l, r, h, he => by
  rw [run_succ] at h
  cases hr : runF s n with
  | go i' l' =>
   rw [hr] at h
   exact ends_run hr (.step h he)
  | done l' => rw [hr] at h; cases h
  | err a e => rw [hr] at h; cases h
theorem zjK (s : List UInt8) : Ends s 0 [] (zqv s) := by
 have he := end_end s
 unfold zqv at he ⊢
 have : ∀ n, endB (runF s n) = true -> Ends s 0 [] (runF s n) := by
  intro n
  induction n with
  | zero => intro h; cases h
  | succ n ih =>
   intro h
   rw [run_succ] at h ⊢
   cases hr : runF s n with
   | go i l =>
    rw [hr] at h
    exact ends_run hr (.stop rfl h)
   | done l => have := ih (by rw [hr]; rfl); rw [hr] at this; exact this
   | err a e => have := ih (by rw [hr]; rfl); rw [hr] at this; exact this
 exact this _ he
theorem ends_eq {s : List UInt8} {r : Scn} (h : Ends s 0 [] r) : zqv s = r := (zjK s).det h
theorem skipL_n (m : Bool) (p : Nat) : skipL m [] p = .ok p := by cases m <;> rfl
theorem skipL_f (c : UInt8) (l : List UInt8) (p : Nat) : skipL false (c :: l) p = if c.toNat = 32 \/ c.toNat = 10 then skipL false l (p + 1) else if c.toNat = 36 then skipL true l (p + 1) else .ok p := rfl
theorem skipL_t (c : UInt8) (l : List UInt8) (p : Nat) : skipL true (c :: l) p = if c.toNat = 10 then skipL false l (p + 1) else if plainB c then skipL true l (p + 1) else .error p := rfl
theorem zjz : ∀ (l r : List UInt8) (m : Bool) (p : Nat), skipL m (l ++ 10 :: r) p = match skipL m l p with
  | .ok j => if j < p + l.length then .ok j else skipL false r (p + l.length + 1)
  | .error e => .error e
 | [], r, m, p => by
  rw [List.nil_append, skipL_n]
  dsimp only
  rw [if_neg (by simp)]
  cases m
  ·rw [skipL_f, if_pos (Or.inr (show UInt8.toNat 10 = 10 from rfl))]; rfl
  ·rw [skipL_t, if_pos (show UInt8.toNat 10 = 10 from rfl)]; rfl
 | c :: l, r, m, p => by
  have e1 : p + (c :: l).length = p + 1 + l.length := by simp; omega
  rw [e1, List.cons_append]
  cases m
  ·rw [skipL_f, skipL_f]
   split
   ·rw [zjz l r false (p + 1)]
   ·split
    ·rw [zjz l r true (p + 1)]
    ·dsimp only; rw [if_pos (by omega)]
  ·rw [skipL_t, skipL_t]
   split
   ·rw [zjz l r false (p + 1)]
   ·split
    ·rw [zjz l r true (p + 1)]
    ·rfl
theorem drop_pre {a c : List UInt8} {i : Nat} (hi : i <= a.length) : (a ++ c).drop i = a.drop i ++ c := List.drop_append_of_le_length hi
theorem skip_pre (a b : List UInt8) {i : Nat} (hi : i <= a.length) : skipF (a ++ 10 :: b) i = match skipF a i with
  | .ok j => if j < a.length then .ok j else skipF (a ++ 10 :: b) (a.length + 1)
  | .error e => .error e := by
 have h2 : skipF (a ++ 10 :: b) (a.length + 1) = skipL false b (a.length + 1) := by
  unfold skipF
  congr 1
  rw [show a ++ 10 :: b = (a ++ [10]) ++ b by simp, show a.length + 1 = (a ++ [10]).length by simp, List.drop_left]
 rw [h2]
 unfold skipF
 rw [drop_pre hi, zjz]
 have : i + (a.drop i).length = a.length := by rw [List.length_drop]; omega
 rw [this]
theorem getD_pre {a c : List UInt8} {i : Nat} (hi : i < a.length) : (a ++ c).getD i 0 = a.getD i 0 := by
 rw [List.getD_eq_getElem?_getD, List.getD_eq_getElem?_getD, List.getElem?_append_left hi]
theorem isAt_pre {p : UInt8 -> Bool} {a b : List UInt8} (h10 : p 10 = false) {i : Nat} (hi : i <= a.length) : isAt p (a ++ 10 :: b) i = isAt p a i := by
 unfold isAt
 rcases Nat.lt_or_ge i a.length with h | h
 ·rw [List.getElem?_append_left h]
 ·have : i = a.length := by omega
  subst this
  rw [List.getElem?_append_right (Nat.le_refl _), List.getElem?_eq_none (Nat.le_refl _)]
  simp [h10]
theorem takeW_app {p : UInt8 -> Bool} {b : List UInt8} (h10 : p 10 = false) : ∀ l : List UInt8, (l ++ 10 :: b).takeWhile p = l.takeWhile p
 | [] => by simp [List.takeWhile_cons, h10]
 | c :: l => by
  rw [List.cons_append, List.takeWhile_cons, List.takeWhile_cons, takeW_app h10 l]
theorem end_pre {p : UInt8 -> Bool} {a b : List UInt8} (h10 : p 10 = false) {i : Nat} (hi : i <= a.length) : endF p (a ++ 10 :: b) i = endF p a i := by
 unfold endF
 rw [drop_pre hi, takeW_app h10]
theorem cut_pre {a c : List UInt8} {i j : Nat} (hj : j <= a.length) : cutF (a ++ c) i j = cutF a i j := by
 unfold cutF
 rw [List.take_append_of_le_length hj]
theorem num_pre {a b : List UInt8} {i : Nat} (hi : i <= a.length) : numF (a ++ 10 :: b) i = numF a i := by
 have h1 := end_pre (p := digB) (b := b) rfl hi
 have h2 := zjt (p := digB) hi
 have e1 : digF (a ++ 10 :: b) i = digF a i := h1
 have h2 : i <= digF a i /\ digF a i <= a.length := h2
 unfold numF
 dsimp only
 rw [e1, isAt_pre (by rfl) h2.2, cut_pre h2.2]
 rcases Nat.lt_or_ge (digF a i) a.length with h | h
 ·rw [isAt_pre (p := digB) (by rfl) (by omega : digF a i + 1 <= a.length)]
  have h3 := zjt (p := digB) (s := a) (i := digF a i + 1) (by omega)
  have e3 : digF (a ++ 10 :: b) (digF a i + 1) = digF a (digF a i + 1) := end_pre rfl (by omega)
  have h3 : digF a i + 1 <= digF a (digF a i + 1) /\ digF a (digF a i + 1) <= a.length := h3
  rw [e3, cut_pre h3.2]
 ·have h0 : isAt (λ b => b.toNat == 46) a (digF a i) = false := zkY h
  rw [h0, Bool.false_and, if_pos rfl, Bool.false_and, if_pos rfl]
theorem textL_app (b : List UInt8) : ∀ (l : List UInt8) (p : Nat) (acc : List UInt8) (bad : Int), textL (l ++ 10 :: b) p acc bad = textL l p acc bad := by
 intro l p acc bad
 induction l, p, acc, bad using textL.induct with
 | case1 p acc bad => show textL (10 :: b) p acc bad = _; unfold textL; rfl
 | case2 c l p acc bad h1 =>
  rw [List.cons_append]
  conv => lhs; unfold textL
  conv => rhs; unfold textL
  rw [if_pos h1, if_pos h1]
 | case3 c p acc bad h1 h2 d l' h3 ih =>
  rw [List.cons_append, List.cons_append]
  conv => lhs; unfold textL
  conv => rhs; unfold textL
  rw [if_neg h1, if_pos h2, if_neg h1, if_pos h2]
  dsimp only
  rw [if_pos h3, if_pos h3, ih]
 | case4 c p acc bad h1 h2 d l' h3 =>
  rw [List.cons_append, List.cons_append]
  conv => lhs; unfold textL
  conv => rhs; unfold textL
  rw [if_neg h1, if_pos h2, if_neg h1, if_pos h2]
  dsimp only
  rw [if_neg h3, if_neg h3]
 | case5 c p acc bad h1 h2 =>
  show textL (c :: 10 :: b) p acc bad = _
  conv => lhs; unfold textL
  conv => rhs; unfold textL
  rw [if_neg h1, if_pos h2, if_neg h1, if_pos h2]
  rfl
 | case6 c l p acc bad h1 h2 ih =>
  rw [List.cons_append]
  conv => lhs; unfold textL
  conv => rhs; unfold textL
  rw [if_neg h1, if_neg h2, if_neg h1, if_neg h2, ih]
theorem text_pre {a b : List UInt8} {i : Nat} (hi : i < a.length) : textF (a ++ 10 :: b) i = textF a i := by
 unfold textF
 rw [drop_pre (by omega : i + 1 <= a.length), textL_app]
theorem signs_10 : ∀ w ∈ signsL, (10 : UInt8) ∉ w := by decide
theorem sign_pre {a b : List UInt8} {i : Nat} (hi : i < a.length) : signN (a ++ 10 :: b) i = signN a i := by
 unfold signN
 rcases Nat.lt_or_ge (i + 1) a.length with h | h
 ·rw [cut_pre (by omega : i + 2 <= a.length)]
  have : i + 2 <= (a ++ 10 :: b).length ↔ i + 2 <= a.length := by simp; omega
  simp only [this]
 ·rw [if_neg (by omega : ¬ (i + 2 <= a.length /\ _)), if_neg]
  rintro ⟨h1, h2⟩
  refine signs_10 _ h2 ?_
  have e : i + 1 = a.length := by omega
  unfold cutF
  have h3 : (((a ++ 10 :: b).take (i + 2)).drop i)[1]? = some 10 := by
   rw [List.getElem?_drop, List.getElem?_take, if_pos (by omega), e, List.getElem?_append_right (Nat.le_refl _)]
   simp
  exact List.mem_of_getElem? h3
theorem tok_pre {a b : List UInt8} {i : Nat} (hi : i < a.length) : tokF (a ++ 10 :: b) i = tokF a i := by
 have h1 : nameF (a ++ 10 :: b) i = nameF a i := end_pre (by rfl) (Nat.le_of_lt hi)
 have h2 : nameF a i <= a.length := (zjt (p := restB) (Nat.le_of_lt hi)).2
 have h3 : i + signN a i <= a.length := by
  unfold signN
  split <;> omega
 unfold tokF
 dsimp only
 rw [getD_pre hi, h1, cut_pre h2, num_pre (Nat.le_of_lt hi), text_pre hi, sign_pre hi, cut_pre h3]
def mapK (d : Nat) : Except Nat Nat -> Except Nat Nat
 | .ok j => .ok (d + j)
 | .error e => .error (d + e)
theorem zxU (d : Nat) : ∀ (l : List UInt8) (m : Bool) (p : Nat), skipL m l (d + p) = mapK d (skipL m l p)
 | [], m, p => by rw [skipL_n, skipL_n]; rfl
 | c :: l, m, p => by
  cases m
  ·rw [skipL_f, skipL_f]
   split
   ·exact zxU d l false (p + 1)
   ·split
    ·exact zxU d l true (p + 1)
    ·rfl
  ·rw [skipL_t, skipL_t]
   split
   ·exact zxU d l false (p + 1)
   ·split
    ·exact zxU d l true (p + 1)
    ·rfl
theorem drop_suf {c b : List UInt8} {i : Nat} : (c ++ b).drop (c.length + i) = b.drop i := by
 rw [<- List.drop_drop, List.drop_left]
theorem skip_suf (c b : List UInt8) (i : Nat) : skipF (c ++ b) (c.length + i) = mapK c.length (skipF b i) := by
 unfold skipF
 rw [drop_suf, zxU]
theorem isAt_suf {p : UInt8 -> Bool} {c b : List UInt8} {i : Nat} : isAt p (c ++ b) (c.length + i) = isAt p b i := by
 unfold isAt
 rw [List.getElem?_append_right (by omega), Nat.add_sub_cancel_left]
theorem getD_suf {c b : List UInt8} {i : Nat} : (c ++ b).getD (c.length + i) 0 = b.getD i 0 := by
 rw [List.getD_eq_getElem?_getD, List.getD_eq_getElem?_getD, List.getElem?_append_right (by omega), Nat.add_sub_cancel_left]
theorem end_suf {p : UInt8 -> Bool} {c b : List UInt8} {i : Nat} : endF p (c ++ b) (c.length + i) = c.length + endF p b i := by
 unfold endF
 rw [drop_suf]; omega
theorem cut_suf {c b : List UInt8} {i j : Nat} : cutF (c ++ b) (c.length + i) (c.length + j) = cutF b i j := by
 unfold cutF
 rw [List.take_append, List.take_of_length_le (by omega), Nat.add_sub_cancel_left, drop_suf]
theorem num_suf {c b : List UInt8} {i : Nat} : numF (c ++ b) (c.length + i) = (numF b i).map λ x => (x.1, x.2.1, c.length + x.2.2) := by
 have e1 : digF (c ++ b) (c.length + i) = c.length + digF b i := end_suf
 have e2 : digF (c ++ b) (c.length + digF b i + 1) = c.length + digF b (digF b i + 1) := by rw [Nat.add_assoc]; exact end_suf
 unfold numF
 dsimp only
 rw [e1, isAt_suf, e2, Nat.add_assoc, isAt_suf, cut_suf, cut_suf, show c.length + digF b i - (c.length + i) = digF b i - i by omega, show c.length + digF b (digF b i + 1) - (c.length + (digF b i + 1)) = digF b (digF b i + 1) - (digF b i + 1) by omega]
 split
 ·split <;> rfl
 ·split <;> rfl
def mvB (d : Nat) (bad : Int) : Int := if bad < 0 then bad else d + bad
theorem textL_move (d : Nat) : ∀ (l : List UInt8) (p : Nat) (acc : List UInt8) (bad : Int), textL l (d + p) acc (mvB d bad) = (textL l p acc bad).map λ x => (x.1, d + x.2.1, mvB d x.2.2) := by
 intro l p acc bad
 induction l, p, acc, bad using textL.induct with
 | case1 p acc bad => unfold textL; rfl
 | case2 c l p acc bad h1 => unfold textL; rw [if_pos h1, if_pos h1]; rfl
 | case3 c p acc bad h1 h2 d' l' h3 ih =>
  conv => lhs; unfold textL
  conv => rhs; unfold textL
  rw [if_neg h1, if_pos h2, if_neg h1, if_pos h2]
  dsimp only
  rw [if_pos h3, if_pos h3, <- ih]; rfl
 | case4 c p acc bad h1 h2 d' l' h3 =>
  conv => lhs; unfold textL
  conv => rhs; unfold textL
  rw [if_neg h1, if_pos h2, if_neg h1, if_pos h2]
  dsimp only
  rw [if_neg h3, if_neg h3]; rfl
 | case5 c p acc bad h1 h2 =>
  conv => lhs; unfold textL
  conv => rhs; unfold textL
  rw [if_neg h1, if_pos h2, if_neg h1, if_pos h2]
  rfl
 | case6 c l p acc bad h1 h2 ih =>
  conv => lhs; unfold textL
  conv => rhs; unfold textL
  rw [if_neg h1, if_neg h2, if_neg h1, if_neg h2, <- ih]
  congr 1
  unfold mvB
  split <;> split <;> (try split) <;> (try split) <;> first | rfl | omega | (exfalso; omega) | skip
  all_goals (simp_all; try omega)
theorem text_suf {c b : List UInt8} {i : Nat} : textF (c ++ b) (c.length + i) = match textF b i with
  | .ok (t, e, bad) => .ok (t, c.length + e, mvB c.length bad)
  | .error e => .error e := by
 unfold textF
 have := textL_move c.length (b.drop (i + 1)) (i + 1) [] (-1)
 rw [show mvB c.length (-1) = -1 from rfl] at this
 rw [Nat.add_assoc, drop_suf, this]
 cases textL (b.drop (i + 1)) (i + 1) [] (-1) with
 | none => rfl
 | some x =>
  obtain ⟨t, e, bad⟩ := x
  simp only [Option.map_some]
  split <;> rfl
theorem sign_suf {c b : List UInt8} {i : Nat} : signN (c ++ b) (c.length + i) = signN b i := by
 unfold signN
 rw [show c.length + i + 2 = c.length + (i + 2) by omega, cut_suf]
 have : c.length + (i + 2) <= (c ++ b).length ↔ i + 2 <= b.length := by simp
 simp only [this]
def mvT (d : Nat) : Except Nat TokR -> Except Nat TokR
 | .ok x => .ok ⟨x.kind, x.text, d + x.to, mvB d x.bad⟩
 | .error e => .error e
theorem tok_suf {c b : List UInt8} {i : Nat} : tokF (c ++ b) (c.length + i) = mvT c.length (tokF b i) := by
 have h1 : nameF (c ++ b) (c.length + i) = c.length + nameF b i := end_suf
 unfold tokF
 dsimp only
 rw [getD_suf, h1, cut_suf, num_suf, text_suf, sign_suf, Nat.add_assoc, cut_suf]
 split
 ·split
  ·rfl
  ·split <;> rfl
 ·split
  ·cases numF b i with
   | none => rfl
   | some x => obtain ⟨k, t, e⟩ := x; rfl
  ·split
   ·cases textF b i with
    | error e => rfl
    | ok x => obtain ⟨t, e, bad⟩ := x; rfl
   ·split
    ·split <;> rfl
    ·rfl
end
end Go.Proofs.YtekioipmhhcbhaaDoor
set_option maxRecDepth 20000
namespace Go.Proofs.YtekioipmhhcbhaaDoor
open Go Go.Z Go.W6
noncomputable section
theorem tokF_err {s : List UInt8} {i e : Nat} (h : tokF s i = .error e) : e ≠ 0 := by
 unfold tokF at h
 dsimp only at h
 split at h
 ·split at h
  ·cases h
  ·split at h
   ·cases h; decide
   ·cases h
 ·split at h
  ·split at h
   ·cases h
   ·cases h; decide
  ·split at h
   ·split at h
    ·cases h
    ·rename_i hh
     cases h
     unfold textF at hh
     split at hh
     ·cases hh; decide
     ·split at hh
      ·cases hh; decide
      ·cases hh
   ·split at h
    ·split at h
     ·cases h
     ·cases h; decide
    ·cases h; decide
def Lie (s : List UInt8) (l : List Tok) : Prop := ∀ t ∈ l, t.at_ < t.to /\ t.to <= s.length
theorem ends_facts {s : List UInt8} {i : Nat} {l : List Tok} {r : Scn} (h : Ends s i l r) : i <= s.length -> l.length <= i -> Lie s l -> (∀ x, r = .done x -> x.length <= s.length /\ Lie s x) /\ (∀ p e, r = .err p e -> 0 <= p /\ p < s.length /\ e ≠ 0) := by
 induction h with
 | @stop i l r h1 h2 =>
  intro hi hl hlie
  unfold stepF at h1
  split at h1
  ·rename_i b hb
   have := (zjY _ i (Nat.le_refl _) hi).2 b hb
   cases h1
   exact ⟨λ x hx => (by cases hx), λ p e hx => by cases hx; refine ⟨by omega, by omega, by decide⟩⟩
  ·rename_i j hj
   have hij := (zjY _ i (Nat.le_refl _) hi).1 j hj
   split at h1
   ·cases h1; exact ⟨λ x hx => by cases hx; exact ⟨by omega, hlie⟩, λ p e hx => (by cases hx)⟩
   ·rename_i hlt
    split at h1
    ·rename_i e0 ht
     cases h1
     exact ⟨λ x hx => (by cases hx), λ p e hx => by cases hx; exact ⟨by omega, by omega, tokF_err ht⟩⟩
    ·rename_i t ht
     have htl := tok_le (by omega) ht
     split at h1
     ·cases h1; exact ⟨λ x hx => (by cases hx), λ p e hx => by cases hx; refine ⟨by omega, by omega, by decide⟩⟩
     ·split at h1
      ·cases h1; exact ⟨λ x hx => (by cases hx), λ p e hx => by cases hx; refine ⟨by omega, by omega, by decide⟩⟩
      ·subst h1; cases h2
 | @step i l i' l' r h1 h2 ih =>
  intro hi hl hlie
  have hinc := zvh hi h1
  refine ih hinc.2.1 (by omega) ?_
  unfold stepF at h1
  split at h1
  ·cases h1
  ·rename_i j hj
   have hij := (zjY _ i (Nat.le_refl _) hi).1 j hj
   split at h1
   ·cases h1
   ·split at h1
    ·cases h1
    ·rename_i t ht
     have htl := tok_le (by omega) ht
     split at h1
     ·cases h1
     ·split at h1
      ·cases h1
      ·cases h1
       intro t' ht'
       rcases List.mem_append.1 ht' with h | h
       ·exact hlie t' h
       ·rw [List.mem_singleton.1 h]; exact ⟨htl.1, htl.2.1⟩
theorem scan_facts (s : List UInt8) : (∀ x, zqv s = .done x -> x.length <= s.length /\ Lie s x) /\ (∀ p e, zqv s = .err p e -> 0 <= p /\ p < s.length /\ e ≠ 0) :=
 ends_facts (zjK s) (Nat.zero_le _) (Nat.zero_le _) (λ t h => by cases h)
theorem zjk {s : List UInt8} (hs : s.length <= 20000) : (∃ x, zqv s = .done x /\ scanF s = (x, 0, 0) /\ x.length <= s.length /\ Lie s x) \/ (∃ p e, zqv s = .err p e /\ scanF s = ([], p, e) /\ 0 <= p /\ p < s.length /\ e ≠ 0) := by
 have h1 := scanF_eq s
 rw [if_neg (by omega)] at h1
 have h2 := scan_facts s
 have h3 := end_end s
 cases he : zqv s with
 | done x => rw [he] at h1; exact .inl ⟨x, rfl, h1, h2.1 x he⟩
 | err p e => rw [he] at h1; exact .inr ⟨p, e, rfl, h1, h2.2 p e he⟩
 | go i l => rw [he] at h3; cases h3
theorem step_same {s : List UInt8} {i i' : Nat} (h : skipF s i = skipF s i') (l : List Tok) : stepF s i l = stepF s i' l := by
 unfold stepF; rw [h]
theorem step_pre {a b : List UInt8} {i : Nat} (hi : i <= a.length) (l : List Tok) :
  (stepF (a ++ 10 :: b) i l = stepF a i l /\ ∀ x, stepF a i l ≠ .done x) \/ (stepF a i l = .done l /\ stepF (a ++ 10 :: b) i l = stepF (a ++ 10 :: b) (a.length + 1) l) := by
 have hs := skip_pre a b hi
 cases hj : skipF a i with
 | error e =>
  rw [hj] at hs
  left
  unfold stepF
  rw [hs, hj]
  exact ⟨rfl, λ x h => by cases h⟩
 | ok j =>
  rw [hj] at hs
  dsimp only at hs
  have hij := (zjY _ i (Nat.le_refl _) hi).1 j hj
  rcases Nat.lt_or_ge j a.length with h | h
  ·rw [if_pos h] at hs
   left
   unfold stepF
   rw [hs, hj]
   dsimp only
   rw [if_neg (by simp; omega), if_neg (by omega), tok_pre h]
   refine ⟨rfl, λ x hx => ?_⟩
   split at hx
   ·cases hx
   ·split at hx
    ·cases hx
    ·split at hx <;> cases hx
  ·rw [if_neg (by omega)] at hs
   exact .inr ⟨step_done hj h, step_same hs l⟩
theorem ends_pre {a b : List UInt8} {i : Nat} {l : List Tok} {r : Scn} (h : Ends a i l r) : i <= a.length -> (∀ p e, r = .err p e -> Ends (a ++ 10 :: b) i l (.err p e)) /\ (∀ x, r = .done x -> ∀ r', Ends (a ++ 10 :: b) (a.length + 1) x r' -> Ends (a ++ 10 :: b) i l r') := by
 induction h with
 | @stop i l r h1 h2 =>
  intro hi
  rcases step_pre (b := b) hi l with ⟨e1, e2⟩ | ⟨e1, e2⟩
  ·rw [h1] at e1 e2
   exact ⟨λ p e hr => by subst hr; exact .stop e1 rfl, λ x hx => absurd hx (e2 x)⟩
  ·rw [e1] at h1
   subst h1
   refine ⟨λ p e hr => (by cases hr), λ x hx r' hr' => ?_⟩
   cases hx
   cases hr' with
   | stop h3 h4 => exact .stop (by rw [e2]; exact h3) h4
   | step h3 h4 => exact .step (by rw [e2]; exact h3) h4
 | @step i l i' l' r h1 h2 ih =>
  intro hi
  have hinc := zvh hi h1
  have ih := ih hinc.2.1
  rcases step_pre (b := b) hi l with ⟨e1, _⟩ | ⟨e1, _⟩
  ·rw [h1] at e1
   exact ⟨λ p e hr => .step e1 (ih.1 p e hr), λ x hx r' hr' => .step e1 (ih.2 x hx r' hr')⟩
  ·rw [h1] at e1; cases e1
def mvTok (d : Nat) (t : Tok) : Tok := ⟨t.kind, t.text, d + t.at_, d + t.to⟩
def mvS (d : Nat) (x : List Tok) : Scn -> Scn
 | .go i l => .go (d + i) (x ++ l.map (mvTok d))
 | .done l => .done (x ++ l.map (mvTok d))
 | .err a e => .err (d + a) e
theorem step_suf {c b : List UInt8} {i : Nat} {l x : List Tok} (hl : l.length < 6000) (hx : x.length + l.length < 6000) : stepF (c ++ b) (c.length + i) (x ++ l.map (mvTok c.length)) = mvS c.length x (stepF b i l) := by
 unfold stepF
 rw [skip_suf]
 cases skipF b i with
 | error e => simp [mapK, mvS]
 | ok j =>
  simp only [mapK]
  by_cases h : b.length <= j
  ·rw [if_pos h, if_pos (by simp; omega)]; rfl
  ·rw [if_neg h, if_neg (by simp; omega), tok_suf]
   cases tokF b j with
   | error e => simp [mvT, mvS]
   | ok t =>
    simp only [mvT]
    rw [if_neg (show ¬ 6000 <= (x ++ l.map (mvTok c.length)).length by simp; omega), if_neg (show ¬ 6000 <= l.length by omega)]
    by_cases hb : 0 <= t.bad
    ·have : mvB c.length t.bad = c.length + t.bad := by unfold mvB; rw [if_neg (by omega)]
     rw [if_pos hb, this, if_pos (by omega)]; rfl
    ·have : mvB c.length t.bad = t.bad := by unfold mvB; rw [if_pos (by omega)]
     rw [if_neg hb, this, if_neg hb]
     simp [mvS, mvTok]
theorem mvS_end {d : Nat} {x : List Tok} {r : Scn} (h : endB r = true) : endB (mvS d x r) = true := by
 cases r <;> first | rfl | cases h
theorem ends_suf {c b : List UInt8} {x : List Tok} (hx : x.length <= c.length) (hcb : c.length + b.length < 6000) {i : Nat} {l : List Tok} {r : Scn} (h : Ends b i l r) : i <= b.length -> l.length <= i -> Ends (c ++ b) (c.length + i) (x ++ l.map (mvTok c.length)) (mvS c.length x r) := by
 induction h with
 | @stop i l r h1 h2 =>
  intro hi hl
  exact .stop (by rw [step_suf (by omega) (by omega), h1]) (mvS_end h2)
 | @step i l i' l' r h1 h2 ih =>
  intro hi hl
  have hinc := zvh hi h1
  exact .step (by rw [step_suf (by omega) (by omega), h1]; rfl) (ih hinc.2.1 (by omega))
theorem pieces_err {a b : List UInt8} {p : Int} {e : Nat} (h : zqv a = .err p e) : zqv (a ++ 10 :: b) = .err p e :=
 ends_eq ((ends_pre (b := b) (zjK a) (Nat.zero_le _)).1 p e h)
theorem pieces_done {a b : List UInt8} {x : List Tok} (hab : a.length + 1 + b.length < 6000) (h : zqv a = .done x) : zqv (a ++ 10 :: b) = mvS (a.length + 1) x (zqv b) := by
 refine ends_eq ((ends_pre (b := b) (zjK a) (Nat.zero_le _)).2 x h _ ?_)
 have hx := ((scan_facts a).1 x h).1
 have := ends_suf (c := a ++ [10]) (b := b) (x := x) (by simp; omega) (by simp; omega) (zjK b) (Nat.zero_le _) (Nat.zero_le _)
 simpa using this
theorem lc_pre {a c : List UInt8} : ∀ p, p <= a.length -> lc (a ++ c) p = lc a p
 | 0, _ => rfl
 | p + 1, h => by
  rw [zjq, zjq, getD_pre (by omega), lc_pre p (by omega)]
theorem lc_suf {a b : List UInt8} : ∀ p, lc (a ++ 10 :: b) (a.length + 1 + p) = ((lc a a.length).1 + (lc b p).1, (lc b p).2)
 | 0 => by
  show lc (a ++ 10 :: b) (a.length + 1) = _
  rw [zjq, lc_pre _ (Nat.le_refl _)]
  have : (a ++ 10 :: b).getD a.length 0 = 10 := by
   rw [List.getD_eq_getElem?_getD, List.getElem?_append_right (Nat.le_refl _)]; simp
  rw [this, if_pos (show UInt8.toNat 10 = 10 from rfl)]
  rfl
 | p + 1 => by
  rw [<- Nat.add_assoc, zjq, zjq, lc_suf p]
  have : (a ++ 10 :: b).getD (a.length + 1 + p) 0 = b.getD p 0 := by
   have := getD_suf (c := a ++ [10]) (b := b) (i := p)
   simpa using this
  rw [this]
  split
  ·simp; omega
  ·rfl
theorem row_pre {a c : List UInt8} {t : Tok} (h : t.at_ < t.to /\ t.to <= a.length) : rowTok (a ++ c) t = rowTok a t := by
 unfold rowTok
 rw [lc_pre _ (by omega)]
end
end Go.Proofs.YtekioipmhhcbhaaDoor
set_option maxRecDepth 20000
namespace Go.Proofs.YtekioipmhhcbhaaDoor
open Go Go.Z Go.Q Go.W6
open Go.Y hiding KE KK KR go Task go_sound
noncomputable section
theorem f19_loop (s : List UInt8) (m n i : Int) (N : O -> List (Option V) -> Nat -> List (Option Chunk) -> Prop) : Go.Q.go Tryd.prog ⟨⟨.nil, [], []⟩, [], []⟩ 100 (.code ⟨19, none⟩ (lp Tryd.prog 19 0) [] (ofE ([0,1,5,6].zip [.sstr s, .sint .i64 m, .sint .i64 n, .sint .i64 i])) ⟨0, ofMo ([].zip []), []⟩ (cutM [0,1,5,6] [] N)) =
 (True /\ (decide (i < m) = true -> (0 <= i /\ i < (s.length : Int)) /\ True /\ (decide ((↑(s.getD i.toNat 0).toNat : Int) = 10) = true -> (-9223372036854775808 <= n + 1 /\ n + 1 <= 9223372036854775807) /\ (-9223372036854775808 <= i + 1 /\ i + 1 <= 9223372036854775807) /\ N O.normal [some (.sstr s), some (.sint .i64 m), some (.sint .i64 (n + 1)), some (.sint .i64 (i + 1))] 0 []) /\ (decide ((↑(s.getD i.toNat 0).toNat : Int) = 10) = false -> (-9223372036854775808 <= i + 1 /\ i + 1 <= 9223372036854775807) /\ N O.normal [some (.sstr s), some (.sint .i64 m), some (.sint .i64 n), some (.sint .i64 (i + 1))] 0 [])) /\ (decide (i < m) = false -> N (O.exit 0) [some (.sstr s), some (.sint .i64 m), some (.sint .i64 n), some (.sint .i64 i)] 0 [])) := by kernel_rfl
def le19 (s : List UInt8) (m n i : Int) : List V := [.sstr s, .sint .i64 m, .sint .i64 n, .sint .i64 i]
def l19 (fi : FI) (ds : List DV) (env : Tr V) (hp : Mem) (k : KK) : Prop := atV 19 0 [] [] fi ds hp λ rc => match pk [0, 1, 5, 6] env with
 | [some v0, some v1, some v2, some v3] => match strOf v0, int64 v1, int64 v2, int64 v3 with
  | some s, some m, some n, some i => (i = 0 /\ n = 1 /\ 0 <= m /\ m <= (s.length : Int) /\ (s.length : Int) <= 20000) /\ k (.exit 0) [] (ofE ([0, 1, 5, 6].zip (le19 s m (lc s m.toNat).1 m))) ⟨0, ofM ([].zip [] ++ [].zip rc), hp.ro⟩
  | _, _, _, _ => False
 | _ => False
theorem l19_ok {gv gf gl} : ∀ fi ds env hp k, l19 fi ds env hp k -> TaskOk Tryd.prog ⟨gv, gf, gl⟩ (.code fi (.loop (lp Tryd.prog 19 0)) ds env hp k) := by
 intro fi ds env hp k h
 obtain ⟨rfl, rfl, hn, hlk, rc, hrc, h⟩ := zjM h
 split at h
 ·rename_i v0 v1 v2 v3 hT
  split at h
  ·rename_i s m n i e0 e1 e2 e3
   obtain ⟨⟨rfl, rfl, h0, h1, h2⟩, hk⟩ := h
   obtain ⟨n', ht, hro⟩ := hp
   dsimp only at hn hlk hrc hk
   subst hn
   refine zxQ [0, 1, 5, 6] [] [] [] rc 0 (λ x : Nat => le19 s m (lc s x).1 x) (λ _ => []) (λ x => x <= m.toNat) (λ x => m.toNat - x) 0 (Nat.zero_le _) rfl rfl rfl (Nat.le_refl 0) hlk rfl rfl (λ x => rfl) (λ x => rfl) ?_ trivial hrc ?_
   ·rw [hT]
    exact ⟨zxS e0, zqj e1, zqj e2, zqj e3, trivial⟩
   ·intro x hx
    have hx : x <= m.toNat := hx
    refine zqX (gf' := []) (gl' := []) ?_
    refine go_sound (G := nilG) qmix qNG zqh (zqL rfl) (zqD rfl) 100 _ (Eq.mpr (f19_loop s m (lc s x).1 x _) ?_)
    have b := lc_le s x
    have step := zjq s x
    simp only [decide_eq_true_eq, decide_eq_false_iff_not, Int.toNat_natCast]
    refine ⟨trivial, λ hlt => ⟨⟨by omega, by omega⟩, trivial, λ h10 => ⟨⟨by omega, by omega⟩, ⟨by omega, by omega⟩, ?_⟩, λ h10 => ⟨⟨by omega, by omega⟩, ?_⟩⟩, λ hge => ?_⟩
    ·rw [if_pos (by exact_mod_cast h10)] at step
     refine ⟨x + 1, [], by show x + 1 <= m.toNat; omega, by show m.toNat - (x + 1) < m.toNat - x; omega, Nat.le_refl 0, rfl, ⟨zqa _, zqa _, ⟨rfl, by rw [step]; push_cast; rfl⟩, ⟨rfl, by push_cast; rfl⟩, trivial⟩, trivial⟩
    ·rw [if_neg (by exact_mod_cast h10)] at step
     refine ⟨x + 1, [], by show x + 1 <= m.toNat; omega, by show m.toNat - (x + 1) < m.toNat - x; omega, Nat.le_refl 0, rfl, ⟨zqa _, zqa _, ⟨rfl, by rw [step]⟩, ⟨rfl, by push_cast; rfl⟩, trivial⟩, trivial⟩
    ·have e : x = m.toNat := by omega
     exact ⟨le19 s m (lc s m.toNat).1 m, [], [], Nat.le_refl 0, rfl, rfl, ⟨zqa _, zqa _, ⟨rfl, by rw [e]⟩, ⟨rfl, by omega⟩, trivial⟩, trivial, hk⟩
  ·exact h.elim
 ·exact h.elim
def sLineOf (args : List V) (hp : Mem) (k : KE) : Prop := match args with
 | [v0, v1] => match strOf v0, int64 v1 with
  | some s, some m => (0 <= m /\ m <= (s.length : Int) /\ (s.length : Int) <= 20000) /\ k (.ret (.sint .i64 (lc s m.toNat).1)) hp
  | _, _ => False
 | _ => False
def mvRow (d : Nat) (lines : Int) (r : List V) : List V := [.sint .i64 (vI (r.getD 0 .und)), .sstr (vS (r.getD 1 .und)), .sint .i64 (vI (r.getD 2 .und) + d), .sint .i64 (vI (r.getD 3 .und) + d), .sint .i64 (vI (r.getD 4 .und) + lines), .sint .i64 (vI (r.getD 5 .und))]
end
end Go.Proofs.YtekioipmhhcbhaaDoor
set_option maxRecDepth 20000
namespace Go.Proofs.YtekioipmhhcbhaaDoor
open Go Go.Z Go.Q Go.W6
open Go.Y hiding KE KK KR go Task go_sound
noncomputable section
theorem f19_eq (s : List UInt8) (m : Int) (N : E -> Nat -> List (Option Chunk) -> Prop) : Go.Q.go Tryd.prog ⟨⟨.nil, [], []⟩, [], [(19003, lp Tryd.prog 19 0, l19)]⟩ 100 (.call 19 [.sstr s, .sint .i64 m] nomem (cutE [] N)) =
 (lp Tryd.prog 19 0 = lp Tryd.prog 19 0 /\ ((0 : Int) = (0 : Int) /\ (1 : Int) = (1 : Int) /\ 0 <= m /\ m <= (s.length : Int) /\ (s.length : Int) <= 20000) /\ N (E.ret (.sint .i64 (↑(lc s m.toNat).fst : Int))) 0 []) := by kernel_rfl
theorem line_run (s : List UInt8) (m : Int) (h0 : 0 <= m) (h1 : m <= s.length) (h2 : (s.length : Int) <= 20000) : TaskOk Tryd.prog ⟨⟨.nil, [], []⟩, [], [(19003, lp Tryd.prog 19 0, l19)]⟩ (.call 19 [.sstr s, .sint .i64 m] nomem (cutE [] λ e _ _ => retV (.sint .i64 (lc s m.toNat).1) e)) := by
 refine go_sound qmix qNG zqh (zqL rfl) (ls_one rfl l19_ok) 100 _ (Eq.mpr (f19_eq s m _) ?_)
 refine ⟨rfl, ⟨rfl, rfl, h0, h1, h2⟩, ?_⟩
 unfold retV
 exact zqa _
theorem lineOf_ok {G : GQ} : ∀ args hp k, sLineOf args hp k -> TaskOk Tryd.prog G (.call 19 args hp k) := by
 intro args hp k h
 unfold sLineOf at h
 split at h
 ·split at h
  ·rename_i v0 v1 s m e0 e1
   obtain ⟨⟨h0, h1, h2⟩, hk⟩ := h
   exact sum_of1v (call_mono (line_run s m h0 h1 h2) cutE_nil) rfl ⟨zxS e0, zqj e1, trivial⟩ rfl rfl hk
  ·exact h.elim
 ·exact h.elim
theorem rows_pre {a c : List UInt8} {x y : List Tok} {j : Nat} (h : j < x.length) (hl : Lie a x) : ((x ++ y).map (rowTok (a ++ c))).getD j [] = (x.map (rowTok a)).getD j [] := by
 rw [zkw (by simp; omega), zkw h, List.getElem_append_left h]
 exact row_pre (hl _ (List.getElem_mem h))
theorem rows_suf {a b : List UInt8} {x y : List Tok} {j : Nat} (h : j < y.length) : ((x ++ y.map (mvTok (a.length + 1))).map (rowTok (a ++ 10 :: b))).getD (x.length + j) [] = mvRow (a.length + 1) (lc a a.length).1 ((y.map (rowTok b)).getD j []) := by
 rw [zkw (by simp; omega), zkw h, List.getElem_append_right (by omega)]
 simp only [Nat.add_sub_cancel_left, List.getElem_map]
 unfold rowTok mvTok mvRow
 dsimp only
 rw [lc_suf]
 simp [vI, vS]
 omega
end
end Go.Proofs.YtekioipmhhcbhaaDoor
