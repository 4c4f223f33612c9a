/- The scan of two sources with a line feed between them: plain laws, no program in sight. -/
import Derived.Test.YtekioipmhhcbhaaGreatDoorV3
import Derived.Test.YtekioipmhhcbhaaGreatDoorV4
set_option linter.unusedVariables false
set_option linter.unusedSimpArgs false
set_option maxRecDepth 20000
namespace Go.Proofs.YtekioipmhhcbhaaGreatDoor
open Go Go.Z Go.W6
noncomputable section
inductive Ends (s : List UInt8) : Nat -> List Tok -> Scn -> Prop
 | stop {i l r} : stepF s i l = r -> endB r = true -> Ends s i l r
 | step {i l i' l' r} : stepF s i l = .go i' l' -> Ends s i' l' r -> Ends s i l r
theorem Ends.det {s : List UInt8} {i : Nat} {l : List Tok} {r r' : Scn} (h : Ends s i l r) (h' : Ends s i l r') : r = r' := by
 induction h with
 | stop h1 h2 =>
  cases h' with
  | stop h3 h4 => exact h1.symm.trans h3
  | step h3 h4 => rw [h1] at h3; subst h3; cases h2
 | step h1 h2 ih =>
  cases h' with
  | stop h3 h4 => rw [h1] at h3; subst h3; cases h4
  | step h3 h4 =>
   rw [h1] at h3
   cases h3
   exact ih h4
theorem step_inc {s : List UInt8} {i i' : Nat} {l l' : List Tok} (hi : i <= s.length) (h : stepF s i l = .go i' l') : i < i' /\ i' <= s.length /\ l'.length = l.length + 1 := by
 unfold stepF at h
 split at h
 ·cases h
 ·rename_i j hj
  have h1 := (zkP _ i (Nat.le_refl _) hi).1 j hj
  split at h
  ·cases h
  ·split at h
   ·cases h
   ·rename_i t ht
    have h2 := tok_le (by omega) ht
    split at h
    ·cases h
    ·split at h
     ·cases h
     ·cases h
      refine ⟨by omega, h2.2.1, by simp⟩
theorem run_succ (s : List UInt8) (n : Nat) : runF s (n + 1) = match runF s n with | .go i l => stepF s i l | r => r := rfl
theorem run_reach {s : List UInt8} : ∀ n, (∃ i l, runF s n = .go i l /\ n <= i /\ i <= s.length /\ l.length = n) \/ endB (runF s n) = true
 | 0 => .inl ⟨0, [], rfl, Nat.le_refl _, Nat.zero_le _, rfl⟩
 | n + 1 => by
  rw [run_succ]
  rcases run_reach (s := s) n with ⟨i, l, h, h1, h2, h3⟩ | h
  ·rw [h]
   dsimp only
   cases hs : stepF s i l with
   | go i' l' =>
    have := step_inc h2 hs
    exact .inl ⟨i', l', rfl, by omega, this.2.1, by omega⟩
   | done l' => exact .inr rfl
   | err a e => exact .inr rfl
  ·right
   cases hr : runF s n with
   | go i l => rw [hr] at h; cases h
   | done l' => rfl
   | err a e => rfl
theorem end_end (s : List UInt8) : endB (zqJ s) = true := by
 unfold zqJ
 rcases run_reach (s := s) (s.length + 1) with ⟨i, l, h, h1, h2, h3⟩ | h
 ·omega
 ·exact h
theorem ends_run {s : List UInt8} : ∀ {n i l r}, runF s n = .go i l -> Ends s i l r -> Ends s 0 [] r
 | 0, i, l, r, h, he => by cases h; exact he
 | n + 1, i, l, r, h, he => by
  rw [run_succ] at h
  cases hr : runF s n with
  | go i' l' =>
   rw [hr] at h
   exact ends_run hr (.step h he)
  | done l' => rw [hr] at h; cases h
  | err a e => rw [hr] at h; cases h
theorem ends_scan (s : List UInt8) : Ends s 0 [] (zqJ s) := by
 have he := end_end s
 unfold zqJ at he ⊢
 have : ∀ n, endB (runF s n) = true -> Ends s 0 [] (runF s n) := by
  intro n
  induction n with
  | zero => intro h; cases h
  | succ n ih =>
   intro h
   rw [run_succ] at h ⊢
   cases hr : runF s n with
   | go i l =>
    rw [hr] at h
    exact ends_run hr (.stop rfl h)
   | done l => have := ih (by rw [hr]; rfl); rw [hr] at this; exact this
   | err a e => have := ih (by rw [hr]; rfl); rw [hr] at this; exact this
 exact this _ he
theorem ends_eq {s : List UInt8} {r : Scn} (h : Ends s 0 [] r) : zqJ s = r := (ends_scan s).det h
theorem drop_pre {a c : List UInt8} {i : Nat} (hi : i <= a.length) : (a ++ c).drop i = a.drop i ++ c := List.drop_append_of_le_length hi
theorem getD_pre {a c : List UInt8} {i : Nat} (hi : i < a.length) : (a ++ c).getD i 0 = a.getD i 0 := by
 rw [List.getD_eq_getElem?_getD, List.getD_eq_getElem?_getD, List.getElem?_append_left hi]
theorem zkn {a c : List UInt8} {i j : Nat} (hj : j <= a.length) : cutF (a ++ c) i j = cutF a i j := by
 unfold cutF
 rw [List.take_append_of_le_length hj]
theorem drop_suf {c b : List UInt8} {i : Nat} : (c ++ b).drop (c.length + i) = b.drop i := by
 rw [<- List.drop_drop, List.drop_left]
theorem isAt_suf {p : UInt8 -> Bool} {c b : List UInt8} {i : Nat} : isAt p (c ++ b) (c.length + i) = isAt p b i := by
 unfold isAt
 rw [List.getElem?_append_right (by omega), Nat.add_sub_cancel_left]
theorem getD_suf {c b : List UInt8} {i : Nat} : (c ++ b).getD (c.length + i) 0 = b.getD i 0 := by
 rw [List.getD_eq_getElem?_getD, List.getD_eq_getElem?_getD, List.getElem?_append_right (by omega), Nat.add_sub_cancel_left]
theorem end_suf {p : UInt8 -> Bool} {c b : List UInt8} {i : Nat} : endF p (c ++ b) (c.length + i) = c.length + endF p b i := by
 unfold endF
 rw [drop_suf]; omega
theorem cut_suf {c b : List UInt8} {i j : Nat} : cutF (c ++ b) (c.length + i) (c.length + j) = cutF b i j := by
 unfold cutF
 rw [List.take_append, List.take_of_length_le (by omega), Nat.add_sub_cancel_left, drop_suf]
theorem num_suf {c b : List UInt8} {i : Nat} : numF (c ++ b) (c.length + i) = (numF b i).map λ x => (x.1, x.2.1, c.length + x.2.2) := by
 have e1 : digF (c ++ b) (c.length + i) = c.length + digF b i := end_suf
 have e2 : digF (c ++ b) (c.length + digF b i + 1) = c.length + digF b (digF b i + 1) := by rw [Nat.add_assoc]; exact end_suf
 unfold numF
 dsimp only
 rw [e1, isAt_suf, e2, Nat.add_assoc, isAt_suf, cut_suf, cut_suf, show c.length + digF b i - (c.length + i) = digF b i - i by omega, show c.length + digF b (digF b i + 1) - (c.length + (digF b i + 1)) = digF b (digF b i + 1) - (digF b i + 1) by omega]
 split
 ·split <;> rfl
 ·split <;> rfl
def mvB (d : Nat) (bad : Int) : Int := if bad < 0 then bad else d + bad
theorem textL_move (d : Nat) : ∀ (l : List UInt8) (p : Nat) (acc : List UInt8) (bad : Int), textL l (d + p) acc (mvB d bad) = (textL l p acc bad).map λ x => (x.1, d + x.2.1, mvB d x.2.2) := by
 intro l p acc bad
 induction l, p, acc, bad using textL.induct with
 | case1 p acc bad => unfold textL; rfl
 | case2 c l p acc bad h1 => unfold textL; rw [if_pos h1, if_pos h1]; rfl
 | case3 c p acc bad h1 h2 d' l' h3 ih =>
  conv => lhs; unfold textL
  conv => rhs; unfold textL
  rw [if_neg h1, if_pos h2, if_neg h1, if_pos h2]
  dsimp only
  rw [if_pos h3, if_pos h3, <- ih]; rfl
 | case4 c p acc bad h1 h2 d' l' h3 =>
  conv => lhs; unfold textL
  conv => rhs; unfold textL
  rw [if_neg h1, if_pos h2, if_neg h1, if_pos h2]
  dsimp only
  rw [if_neg h3, if_neg h3]; rfl
 | case5 c p acc bad h1 h2 =>
  conv => lhs; unfold textL
  conv => rhs; unfold textL
  rw [if_neg h1, if_pos h2, if_neg h1, if_pos h2]
  rfl
 | case6 c l p acc bad h1 h2 ih =>
  conv => lhs; unfold textL
  conv => rhs; unfold textL
  rw [if_neg h1, if_neg h2, if_neg h1, if_neg h2, <- ih]
  congr 1
  unfold mvB
  split <;> split <;> (try split) <;> (try split) <;> first | rfl | omega | (exfalso; omega) | skip
  all_goals (simp_all; try omega)
theorem text_suf {c b : List UInt8} {i : Nat} : textF (c ++ b) (c.length + i) = match textF b i with
  | .ok (t, e, bad) => .ok (t, c.length + e, mvB c.length bad)
  | .error e => .error e := by
 unfold textF
 have := textL_move c.length (b.drop (i + 1)) (i + 1) [] (-1)
 rw [show mvB c.length (-1) = -1 from rfl] at this
 rw [Nat.add_assoc, drop_suf, this]
 cases textL (b.drop (i + 1)) (i + 1) [] (-1) with
 | none => rfl
 | some x =>
  obtain ⟨t, e, bad⟩ := x
  simp only [Option.map_some]
  split <;> rfl
theorem sign_suf {c b : List UInt8} {i : Nat} : signN (c ++ b) (c.length + i) = signN b i := by
 unfold signN
 rw [show c.length + i + 2 = c.length + (i + 2) by omega, cut_suf]
 have : c.length + (i + 2) <= (c ++ b).length ↔ i + 2 <= b.length := by simp
 simp only [this]
def mvT (d : Nat) : Except Nat TokR -> Except Nat TokR
 | .ok x => .ok ⟨x.kind, x.text, d + x.to, mvB d x.bad⟩
 | .error e => .error e
theorem tok_suf {c b : List UInt8} {i : Nat} : tokF (c ++ b) (c.length + i) = mvT c.length (tokF b i) := by
 have h1 : nameF (c ++ b) (c.length + i) = c.length + nameF b i := end_suf
 unfold tokF
 dsimp only
 rw [getD_suf, h1, cut_suf, num_suf, text_suf, sign_suf, Nat.add_assoc, cut_suf]
 split
 ·split
  ·rfl
  ·split <;> rfl
 ·split
  ·cases numF b i with
   | none => rfl
   | some x => obtain ⟨k, t, e⟩ := x; rfl
  ·split
   ·cases textF b i with
    | error e => rfl
    | ok x => obtain ⟨t, e, bad⟩ := x; rfl
   ·split
    ·split <;> rfl
    ·rfl
end
end Go.Proofs.YtekioipmhhcbhaaGreatDoor
set_option maxRecDepth 20000
namespace Go.Proofs.YtekioipmhhcbhaaGreatDoor
open Go Go.Z Go.W6
noncomputable section
theorem tokF_err {s : List UInt8} {i e : Nat} (h : tokF s i = .error e) : e ≠ 0 := by
 unfold tokF at h
 dsimp only at h
 split at h
 ·split at h
  ·cases h
  ·split at h
   ·cases h; decide
   ·cases h
 ·split at h
  ·split at h
   ·cases h
   ·cases h; decide
  ·split at h
   ·split at h
    ·cases h
    ·rename_i hh
     cases h
     unfold textF at hh
     split at hh
     ·cases hh; decide
     ·split at hh
      ·cases hh; decide
      ·cases hh
   ·split at h
    ·split at h
     ·cases h
     ·cases h; decide
    ·cases h; decide
def Lie (s : List UInt8) (l : List Tok) : Prop := ∀ t ∈ l, t.at_ < t.to /\ t.to <= s.length
theorem ends_facts {s : List UInt8} {i : Nat} {l : List Tok} {r : Scn} (h : Ends s i l r) : i <= s.length -> l.length <= i -> Lie s l -> (∀ x, r = .done x -> x.length <= s.length /\ Lie s x) /\ (∀ p e, r = .err p e -> 0 <= p /\ p < s.length /\ e ≠ 0) := by
 induction h with
 | @stop i l r h1 h2 =>
  intro hi hl hlie
  unfold stepF at h1
  split at h1
  ·rename_i b hb
   have := (zkP _ i (Nat.le_refl _) hi).2 b hb
   cases h1
   exact ⟨λ x hx => (by cases hx), λ p e hx => by cases hx; refine ⟨by omega, by omega, by decide⟩⟩
  ·rename_i j hj
   have hij := (zkP _ i (Nat.le_refl _) hi).1 j hj
   split at h1
   ·cases h1; exact ⟨λ x hx => by cases hx; exact ⟨by omega, hlie⟩, λ p e hx => (by cases hx)⟩
   ·rename_i hlt
    split at h1
    ·rename_i e0 ht
     cases h1
     exact ⟨λ x hx => (by cases hx), λ p e hx => by cases hx; exact ⟨by omega, by omega, tokF_err ht⟩⟩
    ·rename_i t ht
     have htl := tok_le (by omega) ht
     split at h1
     ·cases h1; exact ⟨λ x hx => (by cases hx), λ p e hx => by cases hx; refine ⟨by omega, by omega, by decide⟩⟩
     ·split at h1
      ·cases h1; exact ⟨λ x hx => (by cases hx), λ p e hx => by cases hx; refine ⟨by omega, by omega, by decide⟩⟩
      ·subst h1; cases h2
 | @step i l i' l' r h1 h2 ih =>
  intro hi hl hlie
  have hinc := step_inc hi h1
  refine ih hinc.2.1 (by omega) ?_
  unfold stepF at h1
  split at h1
  ·cases h1
  ·rename_i j hj
   have hij := (zkP _ i (Nat.le_refl _) hi).1 j hj
   split at h1
   ·cases h1
   ·split at h1
    ·cases h1
    ·rename_i t ht
     have htl := tok_le (by omega) ht
     split at h1
     ·cases h1
     ·split at h1
      ·cases h1
      ·cases h1
       intro t' ht'
       rcases List.mem_append.1 ht' with h | h
       ·exact hlie t' h
       ·rw [List.mem_singleton.1 h]; exact ⟨htl.1, htl.2.1⟩
theorem scan_facts (s : List UInt8) : (∀ x, zqJ s = .done x -> x.length <= s.length /\ Lie s x) /\ (∀ p e, zqJ s = .err p e -> 0 <= p /\ p < s.length /\ e ≠ 0) :=
 ends_facts (ends_scan s) (Nat.zero_le _) (Nat.zero_le _) (λ t h => by cases h)
theorem scanF_cases {s : List UInt8} (hs : s.length <= 20000) : (∃ x, zqJ s = .done x /\ scanF s = (x, 0, 0) /\ x.length <= s.length /\ Lie s x) \/ (∃ p e, zqJ s = .err p e /\ scanF s = ([], p, e) /\ 0 <= p /\ p < s.length /\ e ≠ 0) := by
 have h1 := scanF_eq s
 rw [if_neg (by omega)] at h1
 have h2 := scan_facts s
 have h3 := end_end s
 cases he : zqJ s with
 | done x => rw [he] at h1; exact .inl ⟨x, rfl, h1, h2.1 x he⟩
 | err p e => rw [he] at h1; exact .inr ⟨p, e, rfl, h1, h2.2 p e he⟩
 | go i l => rw [he] at h3; cases h3
end
end Go.Proofs.YtekioipmhhcbhaaGreatDoor
set_option maxRecDepth 20000
namespace Go.Proofs.YtekioipmhhcbhaaGreatDoor
open Go Go.Z Go.W6
noncomputable section
theorem takeW_cut {p : UInt8 -> Bool} {w r : List UInt8} (h : ((w ++ r).takeWhile p).length <= w.length) : (w ++ r).takeWhile p = w.takeWhile p := by
 induction w with
 | nil =>
  simp only [List.nil_append, List.length_nil] at h
  have : r.takeWhile p = [] := List.eq_nil_of_length_eq_zero (by omega)
  rw [List.nil_append, this]; rfl
 | cons c w ih =>
  rw [List.cons_append, List.takeWhile_cons] at h ⊢
  rw [List.takeWhile_cons]
  split
  ·rename_i hc
   rw [if_pos hc] at h
   rw [ih (by simpa using h)]
  ·rfl
theorem end_cut {p : UInt8 -> Bool} {w r : List UInt8} {i : Nat} (hi : i <= w.length) (h : endF p (w ++ r) i <= w.length) : endF p w i = endF p (w ++ r) i := by
 unfold endF at h ⊢
 rw [drop_pre hi] at h ⊢
 rw [takeW_cut (by rw [List.length_drop]; omega)]
theorem isAt_cut {p : UInt8 -> Bool} {w r : List UInt8} {i : Nat} (hi : i < w.length) : isAt p (w ++ r) i = isAt p w i := by
 unfold isAt
 rw [List.getElem?_append_left hi]
theorem num_cut {w r : List UInt8} {i x e : Nat} {t : List UInt8} (hd : isAt digB (w ++ r) i = true) (h : numF (w ++ r) i = some (x, t, e)) (he : e <= w.length) : numF w i = some (x, t, e) := by
 obtain ⟨h1, h2⟩ := zqI hd
 have hle := numF_le hd h
 have hj : digF (w ++ r) i <= e := by
  unfold numF at h
  dsimp only at h
  split at h
  ·split at h
   ·cases h
   ·cases h; exact Nat.le_refl _
  ·split at h
   ·cases h
   ·cases h
    have := zxI (p := digB) (s := w ++ r) (i := digF (w ++ r) i + 1)
    rename_i hh _
    have h5 : isAt digB (w ++ r) (digF (w ++ r) i + 1) = true := by
     cases hq : isAt digB (w ++ r) (digF (w ++ r) i + 1) with
     | true => rfl
     | false => rw [hq, Bool.and_false] at hh; exact absurd rfl hh
    have h6 := (zqI h5).1
    have h7 := zxI (p := digB) (s := w ++ r) (i := digF (w ++ r) i + 1) (by omega)
    have h8 : digF (w ++ r) (digF (w ++ r) i + 1) = endF digB (w ++ r) (digF (w ++ r) i + 1) := rfl
    omega
 have e1 : digF w i = digF (w ++ r) i := end_cut (by omega) (by show digF (w ++ r) i <= _; omega)
 unfold numF at h ⊢
 dsimp only at h ⊢
 rw [e1]
 split at h
 ·rename_i hh
  split at h
  ·cases h
  ·rename_i hlen
   cases h
   have hno : (isAt (λ b => b.toNat == 46) w (digF (w ++ r) i) && isAt digB w (digF (w ++ r) i + 1)) = false := by
    rcases Nat.lt_or_ge (digF (w ++ r) i + 1) w.length with hl | hl
    ·rw [<- isAt_cut (r := r) (by omega), <- isAt_cut (r := r) hl]; exact hh
    ·rw [zjy hl, Bool.and_false]
   rw [if_pos hno, if_neg hlen, zkn he]
 ·rename_i hh
  split at h
  ·cases h
  ·rename_i hlen
   cases h
   have hh2 : (isAt (λ b => b.toNat == 46) (w ++ r) (digF (w ++ r) i) && isAt digB (w ++ r) (digF (w ++ r) i + 1)) = true := by
    cases hq : (isAt (λ b => b.toNat == 46) (w ++ r) (digF (w ++ r) i) && isAt digB (w ++ r) (digF (w ++ r) i + 1)) with
    | true => rfl
    | false => exact absurd hq hh
   have h5 : isAt digB (w ++ r) (digF (w ++ r) i + 1) = true := by simp only [Bool.and_eq_true] at hh2; exact hh2.2
   obtain ⟨h6, h7⟩ := zqI h5
   have h8 := zxI (p := digB) (s := w ++ r) (i := digF (w ++ r) i + 2) h6
   have h9 : digF (w ++ r) (digF (w ++ r) i + 1) = endF digB (w ++ r) (digF (w ++ r) i + 2) := h7
   have e2 : digF w (digF (w ++ r) i + 1) = digF (w ++ r) (digF (w ++ r) i + 1) := end_cut (by omega) (by show digF (w ++ r) _ <= _; omega)
   have hyes : ¬ (isAt (λ b => b.toNat == 46) w (digF (w ++ r) i) && isAt digB w (digF (w ++ r) i + 1)) = false := by
    have a1 := isAt_cut (p := λ b => b.toNat == 46) (w := w) (r := r) (i := digF (w ++ r) i) (by omega)
    have a2 := isAt_cut (p := digB) (w := w) (r := r) (i := digF (w ++ r) i + 1) (by omega)
    rw [<- a1, <- a2]; exact hh
   rw [zkn he] at hlen
   rw [if_neg hyes, e2, zkn he, zkn (by omega : digF (w ++ r) i <= w.length)]
   rw [if_neg hlen]
theorem textL_cut : ∀ (l : List UInt8) (p : Nat) (acc : List UInt8) (bad : Int) (b : List UInt8) (q : Nat) (z : Int), textL l p acc bad = some (b, q, z) -> ∀ n, q + 1 <= p + n -> textL (l.take n) p acc bad = some (b, q, z) := by
 intro l p acc bad
 induction l, p, acc, bad using textL.induct with
 | case1 p acc bad => intro b q z h; unfold textL at h; cases h
 | case2 c l p acc bad h1 => intro b q z h; unfold textL at h; rw [if_pos h1] at h; cases h
 | case3 c p acc bad h1 h2 d l' h3 ih =>
  intro b q z h n hn
  have hle := zjo _ _ _ _ _ _ _ h
  unfold textL at h; rw [if_neg h1, if_pos h2] at h; dsimp only at h; rw [if_pos h3] at h
  have hle2 := zjo _ _ _ _ _ _ _ h
  obtain ⟨m, rfl⟩ : ∃ m, n = m + 2 := ⟨n - 2, by omega⟩
  rw [List.take_succ_cons, List.take_succ_cons]
  unfold textL
  rw [if_neg h1, if_pos h2]
  dsimp only
  rw [if_pos h3]
  exact ih b q z h m (by omega)
 | case4 c p acc bad h1 h2 d l' h3 =>
  intro b q z h n hn
  unfold textL at h; rw [if_neg h1, if_pos h2] at h; dsimp only at h; rw [if_neg h3] at h
  cases h
  obtain ⟨m, rfl⟩ : ∃ m, n = m + 1 := ⟨n - 1, by omega⟩
  cases m with
  | zero =>
   show textL [c] _ _ _ = _
   unfold textL
   rw [if_neg h1, if_pos h2]
  | succ m =>
   rw [List.take_succ_cons, List.take_succ_cons]
   unfold textL
   rw [if_neg h1, if_pos h2]
   dsimp only
   rw [if_neg h3]
 | case5 c p acc bad h1 h2 =>
  intro b q z h n hn
  unfold textL at h; rw [if_neg h1, if_pos h2] at h; dsimp only at h
  cases h
  obtain ⟨m, rfl⟩ : ∃ m, n = m + 1 := ⟨n - 1, by omega⟩
  rw [List.take_succ_cons, List.take_nil]
  unfold textL
  rw [if_neg h1, if_pos h2]
 | case6 c l p acc bad h1 h2 ih =>
  intro b q z h n hn
  have hle := zjo _ _ _ _ _ _ _ h
  unfold textL at h; rw [if_neg h1, if_neg h2] at h
  have hle2 := zjo _ _ _ _ _ _ _ h
  obtain ⟨m, rfl⟩ : ∃ m, n = m + 1 := ⟨n - 1, by omega⟩
  rw [List.take_succ_cons]
  unfold textL
  rw [if_neg h1, if_neg h2]
  exact ih b q z h m (by omega)
theorem text_cut {w r : List UInt8} {i e : Nat} {t : List UInt8} {bad : Int} (h : textF (w ++ r) i = .ok (t, e, bad)) (he : e <= w.length) : textF w i = .ok (t, e, bad) := by
 have hle := text_le h
 unfold textF at h ⊢
 have hd : w.drop (i + 1) = ((w ++ r).drop (i + 1)).take (w.length - (i + 1)) := by
  rw [drop_pre (by omega), List.take_append_of_le_length (by simp), List.take_of_length_le (by simp)]
 split at h
 ·cases h
 ·rename_i b p z hh
  split at h
  ·cases h
  ·rename_i hl
   cases h
   rw [hd, textL_cut _ _ _ _ _ _ _ hh _ (by omega)]
   dsimp only
   rw [if_neg hl]
theorem tok_cut {w r : List UInt8} {i : Nat} {x : TokR} (hi : i < w.length) (h : tokF (w ++ r) i = .ok x) (he : x.to = w.length) : tokF w i = .ok x := by
 have hlt : i < (w ++ r).length := by simp; omega
 have g : (w ++ r).getD i 0 = w.getD i 0 := getD_pre hi
 unfold tokF at h ⊢
 dsimp only at h ⊢
 rw [g] at h
 split at h
 ·rename_i hl
  rw [if_pos hl]
  have hn : nameF (w ++ r) i = w.length := by
   split at h
   ·cases h; exact he
   ·split at h
    ·cases h
    ·cases h; exact he
  have e1 : nameF w i = nameF (w ++ r) i := end_cut (by omega) (by show nameF (w ++ r) i <= _; omega)
  rw [e1, <- zkn (c := r) (by omega : nameF (w ++ r) i <= w.length)]
  exact h
 ·rename_i hl
  rw [if_neg hl]
  split at h
  ·rename_i hd
   rw [if_pos hd]
   split at h
   ·rename_i hn
    cases h
    rw [num_cut (by rw [zqA hlt, g]; exact hd) hn (by have := he; dsimp only at this; omega)]
   ·cases h
  ·rename_i hd
   rw [if_neg hd]
   split at h
   ·rename_i hq
    rw [if_pos hq]
    split at h
    ·rename_i hn
     cases h
     rw [text_cut hn (by have := he; dsimp only at this; omega)]
    ·cases h
   ·rename_i hq
    rw [if_neg hq]
    split at h
    ·rename_i hs
     rw [if_pos hs]
     split at h
     ·rename_i hc
      cases h
      dsimp only at he
      have es : signN w i = signN (w ++ r) i := by
       have hh : signN (w ++ r) i = 2 \/ signN (w ++ r) i = 1 := by unfold signN; split <;> simp
       rcases hh with hh | hh
       ·have h2 : i + 2 <= w.length := by omega
        unfold signN
        rw [zkn (by omega : i + 2 <= w.length)]
        have : i + 2 <= (w ++ r).length ↔ i + 2 <= w.length := by simp; omega
        simp only [this]
       ·rw [hh]
        unfold signN
        rw [if_neg (by omega)]
      rw [es, <- zkn (c := r) (by omega : i + signN (w ++ r) i <= w.length), if_pos hc]
     ·cases h
    ·cases h
theorem tok_skip {s : List UInt8} {i : Nat} {x : TokR} (hi : i < s.length) (h : tokF s i = .ok x) : skipF s i = .ok i := by
 rw [zkf hi]
 unfold tokF at h
 dsimp only at h
 have h1 : letB (s.getD i 0) = true -> ¬ ((s.getD i 0).toNat = 32 \/ (s.getD i 0).toNat = 10) /\ (s.getD i 0).toNat ≠ 36 := by intro h; unfold letB at h; simp only [Bool.or_eq_true, Bool.and_eq_true, decide_eq_true_eq] at h; omega
 have h2 : digB (s.getD i 0) = true -> ¬ ((s.getD i 0).toNat = 32 \/ (s.getD i 0).toNat = 10) /\ (s.getD i 0).toNat ≠ 36 := by intro h; unfold digB at h; simp only [Bool.or_eq_true, Bool.and_eq_true, decide_eq_true_eq] at h; omega
 have h3 : signB (s.getD i 0) = true -> ¬ ((s.getD i 0).toNat = 32 \/ (s.getD i 0).toNat = 10) /\ (s.getD i 0).toNat ≠ 36 := by
  intro h; unfold signB at h
  generalize (s.getD i 0).toNat = n at h
  simp at h; omega
 have key : ¬ ((s.getD i 0).toNat = 32 \/ (s.getD i 0).toNat = 10) /\ (s.getD i 0).toNat ≠ 36 := by
  split at h
  ·exact h1 (by assumption)
  ·split at h
   ·exact h2 (by assumption)
   ·split at h
    ·omega
    ·split at h
     ·exact h3 (by assumption)
     ·cases h
 rw [if_neg key.1, if_neg key.2]
theorem split3 (s : List UInt8) {i e : Nat} (h1 : i <= e) (h2 : e <= s.length) : s = s.take i ++ (cutF s i e ++ s.drop e) := by
 unfold cutF
 have : s = s.take e ++ s.drop e := (List.take_append_drop e s).symm
 conv => lhs; rw [this]
 rw [<- List.append_assoc]
 congr 1
 have : (s.take e).take i ++ (s.take e).drop i = s.take e := List.take_append_drop i (s.take e)
 rw [List.take_take, Nat.min_eq_left h1] at this
 exact this.symm
theorem scan_alone {s : List UInt8} {i : Nat} {x : TokR} (hs : s.length <= 20000) (hi : i < s.length) (h : tokF s i = .ok x) (hb : ¬ 0 <= x.bad) : scanF (cutF s i x.to) = ([⟨x.kind, x.text, 0, x.to - i⟩], 0, 0) := by
 have hle := tok_le hi h
 have hcl := zvh (s := s) (i := i) hle.2.1
 have hsp := split3 s (Nat.le_of_lt hle.1) hle.2.1
 have hti : (s.take i).length = i := by rw [List.length_take]; omega
 have h1 : tokF (cutF s i x.to ++ s.drop x.to) 0 = .ok ⟨x.kind, x.text, x.to - i, x.bad⟩ := by
  have := tok_suf (c := s.take i) (b := cutF s i x.to ++ s.drop x.to) (i := 0)
  rw [<- hsp, hti, Nat.add_zero, h] at this
  cases hq : tokF (cutF s i x.to ++ s.drop x.to) 0 with
  | error e => rw [hq] at this; cases this
  | ok y =>
   rw [hq] at this
   obtain ⟨yk, yt, ye, yb⟩ := y
   simp only [mvT, Except.ok.injEq] at this
   subst this
   unfold mvB at hb ⊢
   dsimp only at hb hle ⊢
   have : i + ye - i = ye := by omega
   rw [this]
   split
   ·rfl
   ·rename_i hyb
    exfalso
    rw [if_neg hyb] at hb
    omega
 have h2 := tok_cut (by omega) h1 (by dsimp only; omega)
 have h3 := tok_skip (by omega) h2
 have h4 : stepF (cutF s i x.to) 0 [] = .go (x.to - i) [⟨x.kind, x.text, 0, x.to - i⟩] := step_go h3 (by omega) h2 (by simp) hb
 have h5 : stepF (cutF s i x.to) (x.to - i) [⟨x.kind, x.text, 0, x.to - i⟩] = .done [⟨x.kind, x.text, 0, x.to - i⟩] := step_done (zjQ (by omega)) (by omega)
 have h6 : zqJ (cutF s i x.to) = .done [⟨x.kind, x.text, 0, x.to - i⟩] := ends_eq (.step h4 (.stop h5 rfl))
 rw [scanF_eq, if_neg (by omega), h6]
end
end Go.Proofs.YtekioipmhhcbhaaGreatDoor
