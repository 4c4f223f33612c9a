/- Where a token ends: at most two bytes behind it matter; other bytes behind it that stop it too leave it as it is. -/
import Derived.Test.YtekioipmhhcbhaaDoorV5
set_option linter.unusedVariables false
set_option linter.unusedSectionVars false
set_option linter.unusedSimpArgs false
namespace Go.Proofs.YtekioipmhhcbhaaDoor
open Go Go.Z Go.Q Go.W6
open Go.Y hiding KE KK KR go Task go_sound
noncomputable section
theorem tw_stop {p : UInt8 -> Bool} {r : List UInt8} : ∀ u : List UInt8, ((u ++ r).takeWhile p).length = u.length -> isAt p r 0 = false
 | [], h => by
  cases r with
  | nil => rfl
  | cons c r =>
   show p c = false
   cases hc : p c with
   | false => rfl
   | true => rw [List.nil_append, List.takeWhile_cons, if_pos hc] at h; cases h
 | c :: u, h => by
  rw [List.cons_append, List.takeWhile_cons] at h
  cases hc : p c with
  | false => rw [if_neg (by rw [hc]; simp)] at h; cases h
  | true =>
   rw [if_pos hc] at h
   exact tw_stop u (by simpa using h)
theorem tw_ext {p : UInt8 -> Bool} {R : List UInt8} (hR : isAt p R 0 = false) : ∀ u : List UInt8, (u ++ R).takeWhile p = u.takeWhile p
 | [] => by
  cases R with
  | nil => rfl
  | cons c R =>
   have hR : p c = false := hR
   rw [List.nil_append, List.takeWhile_cons, if_neg (by rw [hR]; simp)]; rfl
 | c :: u => by
  rw [List.cons_append, List.takeWhile_cons, List.takeWhile_cons, tw_ext hR u]
theorem end_stop {p : UInt8 -> Bool} {w r : List UInt8} {i : Nat} (hi : i <= w.length) (h : endF p (w ++ r) i = w.length) : isAt p r 0 = false := by
 unfold endF at h
 rw [drop_pre hi] at h
 exact tw_stop (w.drop i) (by rw [List.length_drop]; omega)
theorem end_ext {p : UInt8 -> Bool} {w R : List UInt8} {i : Nat} (hi : i <= w.length) (hR : isAt p R 0 = false) : endF p (w ++ R) i = endF p w i := by
 unfold endF
 rw [drop_pre hi, tw_ext hR]
theorem isAt_at {p : UInt8 -> Bool} {w R : List UInt8} {k : Nat} : isAt p (w ++ R) (w.length + k) = isAt p R k := by
 unfold isAt; rw [List.getElem?_append_right (by omega), Nat.add_sub_cancel_left]
def Stop (k : Nat) (w R : List UInt8) : Prop :=
 ((k = 1 \/ k = 2) -> isAt restB R 0 = false) /\ ((k = 3 \/ k = 4) -> isAt digB R 0 = false) /\ (k = 3 -> (isAt (λ b => b.toNat == 46) R 0 && isAt digB R 1) = false) /\ (k = 5 -> isAt (λ b => b.toNat == 34) R 0 = false) /\
  (k = 6 -> w.length = 1 -> ∀ c, R[0]? = some c -> w ++ [c] ∉ signsL)
theorem num_stop {w r : List UInt8} {k : Nat} {t : List UInt8} (hw : 0 < w.length) (h : numF (w ++ r) 0 = some (k, t, w.length)) : (k = 3 \/ k = 4) /\ isAt digB r 0 = false /\ (k = 3 -> (isAt (λ b => b.toNat == 46) r 0 && isAt digB r 1) = false) := by
 unfold numF at h
 dsimp only at h
 split at h
 ·rename_i hd
  split at h
  ·cases h
  ·simp only [Option.some.injEq, Prod.mk.injEq] at h
   obtain ⟨rfl, _, he⟩ := h
   rw [he] at hd
   refine ⟨.inl rfl, end_stop (Nat.zero_le _) he, λ _ => ?_⟩
   have h0 := isAt_at (p := λ b => b.toNat == 46) (w := w) (R := r) (k := 0)
   have h1 := isAt_at (p := digB) (w := w) (R := r) (k := 1)
   rw [Nat.add_zero] at h0
   rw [<- h0, <- h1]; exact hd
 ·rename_i hd
  split at h
  ·cases h
  ·simp only [Option.some.injEq, Prod.mk.injEq] at h
   obtain ⟨rfl, _, he⟩ := h
   refine ⟨.inr rfl, ?_, λ h => (by cases h)⟩
   have hj : digF (w ++ r) 0 + 1 <= w.length := by
    rw [<- he]
    show digF (w ++ r) 0 + 1 <= digF (w ++ r) 0 + 1 + _
    omega
   exact end_stop hj he
theorem num_ext {w R : List UInt8} {k : Nat} {t : List UInt8} (hw : 0 < w.length) (h : numF w 0 = some (k, t, w.length)) (h1 : isAt digB R 0 = false) (h2 : k = 3 -> (isAt (λ b => b.toNat == 46) R 0 && isAt digB R 1) = false) : numF (w ++ R) 0 = some (k, t, w.length) := by
 have hj : digF (w ++ R) 0 = digF w 0 := end_ext (Nat.zero_le _) h1
 unfold numF at h ⊢
 dsimp only at h ⊢
 rw [hj]
 split at h
 ·rename_i hd
  split at h
  ·cases h
  ·rename_i hl
   simp only [Option.some.injEq, Prod.mk.injEq] at h
   obtain ⟨rfl, ht, he⟩ := h
   rw [he] at ht hl ⊢
   have a0 := isAt_at (p := λ b => b.toNat == 46) (w := w) (R := R) (k := 0)
   have a1 := isAt_at (p := digB) (w := w) (R := R) (k := 1)
   rw [Nat.add_zero] at a0
   rw [a0, a1, if_pos (h2 rfl), if_neg hl, zqM (Nat.le_refl _), ht]
 ·rename_i hd
  split at h
  ·cases h
  ·rename_i hl
   simp only [Option.some.injEq, Prod.mk.injEq] at h
   obtain ⟨rfl, ht, he⟩ := h
   have hj1 : digF w 0 + 1 <= w.length := by
    rw [<- he]
    show digF w 0 + 1 <= digF w 0 + 1 + _
    omega
   have hj2 : digF w 0 + 1 < w.length := by
    rcases Nat.lt_or_ge (digF w 0 + 1) w.length with h | h
    ·exact h
    ·exfalso
     apply hd
     have : isAt digB w (digF w 0 + 1) = false := by unfold isAt; rw [List.getElem?_eq_none h]
     rw [this, Bool.and_false]
   have he2 : digF (w ++ R) (digF w 0 + 1) = digF w (digF w 0 + 1) := end_ext hj1 h1
   rw [zjW (by omega), zjW hj2, if_neg hd, he2, he]
   rw [he] at ht hl
   rw [zqM (Nat.le_refl _), if_neg hl, zqM (by omega), ht]
theorem zkW (c : UInt8) (l : List UInt8) (p : Nat) (acc : List UInt8) (bad : Int) : textL (c :: l) p acc bad = if c.toNat = 10 then none else if c.toNat = 34 then (match l with | d :: l' => if d.toNat = 34 then textL l' (p + 2) (acc ++ [34]) bad else some (acc, p, bad) | [] => some (acc, p, bad)) else textL l (p + 1) (acc ++ [c]) (if plainB c = false /\ bad < 0 then (p : Int) else bad) := by
 rw [textL.eq_def]; rfl
theorem zkV {r : List UInt8} : ∀ (n : Nat) (l : List UInt8) (p : Nat) (acc : List UInt8) (bad : Int) (b : List UInt8) (q : Nat) (z : Int), l.length <= n -> textL (l ++ r) p acc bad = some (b, q, z) -> q + 1 = p + l.length -> isAt (λ b => b.toNat == 34) r 0 = false
 | n, [], p, acc, bad, b, q, z, _, h, hq => by
  exfalso
  have : p <= q := (zxS _ _ _ _ _ _ _ h).1
  simp at hq; omega
 | 0, _ :: _, _, _, _, _, _, _, hn, _, _ => by simp at hn
 | n + 1, c :: l, p, acc, bad, b, q, z, hn, h, hq => by
  rw [List.cons_append, zkW] at h
  simp only [List.length_cons] at hn hq
  split at h
  ·cases h
  ·split at h
   ·cases l with
    | nil =>
     cases r with
     | nil => rfl
     | cons d r =>
      dsimp only [List.nil_append] at h
      split at h
      ·exfalso
       have := (zxS _ _ _ _ _ _ _ h).1
       simp at hq; omega
      ·rename_i hd
       show (d.toNat == 34) = false
       simpa using hd
    | cons d l =>
     dsimp only [List.cons_append] at h
     split at h
     ·simp only [List.length_cons] at hn hq
      exact zkV n l (p + 2) _ bad b q z (by omega) h (by omega)
     ·simp only [Option.some.injEq, Prod.mk.injEq] at h
      simp only [List.length_cons] at hq
      omega
   ·exact zkV n l (p + 1) _ _ b q z (by omega) h (by omega)
theorem textL_ext {R : List UInt8} (hR : isAt (λ b => b.toNat == 34) R 0 = false) : ∀ (n : Nat) (l : List UInt8) (p : Nat) (acc : List UInt8) (bad : Int) (b : List UInt8) (q : Nat) (z : Int), l.length <= n -> textL l p acc bad = some (b, q, z) -> textL (l ++ R) p acc bad = some (b, q, z)
 | n, [], p, acc, bad, b, q, z, _, h => by cases h
 | 0, _ :: _, _, _, _, _, _, _, hn, _ => by simp at hn
 | n + 1, c :: l, p, acc, bad, b, q, z, hn, h => by
  simp only [List.length_cons] at hn
  rw [List.cons_append, zkW]
  rw [zkW] at h
  split at h
  ·cases h
  ·rename_i h10
   rw [if_neg h10]
   split at h
   ·rename_i h34
    rw [if_pos h34]
    cases l with
    | nil =>
     cases R with
     | nil => exact h
     | cons d R =>
      have hR : (d.toNat == 34) = false := hR
      dsimp only [List.nil_append] at h ⊢
      rw [if_neg (by simpa using hR)]
      exact h
    | cons d l =>
     dsimp only [List.cons_append] at h ⊢
     split at h
     ·rename_i hd
      rw [if_pos hd]
      simp only [List.length_cons] at hn
      exact textL_ext hR n l (p + 2) _ bad b q z (by omega) h
     ·rename_i hd
      rw [if_neg hd]; exact h
   ·rename_i h34
    rw [if_neg h34]
    exact textL_ext hR n l (p + 1) _ _ b q z (by omega) h
theorem tok_stop {w r : List UInt8} {x : TokR} (hw : 0 < w.length) (h : tokF (w ++ r) 0 = .ok x) (he : x.to = w.length) : Stop x.kind w r := by
 unfold tokF at h
 dsimp only at h
 split at h
 ·split at h
  ·cases h
   have he : nameF (w ++ r) 0 = w.length := he
   exact ⟨λ _ => end_stop (Nat.zero_le _) he, λ h => (by rcases h with h | h <;> cases h), λ h => (by cases h), λ h => (by cases h), λ h => (by cases h)⟩
  ·split at h
   ·cases h
   ·cases h
    have he : nameF (w ++ r) 0 = w.length := he
    exact ⟨λ _ => end_stop (Nat.zero_le _) he, λ h => (by rcases h with h | h <;> cases h), λ h => (by cases h), λ h => (by cases h), λ h => (by cases h)⟩
 ·split at h
  ·split at h
   ·rename_i k t e hn
    cases h
    have he : e = w.length := he
    subst he
    obtain ⟨h1, h2, h3⟩ := num_stop hw hn
    refine ⟨λ h => ?_, λ _ => h2, h3, λ h => ?_, λ h => ?_⟩
    ·exfalso; dsimp only at h; omega
    ·exfalso; dsimp only at h; omega
    ·exfalso; dsimp only at h; omega
   ·cases h
  ·split at h
   ·split at h
    ·rename_i t e bad hT
     cases h
     have he : e = w.length := he
     subst he
     refine ⟨λ h => (by rcases h with h | h <;> cases h), λ h => (by rcases h with h | h <;> cases h), λ h => (by cases h), λ _ => ?_, λ h => (by cases h)⟩
     unfold textF at hT
     split at hT
     ·cases hT
     ·rename_i b p z hL
      split at hT
      ·cases hT
      ·simp only [Except.ok.injEq, Prod.mk.injEq] at hT
       obtain ⟨_, hp, _⟩ := hT
       rw [drop_pre (by omega)] at hL
       exact zkV _ (w.drop (0 + 1)) _ _ _ _ _ _ (Nat.le_refl _) hL (by rw [List.length_drop]; omega)
    ·cases h
   ·split at h
    ·split at h
     ·cases h
      have he : 0 + signN (w ++ r) 0 = w.length := he
      refine ⟨λ h => (by rcases h with h | h <;> cases h), λ h => (by rcases h with h | h <;> cases h), λ h => (by cases h), λ h => (by cases h), λ _ h1 c hc hm => ?_⟩
      unfold signN at he
      split at he
      ·omega
      ·rename_i hno
       apply hno
       cases r with
       | nil => cases hc
       | cons d r =>
        cases hc
        refine ⟨by simp; omega, ?_⟩
        have : cutF (w ++ c :: r) 0 (0 + 2) = w ++ [c] := by
         unfold cutF
         obtain ⟨a, rfl⟩ := List.length_eq_one_iff.1 h1
         rfl
        rw [this]; exact hm
     ·cases h
    ·cases h
theorem getD_app {w R : List UInt8} (hw : 0 < w.length) : (w ++ R).getD 0 0 = w.getD 0 0 := getD_pre hw
theorem tok_ext {w R : List UInt8} {x : TokR} (hw : 0 < w.length) (h : tokF w 0 = .ok x) (he : x.to = w.length) (hs : Stop x.kind w R) : tokF (w ++ R) 0 = .ok x := by
 obtain ⟨s1, s2, s3, s4, s5⟩ := hs
 unfold tokF at h ⊢
 dsimp only at h ⊢
 rw [getD_app hw]
 split at h
 ·rename_i hc
  rw [if_pos hc]
  have key : isAt restB R 0 = false -> nameF (w ++ R) 0 = nameF w 0 := λ h => end_ext (Nat.zero_le _) h
  split at h
  ·rename_i hm
   cases h
   have he : nameF w 0 = w.length := he
   rw [key (s1 (.inr rfl)), he, zqM (Nat.le_refl _)]
   rw [he] at hm
   rw [if_pos hm]
  ·rename_i hm
   split at h
   ·cases h
   ·rename_i hl
    cases h
    have he : nameF w 0 = w.length := he
    rw [key (s1 (.inl rfl)), he, zqM (Nat.le_refl _)]
    rw [he] at hm hl
    rw [if_neg hm, if_neg hl]
 ·rename_i hc
  rw [if_neg hc]
  split at h
  ·rename_i hd
   rw [if_pos hd]
   split at h
   ·rename_i k t e hn
    cases h
    have he : e = w.length := he
    subst he
    have hk : k = 3 \/ k = 4 := (num_stop (r := []) hw (by rw [List.append_nil]; exact hn)).1
    rw [num_ext hw hn (s2 hk) s3]
   ·cases h
  ·rename_i hd
   rw [if_neg hd]
   split at h
   ·rename_i hq
    rw [if_pos hq]
    split at h
    ·rename_i t e bad hT
     cases h
     have he : e = w.length := he
     subst he
     have : textF (w ++ R) 0 = .ok (t, w.length, bad) := by
      unfold textF at hT ⊢
      rw [drop_pre (by omega)]
      split at hT
      ·cases hT
      ·rename_i b p z hL
       rw [textL_ext (s4 rfl) _ _ _ _ _ _ _ _ (Nat.le_refl _) hL]
       exact hT
     rw [this]
    ·cases h
   ·rename_i hq
    rw [if_neg hq]
    split at h
    ·rename_i hb
     rw [if_pos hb]
     split at h
     ·rename_i hm
      cases h
      have he : 0 + signN w 0 = w.length := he
      have : signN (w ++ R) 0 = signN w 0 := by
       unfold signN at he ⊢
       split at he
       ·rename_i h2
        rw [if_pos h2, if_pos ⟨by simp; omega, by rw [zqM (by omega)]; exact h2.2⟩]
       ·rename_i h2
        rw [if_neg h2, if_neg]
        rintro ⟨h3, h4⟩
        cases R with
        | nil => rw [List.append_nil] at h3 h4; exact h2 ⟨h3, h4⟩
        | cons d R =>
         refine s5 rfl (by omega) d rfl ?_
         obtain ⟨a, rfl⟩ := List.length_eq_one_iff.1 (show w.length = 1 by omega)
         exact h4
      rw [this, zqM (by omega), if_pos hm]
     ·cases h
    ·cases h
end
end Go.Proofs.YtekioipmhhcbhaaDoor
namespace Go.Proofs.YtekioipmhhcbhaaDoor
open Go Go.Z Go.Q Go.W6
open Go.Y hiding KE KK KR go Task go_sound
noncomputable section
def noteB (c : UInt8) : Bool := plainB c && !(c.toNat == 10)
inductive Wp : Nat -> List UInt8 -> List Tok -> Prop
 | nil (i : Nat) : Wp i [] []
 | blank {i : Nat} {c : UInt8} {r : List UInt8} {l : List Tok} : c.toNat = 32 \/ c.toNat = 10 -> Wp (i + 1) r l -> Wp i (c :: r) l
 | note {i : Nat} {b r : List UInt8} {l : List Tok} : b.all noteB = true -> (r = [] \/ ∃ r', r = 10 :: r') -> Wp (i + 1 + b.length) r l -> Wp i (36 :: (b ++ r)) l
 | tok {i : Nat} {w r : List UInt8} {x : TokR} {l : List Tok} : 0 < w.length -> tokF (w ++ r) 0 = .ok x -> x.to = w.length -> ¬ 0 <= x.bad -> Wp (i + w.length) r l -> Wp i (w ++ r) (⟨x.kind, x.text, i, i + w.length⟩ :: l)
theorem c36 {c : UInt8} (h : c.toNat = 36) : c = 36 := UInt8.toNat_inj.1 h
theorem c10 {c : UInt8} (h : c.toNat = 10) : c = 10 := UInt8.toNat_inj.1 h
theorem skip_wp : ∀ (u : List UInt8) (p q : Nat) (l : List Tok), (skipL false u p = .ok q -> p <= q /\ q <= p + u.length /\ (Wp q (u.drop (q - p)) l -> Wp p u l)) /\
  (skipL true u p = .ok q -> p <= q /\ q <= p + u.length /\ (Wp q (u.drop (q - p)) l -> ∃ b r, u = b ++ r /\ b.all noteB = true /\ (r = [] \/ ∃ r', r = 10 :: r') /\ Wp (p + b.length) r l))
 | [], p, q, l => by
  constructor
  ·intro h; cases h; exact ⟨Nat.le_refl _, by simp, λ h => by simpa using h⟩
  ·intro h; cases h; exact ⟨Nat.le_refl _, by simp, λ h => ⟨[], [], rfl, rfl, .inl rfl, by simpa using h⟩⟩
 | c :: u, p, q, l => by
  obtain ⟨i1, i2⟩ := skip_wp u (p + 1) q l
  constructor
  ·intro h
   rw [zjr] at h
   split at h
   ·rename_i hc
    obtain ⟨a1, a2, a3⟩ := i1 h
    refine ⟨by omega, by simp; omega, λ hw => .blank hc (a3 ?_)⟩
    rwa [show q - p = (q - (p + 1)) + 1 by omega, List.drop_succ_cons] at hw
   ·split at h
    ·rename_i hc
     obtain ⟨a1, a2, a3⟩ := i2 h
     refine ⟨by omega, by simp; omega, λ hw => ?_⟩
     rw [show q - p = (q - (p + 1)) + 1 by omega, List.drop_succ_cons] at hw
     obtain ⟨b, r, rfl, hb, hr, hwp⟩ := a3 hw
     rw [c36 hc]
     exact .note hb hr hwp
    ·cases h
     exact ⟨Nat.le_refl _, by simp, λ h => by simpa using h⟩
  ·intro h
   rw [zjF] at h
   split at h
   ·rename_i hc
    obtain ⟨a1, a2, a3⟩ := i1 h
    refine ⟨by omega, by simp; omega, λ hw => ⟨[], c :: u, rfl, rfl, .inr ⟨u, by rw [c10 hc]⟩, .blank (.inr hc) (a3 ?_)⟩⟩
    rwa [show q - p = (q - (p + 1)) + 1 by omega, List.drop_succ_cons] at hw
   ·rename_i hc
    split at h
    ·rename_i hp
     obtain ⟨a1, a2, a3⟩ := i2 h
     refine ⟨by omega, by simp; omega, λ hw => ?_⟩
     rw [show q - p = (q - (p + 1)) + 1 by omega, List.drop_succ_cons] at hw
     obtain ⟨b, r, rfl, hb, hr, hwp⟩ := a3 hw
     refine ⟨c :: b, r, rfl, ?_, hr, by rw [List.length_cons, show p + (b.length + 1) = p + 1 + b.length by omega]; exact hwp⟩
     rw [List.all_cons, hb]
     unfold noteB
     simp [hp, hc]
    ·cases h
theorem tok_zero {s : List UInt8} {j : Nat} {x : TokR} (hj : j < s.length) (h : tokF s j = .ok x) : ∃ y, tokF (s.drop j) 0 = .ok y /\ x.kind = y.kind /\ x.text = y.text /\ x.to = j + y.to /\ (0 <= x.bad ↔ 0 <= y.bad) := by
 have hl : (s.take j).length = j := by rw [List.length_take]; omega
 have := tok_suf (c := s.take j) (b := s.drop j) (i := 0)
 rw [List.take_append_drop, hl, Nat.add_zero, h] at this
 cases hy : tokF (s.drop j) 0 with
 | error e => rw [hy] at this; cases this
 | ok y =>
  rw [hy] at this
  simp only [mvT, Except.ok.injEq] at this
  subst this
  refine ⟨y, rfl, rfl, rfl, rfl, ?_⟩
  show 0 <= mvB j y.bad ↔ _
  unfold mvB
  split <;> omega
theorem ends_wp {s : List UInt8} {i : Nat} {l : List Tok} {r : Scn} (h : Ends s i l r) : i <= s.length -> ∀ m, r = .done m -> ∃ l', m = l ++ l' /\ Wp i (s.drop i) l' := by
 induction h with
 | @stop i l r h1 h2 =>
  rintro hi m rfl
  unfold stepF at h1
  split at h1
  ·cases h1
  ·rename_i j hj
   obtain ⟨a1, a2, a3⟩ := (skip_wp (s.drop i) i j []).1 hj
   split at h1
   ·rename_i hl
    cases h1
    refine ⟨[], by simp, a3 ?_⟩
    rw [List.drop_drop, show i + (j - i) = j by omega, List.drop_eq_nil_iff.2 hl]
    exact .nil _
   ·split at h1
    ·cases h1
    ·split at h1
     ·cases h1
     ·split at h1 <;> cases h1
 | @step i l i' l' r h1 h2 ih =>
  rintro hi m rfl
  obtain ⟨b1, b2, _⟩ := zkt hi h1
  obtain ⟨l2, rfl, hw⟩ := ih b2 m rfl
  unfold stepF at h1
  split at h1
  ·cases h1
  ·rename_i j hj
   split at h1
   ·cases h1
   ·rename_i hl
    split at h1
    ·cases h1
    ·rename_i x hx
     split at h1
     ·cases h1
     ·split at h1
      ·cases h1
      ·rename_i hb
       simp only [Scn.go.injEq] at h1
       obtain ⟨rfl, rfl⟩ := h1
       obtain ⟨a1, a2, a3⟩ := (skip_wp (s.drop i) i j (⟨x.kind, x.text, j, x.to⟩ :: l2)).1 hj
       refine ⟨⟨x.kind, x.text, j, x.to⟩ :: l2, by simp, a3 ?_⟩
       rw [List.drop_drop, show i + (j - i) = j by omega]
       have hjs : j < s.length := by omega
       obtain ⟨y, hy, k1, k2, k3, k4⟩ := tok_zero hjs hx
       have hjt := tok_le hjs hx
       have hd : s.drop j = (s.drop j).take y.to ++ s.drop x.to := by
        have := List.take_append_drop y.to (s.drop j)
        rw [List.drop_drop, <- k3] at this
        exact this.symm
       have hwl : ((s.drop j).take y.to).length = y.to := by rw [List.length_take, List.length_drop]; omega
       rw [hd] at hy ⊢
       have := Wp.tok (i := j) (w := (s.drop j).take y.to) (r := s.drop x.to) (l := l2) (by omega) hy hwl.symm (λ h => hb (k4.2 h)) (by rw [hwl, <- k3]; exact hw)
       rw [hwl, <- k3, <- k1, <- k2] at this
       exact this
end
end Go.Proofs.YtekioipmhhcbhaaDoor
namespace Go.Proofs.YtekioipmhhcbhaaDoor
open Go Go.Z Go.Q Go.W6
open Go.Y hiding KE KK KR go Task go_sound
noncomputable section
theorem ends_same {s : List UInt8} {i i' : Nat} {l : List Tok} {r : Scn} (h : skipF s i = skipF s i') (h2 : Ends s i' l r) : Ends s i l r := by
 cases h2 with
 | stop h3 h4 => exact .stop ((step_same h l).trans h3) h4
 | step h3 h4 => exact .step ((step_same h l).trans h3) h4
theorem drop_cons {s : List UInt8} {i : Nat} {c : UInt8} {r : List UInt8} (h : s.drop i = c :: r) : i < s.length /\ s.drop (i + 1) = r := by
 refine ⟨?_, ?_⟩
 ·rcases Nat.lt_or_ge i s.length with h1 | h1
  ·exact h1
  ·rw [List.drop_eq_nil_iff.2 h1] at h; cases h
 ·rw [<- List.drop_drop, h]; rfl
theorem skip_noteW : ∀ (b : List UInt8) {r : List UInt8} {p : Nat}, b.all noteB = true -> (r = [] \/ ∃ r', r = 10 :: r') -> skipL true (b ++ r) p = skipL false r (p + b.length)
 | [], r, p, _, hr => by
  rcases hr with rfl | ⟨r', rfl⟩
  ·rfl
  ·rw [List.nil_append, zjF, zjr, if_pos (by decide), if_pos (by decide)]; rfl
 | c :: b, r, p, hb, hr => by
  rw [List.all_cons, Bool.and_eq_true] at hb
  have hc := hb.1
  unfold noteB at hc
  simp only [Bool.and_eq_true, Bool.not_eq_true', beq_eq_false_iff_ne, ne_eq] at hc
  rw [List.cons_append, zjF, if_neg hc.2, if_pos hc.1, skip_noteW b hb.2 hr, List.length_cons, show p + 1 + b.length = p + (b.length + 1) by omega]
theorem wp_ends {s : List UInt8} {i : Nat} {u : List UInt8} {l' : List Tok} (h : Wp i u l') : i <= s.length -> s.drop i = u -> ∀ l : List Tok, l.length + l'.length <= 6000 -> Ends s i l (.done (l ++ l')) := by
 induction h with
 | nil i =>
  intro hi hu l hl
  refine .stop ?_ rfl
  have : s.length <= i := List.drop_eq_nil_iff.1 hu
  unfold stepF skipF
  rw [hu]
  show (if s.length <= i then Scn.done l else _) = _
  rw [if_pos this, List.append_nil]
 | @blank i c r l1 hc h ih =>
  intro hi hu l hl
  obtain ⟨h1, h2⟩ := drop_cons hu
  refine ends_same ?_ (ih (by omega) h2 l hl)
  unfold skipF
  rw [hu, h2, zjr, if_pos hc]
 | @note i b r l1 hb hr h ih =>
  intro hi hu l hl
  obtain ⟨h1, h2⟩ := drop_cons hu
  have h3 : s.drop (i + 1 + b.length) = r := by rw [<- List.drop_drop, h2, List.drop_left]
  have h4 := congrArg List.length hu
  rw [List.length_drop, List.length_cons, List.length_append] at h4
  refine ends_same ?_ (ih (by omega) h3 l hl)
  unfold skipF
  rw [hu, h3, zjr, if_neg (by decide), if_pos (by decide), skip_noteW b hb hr]
 | @tok i w r x l1 hw hx he hb h ih =>
  intro hi hu l hl
  simp only [List.length_cons] at hl
  have h4 := congrArg List.length hu
  rw [List.length_drop, List.length_append] at h4
  have hlen : (s.take i).length = i := by rw [List.length_take]; omega
  have ht := tok_suf (c := s.take i) (b := s.drop i) (i := 0)
  rw [List.take_append_drop, hlen, Nat.add_zero, hu, hx] at ht
  have hd : s.drop (i + w.length) = r := by rw [<- List.drop_drop, hu, List.drop_left]
  have hi2 : i < s.length := by omega
  refine .step (i' := i + w.length) (l' := l ++ [⟨x.kind, x.text, i, i + w.length⟩]) ?_ ?_
  ·unfold stepF
   rw [tok_skip hi2 ht]
   dsimp only
   rw [if_neg (by omega), ht]
   dsimp only [mvT]
   rw [if_neg (by omega), if_neg, he]
   unfold mvB
   split <;> omega
  ·have := ih (by omega) hd (l ++ [⟨x.kind, x.text, i, i + w.length⟩]) (by simp; omega)
   rw [List.append_assoc] at this
   exact this
def ktT (t : Tok) : Nat × List UInt8 := (t.kind, t.text)
inductive Ws : List UInt8 -> List (Nat × List UInt8) -> Prop
 | nil : Ws [] []
 | blank {c : UInt8} {r : List UInt8} {l} : c.toNat = 32 \/ c.toNat = 10 -> Ws r l -> Ws (c :: r) l
 | note {b r : List UInt8} {l} : b.all noteB = true -> (r = [] \/ ∃ r', r = 10 :: r') -> Ws r l -> Ws (36 :: (b ++ r)) l
 | tok {w r : List UInt8} {x : TokR} {l} : 0 < w.length -> tokF (w ++ r) 0 = .ok x -> x.to = w.length -> ¬ 0 <= x.bad -> Ws r l -> Ws (w ++ r) ((x.kind, x.text) :: l)
theorem ws_wp {u : List UInt8} {ts : List (Nat × List UInt8)} (h : Ws u ts) : ∀ i, ∃ l, Wp i u l /\ l.map ktT = ts := by
 induction h with
 | nil => exact λ i => ⟨[], .nil i, rfl⟩
 | blank hc _ ih => exact λ i => let ⟨l, h1, h2⟩ := ih (i + 1); ⟨l, .blank hc h1, h2⟩
 | @note b _ _ hb hr _ ih => exact λ i => let ⟨l, h1, h2⟩ := ih (i + 1 + b.length); ⟨l, .note hb hr h1, h2⟩
 | @tok w _ x _ hw hx he hb _ ih => exact λ i => let ⟨l, h1, h2⟩ := ih (i + w.length); ⟨_, .tok hw hx he hb h1, by rw [List.map_cons, h2]; rfl⟩
theorem wp_len {i : Nat} {u : List UInt8} {l : List Tok} (h : Wp i u l) : l.length <= u.length := by
 induction h with
 | nil => exact Nat.le_refl _
 | blank _ _ ih => exact Nat.le_succ_of_le ih
 | note _ _ _ ih => simp; omega
 | tok hw _ _ _ _ ih => simp; omega
theorem scan_ws {s : List UInt8} (hs : s.length <= 20000) (h : (scanF s).2.2 = 0) : Wp 0 s (scanF s).1 := by
 rcases zjt hs with ⟨x, h1, h2, _⟩ | ⟨p, e, _, h2, _, _, h3⟩
 ·obtain ⟨l', e, hw⟩ := ends_wp (zjj s) (Nat.zero_le _) x h1
  rw [h2]
  rw [List.nil_append] at e
  rw [e]; exact hw
 ·rw [h2] at h; exact absurd h h3
theorem ws_scan {s : List UInt8} {ts : List (Nat × List UInt8)} (hs : s.length <= 20000) (ht : ts.length <= 6000) (h : Ws s ts) : (scanF s).2.2 = 0 /\ (scanF s).1.map ktT = ts := by
 obtain ⟨l, hw, rfl⟩ := ws_wp h 0
 rw [List.length_map] at ht
 have he := ends_eq (wp_ends hw (Nat.zero_le _) rfl [] (by simpa using ht))
 have := scanF_eq s
 rw [if_neg (by omega), he] at this
 rw [this]
 exact ⟨rfl, rfl⟩
end
end Go.Proofs.YtekioipmhhcbhaaDoor
namespace Go.Proofs.YtekioipmhhcbhaaDoor
open Go Go.Z Go.Q Go.W6
open Go.Y hiding KE KK KR go Task go_sound
noncomputable section
def upC (b : Bool) (i : Nat) (c : UInt8) : UInt8 := if b = true /\ 97 <= c.toNat /\ c.toNat <= 122 /\ i % 3 = 0 then c - 32 else c
def inT (l : List Tok) (i : Nat) : Bool := match l with | t :: _ => decide (t.at_ <= i) && (t.kind == 1 || t.kind == 2) | [] => false
def dropT (i : Nat) (l : List Tok) : List Tok := l.dropWhile λ t => decide (t.to <= i)
def insB (note : List UInt8) (n : Int) : List UInt8 := if n = 1 then [32, 36] ++ note else if n = 2 then [32, 32, 10, 32] else if n = 3 then [32, 10, 10, 36] else []
def outF (note : List UInt8) : List UInt8 -> Nat -> List Tok -> List Int -> List UInt8
 | [], i, l, ns => insB note (ns.headD 0)
 | c :: r, i, l, ns => if c.toNat = 10 then insB note (ns.headD 0) ++ 10 :: outF note r (i + 1) l ns.tail else upC (inT (dropT i l) i) i c :: outF note r (i + 1) l ns
theorem drop_keep {i : Nat} {l : List Tok} (h : ∀ t ∈ l, i < t.to) : dropT i l = l := by
 cases l with
 | nil => rfl
 | cons t l =>
  unfold dropT
  rw [List.dropWhile_cons, if_neg (by have := h t List.mem_cons_self; simp; omega)]
theorem wp_ge {i : Nat} {u : List UInt8} {l : List Tok} (h : Wp i u l) : ∀ t ∈ l, i <= t.at_ /\ t.at_ < t.to := by
 induction h with
 | nil => intro t ht; cases ht
 | blank _ _ ih => intro t ht; have := ih t ht; omega
 | note _ _ _ ih => intro t ht; have := ih t ht; omega
 | tok hw _ _ _ _ ih =>
  intro t ht
  rcases List.mem_cons.1 ht with rfl | ht
  ·exact ⟨Nat.le_refl _, by dsimp only; omega⟩
  ·have := ih t ht; omega
theorem in_no {i : Nat} {l : List Tok} (h : ∀ t ∈ l, i < t.at_ /\ t.at_ < t.to) : inT (dropT i l) i = false := by
 rw [drop_keep λ t ht => by have := h t ht; omega]
 cases l with
 | nil => rfl
 | cons t l =>
  have := (h t List.mem_cons_self).1
  show (decide (t.at_ <= i) && (t.kind == 1 || t.kind == 2)) = false
  rw [decide_eq_false (by omega)]; rfl
theorem up_no (i : Nat) (c : UInt8) : upC false i c = c := by simp [upC]
theorem zjz (note : List UInt8) {t : Tok} {l : List Tok} : ∀ (u : List UInt8) (j : Nat) (ns : List Int), t.to <= j -> outF note u j (t :: l) ns = outF note u j l ns
 | [], j, ns, h => rfl
 | c :: u, j, ns, h => by
  have hd : dropT j (t :: l) = dropT j l := by unfold dropT; rw [List.dropWhile_cons, if_pos (by simpa using h)]
  simp only [outF, hd]
  rw [zjz note u (j + 1) _ (by omega), zjz note u (j + 1) _ (by omega)]
def upF (b : Bool) : Nat -> List UInt8 -> List UInt8
 | _, [] => []
 | i, c :: w => upC b i c :: upF b (i + 1) w
theorem upF_len (b : Bool) : ∀ (w : List UInt8) (i : Nat), (upF b i w).length = w.length
 | [], _ => rfl
 | _ :: w, i => by simp [upF, upF_len b w]
theorem upF_no : ∀ (w : List UInt8) (i : Nat), upF false i w = w
 | [], _ => rfl
 | _ :: w, i => by simp [upF, up_no, upF_no w]
theorem out_tok (note : List UInt8) {r : List UInt8} {t : Tok} {l : List Tok} {ns : List Int} : ∀ (w : List UInt8) (p : Nat), (∀ c ∈ w, c.toNat ≠ 10) -> t.at_ <= p -> t.to = p + w.length -> outF note (w ++ r) p (t :: l) ns = upF (t.kind == 1 || t.kind == 2) p w ++ outF note r (p + w.length) (t :: l) ns
 | [], p, _, _, _ => rfl
 | c :: w, p, hc, h1, h2 => by
  simp only [List.length_cons] at h2
  have hd : inT (dropT p (t :: l)) p = (t.kind == 1 || t.kind == 2) := by
   unfold dropT
   rw [List.dropWhile_cons, if_neg (by simp; omega)]
   show (decide (t.at_ <= p) && (t.kind == 1 || t.kind == 2)) = _
   rw [decide_eq_true h1]; rfl
  rw [List.cons_append, outF, if_neg (hc c List.mem_cons_self), hd, out_tok note w (p + 1) (λ x hx => hc x (List.mem_cons_of_mem _ hx)) (by omega) (by omega), upF, List.length_cons, show p + 1 + w.length = p + (w.length + 1) by omega]
  rfl
theorem noteB_10 {c : UInt8} (h : noteB c = true) : c.toNat ≠ 10 := by
 unfold noteB at h
 simp only [Bool.and_eq_true, Bool.not_eq_true', beq_eq_false_iff_ne, ne_eq] at h
 exact h.2
theorem out_note (note : List UInt8) {r : List UInt8} {l : List Tok} {ns : List Int} : ∀ (b : List UInt8) (p : Nat), b.all noteB = true -> (∀ t ∈ l, p + b.length <= t.at_ /\ t.at_ < t.to) -> outF note (b ++ r) p l ns = b ++ outF note r (p + b.length) l ns
 | [], p, _, _ => rfl
 | c :: b, p, hb, ht => by
  rw [List.all_cons, Bool.and_eq_true] at hb
  simp only [List.length_cons] at ht
  rw [List.cons_append, outF, if_neg (noteB_10 hb.1), in_no (λ t h => by have := ht t h; omega), up_no, out_note note b (p + 1) hb.2 (λ t h => by have := ht t h; omega), List.length_cons, show p + 1 + b.length = p + (b.length + 1) by omega]
  rfl
theorem ins_ws {note Y : List UInt8} {ts : List (Nat × List UInt8)} (n : Int) (hn : note.all noteB = true) (hY : Y = [] \/ ∃ Y', Y = 10 :: Y') (h : Ws Y ts) : Ws (insB note n ++ Y) ts := by
 unfold insB
 split
 ·exact .blank (.inl rfl) (.note hn hY h)
 ·split
  ·exact .blank (.inl rfl) (.blank (.inl rfl) (.blank (.inr rfl) (.blank (.inl rfl) h)))
  ·split
   ·exact .blank (.inl rfl) (.blank (.inr rfl) (.blank (.inr rfl) (.note (b := []) rfl hY h)))
   ·exact h
theorem ins_note {note b Y : List UInt8} {ts : List (Nat × List UInt8)} (n : Int) (hn : note.all noteB = true) (hb : b.all noteB = true) (hY : Y = [] \/ ∃ Y', Y = 10 :: Y') (h : Ws Y ts) : Ws (36 :: (b ++ (insB note n ++ Y))) ts := by
 have n32 : noteB 32 = true := by decide
 unfold insB
 split
 ·have := Ws.note (b := b ++ ([32, 36] ++ note)) (r := Y) (by rw [List.all_append, hb, List.all_append, hn]; decide) hY h
  rw [List.append_assoc] at this
  exact this
 ·split
  ·have := Ws.note (b := b ++ [32, 32]) (r := 10 :: 32 :: Y) (by rw [List.all_append, hb]; decide) (.inr ⟨_, rfl⟩) (.blank (.inr rfl) (.blank (.inl rfl) h))
   rw [List.append_assoc] at this
   exact this
  ·split
   ·have := Ws.note (b := b ++ [32]) (r := 10 :: 10 :: 36 :: Y) (by rw [List.all_append, hb]; decide) (.inr ⟨_, rfl⟩) (.blank (.inr rfl) (.blank (.inr rfl) (.note (b := []) rfl hY h)))
    rw [List.append_assoc] at this
    exact this
   ·exact .note hb hY h
def UpOk (p : UInt8 -> Bool) : Prop := p 32 = false /\ p 10 = false /\ ∀ c : UInt8, 97 <= c.toNat -> c.toNat <= 122 -> p (c - 32) = p c
theorem sub32 {c : UInt8} (h : 97 <= c.toNat) : (c - 32).toNat = c.toNat - 32 := by
 rw [UInt8.toNat_sub_of_le]
 ·rfl
 ·rw [UInt8.le_iff_toNat_le]; show 32 <= c.toNat; omega
theorem up_rest : UpOk restB := ⟨by decide, by decide, λ c h1 h2 => by
 have e := sub32 h1
 unfold restB letB digB
 rw [e]
 rw [Bool.eq_iff_iff]; simp; omega⟩
theorem up_dig : UpOk digB := ⟨by decide, by decide, λ c h1 h2 => by
 have e := sub32 h1
 unfold digB
 rw [e]
 rw [Bool.eq_iff_iff]; simp; omega⟩
theorem up_let {c : UInt8} (h1 : 97 <= c.toNat) (h2 : c.toNat <= 122) : letB (c - 32) = letB c := by
 have e := sub32 h1
 unfold letB
 rw [e]
 rw [Bool.eq_iff_iff]; simp; omega
theorem up_eq {n : Nat} (h : n ≠ 32 /\ n ≠ 10 /\ (n < 65 \/ 122 < n)) : UpOk (λ b => b.toNat == n) := ⟨by simpa using Ne.symm h.1, by simpa using Ne.symm h.2.1, λ c h1 h2 => by
 have e := sub32 h1
 show ((c - 32).toNat == n) = (c.toNat == n)
 rw [e, Bool.eq_iff_iff]; simp; omega⟩
theorem upC_test {p : UInt8 -> Bool} (hp : UpOk p) (b : Bool) (i : Nat) (c : UInt8) : p (upC b i c) = p c := by
 unfold upC
 split
 ·rename_i h; exact hp.2.2 c h.2.1 h.2.2.1
 ·rfl
theorem ins_head {p : UInt8 -> Bool} (hp : UpOk p) (note : List UInt8) (n : Int) {Y : List UInt8} (hY : isAt p Y 0 = false) : isAt p (insB note n ++ Y) 0 = false := by
 unfold insB
 split
 ·exact hp.1
 ·split
  ·exact hp.1
  ·split
   ·exact hp.1
   ·exact hY
theorem zkB {p : UInt8 -> Bool} (hp : UpOk p) (note : List UInt8) (u : List UInt8) (i : Nat) (l : List Tok) (ns : List Int) : isAt p (outF note u i l ns) 0 = isAt p u 0 := by
 cases u with
 | nil =>
  have := ins_head hp note (ns.headD 0) (Y := []) rfl
  rw [List.append_nil] at this
  exact this
 | cons c r =>
  rw [outF]
  split
  ·rename_i h
   have h2 : isAt p (c :: r) 0 = false := by show p c = false; rw [c10 h]; exact hp.2.1
   rw [h2]
   exact ins_head hp note _ hp.2.1
  ·exact upC_test hp _ _ _
end
end Go.Proofs.YtekioipmhhcbhaaDoor
namespace Go.Proofs.YtekioipmhhcbhaaDoor
open Go Go.Z Go.Q Go.W6
open Go.Y hiding KE KK KR go Task go_sound
noncomputable section
theorem tok_10 {w r : List UInt8} {x : TokR} (h : tokF (w ++ r) 0 = .ok x) (he : x.to = w.length) : ∀ c ∈ w, c.toNat ≠ 10 := by
 intro c hc h10
 obtain ⟨a, b, rfl⟩ := List.append_of_mem hc
 rw [c10 h10, List.append_assoc, List.cons_append] at h
 rw [List.length_append, List.length_cons] at he
 cases a with
 | nil =>
  rw [List.nil_append] at h
  have h2 : tokF (10 :: (b ++ r)) 0 = .error 120 := rfl
  rw [h2] at h; cases h
 | cons a0 a =>
  rw [tok_pre (by simp)] at h
  have := tok_le (by simp) h
  omega
theorem low_up {c : UInt8} (h1 : 97 <= c.toNat) (h2 : c.toNat <= 122) : Go.Lib.lowerB (c - 32) = Go.Lib.lowerB c := by
 have e := sub32 h1
 have : ∀ n : Fin 123, 97 <= n.val -> Go.Lib.lowerB (UInt8.ofNat n.val - 32) = Go.Lib.lowerB (UInt8.ofNat n.val) := by decide
 have h := this ⟨c.toNat, by omega⟩ h1
 dsimp only at h
 rwa [UInt8.ofNat_toNat] at h
theorem upF_low (b : Bool) : ∀ (w : List UInt8) (i : Nat), Go.Lib.toLowerA (upF b i w) = Go.Lib.toLowerA w
 | [], _ => rfl
 | c :: w, i => by
  have := upF_low b w (i + 1)
  unfold Go.Lib.toLowerA at this ⊢
  rw [upF, List.map_cons, List.map_cons, this]
  congr 1
  unfold upC
  split
  ·rename_i h; exact low_up h.2.1 h.2.2.1
  ·rfl
theorem upF_tw {p : UInt8 -> Bool} (hp : UpOk p) (b : Bool) : ∀ (w : List UInt8) (i : Nat), ((upF b i w).takeWhile p).length = (w.takeWhile p).length
 | [], _ => rfl
 | c :: w, i => by
  rw [upF, List.takeWhile_cons, List.takeWhile_cons, upC_test hp]
  split
  ·rw [List.length_cons, List.length_cons, upF_tw hp b w]
  ·rfl
theorem upC_let (b : Bool) (i : Nat) (c : UInt8) : letB (upC b i c) = letB c := by
 unfold upC
 split
 ·rename_i h; exact up_let h.2.1 h.2.2.1
 ·rfl
theorem tok_case {w : List UInt8} {x : TokR} (i : Nat) (hw : 0 < w.length) (h : tokF w 0 = .ok x) (he : x.to = w.length) : tokF (upF (x.kind == 1 || x.kind == 2) i w) 0 = .ok x := by
 have hn : ∀ b, nameF (upF b i w) 0 = nameF w 0 := λ b => by
  show endF restB _ 0 = endF restB _ 0
  unfold endF
  rw [List.drop_zero, List.drop_zero, upF_tw up_rest]
 have hg : ∀ b, letB ((upF b i w).getD 0 0) = letB (w.getD 0 0) := λ b => by
  cases w with
  | nil => cases hw
  | cons c w => exact upC_let b i c
 by_cases hl : letB (w.getD 0 0) = true
 ·generalize (x.kind == 1 || x.kind == 2) = b
  have hc : nameF w 0 = w.length -> cutF w 0 (nameF w 0) = w := λ h => by rw [h]; unfold cutF; simp
  have hc2 : nameF w 0 = w.length -> cutF (upF b i w) 0 (nameF w 0) = upF b i w := λ h => by rw [h, <- upF_len b w i]; unfold cutF; simp
  unfold tokF at h ⊢
  dsimp only at h ⊢
  rw [if_pos hl] at h
  rw [hg b, if_pos hl, hn b]
  have hN : nameF w 0 = w.length := by
   split at h
   ·cases h; exact he
   ·split at h
    ·cases h
    ·cases h; exact he
  rw [hc hN] at h
  rw [hc2 hN, upF_low]
  exact h
 ·have hk : (x.kind == 1 || x.kind == 2) = false := by
   unfold tokF at h
   dsimp only at h
   rw [if_neg hl] at h
   split at h
   ·split at h
    ·rename_i k t e hm
     cases h
     have he : e = w.length := he
     subst he
     have hk : k = 3 \/ k = 4 := (num_stop (r := []) hw (by rw [List.append_nil]; exact hm)).1
     rcases hk with rfl | rfl <;> rfl
    ·cases h
   ·split at h
    ·split at h
     ·cases h; rfl
     ·cases h
    ·split at h
     ·split at h
      ·cases h; rfl
      ·cases h
     ·cases h
  rw [hk, upF_no]; exact h
theorem out_get0 (note : List UInt8) (u : List UInt8) (i : Nat) (l : List Tok) (ns : List Int) {d : UInt8} (h : (outF note u i l ns)[0]? = some d) : d = 32 \/ d = 10 \/ ∃ b c, u[0]? = some c /\ d = upC b i c := by
 have hi : ∀ (n : Int) (Y : List UInt8), (insB note n ++ Y)[0]? = some d -> d = 32 \/ Y[0]? = some d := λ n Y h => by
  unfold insB at h
  split at h
  ·exact .inl (Option.some.inj h).symm
  ·split at h
   ·exact .inl (Option.some.inj h).symm
   ·split at h
    ·exact .inl (Option.some.inj h).symm
    ·exact .inr h
 cases u with
 | nil =>
  rw [outF, <- List.append_nil (insB note _)] at h
  rcases hi _ _ h with h | h
  ·exact .inl h
  ·cases h
 | cons c r =>
  rw [outF] at h
  split at h
  ·rcases hi _ _ h with h | h
   ·exact .inl h
   ·exact .inr (.inl (Option.some.inj h).symm)
  ·exact .inr (.inr ⟨_, c, rfl, (Option.some.inj h).symm⟩)
theorem signs_in : ∀ x ∈ signsL, ∀ b ∈ x, signB b = true := by decide
theorem sign_up {c : UInt8} (h1 : 97 <= c.toNat) (h2 : c.toNat <= 122) : signB (c - 32) = false := by
 have e := sub32 h1
 unfold signB
 rw [e]
 simp; omega
theorem out_stop {k : Nat} {w r : List UInt8} (note : List UInt8) (i : Nat) (l : List Tok) (ns : List Int) (h : Stop k w r) : Stop k w (outF note r i l ns) := by
 obtain ⟨s1, s2, s3, s4, s5⟩ := h
 refine ⟨λ h => ?_, λ h => ?_, λ h => ?_, λ h => ?_, λ h h1 d hd hm => ?_⟩
 ·rw [zkB up_rest]; exact s1 h
 ·rw [zkB up_dig]; exact s2 h
 ·have h3 := s3 h
  rw [zkB (up_eq (n := 46) (by decide))]
  cases hd : isAt (λ b => b.toNat == 46) r 0 with
  | false => rfl
  | true =>
   rw [hd, Bool.true_and] at h3
   rw [Bool.true_and]
   cases r with
   | nil => cases hd
   | cons c r =>
    have hc : (c.toNat == 46) = true := hd
    have hc : ¬ c.toNat = 10 := by have := eq_of_beq hc; omega
    rw [outF, if_neg hc]
    show isAt digB (outF note r (i + 1) l ns) 0 = false
    rw [zkB up_dig]; exact h3
 ·rw [zkB (up_eq (n := 34) (by decide))]; exact s4 h
 ·have hs := signs_in _ hm d (by simp)
  rcases out_get0 note r i l ns hd with rfl | rfl | ⟨b, c, hc, rfl⟩
  ·revert hs; decide
  ·revert hs; decide
  ·unfold upC at hs hm
   split at hs
   ·rename_i h; rw [sign_up h.2.1 h.2.2.1] at hs; cases hs
   ·rename_i h
    rw [if_neg h] at hm
    exact s5 ‹_› h1 c hc hm
theorem stop_up {k : Nat} {w w' R : List UInt8} (hl : w'.length = w.length) (h6 : k = 6 -> w' = w) (h : Stop k w R) : Stop k w' R :=
 ⟨h.1, h.2.1, h.2.2.1, h.2.2.2.1, λ hk h1 => by
  rw [h6 hk]; exact h.2.2.2.2 hk (by rw [<- hl]; exact h1)⟩
theorem up_lo (b : Bool) (i : Nat) {c : UInt8} (h : c.toNat < 97) : upC b i c = c := by
 unfold upC; rw [if_neg]; omega
theorem out_ws {note : List UInt8} (hn : note.all noteB = true) {i : Nat} {u : List UInt8} {l : List Tok} (h : Wp i u l) : ∀ ns : List Int, Ws (outF note u i l ns) (l.map ktT) := by
 induction h with
 | nil i =>
  intro ns
  have := ins_ws (Y := []) (ns.headD 0) hn (.inl rfl) .nil
  rw [List.append_nil] at this
  exact this
 | @blank i c r l hc h ih =>
  intro ns
  rw [outF]
  split
  ·exact ins_ws _ hn (.inr ⟨_, rfl⟩) (.blank (.inr rfl) (ih _))
  ·rename_i h10
   rw [up_lo _ _ (by omega)]
   exact .blank hc (ih _)
 | @note i b r l hb hr h ih =>
  intro ns
  have hg := wp_ge h
  rw [outF, if_neg (by decide), up_lo _ _ (by decide), out_note note b (i + 1) hb hg]
  rcases hr with rfl | ⟨r', rfl⟩
  ·have := ins_note (Y := []) (ns.headD 0) hn hb (.inl rfl) (ih [])
   rw [List.append_nil] at this
   exact this
  ·have := ih (0 :: ns.tail)
   rw [outF, if_pos (by decide)] at this
   rw [outF, if_pos (by decide)]
   exact ins_note (ns.headD 0) hn hb (.inr ⟨_, rfl⟩) this
 | @tok i w r x l hw hx he hb h ih =>
  intro ns
  rw [out_tok note w i (tok_10 hx he) (Nat.le_refl _) rfl, zjz note r (i + w.length) ns (Nat.le_refl _)]
  have hz := tok_cut (by simpa using hw) hx he
  have hst := tok_stop hw hx he
  have hlen := upF_len (x.kind == 1 || x.kind == 2) w i
  have hcase := tok_case i hw hz he
  refine Ws.tok (by rw [hlen]; exact hw) (tok_ext (by rw [hlen]; exact hw) hcase (by rw [hlen]; exact he) ?_) (by rw [hlen]; exact he) hb (ih ns)
  exact stop_up hlen (λ h6 => by rw [h6]; exact upF_no w i) (out_stop note _ _ _ hst)
theorem lines_law {s note : List UInt8} {ns : List Int} (hs : s.length <= 2000) (hn : note.all noteB = true) (h : (scanF s).2.2 = 0) (hb : (outF note s 0 (scanF s).1 ns).length <= 20000) : (scanF (outF note s 0 (scanF s).1 ns)).2.2 = 0 /\ (scanF (outF note s 0 (scanF s).1 ns)).1.map ktT = (scanF s).1.map ktT := by
 have hw := scan_ws (by omega) h
 have hl := wp_len hw
 exact ws_scan hb (by rw [List.length_map]; omega) (out_ws hn hw ns)
def atF (i : Nat) (l : List Tok) (a : Nat) : Nat := a + ((l.drop a).takeWhile λ t => decide (t.to <= i)).length
theorem tw_drop {α : Type} (p : α -> Bool) : ∀ l : List α, l.drop (l.takeWhile p).length = l.dropWhile p
 | [] => rfl
 | x :: l => by
  rw [List.takeWhile_cons, List.dropWhile_cons]
  split
  ·exact tw_drop p l
  ·rfl
theorem at_drop (i : Nat) (l : List Tok) (a : Nat) : l.drop (atF i l a) = dropT i (l.drop a) := by
 unfold atF dropT
 rw [<- List.drop_drop, tw_drop]
theorem at_le (i : Nat) {l : List Tok} {a : Nat} (h : a <= l.length) : a <= atF i l a /\ atF i l a <= l.length := by
 have := (List.takeWhile_sublist (λ t : Tok => decide (t.to <= i)) (l := l.drop a)).length_le
 rw [List.length_drop] at this
 unfold atF
 omega
theorem out_dropT (note : List UInt8) (u : List UInt8) (i : Nat) (ns : List Int) : ∀ l : List Tok, outF note u i (dropT i l) ns = outF note u i l ns
 | [] => rfl
 | t :: l => by
  unfold dropT
  rw [List.dropWhile_cons]
  split
  ·rename_i h
   rw [zjz note u i ns (by simpa using h)]
   exact out_dropT note u i ns l
  ·rfl
theorem dropT_idem (i : Nat) : ∀ l : List Tok, dropT i (dropT i l) = dropT i l
 | [] => rfl
 | t :: l => by
  unfold dropT
  rw [List.dropWhile_cons]
  split
  ·exact dropT_idem i l
  ·rename_i h; rw [List.dropWhile_cons, if_neg h]
end
end Go.Proofs.YtekioipmhhcbhaaDoor
set_option maxRecDepth 100000
set_option maxHeartbeats 4000000
namespace Go.Proofs.YtekioipmhhcbhaaDoor
open Go Go.Z Go.Q Go.W6
open Go.Y hiding KE KK KR go Task go_sound
noncomputable section
theorem nT {p : Prop} [Decidable p] (h : (!decide p) = true) : ¬ p := by simpa using h
theorem nF {p : Prop} [Decidable p] (h : (!decide p) = false) : p := by simpa using h
def sameR (a b : List V) : Bool := and (decide (vI (a.getD 0 .und) = vI (b.getD 0 .und))) (decide (vS (a.getD 1 .und) = vS (b.getD 1 .und)))
abbrev tokC (xs : List (List V)) : Chunk := .rowsO xs shTok 34
end
end Go.Proofs.YtekioipmhhcbhaaDoor
namespace Go.Proofs.YtekioipmhhcbhaaDoor
open Go Go.Z Go.Q Go.W6
open Go.Y hiding KE KK KR go Task go_sound
noncomputable section
theorem lc_up (s : List UInt8) (i : Nat) : (lc s i).1 <= (lc s (i + 1)).1 := by
 rw [zjM]; split
 ·exact Nat.le_succ _
 ·exact Nat.le_refl _
theorem lc_mono (s : List UInt8) {i j : Nat} (h : i <= j) : (lc s i).1 <= (lc s j).1 := by
 induction h with
 | refl => exact Nat.le_refl _
 | step h ih => exact Nat.le_trans ih (lc_up s _)
theorem lc_flat {s : List UInt8} {i j : Nat} (hij : i <= j) (h : ∀ k, i <= k -> k < j -> (s.getD k 0).toNat ≠ 10) : (lc s j).1 = (lc s i).1 := by
 induction hij with
 | refl => rfl
 | @step m hm ih =>
  have hm' : i <= m := hm
  rw [zjM, if_neg (h m hm' (Nat.lt_succ_self _))]
  exact ih λ k h1 h2 => h k h1 (by omega)
theorem last_nl : ∀ A : List UInt8, (∀ c ∈ A, c.toNat ≠ 10) \/ ∃ a r, A = a ++ 10 :: r /\ ∀ c ∈ r, c.toNat ≠ 10
 | [] => .inl λ c h => by cases h
 | c :: A => by
  rcases last_nl A with h | ⟨a, r, rfl, h⟩
  ·by_cases e : c.toNat = 10
   ·exact .inr ⟨[], A, by rw [show c = 10 from UInt8.toNat_inj.1 e]; rfl, h⟩
   ·refine .inl λ d hd => ?_
    rcases List.mem_cons.1 hd with rfl | hd
    ·exact e
    ·exact h d hd
  ·exact .inr ⟨c :: a, r, rfl, h⟩
theorem getD_ne {l : List UInt8} (h : ∀ c ∈ l, c.toNat ≠ 10) (i : Nat) : (l.getD i 0).toNat ≠ 10 := by
 rcases Nat.lt_or_ge i l.length with hi | hi
 ·rw [List.getD_eq_getElem?_getD, List.getElem?_eq_getElem hi]; exact h _ (List.getElem_mem hi)
 ·rw [List.getD_eq_getElem?_getD, List.getElem?_eq_none hi]; decide
theorem zjy {a b : List UInt8} (hl : a.length + 1 + b.length < 6000) (h : (scanF (a ++ 10 :: b)).2.2 = 0) : ∃ x y, (scanF (a ++ 10 :: b)).1 = x ++ y.map (mvTok (a.length + 1)) /\ Lie a x /\ Lie b y /\ (∃ r, scanF a = (x, r)) /\ ∃ r, scanF b = (y, r) := by
 have h4 := scanF_eq (a ++ 10 :: b)
 rw [if_neg (by simp; omega)] at h4
 rcases zjt (s := a) (by omega) with ⟨x, h1, h2, _, h10⟩ | ⟨p, e, h1, h2, _, _, h3⟩
 ·rcases zjt (s := b) (by omega) with ⟨y, h5, h6, _, h8⟩ | ⟨q, f, h5, h6, _, _, h8⟩
  ·rw [pieces_done hl h1, h5] at h4
   exact ⟨x, y, by rw [h4]; rfl, h10, h8, ⟨_, h2⟩, _, h6⟩
  ·rw [pieces_done hl h1, h5] at h4
   rw [h4] at h
   exact absurd h h8
 ·rw [pieces_err h1] at h4
  rw [h4] at h
  exact absurd h h3
def cntP (p : Int -> Bool) (xs : List (List V)) : Nat := xs.countP λ r => p (vI (r.getD 4 .und))
theorem cntP_map (p : Int -> Bool) (s : List UInt8) (X : List Tok) : cntP p (X.map (rowTok s)) = X.countP λ t => p (lc s t.at_).1 := by
 unfold cntP; rw [List.countP_map]; rfl
theorem ahead {s t : List UInt8} {i : Nat} (hi : i <= s.length) (hs : s.length <= 4000) (ht : t.length <= 4000) (hst : s.take i = t.take i) (hit : i <= t.length) (e1 : (scanF s).2.2 = 0) (e2 : (scanF t).2.2 = 0) :
  ∃ x u v, (scanF s).1 = x ++ u /\ (scanF t).1 = x ++ v /\ (∀ k ∈ x, k.at_ < i) /\ (∀ j, j < x.length -> ((scanF s).1.map (rowTok s)).getD j [] = ((scanF t).1.map (rowTok t)).getD j []) /\ cntP (λ l => decide (l < (lc s i).1)) ((scanF s).1.map (rowTok s)) = x.length := by
 rcases last_nl (s.take i) with h | ⟨a, r, e, h⟩
 ·refine ⟨[], _, _, rfl, rfl, λ k hk => by (cases hk), λ j hj => absurd hj (Nat.not_lt_zero _), ?_⟩
  rw [cntP_map]
  refine List.countP_eq_zero.2 λ k hk => ?_
  have h1 : (lc s i).1 = 1 := by
   rw [lc_flat (i := 0) (Nat.zero_le i) λ k _ hk => ?_]
   ·rfl
   ·have := getD_ne h k
    rwa [List.getD_eq_getElem?_getD, List.getElem?_take_of_lt hk, <- List.getD_eq_getElem?_getD] at this
  have := (lc_le s k.at_).1
  simp only [decide_eq_true_eq]
  omega
 ·have el : i = a.length + 1 + r.length := by
   have := congrArg List.length e
   rw [List.length_take, Nat.min_eq_left hi] at this
   simp at this; omega
  have es : s = a ++ 10 :: (r ++ s.drop i) := by
   have := List.take_append_drop i s
   rw [e, List.append_assoc] at this
   exact this.symm
  have et : t = a ++ 10 :: (r ++ t.drop i) := by
   have := List.take_append_drop i t
   rw [<- hst, e, List.append_assoc] at this
   exact this.symm
  generalize s.drop i = sd at es
  generalize t.drop i = td at et
  subst es et
  have l1 : a.length + 1 + (r ++ sd).length < 6000 := by simp at hs ⊢; omega
  have l2 : a.length + 1 + (r ++ td).length < 6000 := by simp at ht ⊢; omega
  obtain ⟨x, y, h1, h2, h3, ⟨z1, h4⟩, _⟩ := zjy l1 e1
  obtain ⟨x', y', h1', _, _, ⟨z2, h4'⟩, _⟩ := zjy l2 e2
  rw [h4] at h4'
  cases h4'
  have hf : (lc (a ++ 10 :: (r ++ sd)) i).1 = (lc a a.length).1 + 1 := by
   rw [el, lc_suf]
   show _ + (lc (r ++ sd) r.length).1 = _
   rw [lc_pre _ (Nat.le_refl _), lc_flat (i := 0) (Nat.zero_le _) λ k _ hk => getD_ne h k]
   rfl
  refine ⟨x, _, _, h1, h1', λ k hk => by have := h2 k hk; omega, λ j hj => ?_, ?_⟩
  ·rw [h1, h1', rows_pre hj h2, rows_pre hj h2]
  ·rw [cntP_map, h1, List.countP_append, hf]
   have c1 : x.countP (λ k => decide (((lc (a ++ 10 :: (r ++ sd)) k.at_).1 : Int) < ((lc a a.length).1 + 1 : Nat))) = x.length := List.countP_eq_length.2 λ k hk => by
    have := h2 k hk
    rw [lc_pre _ (by omega)]
    have := lc_mono a (i := k.at_) (j := a.length) (by omega)
    simp only [decide_eq_true_eq]; omega
   have c2 : (y.map (mvTok (a.length + 1))).countP (λ k => decide (((lc (a ++ 10 :: (r ++ sd)) k.at_).1 : Int) < ((lc a a.length).1 + 1 : Nat))) = 0 := List.countP_eq_zero.2 λ k hk => by
    obtain ⟨k', _, rfl⟩ := List.mem_map.1 hk
    show ¬ decide (((lc (a ++ 10 :: (r ++ sd)) (a.length + 1 + k'.at_)).1 : Int) < _) = true
    rw [lc_suf]
    have := (lc_le (r ++ sd) k'.at_).1
    simp only [decide_eq_true_eq]; omega
   rw [c1, c2]; rfl
theorem behind {c c1 d : List UInt8} (hs : c.length + 1 + d.length <= 4000) (ht : c1.length + 1 + d.length <= 4000) (e1 : (scanF (c ++ 10 :: d)).2.2 = 0) (e2 : (scanF (c1 ++ 10 :: d)).2.2 = 0) :
  ∃ u v y y', (scanF (c ++ 10 :: d)).1 = u ++ y /\ (scanF (c1 ++ 10 :: d)).1 = v ++ y' /\ y'.length = y.length /\ (∀ k ∈ y, c.length < k.at_) /\ (∀ k ∈ y', c1.length < k.at_) /\
   (∀ j, j < y.length -> sameR (((scanF (c ++ 10 :: d)).1.map (rowTok (c ++ 10 :: d))).getD ((scanF (c ++ 10 :: d)).1.length - 1 - j) []) (((scanF (c1 ++ 10 :: d)).1.map (rowTok (c1 ++ 10 :: d))).getD ((scanF (c1 ++ 10 :: d)).1.length - 1 - j) []) = true) /\
   cntP (λ l => decide (((lc c c.length).1 : Int) < l)) ((scanF (c ++ 10 :: d)).1.map (rowTok (c ++ 10 :: d))) = y.length := by
 obtain ⟨x, y, h1, h2, h3, _, ⟨z1, h4⟩⟩ := zjy (a := c) (b := d) (by omega) e1
 obtain ⟨x', y', h1', _, _, _, ⟨z2, h4'⟩⟩ := zjy (a := c1) (b := d) (by omega) e2
 rw [h4] at h4'
 cases h4'
 refine ⟨x, x', _, _, h1, h1', by simp, λ k hk => ?_, λ k hk => ?_, λ j hj => ?_, ?_⟩
 ·obtain ⟨k', _, rfl⟩ := List.mem_map.1 hk
  show c.length < c.length + 1 + k'.at_; omega
 ·obtain ⟨k', _, rfl⟩ := List.mem_map.1 hk
  show c1.length < c1.length + 1 + k'.at_; omega
 ·rw [List.length_map] at hj
  rw [h1, h1']
  have a1 : (x ++ y.map (mvTok (c.length + 1))).length - 1 - j = x.length + (y.length - 1 - j) := by simp; omega
  have a2 : (x' ++ y.map (mvTok (c1.length + 1))).length - 1 - j = x'.length + (y.length - 1 - j) := by simp; omega
  rw [a1, a2, rows_suf (by omega), rows_suf (by omega), zkI (by omega)]
  simp [sameR, mvRow, rowTok, vI, vS]
 ·rw [cntP_map, h1, List.countP_append]
  have c1 : x.countP (λ k => decide (((lc c c.length).1 : Int) < (lc (c ++ 10 :: d) k.at_).1)) = 0 := List.countP_eq_zero.2 λ k hk => by
   have := h2 k hk
   rw [lc_pre _ (by omega)]
   have := lc_mono c (i := k.at_) (j := c.length) (by omega)
   simp only [decide_eq_true_eq]; omega
  have c2 : (y.map (mvTok (c.length + 1))).countP (λ k => decide (((lc c c.length).1 : Int) < (lc (c ++ 10 :: d) k.at_).1)) = (y.map (mvTok (c.length + 1))).length := List.countP_eq_length.2 λ k hk => by
   obtain ⟨k', _, rfl⟩ := List.mem_map.1 hk
   show decide (_ < ((lc (c ++ 10 :: d) (c.length + 1 + k'.at_)).1 : Int)) = true
   rw [lc_suf]
   have := (lc_le d k'.at_).1
   simp only [decide_eq_true_eq]; omega
  rw [c1, c2]; simp
end
end Go.Proofs.YtekioipmhhcbhaaDoor
set_option maxRecDepth 100000
set_option maxHeartbeats 4000000
namespace Go.Proofs.YtekioipmhhcbhaaDoor
open Go Go.Z Go.Q Go.W6
open Go.Y hiding KE KK KR go Task go_sound
noncomputable section
end
end Go.Proofs.YtekioipmhhcbhaaDoor
set_option maxRecDepth 100000
set_option maxHeartbeats 4000000
namespace Go.Proofs.YtekioipmhhcbhaaDoor
open Go Go.Z Go.Q Go.W6
open Go.Y hiding KE KK KR go Task go_sound
noncomputable section
abbrev I64 (a : Int) : Prop := -9223372036854775808 <= a /\ a <= 9223372036854775807
end
end Go.Proofs.YtekioipmhhcbhaaDoor
