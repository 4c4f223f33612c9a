/- Where a token ends: at most two bytes behind it matter; other bytes behind it that stop it too leave it as it is. -/
import Derived.Test.YtekioipmhhcbhaaDoorV4
import Derived.Test.YtekioipmhhcbhaaDoorM9
set_option linter.unusedVariables false
set_option linter.unusedSectionVars false
set_option linter.unusedSimpArgs false
namespace Go.Proofs.YtekioipmhhcbhaaDoor
open Go Go.Z Go.Q Go.W6
open Go.Y hiding KE KK KR go Task go_sound
noncomputable section
theorem tw_stop {p : UInt8 -> Bool} {r : List UInt8} : ∀ u : List UInt8, ((u ++ r).takeWhile p).length = u.length -> isAt p r 0 = false
 | [], h => by
  cases r with
  | nil => rfl
  | cons c r =>
   show p c = false
   cases hc : p c with
   | false => rfl
   | true => rw [List.nil_append, List.takeWhile_cons, if_pos hc] at h; cases h
 | c :: u, h => by
  rw [List.cons_append, List.takeWhile_cons] at h
  cases hc : p c with
  | false => rw [if_neg (by rw [hc]; simp)] at h; cases h
  | true =>
   rw [if_pos hc] at h
   exact tw_stop u (by simpa using h)
theorem tw_ext {p : UInt8 -> Bool} {R : List UInt8} (hR : isAt p R 0 = false) : ∀ u : List UInt8, (u ++ R).takeWhile p = u.takeWhile p
 | [] => by
  cases R with
  | nil => rfl
  | cons c R =>
   have hR : p c = false := hR
   rw [List.nil_append, List.takeWhile_cons, if_neg (by rw [hR]; simp)]; rfl
 | c :: u => by
  rw [List.cons_append, List.takeWhile_cons, List.takeWhile_cons, tw_ext hR u]
theorem zvZ {p : UInt8 -> Bool} {w r : List UInt8} {i : Nat} (hi : i <= w.length) (h : endF p (w ++ r) i = w.length) : isAt p r 0 = false := by
 unfold endF at h
 rw [drop_pre hi] at h
 exact tw_stop (w.drop i) (by rw [List.length_drop]; omega)
theorem end_ext {p : UInt8 -> Bool} {w R : List UInt8} {i : Nat} (hi : i <= w.length) (hR : isAt p R 0 = false) : endF p (w ++ R) i = endF p w i := by
 unfold endF
 rw [drop_pre hi, tw_ext hR]
theorem isAt_at {p : UInt8 -> Bool} {w R : List UInt8} {k : Nat} : isAt p (w ++ R) (w.length + k) = isAt p R k := by
 unfold isAt; rw [List.getElem?_append_right (by omega), Nat.add_sub_cancel_left]
def Stop (k : Nat) (w R : List UInt8) : Prop :=
 ((k = 1 \/ k = 2) -> isAt restB R 0 = false) /\ ((k = 3 \/ k = 4) -> isAt digB R 0 = false) /\ (k = 3 -> (isAt (λ b => b.toNat == 46) R 0 && isAt digB R 1) = false) /\ (k = 5 -> isAt (λ b => b.toNat == 34) R 0 = false) /\
  (k = 6 -> w.length = 1 -> ∀ c, R[0]? = some c -> w ++ [c] ∉ signsL)
theorem num_stop {w r : List UInt8} {k : Nat} {t : List UInt8} (hw : 0 < w.length) (h : numF (w ++ r) 0 = some (k, t, w.length)) : (k = 3 \/ k = 4) /\ isAt digB r 0 = false /\ (k = 3 -> (isAt (λ b => b.toNat == 46) r 0 && isAt digB r 1) = false) := by
 unfold numF at h
 dsimp only at h
 split at h
 ·rename_i hd
  split at h
  ·cases h
  ·simp only [Option.some.injEq, Prod.mk.injEq] at h
   obtain ⟨rfl, _, he⟩ := h
   rw [he] at hd
   refine ⟨.inl rfl, zvZ (Nat.zero_le _) he, λ _ => ?_⟩
   have h0 := isAt_at (p := λ b => b.toNat == 46) (w := w) (R := r) (k := 0)
   have h1 := isAt_at (p := digB) (w := w) (R := r) (k := 1)
   rw [Nat.add_zero] at h0
   rw [<- h0, <- h1]; exact hd
 ·rename_i hd
  split at h
  ·cases h
  ·simp only [Option.some.injEq, Prod.mk.injEq] at h
   obtain ⟨rfl, _, he⟩ := h
   refine ⟨.inr rfl, ?_, λ h => (by cases h)⟩
   have hj : digF (w ++ r) 0 + 1 <= w.length := by
    rw [<- he]
    show digF (w ++ r) 0 + 1 <= digF (w ++ r) 0 + 1 + _
    omega
   exact zvZ hj he
theorem num_ext {w R : List UInt8} {k : Nat} {t : List UInt8} (hw : 0 < w.length) (h : numF w 0 = some (k, t, w.length)) (h1 : isAt digB R 0 = false) (h2 : k = 3 -> (isAt (λ b => b.toNat == 46) R 0 && isAt digB R 1) = false) : numF (w ++ R) 0 = some (k, t, w.length) := by
 have hj : digF (w ++ R) 0 = digF w 0 := end_ext (Nat.zero_le _) h1
 unfold numF at h ⊢
 dsimp only at h ⊢
 rw [hj]
 split at h
 ·rename_i hd
  split at h
  ·cases h
  ·rename_i hl
   simp only [Option.some.injEq, Prod.mk.injEq] at h
   obtain ⟨rfl, ht, he⟩ := h
   rw [he] at ht hl ⊢
   have a0 := isAt_at (p := λ b => b.toNat == 46) (w := w) (R := R) (k := 0)
   have a1 := isAt_at (p := digB) (w := w) (R := R) (k := 1)
   rw [Nat.add_zero] at a0
   rw [a0, a1, if_pos (h2 rfl), if_neg hl, zqN (Nat.le_refl _), ht]
 ·rename_i hd
  split at h
  ·cases h
  ·rename_i hl
   simp only [Option.some.injEq, Prod.mk.injEq] at h
   obtain ⟨rfl, ht, he⟩ := h
   have hj1 : digF w 0 + 1 <= w.length := by
    rw [<- he]
    show digF w 0 + 1 <= digF w 0 + 1 + _
    omega
   have hj2 : digF w 0 + 1 < w.length := by
    rcases Nat.lt_or_ge (digF w 0 + 1) w.length with h | h
    ·exact h
    ·exfalso
     apply hd
     have : isAt digB w (digF w 0 + 1) = false := by unfold isAt; rw [List.getElem?_eq_none h]
     rw [this, Bool.and_false]
   have he2 : digF (w ++ R) (digF w 0 + 1) = digF w (digF w 0 + 1) := end_ext hj1 h1
   rw [zka (by omega), zka hj2, if_neg hd, he2, he]
   rw [he] at ht hl
   rw [zqN (Nat.le_refl _), if_neg hl, zqN (by omega), ht]
theorem zvh (c : UInt8) (l : List UInt8) (p : Nat) (acc : List UInt8) (bad : Int) : textL (c :: l) p acc bad = if c.toNat = 10 then none else if c.toNat = 34 then (match l with | d :: l' => if d.toNat = 34 then textL l' (p + 2) (acc ++ [34]) bad else some (acc, p, bad) | [] => some (acc, p, bad)) else textL l (p + 1) (acc ++ [c]) (if plainB c = false /\ bad < 0 then (p : Int) else bad) := by
 rw [textL.eq_def]; rfl
theorem zvg {r : List UInt8} : ∀ (n : Nat) (l : List UInt8) (p : Nat) (acc : List UInt8) (bad : Int) (b : List UInt8) (q : Nat) (z : Int), l.length <= n -> textL (l ++ r) p acc bad = some (b, q, z) -> q + 1 = p + l.length -> isAt (λ b => b.toNat == 34) r 0 = false
 | n, [], p, acc, bad, b, q, z, _, h, hq => by
  exfalso
  have : p <= q := (zxy _ _ _ _ _ _ _ h).1
  simp at hq; omega
 | 0, _ :: _, _, _, _, _, _, _, hn, _, _ => by simp at hn
 | n + 1, c :: l, p, acc, bad, b, q, z, hn, h, hq => by
  rw [List.cons_append, zvh] at h
  simp only [List.length_cons] at hn hq
  split at h
  ·cases h
  ·split at h
   ·cases l with
    | nil =>
     cases r with
     | nil => rfl
     | cons d r =>
      dsimp only [List.nil_append] at h
      split at h
      ·exfalso
       have := (zxy _ _ _ _ _ _ _ h).1
       simp at hq; omega
      ·rename_i hd
       show (d.toNat == 34) = false
       simpa using hd
    | cons d l =>
     dsimp only [List.cons_append] at h
     split at h
     ·simp only [List.length_cons] at hn hq
      exact zvg n l (p + 2) _ bad b q z (by omega) h (by omega)
     ·simp only [Option.some.injEq, Prod.mk.injEq] at h
      simp only [List.length_cons] at hq
      omega
   ·exact zvg n l (p + 1) _ _ b q z (by omega) h (by omega)
theorem zwk {R : List UInt8} (hR : isAt (λ b => b.toNat == 34) R 0 = false) : ∀ (n : Nat) (l : List UInt8) (p : Nat) (acc : List UInt8) (bad : Int) (b : List UInt8) (q : Nat) (z : Int), l.length <= n -> textL l p acc bad = some (b, q, z) -> textL (l ++ R) p acc bad = some (b, q, z)
 | n, [], p, acc, bad, b, q, z, _, h => by cases h
 | 0, _ :: _, _, _, _, _, _, _, hn, _ => by simp at hn
 | n + 1, c :: l, p, acc, bad, b, q, z, hn, h => by
  simp only [List.length_cons] at hn
  rw [List.cons_append, zvh]
  rw [zvh] at h
  split at h
  ·cases h
  ·rename_i h10
   rw [if_neg h10]
   split at h
   ·rename_i h34
    rw [if_pos h34]
    cases l with
    | nil =>
     cases R with
     | nil => exact h
     | cons d R =>
      have hR : (d.toNat == 34) = false := hR
      dsimp only [List.nil_append] at h ⊢
      rw [if_neg (by simpa using hR)]
      exact h
    | cons d l =>
     dsimp only [List.cons_append] at h ⊢
     split at h
     ·rename_i hd
      rw [if_pos hd]
      simp only [List.length_cons] at hn
      exact zwk hR n l (p + 2) _ bad b q z (by omega) h
     ·rename_i hd
      rw [if_neg hd]; exact h
   ·rename_i h34
    rw [if_neg h34]
    exact zwk hR n l (p + 1) _ _ b q z (by omega) h
theorem zyC {w r : List UInt8} {x : TokR} (hw : 0 < w.length) (h : tokF (w ++ r) 0 = .ok x) (he : x.to = w.length) : Stop x.kind w r := by
 unfold tokF at h
 dsimp only at h
 split at h
 ·split at h
  ·cases h
   have he : nameF (w ++ r) 0 = w.length := he
   exact ⟨λ _ => zvZ (Nat.zero_le _) he, λ h => (by rcases h with h | h <;> cases h), λ h => (by cases h), λ h => (by cases h), λ h => (by cases h)⟩
  ·split at h
   ·cases h
   ·cases h
    have he : nameF (w ++ r) 0 = w.length := he
    exact ⟨λ _ => zvZ (Nat.zero_le _) he, λ h => (by rcases h with h | h <;> cases h), λ h => (by cases h), λ h => (by cases h), λ h => (by cases h)⟩
 ·split at h
  ·split at h
   ·rename_i k t e hn
    cases h
    have he : e = w.length := he
    subst he
    obtain ⟨h1, h2, h3⟩ := num_stop hw hn
    refine ⟨λ h => ?_, λ _ => h2, h3, λ h => ?_, λ h => ?_⟩
    ·exfalso; dsimp only at h; omega
    ·exfalso; dsimp only at h; omega
    ·exfalso; dsimp only at h; omega
   ·cases h
  ·split at h
   ·split at h
    ·rename_i t e bad hT
     cases h
     have he : e = w.length := he
     subst he
     refine ⟨λ h => (by rcases h with h | h <;> cases h), λ h => (by rcases h with h | h <;> cases h), λ h => (by cases h), λ _ => ?_, λ h => (by cases h)⟩
     unfold textF at hT
     split at hT
     ·cases hT
     ·rename_i b p z hL
      split at hT
      ·cases hT
      ·simp only [Except.ok.injEq, Prod.mk.injEq] at hT
       obtain ⟨_, hp, _⟩ := hT
       rw [drop_pre (by omega)] at hL
       exact zvg _ (w.drop (0 + 1)) _ _ _ _ _ _ (Nat.le_refl _) hL (by rw [List.length_drop]; omega)
    ·cases h
   ·split at h
    ·split at h
     ·cases h
      have he : 0 + signN (w ++ r) 0 = w.length := he
      refine ⟨λ h => (by rcases h with h | h <;> cases h), λ h => (by rcases h with h | h <;> cases h), λ h => (by cases h), λ h => (by cases h), λ _ h1 c hc hm => ?_⟩
      unfold signN at he
      split at he
      ·omega
      ·rename_i hno
       apply hno
       cases r with
       | nil => cases hc
       | cons d r =>
        cases hc
        refine ⟨by simp; omega, ?_⟩
        have : cutF (w ++ c :: r) 0 (0 + 2) = w ++ [c] := by
         unfold cutF
         obtain ⟨a, rfl⟩ := List.length_eq_one_iff.1 h1
         rfl
        rw [this]; exact hm
     ·cases h
    ·cases h
theorem getD_app {w R : List UInt8} (hw : 0 < w.length) : (w ++ R).getD 0 0 = w.getD 0 0 := zvU hw
theorem tok_ext {w R : List UInt8} {x : TokR} (hw : 0 < w.length) (h : tokF w 0 = .ok x) (he : x.to = w.length) (hs : Stop x.kind w R) : tokF (w ++ R) 0 = .ok x := by
 obtain ⟨s1, s2, s3, s4, s5⟩ := hs
 unfold tokF at h ⊢
 dsimp only at h ⊢
 rw [getD_app hw]
 split at h
 ·rename_i hc
  rw [if_pos hc]
  have key : isAt restB R 0 = false -> nameF (w ++ R) 0 = nameF w 0 := λ h => end_ext (Nat.zero_le _) h
  split at h
  ·rename_i hm
   cases h
   have he : nameF w 0 = w.length := he
   rw [key (s1 (.inr rfl)), he, zqN (Nat.le_refl _)]
   rw [he] at hm
   rw [if_pos hm]
  ·rename_i hm
   split at h
   ·cases h
   ·rename_i hl
    cases h
    have he : nameF w 0 = w.length := he
    rw [key (s1 (.inl rfl)), he, zqN (Nat.le_refl _)]
    rw [he] at hm hl
    rw [if_neg hm, if_neg hl]
 ·rename_i hc
  rw [if_neg hc]
  split at h
  ·rename_i hd
   rw [if_pos hd]
   split at h
   ·rename_i k t e hn
    cases h
    have he : e = w.length := he
    subst he
    have hk : k = 3 \/ k = 4 := (num_stop (r := []) hw (by rw [List.append_nil]; exact hn)).1
    rw [num_ext hw hn (s2 hk) s3]
   ·cases h
  ·rename_i hd
   rw [if_neg hd]
   split at h
   ·rename_i hq
    rw [if_pos hq]
    split at h
    ·rename_i t e bad hT
     cases h
     have he : e = w.length := he
     subst he
     have : textF (w ++ R) 0 = .ok (t, w.length, bad) := by
      unfold textF at hT ⊢
      rw [drop_pre (by omega)]
      split at hT
      ·cases hT
      ·rename_i b p z hL
       rw [zwk (s4 rfl) _ _ _ _ _ _ _ _ (Nat.le_refl _) hL]
       exact hT
     rw [this]
    ·cases h
   ·rename_i hq
    rw [if_neg hq]
    split at h
    ·rename_i hb
     rw [if_pos hb]
     split at h
     ·rename_i hm
      cases h
      have he : 0 + signN w 0 = w.length := he
      have : signN (w ++ R) 0 = signN w 0 := by
       unfold signN at he ⊢
       split at he
       ·rename_i h2
        rw [if_pos h2, if_pos ⟨by simp; omega, by rw [zqN (by omega)]; exact h2.2⟩]
       ·rename_i h2
        rw [if_neg h2, if_neg]
        rintro ⟨h3, h4⟩
        cases R with
        | nil => rw [List.append_nil] at h3 h4; exact h2 ⟨h3, h4⟩
        | cons d R =>
         refine s5 rfl (by omega) d rfl ?_
         obtain ⟨a, rfl⟩ := List.length_eq_one_iff.1 (show w.length = 1 by omega)
         exact h4
      rw [this, zqN (by omega), if_pos hm]
     ·cases h
    ·cases h
end
end Go.Proofs.YtekioipmhhcbhaaDoor
namespace Go.Proofs.YtekioipmhhcbhaaDoor
open Go Go.Z Go.Q Go.W6
open Go.Y hiding KE KK KR go Task go_sound
noncomputable section
def noteB (c : UInt8) : Bool := plainB c && !(c.toNat == 10)
inductive Wp : Nat -> List UInt8 -> List Tok -> Prop
 | nil (i : Nat) : Wp i [] []
 | blank {i : Nat} {c : UInt8} {r : List UInt8} {l : List Tok} : c.toNat = 32 \/ c.toNat = 10 -> Wp (i + 1) r l -> Wp i (c :: r) l
 | note {i : Nat} {b r : List UInt8} {l : List Tok} : b.all noteB = true -> (r = [] \/ ∃ r', r = 10 :: r') -> Wp (i + 1 + b.length) r l -> Wp i (36 :: (b ++ r)) l
 | tok {i : Nat} {w r : List UInt8} {x : TokR} {l : List Tok} : 0 < w.length -> tokF (w ++ r) 0 = .ok x -> x.to = w.length -> ¬ 0 <= x.bad -> Wp (i + w.length) r l -> Wp i (w ++ r) (⟨x.kind, x.text, i, i + w.length⟩ :: l)
theorem c36 {c : UInt8} (h : c.toNat = 36) : c = 36 := UInt8.toNat_inj.1 h
theorem c10 {c : UInt8} (h : c.toNat = 10) : c = 10 := UInt8.toNat_inj.1 h
theorem skip_wp : ∀ (u : List UInt8) (p q : Nat) (l : List Tok), (skipL false u p = .ok q -> p <= q /\ q <= p + u.length /\ (Wp q (u.drop (q - p)) l -> Wp p u l)) /\
  (skipL true u p = .ok q -> p <= q /\ q <= p + u.length /\ (Wp q (u.drop (q - p)) l -> ∃ b r, u = b ++ r /\ b.all noteB = true /\ (r = [] \/ ∃ r', r = 10 :: r') /\ Wp (p + b.length) r l))
 | [], p, q, l => by
  constructor
  ·intro h; cases h; exact ⟨Nat.le_refl _, by simp, λ h => by simpa using h⟩
  ·intro h; cases h; exact ⟨Nat.le_refl _, by simp, λ h => ⟨[], [], rfl, rfl, .inl rfl, by simpa using h⟩⟩
 | c :: u, p, q, l => by
  obtain ⟨i1, i2⟩ := skip_wp u (p + 1) q l
  constructor
  ·intro h
   rw [zjt] at h
   split at h
   ·rename_i hc
    obtain ⟨a1, a2, a3⟩ := i1 h
    refine ⟨by omega, by simp; omega, λ hw => .blank hc (a3 ?_)⟩
    rwa [show q - p = (q - (p + 1)) + 1 by omega, List.drop_succ_cons] at hw
   ·split at h
    ·rename_i hc
     obtain ⟨a1, a2, a3⟩ := i2 h
     refine ⟨by omega, by simp; omega, λ hw => ?_⟩
     rw [show q - p = (q - (p + 1)) + 1 by omega, List.drop_succ_cons] at hw
     obtain ⟨b, r, rfl, hb, hr, hwp⟩ := a3 hw
     rw [c36 hc]
     exact .note hb hr hwp
    ·cases h
     exact ⟨Nat.le_refl _, by simp, λ h => by simpa using h⟩
  ·intro h
   rw [zjG] at h
   split at h
   ·rename_i hc
    obtain ⟨a1, a2, a3⟩ := i1 h
    refine ⟨by omega, by simp; omega, λ hw => ⟨[], c :: u, rfl, rfl, .inr ⟨u, by rw [c10 hc]⟩, .blank (.inr hc) (a3 ?_)⟩⟩
    rwa [show q - p = (q - (p + 1)) + 1 by omega, List.drop_succ_cons] at hw
   ·rename_i hc
    split at h
    ·rename_i hp
     obtain ⟨a1, a2, a3⟩ := i2 h
     refine ⟨by omega, by simp; omega, λ hw => ?_⟩
     rw [show q - p = (q - (p + 1)) + 1 by omega, List.drop_succ_cons] at hw
     obtain ⟨b, r, rfl, hb, hr, hwp⟩ := a3 hw
     refine ⟨c :: b, r, rfl, ?_, hr, by rw [List.length_cons, show p + (b.length + 1) = p + 1 + b.length by omega]; exact hwp⟩
     rw [List.all_cons, hb]
     unfold noteB
     simp [hp, hc]
    ·cases h
theorem tok_zero {s : List UInt8} {j : Nat} {x : TokR} (hj : j < s.length) (h : tokF s j = .ok x) : ∃ y, tokF (s.drop j) 0 = .ok y /\ x.kind = y.kind /\ x.text = y.text /\ x.to = j + y.to /\ (0 <= x.bad ↔ 0 <= y.bad) := by
 have hl : (s.take j).length = j := by rw [List.length_take]; omega
 have := zyB (c := s.take j) (b := s.drop j) (i := 0)
 rw [List.take_append_drop, hl, Nat.add_zero, h] at this
 cases hy : tokF (s.drop j) 0 with
 | error e => rw [hy] at this; cases this
 | ok y =>
  rw [hy] at this
  simp only [mvT, Except.ok.injEq] at this
  subst this
  refine ⟨y, rfl, rfl, rfl, rfl, ?_⟩
  show 0 <= mvB j y.bad ↔ _
  unfold mvB
  split <;> omega
theorem ends_wp {s : List UInt8} {i : Nat} {l : List Tok} {r : Scn} (h : Ends s i l r) : i <= s.length -> ∀ m, r = .done m -> ∃ l', m = l ++ l' /\ Wp i (s.drop i) l' := by
 induction h with
 | @stop i l r h1 h2 =>
  rintro hi m rfl
  unfold stepF at h1
  split at h1
  ·cases h1
  ·rename_i j hj
   obtain ⟨a1, a2, a3⟩ := (skip_wp (s.drop i) i j []).1 hj
   split at h1
   ·rename_i hl
    cases h1
    refine ⟨[], by simp, a3 ?_⟩
    rw [List.drop_drop, show i + (j - i) = j by omega, List.drop_eq_nil_iff.2 hl]
    exact .nil _
   ·split at h1
    ·cases h1
    ·split at h1
     ·cases h1
     ·split at h1 <;> cases h1
 | @step i l i' l' r h1 h2 ih =>
  rintro hi m rfl
  obtain ⟨b1, b2, _⟩ := zkz hi h1
  obtain ⟨l2, rfl, hw⟩ := ih b2 m rfl
  unfold stepF at h1
  split at h1
  ·cases h1
  ·rename_i j hj
   split at h1
   ·cases h1
   ·rename_i hl
    split at h1
    ·cases h1
    ·rename_i x hx
     split at h1
     ·cases h1
     ·split at h1
      ·cases h1
      ·rename_i hb
       simp only [Scn.go.injEq] at h1
       obtain ⟨rfl, rfl⟩ := h1
       obtain ⟨a1, a2, a3⟩ := (skip_wp (s.drop i) i j (⟨x.kind, x.text, j, x.to⟩ :: l2)).1 hj
       refine ⟨⟨x.kind, x.text, j, x.to⟩ :: l2, by simp, a3 ?_⟩
       rw [List.drop_drop, show i + (j - i) = j by omega]
       have hjs : j < s.length := by omega
       obtain ⟨y, hy, k1, k2, k3, k4⟩ := tok_zero hjs hx
       have hjt := tok_le hjs hx
       have hd : s.drop j = (s.drop j).take y.to ++ s.drop x.to := by
        have := List.take_append_drop y.to (s.drop j)
        rw [List.drop_drop, <- k3] at this
        exact this.symm
       have hwl : ((s.drop j).take y.to).length = y.to := by rw [List.length_take, List.length_drop]; omega
       rw [hd] at hy ⊢
       have := Wp.tok (i := j) (w := (s.drop j).take y.to) (r := s.drop x.to) (l := l2) (by omega) hy hwl.symm (λ h => hb (k4.2 h)) (by rw [hwl, <- k3]; exact hw)
       rw [hwl, <- k3, <- k1, <- k2] at this
       exact this
end
end Go.Proofs.YtekioipmhhcbhaaDoor
namespace Go.Proofs.YtekioipmhhcbhaaDoor
open Go Go.Z Go.Q Go.W6
open Go.Y hiding KE KK KR go Task go_sound
noncomputable section
theorem ends_same {s : List UInt8} {i i' : Nat} {l : List Tok} {r : Scn} (h : skipF s i = skipF s i') (h2 : Ends s i' l r) : Ends s i l r := by
 cases h2 with
 | stop h3 h4 => exact .stop ((zwt h l).trans h3) h4
 | step h3 h4 => exact .step ((zwt h l).trans h3) h4
theorem drop_cons {s : List UInt8} {i : Nat} {c : UInt8} {r : List UInt8} (h : s.drop i = c :: r) : i < s.length /\ s.drop (i + 1) = r := by
 refine ⟨?_, ?_⟩
 ·rcases Nat.lt_or_ge i s.length with h1 | h1
  ·exact h1
  ·rw [List.drop_eq_nil_iff.2 h1] at h; cases h
 ·rw [<- List.drop_drop, h]; rfl
theorem zyh : ∀ (b : List UInt8) {r : List UInt8} {p : Nat}, b.all noteB = true -> (r = [] \/ ∃ r', r = 10 :: r') -> skipL true (b ++ r) p = skipL false r (p + b.length)
 | [], r, p, _, hr => by
  rcases hr with rfl | ⟨r', rfl⟩
  ·rfl
  ·rw [List.nil_append, zjG, zjt, if_pos (by decide), if_pos (by decide)]; rfl
 | c :: b, r, p, hb, hr => by
  rw [List.all_cons, Bool.and_eq_true] at hb
  have hc := hb.1
  unfold noteB at hc
  simp only [Bool.and_eq_true, Bool.not_eq_true', beq_eq_false_iff_ne, ne_eq] at hc
  rw [List.cons_append, zjG, if_neg hc.2, if_pos hc.1, zyh b hb.2 hr, List.length_cons, show p + 1 + b.length = p + (b.length + 1) by omega]
theorem wp_ends {s : List UInt8} {i : Nat} {u : List UInt8} {l' : List Tok} (h : Wp i u l') : i <= s.length -> s.drop i = u -> ∀ l : List Tok, l.length + l'.length <= 6000 -> Ends s i l (.done (l ++ l')) := by
 induction h with
 | nil i =>
  intro hi hu l hl
  refine .stop ?_ rfl
  have : s.length <= i := List.drop_eq_nil_iff.1 hu
  unfold stepF skipF
  rw [hu]
  show (if s.length <= i then Scn.done l else _) = _
  rw [if_pos this, List.append_nil]
 | @blank i c r l1 hc h ih =>
  intro hi hu l hl
  obtain ⟨h1, h2⟩ := drop_cons hu
  refine ends_same ?_ (ih (by omega) h2 l hl)
  unfold skipF
  rw [hu, h2, zjt, if_pos hc]
 | @note i b r l1 hb hr h ih =>
  intro hi hu l hl
  obtain ⟨h1, h2⟩ := drop_cons hu
  have h3 : s.drop (i + 1 + b.length) = r := by rw [<- List.drop_drop, h2, List.drop_left]
  have h4 := congrArg List.length hu
  rw [List.length_drop, List.length_cons, List.length_append] at h4
  refine ends_same ?_ (ih (by omega) h3 l hl)
  unfold skipF
  rw [hu, h3, zjt, if_neg (by decide), if_pos (by decide), zyh b hb hr]
 | @tok i w r x l1 hw hx he hb h ih =>
  intro hi hu l hl
  simp only [List.length_cons] at hl
  have h4 := congrArg List.length hu
  rw [List.length_drop, List.length_append] at h4
  have hlen : (s.take i).length = i := by rw [List.length_take]; omega
  have ht := zyB (c := s.take i) (b := s.drop i) (i := 0)
  rw [List.take_append_drop, hlen, Nat.add_zero, hu, hx] at ht
  have hd : s.drop (i + w.length) = r := by rw [<- List.drop_drop, hu, List.drop_left]
  have hi2 : i < s.length := by omega
  refine .step (i' := i + w.length) (l' := l ++ [⟨x.kind, x.text, i, i + w.length⟩]) ?_ ?_
  ·unfold stepF
   rw [tok_skip hi2 ht]
   dsimp only
   rw [if_neg (by omega), ht]
   dsimp only [mvT]
   rw [if_neg (by omega), if_neg, he]
   unfold mvB
   split <;> omega
  ·have := ih (by omega) hd (l ++ [⟨x.kind, x.text, i, i + w.length⟩]) (by simp; omega)
   rw [List.append_assoc] at this
   exact this
def ktT (t : Tok) : Nat × List UInt8 := (t.kind, t.text)
inductive Ws : List UInt8 -> List (Nat × List UInt8) -> Prop
 | nil : Ws [] []
 | blank {c : UInt8} {r : List UInt8} {l} : c.toNat = 32 \/ c.toNat = 10 -> Ws r l -> Ws (c :: r) l
 | note {b r : List UInt8} {l} : b.all noteB = true -> (r = [] \/ ∃ r', r = 10 :: r') -> Ws r l -> Ws (36 :: (b ++ r)) l
 | tok {w r : List UInt8} {x : TokR} {l} : 0 < w.length -> tokF (w ++ r) 0 = .ok x -> x.to = w.length -> ¬ 0 <= x.bad -> Ws r l -> Ws (w ++ r) ((x.kind, x.text) :: l)
theorem ws_wp {u : List UInt8} {ts : List (Nat × List UInt8)} (h : Ws u ts) : ∀ i, ∃ l, Wp i u l /\ l.map ktT = ts := by
 induction h with
 | nil => exact λ i => ⟨[], .nil i, rfl⟩
 | blank hc _ ih => exact λ i => let ⟨l, h1, h2⟩ := ih (i + 1); ⟨l, .blank hc h1, h2⟩
 | @note b _ _ hb hr _ ih => exact λ i => let ⟨l, h1, h2⟩ := ih (i + 1 + b.length); ⟨l, .note hb hr h1, h2⟩
 | @tok w _ x _ hw hx he hb _ ih => exact λ i => let ⟨l, h1, h2⟩ := ih (i + w.length); ⟨_, .tok hw hx he hb h1, by rw [List.map_cons, h2]; rfl⟩
theorem wp_len {i : Nat} {u : List UInt8} {l : List Tok} (h : Wp i u l) : l.length <= u.length := by
 induction h with
 | nil => exact Nat.le_refl _
 | blank _ _ ih => exact Nat.le_succ_of_le ih
 | note _ _ _ ih => simp; omega
 | tok hw _ _ _ _ ih => simp; omega
theorem scan_ws {s : List UInt8} (hs : s.length <= 20000) (h : (scanF s).2.2 = 0) : Wp 0 s (scanF s).1 := by
 rcases zxu hs with ⟨x, h1, h2, _⟩ | ⟨p, e, _, h2, _, _, h3⟩
 ·obtain ⟨l', e, hw⟩ := ends_wp (zxS s) (Nat.zero_le _) x h1
  rw [h2]
  rw [List.nil_append] at e
  rw [e]; exact hw
 ·rw [h2] at h; exact absurd h h3
theorem ws_scan {s : List UInt8} {ts : List (Nat × List UInt8)} (hs : s.length <= 20000) (ht : ts.length <= 6000) (h : Ws s ts) : (scanF s).2.2 = 0 /\ (scanF s).1.map ktT = ts := by
 obtain ⟨l, hw, rfl⟩ := ws_wp h 0
 rw [List.length_map] at ht
 have he := ends_eq (wp_ends hw (Nat.zero_le _) rfl [] (by simpa using ht))
 have := zkF s
 rw [if_neg (by omega), he] at this
 rw [this]
 exact ⟨rfl, rfl⟩
end
end Go.Proofs.YtekioipmhhcbhaaDoor
namespace Go.Proofs.YtekioipmhhcbhaaDoor
open Go Go.Z Go.Q Go.W6
open Go.Y hiding KE KK KR go Task go_sound
noncomputable section
end
end Go.Proofs.YtekioipmhhcbhaaDoor
namespace Go.Proofs.YtekioipmhhcbhaaDoor
open Go Go.Z Go.Q Go.W6
open Go.Y hiding KE KK KR go Task go_sound
noncomputable section
theorem signs_in : ∀ x ∈ signsL, ∀ b ∈ x, signB b = true := by decide
end
end Go.Proofs.YtekioipmhhcbhaaDoor
set_option maxRecDepth 100000
set_option maxHeartbeats 4000000
namespace Go.Proofs.YtekioipmhhcbhaaDoor
open Go Go.Z Go.Q Go.W6
open Go.Y hiding KE KK KR go Task go_sound
noncomputable section
def sameR (a b : List V) : Bool := and (decide (vI (a.getD 0 .und) = vI (b.getD 0 .und))) (decide (vS (a.getD 1 .und) = vS (b.getD 1 .und)))
abbrev tokC (xs : List (List V)) : Chunk := .rowsO xs shTok 34
end
end Go.Proofs.YtekioipmhhcbhaaDoor
namespace Go.Proofs.YtekioipmhhcbhaaDoor
open Go Go.Z Go.Q Go.W6
open Go.Y hiding KE KK KR go Task go_sound
noncomputable section
theorem lc_up (s : List UInt8) (i : Nat) : (lc s i).1 <= (lc s (i + 1)).1 := by
 rw [zjO]; split
 ·exact Nat.le_succ _
 ·exact Nat.le_refl _
theorem lc_mono (s : List UInt8) {i j : Nat} (h : i <= j) : (lc s i).1 <= (lc s j).1 := by
 induction h with
 | refl => exact Nat.le_refl _
 | step h ih => exact Nat.le_trans ih (lc_up s _)
theorem lc_flat {s : List UInt8} {i j : Nat} (hij : i <= j) (h : ∀ k, i <= k -> k < j -> (s.getD k 0).toNat ≠ 10) : (lc s j).1 = (lc s i).1 := by
 induction hij with
 | refl => rfl
 | @step m hm ih =>
  have hm' : i <= m := hm
  rw [zjO, if_neg (h m hm' (Nat.lt_succ_self _))]
  exact ih λ k h1 h2 => h k h1 (by omega)
theorem last_nl : ∀ A : List UInt8, (∀ c ∈ A, c.toNat ≠ 10) \/ ∃ a r, A = a ++ 10 :: r /\ ∀ c ∈ r, c.toNat ≠ 10
 | [] => .inl λ c h => by cases h
 | c :: A => by
  rcases last_nl A with h | ⟨a, r, rfl, h⟩
  ·by_cases e : c.toNat = 10
   ·exact .inr ⟨[], A, by rw [show c = 10 from UInt8.toNat_inj.1 e]; rfl, h⟩
   ·refine .inl λ d hd => ?_
    rcases List.mem_cons.1 hd with rfl | hd
    ·exact e
    ·exact h d hd
  ·exact .inr ⟨c :: a, r, rfl, h⟩
theorem getD_ne {l : List UInt8} (h : ∀ c ∈ l, c.toNat ≠ 10) (i : Nat) : (l.getD i 0).toNat ≠ 10 := by
 rcases Nat.lt_or_ge i l.length with hi | hi
 ·rw [List.getD_eq_getElem?_getD, List.getElem?_eq_getElem hi]; exact h _ (List.getElem_mem hi)
 ·rw [List.getD_eq_getElem?_getD, List.getElem?_eq_none hi]; decide
theorem zjz {a b : List UInt8} (hl : a.length + 1 + b.length < 6000) (h : (scanF (a ++ 10 :: b)).2.2 = 0) : ∃ x y, (scanF (a ++ 10 :: b)).1 = x ++ y.map (mvTok (a.length + 1)) /\ Lie a x /\ Lie b y /\ (∃ r, scanF a = (x, r)) /\ ∃ r, scanF b = (y, r) := by
 have h4 := zkF (a ++ 10 :: b)
 rw [if_neg (by simp; omega)] at h4
 rcases zxu (s := a) (by omega) with ⟨x, h1, h2, _, h10⟩ | ⟨p, e, h1, h2, _, _, h3⟩
 ·rcases zxu (s := b) (by omega) with ⟨y, h5, h6, _, h8⟩ | ⟨q, f, h5, h6, _, _, h8⟩
  ·rw [zwK hl h1, h5] at h4
   exact ⟨x, y, by rw [h4]; rfl, h10, h8, ⟨_, h2⟩, _, h6⟩
  ·rw [zwK hl h1, h5] at h4
   rw [h4] at h
   exact absurd h h8
 ·rw [pieces_err h1] at h4
  rw [h4] at h
  exact absurd h h3
def cntP (p : Int -> Bool) (xs : List (List V)) : Nat := xs.countP λ r => p (vI (r.getD 4 .und))
theorem cntP_map (p : Int -> Bool) (s : List UInt8) (X : List Tok) : cntP p (X.map (rowTok s)) = X.countP λ t => p (lc s t.at_).1 := by
 unfold cntP; rw [List.countP_map]; rfl
theorem ahead {s t : List UInt8} {i : Nat} (hi : i <= s.length) (hs : s.length <= 4000) (ht : t.length <= 4000) (hst : s.take i = t.take i) (hit : i <= t.length) (e1 : (scanF s).2.2 = 0) (e2 : (scanF t).2.2 = 0) :
  ∃ x u v, (scanF s).1 = x ++ u /\ (scanF t).1 = x ++ v /\ (∀ k ∈ x, k.at_ < i) /\ (∀ j, j < x.length -> ((scanF s).1.map (rowTok s)).getD j [] = ((scanF t).1.map (rowTok t)).getD j []) /\ cntP (λ l => decide (l < (lc s i).1)) ((scanF s).1.map (rowTok s)) = x.length := by
 rcases last_nl (s.take i) with h | ⟨a, r, e, h⟩
 ·refine ⟨[], _, _, rfl, rfl, λ k hk => by (cases hk), λ j hj => absurd hj (Nat.not_lt_zero _), ?_⟩
  rw [cntP_map]
  refine List.countP_eq_zero.2 λ k hk => ?_
  have h1 : (lc s i).1 = 1 := by
   rw [lc_flat (i := 0) (Nat.zero_le i) λ k _ hk => ?_]
   ·rfl
   ·have := getD_ne h k
    rwa [List.getD_eq_getElem?_getD, List.getElem?_take_of_lt hk, <- List.getD_eq_getElem?_getD] at this
  have := (lc_le s k.at_).1
  simp only [decide_eq_true_eq]
  omega
 ·have el : i = a.length + 1 + r.length := by
   have := congrArg List.length e
   rw [List.length_take, Nat.min_eq_left hi] at this
   simp at this; omega
  have es : s = a ++ 10 :: (r ++ s.drop i) := by
   have := List.take_append_drop i s
   rw [e, List.append_assoc] at this
   exact this.symm
  have et : t = a ++ 10 :: (r ++ t.drop i) := by
   have := List.take_append_drop i t
   rw [<- hst, e, List.append_assoc] at this
   exact this.symm
  generalize s.drop i = sd at es
  generalize t.drop i = td at et
  subst es et
  have l1 : a.length + 1 + (r ++ sd).length < 6000 := by simp at hs ⊢; omega
  have l2 : a.length + 1 + (r ++ td).length < 6000 := by simp at ht ⊢; omega
  obtain ⟨x, y, h1, h2, h3, ⟨z1, h4⟩, _⟩ := zjz l1 e1
  obtain ⟨x', y', h1', _, _, ⟨z2, h4'⟩, _⟩ := zjz l2 e2
  rw [h4] at h4'
  cases h4'
  have hf : (lc (a ++ 10 :: (r ++ sd)) i).1 = (lc a a.length).1 + 1 := by
   rw [el, lc_suf]
   show _ + (lc (r ++ sd) r.length).1 = _
   rw [lc_pre _ (Nat.le_refl _), lc_flat (i := 0) (Nat.zero_le _) λ k _ hk => getD_ne h k]
   rfl
  refine ⟨x, _, _, h1, h1', λ k hk => by have := h2 k hk; omega, λ j hj => ?_, ?_⟩
  ·rw [h1, h1', rows_pre hj h2, rows_pre hj h2]
  ·rw [cntP_map, h1, List.countP_append, hf]
   have c1 : x.countP (λ k => decide (((lc (a ++ 10 :: (r ++ sd)) k.at_).1 : Int) < ((lc a a.length).1 + 1 : Nat))) = x.length := List.countP_eq_length.2 λ k hk => by
    have := h2 k hk
    rw [lc_pre _ (by omega)]
    have := lc_mono a (i := k.at_) (j := a.length) (by omega)
    simp only [decide_eq_true_eq]; omega
   have c2 : (y.map (mvTok (a.length + 1))).countP (λ k => decide (((lc (a ++ 10 :: (r ++ sd)) k.at_).1 : Int) < ((lc a a.length).1 + 1 : Nat))) = 0 := List.countP_eq_zero.2 λ k hk => by
    obtain ⟨k', _, rfl⟩ := List.mem_map.1 hk
    show ¬ decide (((lc (a ++ 10 :: (r ++ sd)) (a.length + 1 + k'.at_)).1 : Int) < _) = true
    rw [lc_suf]
    have := (lc_le (r ++ sd) k'.at_).1
    simp only [decide_eq_true_eq]; omega
   rw [c1, c2]; rfl
theorem behind {c c1 d : List UInt8} (hs : c.length + 1 + d.length <= 4000) (ht : c1.length + 1 + d.length <= 4000) (e1 : (scanF (c ++ 10 :: d)).2.2 = 0) (e2 : (scanF (c1 ++ 10 :: d)).2.2 = 0) :
  ∃ u v y y', (scanF (c ++ 10 :: d)).1 = u ++ y /\ (scanF (c1 ++ 10 :: d)).1 = v ++ y' /\ y'.length = y.length /\ (∀ k ∈ y, c.length < k.at_) /\ (∀ k ∈ y', c1.length < k.at_) /\
   (∀ j, j < y.length -> sameR (((scanF (c ++ 10 :: d)).1.map (rowTok (c ++ 10 :: d))).getD ((scanF (c ++ 10 :: d)).1.length - 1 - j) []) (((scanF (c1 ++ 10 :: d)).1.map (rowTok (c1 ++ 10 :: d))).getD ((scanF (c1 ++ 10 :: d)).1.length - 1 - j) []) = true) /\
   cntP (λ l => decide (((lc c c.length).1 : Int) < l)) ((scanF (c ++ 10 :: d)).1.map (rowTok (c ++ 10 :: d))) = y.length := by
 obtain ⟨x, y, h1, h2, h3, _, ⟨z1, h4⟩⟩ := zjz (a := c) (b := d) (by omega) e1
 obtain ⟨x', y', h1', _, _, _, ⟨z2, h4'⟩⟩ := zjz (a := c1) (b := d) (by omega) e2
 rw [h4] at h4'
 cases h4'
 refine ⟨x, x', _, _, h1, h1', by simp, λ k hk => ?_, λ k hk => ?_, λ j hj => ?_, ?_⟩
 ·obtain ⟨k', _, rfl⟩ := List.mem_map.1 hk
  show c.length < c.length + 1 + k'.at_; omega
 ·obtain ⟨k', _, rfl⟩ := List.mem_map.1 hk
  show c1.length < c1.length + 1 + k'.at_; omega
 ·rw [List.length_map] at hj
  rw [h1, h1']
  have a1 : (x ++ y.map (mvTok (c.length + 1))).length - 1 - j = x.length + (y.length - 1 - j) := by simp; omega
  have a2 : (x' ++ y.map (mvTok (c1.length + 1))).length - 1 - j = x'.length + (y.length - 1 - j) := by simp; omega
  rw [a1, a2, rows_suf (by omega), rows_suf (by omega), zkS (by omega)]
  simp [sameR, mvRow, rowTok, vI, vS]
 ·rw [cntP_map, h1, List.countP_append]
  have c1 : x.countP (λ k => decide (((lc c c.length).1 : Int) < (lc (c ++ 10 :: d) k.at_).1)) = 0 := List.countP_eq_zero.2 λ k hk => by
   have := h2 k hk
   rw [lc_pre _ (by omega)]
   have := lc_mono c (i := k.at_) (j := c.length) (by omega)
   simp only [decide_eq_true_eq]; omega
  have c2 : (y.map (mvTok (c.length + 1))).countP (λ k => decide (((lc c c.length).1 : Int) < (lc (c ++ 10 :: d) k.at_).1)) = (y.map (mvTok (c.length + 1))).length := List.countP_eq_length.2 λ k hk => by
   obtain ⟨k', _, rfl⟩ := List.mem_map.1 hk
   show decide (_ < ((lc (c ++ 10 :: d) (c.length + 1 + k'.at_)).1 : Int)) = true
   rw [lc_suf]
   have := (lc_le d k'.at_).1
   simp only [decide_eq_true_eq]; omega
  rw [c1, c2]; simp
end
end Go.Proofs.YtekioipmhhcbhaaDoor
set_option maxRecDepth 100000
set_option maxHeartbeats 4000000
namespace Go.Proofs.YtekioipmhhcbhaaDoor
open Go Go.Z Go.Q Go.W6
open Go.Y hiding KE KK KR go Task go_sound
noncomputable section
end
end Go.Proofs.YtekioipmhhcbhaaDoor
set_option maxRecDepth 100000
set_option maxHeartbeats 4000000
namespace Go.Proofs.YtekioipmhhcbhaaDoor
open Go Go.Z Go.Q Go.W6
open Go.Y hiding KE KK KR go Task go_sound
noncomputable section
abbrev I64 (a : Int) : Prop := -9223372036854775808 <= a /\ a <= 9223372036854775807
end
end Go.Proofs.YtekioipmhhcbhaaDoor
set_option maxRecDepth 100000
set_option maxHeartbeats 4000000
namespace Go.Proofs.YtekioipmhhcbhaaDoor
open Go Go.Z Go.Q Go.W6
open Go.Y hiding KE KK KR go Task go_sound
noncomputable section
variable [Ext]
end
end Go.Proofs.YtekioipmhhcbhaaDoor
namespace Go.Proofs.YtekioipmhhcbhaaDoor
open Go Go.Z Go.Q Go.W6
open Go.Y hiding KE KK KR go Task go_sound
noncomputable section
structure SL where
 i : Nat
 k : Nat
 a : Nat
 b : List UInt8
variable {s note : List UInt8} {l : List Tok} {ns : List Int} {i k a : Nat} {b : List UInt8}
end
end Go.Proofs.YtekioipmhhcbhaaDoor
set_option maxRecDepth 100000
set_option maxHeartbeats 4000000
namespace Go.Proofs.YtekioipmhhcbhaaDoor
open Go Go.Z Go.Q Go.W6
open Go.Y hiding KE KK KR go Task go_sound
noncomputable section
variable [Ext]
abbrev fnS : V := .fn (.func 35) [] []
def isFn (f : Go.Fn) : Bool := match f with | .func n => Nat.beq n 35 | _ => false
theorem isFn_eq {f : Go.Fn} (h : isFn f = true) : f = .func 35 := by
 unfold isFn at h
 split at h
 ·rw [beq_tt h]
 ·cases h
end
end Go.Proofs.YtekioipmhhcbhaaDoor
