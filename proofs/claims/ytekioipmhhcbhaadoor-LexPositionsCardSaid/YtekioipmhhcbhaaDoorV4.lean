/- Loops whose states are read out of temporaries and pieces: how a summary looks at them. -/
import Derived.Test.YtekioipmhhcbhaaDoorV3
import Derived.Test.YtekioipmhhcbhaaDoorKw
set_option linter.unusedVariables false
set_option linter.unusedSimpArgs false
namespace Go.Proofs.YtekioipmhhcbhaaDoor
open Go Go.Z Go.Q Go.W6
open Go.Y hiding KE KK KR go Task go_sound
noncomputable section
def atV (nt n : Nat) (ids rids : List Nat) (fi : FI) (ds : List DV) (hp : Mem) (p : List Chunk → Prop) : Prop := match Nat.beq fi.nt nt, fi.ro, ds, Nat.beq hp.n n, noLk ids hp.ro, pkS rids hp.t with
  | true, none, [], true, true, some rc => p rc
  | _, _, _, _, _, _ => False
theorem atV_inv {nt n : Nat} {ids rids : List Nat} {fi : FI} {ds : List DV} {hp : Mem} {p : List Chunk → Prop} (h : atV nt n ids rids fi ds hp p) : fi = ⟨nt, none⟩ ∧ ds = [] ∧ hp.n = n ∧ noLk ids hp.ro = true ∧ ∃ rc, pk rids hp.t = rc.map some ∧ p rc := by
  obtain ⟨a, b⟩ := fi
  unfold atV at h
  split at h
  · rename_i h1 h2 h3 h4 h5
    dsimp only at h1 h2
    exact ⟨by rw [beq_tt h1, h2], rfl, beq_tt h3, h4, _, pkS_ok h5, h⟩
  · exact h.elim
theorem fitE_of {t : Tr Chunk} : ∀ {ids : List Nat} {l : List Chunk}, pk ids t = l.map some → fitE t ids (l.map some)
  | [], [], _ => trivial
  | [], _ :: _, h => by cases h
  | _ :: _, [], h => by cases h
  | i :: ids, c :: l, h => by
    simp only [pk, List.map_cons, List.cons.injEq] at h
    exact ⟨⟨c, h.1, chle_refl _⟩, fitE_of h.2⟩
theorem getD_map {α β : Type} {f : α → β} {l : List α} {i : Nat} {d : β} (h : i < l.length) : (l.map f).getD i d = f (l[i]'h) := by
  rw [List.getD_eq_getElem?_getD, List.getElem?_map, List.getElem?_eq_getElem h]; rfl
theorem sum_of1v {P : Program} {G0 G : GQ} {f : Nat} {args args0 : List V} {hp : Mem} {k : KE} {R : V} (h : TaskOk P G0 (.call f args0 nomem fun e _ => retV R e)) (hg : G0.g.t = .nil) (hle : vles args args0) (ha : vins 0 args0 = true) (hR : vin 0 R = true) (hk : k (.ret R) hp) : TaskOk P G (.call f args hp k) := by
  have := sum_of1 (G := G) (hp := hp) h hg ha hR hk
  exact ⟨this.1, fun ρ W us Post hG hH hus hkk => this.2 ρ W us Post hG hH (vles_ok hle hus) hkk⟩
end
end Go.Proofs.YtekioipmhhcbhaaDoor
set_option maxRecDepth 20000
namespace Go.Proofs.YtekioipmhhcbhaaDoor
open Go Go.Z Go.W6
noncomputable section
inductive Ends (s : List UInt8) : Nat → List Tok → Scn → Prop
  | stop {i l r} : stepF s i l = r → endB r = true → Ends s i l r
  | step {i l i' l' r} : stepF s i l = .go i' l' → Ends s i' l' r → Ends s i l r
theorem Ends.det {s : List UInt8} {i : Nat} {l : List Tok} {r r' : Scn} (h : Ends s i l r) (h' : Ends s i l r') : r = r' := by
  induction h with
  | stop h1 h2 =>
    cases h' with
    | stop h3 h4 => exact h1.symm.trans h3
    | step h3 h4 => rw [h1] at h3; subst h3; cases h2
  | step h1 h2 ih =>
    cases h' with
    | stop h3 h4 => rw [h1] at h3; subst h3; cases h4
    | step h3 h4 =>
      rw [h1] at h3
      cases h3
      exact ih h4
theorem step_inc {s : List UInt8} {i i' : Nat} {l l' : List Tok} (hi : i ≤ s.length) (h : stepF s i l = .go i' l') : i < i' ∧ i' ≤ s.length ∧ l'.length = l.length + 1 := by
  unfold stepF at h
  split at h
  · cases h
  · rename_i j hj
    have h1 := (skip_le _ i (Nat.le_refl _) hi).1 j hj
    split at h
    · cases h
    · split at h
      · cases h
      · rename_i t ht
        have h2 := tok_le (by omega) ht
        split at h
        · cases h
        · split at h
          · cases h
          · cases h
            refine ⟨by omega, h2.2.1, by simp⟩
theorem run_succ (s : List UInt8) (n : Nat) : runF s (n + 1) = match runF s n with | .go i l => stepF s i l | r => r := rfl
theorem run_reach {s : List UInt8} : ∀ n, (∃ i l, runF s n = .go i l ∧ n ≤ i ∧ i ≤ s.length ∧ l.length = n) ∨ endB (runF s n) = true
  | 0 => .inl ⟨0, [], rfl, Nat.le_refl _, Nat.zero_le _, rfl⟩
  | n + 1 => by
    rw [run_succ]
    rcases run_reach (s := s) n with ⟨i, l, h, h1, h2, h3⟩ | h
    · rw [h]
      dsimp only
      cases hs : stepF s i l with
      | go i' l' =>
        have := step_inc h2 hs
        exact .inl ⟨i', l', rfl, by omega, this.2.1, by omega⟩
      | done l' => exact .inr rfl
      | err a e => exact .inr rfl
    · right
      cases hr : runF s n with
      | go i l => rw [hr] at h; cases h
      | done l' => rfl
      | err a e => rfl
theorem end_end (s : List UInt8) : endB (scanEnd s) = true := by
  unfold scanEnd
  rcases run_reach (s := s) (s.length + 1) with ⟨i, l, h, h1, h2, h3⟩ | h
  · omega
  · exact h
theorem ends_run {s : List UInt8} : ∀ {n i l r}, runF s n = .go i l → Ends s i l r → Ends s 0 [] r
  | 0, i, l, r, h, he => by cases h; exact he
  | n + 1, i, l, r, h, he => by
    rw [run_succ] at h
    cases hr : runF s n with
    | go i' l' =>
      rw [hr] at h
      exact ends_run hr (.step h he)
    | done l' => rw [hr] at h; cases h
    | err a e => rw [hr] at h; cases h
theorem ends_scan (s : List UInt8) : Ends s 0 [] (scanEnd s) := by
  have he := end_end s
  unfold scanEnd at he ⊢
  have : ∀ n, endB (runF s n) = true → Ends s 0 [] (runF s n) := by
    intro n
    induction n with
    | zero => intro h; cases h
    | succ n ih =>
      intro h
      rw [run_succ] at h ⊢
      cases hr : runF s n with
      | go i l =>
        rw [hr] at h
        exact ends_run hr (.stop rfl h)
      | done l => have := ih (by rw [hr]; rfl); rw [hr] at this; exact this
      | err a e => have := ih (by rw [hr]; rfl); rw [hr] at this; exact this
  exact this _ he
theorem ends_eq {s : List UInt8} {r : Scn} (h : Ends s 0 [] r) : scanEnd s = r := (ends_scan s).det h
theorem skipL_n (m : Bool) (p : Nat) : skipL m [] p = .ok p := by cases m <;> rfl
theorem skipL_f (c : UInt8) (l : List UInt8) (p : Nat) : skipL false (c :: l) p = if c.toNat = 32 ∨ c.toNat = 10 then skipL false l (p + 1) else if c.toNat = 36 then skipL true l (p + 1) else .ok p := rfl
theorem skipL_t (c : UInt8) (l : List UInt8) (p : Nat) : skipL true (c :: l) p = if c.toNat = 10 then skipL false l (p + 1) else if plainB c then skipL true l (p + 1) else .error p := rfl
theorem drop_pre {a c : List UInt8} {i : Nat} (hi : i ≤ a.length) : (a ++ c).drop i = a.drop i ++ c := List.drop_append_of_le_length hi
theorem getD_pre {a c : List UInt8} {i : Nat} (hi : i < a.length) : (a ++ c).getD i 0 = a.getD i 0 := by
  rw [List.getD_eq_getElem?_getD, List.getD_eq_getElem?_getD, List.getElem?_append_left hi]
theorem cut_pre {a c : List UInt8} {i j : Nat} (hj : j ≤ a.length) : cutF (a ++ c) i j = cutF a i j := by
  unfold cutF
  rw [List.take_append_of_le_length hj]
theorem drop_suf {c b : List UInt8} {i : Nat} : (c ++ b).drop (c.length + i) = b.drop i := by
  rw [← List.drop_drop, List.drop_left]
theorem isAt_suf {p : UInt8 → Bool} {c b : List UInt8} {i : Nat} : isAt p (c ++ b) (c.length + i) = isAt p b i := by
  unfold isAt
  rw [List.getElem?_append_right (by omega), Nat.add_sub_cancel_left]
theorem getD_suf {c b : List UInt8} {i : Nat} : (c ++ b).getD (c.length + i) 0 = b.getD i 0 := by
  rw [List.getD_eq_getElem?_getD, List.getD_eq_getElem?_getD, List.getElem?_append_right (by omega), Nat.add_sub_cancel_left]
theorem end_suf {p : UInt8 → Bool} {c b : List UInt8} {i : Nat} : endF p (c ++ b) (c.length + i) = c.length + endF p b i := by
  unfold endF
  rw [drop_suf]; omega
theorem cut_suf {c b : List UInt8} {i j : Nat} : cutF (c ++ b) (c.length + i) (c.length + j) = cutF b i j := by
  unfold cutF
  rw [List.take_append, List.take_of_length_le (by omega), Nat.add_sub_cancel_left, drop_suf]
theorem num_suf {c b : List UInt8} {i : Nat} : numF (c ++ b) (c.length + i) = (numF b i).map fun x => (x.1, x.2.1, c.length + x.2.2) := by
  have e1 : digF (c ++ b) (c.length + i) = c.length + digF b i := end_suf
  have e2 : digF (c ++ b) (c.length + digF b i + 1) = c.length + digF b (digF b i + 1) := by rw [Nat.add_assoc]; exact end_suf
  unfold numF
  dsimp only
  rw [e1, isAt_suf, e2, Nat.add_assoc, isAt_suf, cut_suf, cut_suf, show c.length + digF b i - (c.length + i) = digF b i - i by omega, show c.length + digF b (digF b i + 1) - (c.length + (digF b i + 1)) = digF b (digF b i + 1) - (digF b i + 1) by omega]
  split
  · split <;> rfl
  · split <;> rfl
def mvB (d : Nat) (bad : Int) : Int := if bad < 0 then bad else d + bad
theorem textL_move (d : Nat) : ∀ (l : List UInt8) (p : Nat) (acc : List UInt8) (bad : Int), textL l (d + p) acc (mvB d bad) = (textL l p acc bad).map fun x => (x.1, d + x.2.1, mvB d x.2.2) := by
  intro l p acc bad
  induction l, p, acc, bad using textL.induct with
  | case1 p acc bad => unfold textL; rfl
  | case2 c l p acc bad h1 => unfold textL; rw [if_pos h1, if_pos h1]; rfl
  | case3 c p acc bad h1 h2 d' l' h3 ih =>
    conv => lhs; unfold textL
    conv => rhs; unfold textL
    rw [if_neg h1, if_pos h2, if_neg h1, if_pos h2]
    dsimp only
    rw [if_pos h3, if_pos h3, ← ih]; rfl
  | case4 c p acc bad h1 h2 d' l' h3 =>
    conv => lhs; unfold textL
    conv => rhs; unfold textL
    rw [if_neg h1, if_pos h2, if_neg h1, if_pos h2]
    dsimp only
    rw [if_neg h3, if_neg h3]; rfl
  | case5 c p acc bad h1 h2 =>
    conv => lhs; unfold textL
    conv => rhs; unfold textL
    rw [if_neg h1, if_pos h2, if_neg h1, if_pos h2]
    rfl
  | case6 c l p acc bad h1 h2 ih =>
    conv => lhs; unfold textL
    conv => rhs; unfold textL
    rw [if_neg h1, if_neg h2, if_neg h1, if_neg h2, ← ih]
    congr 1
    unfold mvB
    split <;> split <;> (try split) <;> (try split) <;> first | rfl | omega | (exfalso; omega) | skip
    all_goals (simp_all; try omega)
theorem text_suf {c b : List UInt8} {i : Nat} : textF (c ++ b) (c.length + i) = match textF b i with
    | .ok (t, e, bad) => .ok (t, c.length + e, mvB c.length bad)
    | .error e => .error e := by
  unfold textF
  have := textL_move c.length (b.drop (i + 1)) (i + 1) [] (-1)
  rw [show mvB c.length (-1) = -1 from rfl] at this
  rw [Nat.add_assoc, drop_suf, this]
  cases textL (b.drop (i + 1)) (i + 1) [] (-1) with
  | none => rfl
  | some x =>
    obtain ⟨t, e, bad⟩ := x
    simp only [Option.map_some]
    split <;> rfl
theorem sign_suf {c b : List UInt8} {i : Nat} : signN (c ++ b) (c.length + i) = signN b i := by
  unfold signN
  rw [show c.length + i + 2 = c.length + (i + 2) by omega, cut_suf]
  have : c.length + (i + 2) ≤ (c ++ b).length ↔ i + 2 ≤ b.length := by simp
  simp only [this]
def mvT (d : Nat) : Except Nat TokR → Except Nat TokR
  | .ok x => .ok ⟨x.kind, x.text, d + x.to, mvB d x.bad⟩
  | .error e => .error e
theorem tok_suf {c b : List UInt8} {i : Nat} : tokF (c ++ b) (c.length + i) = mvT c.length (tokF b i) := by
  have h1 : nameF (c ++ b) (c.length + i) = c.length + nameF b i := end_suf
  unfold tokF
  dsimp only
  rw [getD_suf, h1, cut_suf, num_suf, text_suf, sign_suf, Nat.add_assoc, cut_suf]
  split
  · split
    · rfl
    · split <;> rfl
  · split
    · cases numF b i with
      | none => rfl
      | some x => obtain ⟨k, t, e⟩ := x; rfl
    · split
      · cases textF b i with
        | error e => rfl
        | ok x => obtain ⟨t, e, bad⟩ := x; rfl
      · split
        · split <;> rfl
        · rfl
end
end Go.Proofs.YtekioipmhhcbhaaDoor
set_option maxRecDepth 20000
namespace Go.Proofs.YtekioipmhhcbhaaDoor
open Go Go.Z Go.W6
noncomputable section
theorem tokF_err {s : List UInt8} {i e : Nat} (h : tokF s i = .error e) : e ≠ 0 := by
  unfold tokF at h
  dsimp only at h
  split at h
  · split at h
    · cases h
    · split at h
      · cases h; decide
      · cases h
  · split at h
    · split at h
      · cases h
      · cases h; decide
    · split at h
      · split at h
        · cases h
        · rename_i hh
          cases h
          unfold textF at hh
          split at hh
          · cases hh; decide
          · split at hh
            · cases hh; decide
            · cases hh
      · split at h
        · split at h
          · cases h
          · cases h; decide
        · cases h; decide
def Lie (s : List UInt8) (l : List Tok) : Prop := ∀ t ∈ l, t.at_ < t.to ∧ t.to ≤ s.length
theorem ends_facts {s : List UInt8} {i : Nat} {l : List Tok} {r : Scn} (h : Ends s i l r) : i ≤ s.length → l.length ≤ i → Lie s l → (∀ x, r = .done x → x.length ≤ s.length ∧ Lie s x) ∧ (∀ p e, r = .err p e → 0 ≤ p ∧ p < s.length ∧ e ≠ 0) := by
  induction h with
  | @stop i l r h1 h2 =>
    intro hi hl hlie
    unfold stepF at h1
    split at h1
    · rename_i b hb
      have := (skip_le _ i (Nat.le_refl _) hi).2 b hb
      cases h1
      exact ⟨fun x hx => (by cases hx), fun p e hx => by cases hx; refine ⟨by omega, by omega, by decide⟩⟩
    · rename_i j hj
      have hij := (skip_le _ i (Nat.le_refl _) hi).1 j hj
      split at h1
      · cases h1; exact ⟨fun x hx => by cases hx; exact ⟨by omega, hlie⟩, fun p e hx => (by cases hx)⟩
      · rename_i hlt
        split at h1
        · rename_i e0 ht
          cases h1
          exact ⟨fun x hx => (by cases hx), fun p e hx => by cases hx; exact ⟨by omega, by omega, tokF_err ht⟩⟩
        · rename_i t ht
          have htl := tok_le (by omega) ht
          split at h1
          · cases h1; exact ⟨fun x hx => (by cases hx), fun p e hx => by cases hx; refine ⟨by omega, by omega, by decide⟩⟩
          · split at h1
            · cases h1; exact ⟨fun x hx => (by cases hx), fun p e hx => by cases hx; refine ⟨by omega, by omega, by decide⟩⟩
            · subst h1; cases h2
  | @step i l i' l' r h1 h2 ih =>
    intro hi hl hlie
    have hinc := step_inc hi h1
    refine ih hinc.2.1 (by omega) ?_
    unfold stepF at h1
    split at h1
    · cases h1
    · rename_i j hj
      have hij := (skip_le _ i (Nat.le_refl _) hi).1 j hj
      split at h1
      · cases h1
      · split at h1
        · cases h1
        · rename_i t ht
          have htl := tok_le (by omega) ht
          split at h1
          · cases h1
          · split at h1
            · cases h1
            · cases h1
              intro t' ht'
              rcases List.mem_append.1 ht' with h | h
              · exact hlie t' h
              · rw [List.mem_singleton.1 h]; exact ⟨htl.1, htl.2.1⟩
theorem scan_facts (s : List UInt8) : (∀ x, scanEnd s = .done x → x.length ≤ s.length ∧ Lie s x) ∧ (∀ p e, scanEnd s = .err p e → 0 ≤ p ∧ p < s.length ∧ e ≠ 0) :=
  ends_facts (ends_scan s) (Nat.zero_le _) (Nat.zero_le _) (fun t h => by cases h)
theorem scanF_cases {s : List UInt8} (hs : s.length ≤ 20000) : (∃ x, scanEnd s = .done x ∧ scanF s = (x, 0, 0) ∧ x.length ≤ s.length ∧ Lie s x) ∨ (∃ p e, scanEnd s = .err p e ∧ scanF s = ([], p, e) ∧ 0 ≤ p ∧ p < s.length ∧ e ≠ 0) := by
  have h1 := scanF_eq s
  rw [if_neg (by omega)] at h1
  have h2 := scan_facts s
  have h3 := end_end s
  cases he : scanEnd s with
  | done x => rw [he] at h1; exact .inl ⟨x, rfl, h1, h2.1 x he⟩
  | err p e => rw [he] at h1; exact .inr ⟨p, e, rfl, h1, h2.2 p e he⟩
  | go i l => rw [he] at h3; cases h3
end
end Go.Proofs.YtekioipmhhcbhaaDoor
set_option maxRecDepth 20000
namespace Go.Proofs.YtekioipmhhcbhaaDoor
open Go Go.Z Go.W6
noncomputable section
theorem takeW_cut {p : UInt8 → Bool} {w r : List UInt8} (h : ((w ++ r).takeWhile p).length ≤ w.length) : (w ++ r).takeWhile p = w.takeWhile p := by
  induction w with
  | nil =>
    simp only [List.nil_append, List.length_nil] at h
    have : r.takeWhile p = [] := List.eq_nil_of_length_eq_zero (by omega)
    rw [List.nil_append, this]; rfl
  | cons c w ih =>
    rw [List.cons_append, List.takeWhile_cons] at h ⊢
    rw [List.takeWhile_cons]
    split
    · rename_i hc
      rw [if_pos hc] at h
      rw [ih (by simpa using h)]
    · rfl
theorem end_cut {p : UInt8 → Bool} {w r : List UInt8} {i : Nat} (hi : i ≤ w.length) (h : endF p (w ++ r) i ≤ w.length) : endF p w i = endF p (w ++ r) i := by
  unfold endF at h ⊢
  rw [drop_pre hi] at h ⊢
  rw [takeW_cut (by rw [List.length_drop]; omega)]
theorem isAt_cut {p : UInt8 → Bool} {w r : List UInt8} {i : Nat} (hi : i < w.length) : isAt p (w ++ r) i = isAt p w i := by
  unfold isAt
  rw [List.getElem?_append_left hi]
theorem num_cut {w r : List UInt8} {i x e : Nat} {t : List UInt8} (hd : isAt digB (w ++ r) i = true) (h : numF (w ++ r) i = some (x, t, e)) (he : e ≤ w.length) : numF w i = some (x, t, e) := by
  obtain ⟨h1, h2⟩ := endF_step hd
  have hle := numF_le hd h
  have hj : digF (w ++ r) i ≤ e := by
    unfold numF at h
    dsimp only at h
    split at h
    · split at h
      · cases h
      · cases h; exact Nat.le_refl _
    · split at h
      · cases h
      · cases h
        have := endF_le (p := digB) (s := w ++ r) (i := digF (w ++ r) i + 1)
        rename_i hh _
        have h5 : isAt digB (w ++ r) (digF (w ++ r) i + 1) = true := by
          cases hq : isAt digB (w ++ r) (digF (w ++ r) i + 1) with
          | true => rfl
          | false => rw [hq, Bool.and_false] at hh; exact absurd rfl hh
        have h6 := (endF_step h5).1
        have h7 := endF_le (p := digB) (s := w ++ r) (i := digF (w ++ r) i + 1) (by omega)
        have h8 : digF (w ++ r) (digF (w ++ r) i + 1) = endF digB (w ++ r) (digF (w ++ r) i + 1) := rfl
        omega
  have e1 : digF w i = digF (w ++ r) i := end_cut (by omega) (by show digF (w ++ r) i ≤ _; omega)
  unfold numF at h ⊢
  dsimp only at h ⊢
  rw [e1]
  split at h
  · rename_i hh
    split at h
    · cases h
    · rename_i hlen
      cases h
      have hno : (isAt (fun b => b.toNat == 46) w (digF (w ++ r) i) && isAt digB w (digF (w ++ r) i + 1)) = false := by
        rcases Nat.lt_or_ge (digF (w ++ r) i + 1) w.length with hl | hl
        · rw [← isAt_cut (r := r) (by omega), ← isAt_cut (r := r) hl]; exact hh
        · rw [isAt_ge hl, Bool.and_false]
      rw [if_pos hno, if_neg hlen, cut_pre he]
  · rename_i hh
    split at h
    · cases h
    · rename_i hlen
      cases h
      have hh2 : (isAt (fun b => b.toNat == 46) (w ++ r) (digF (w ++ r) i) && isAt digB (w ++ r) (digF (w ++ r) i + 1)) = true := by
        cases hq : (isAt (fun b => b.toNat == 46) (w ++ r) (digF (w ++ r) i) && isAt digB (w ++ r) (digF (w ++ r) i + 1)) with
        | true => rfl
        | false => exact absurd hq hh
      have h5 : isAt digB (w ++ r) (digF (w ++ r) i + 1) = true := by simp only [Bool.and_eq_true] at hh2; exact hh2.2
      obtain ⟨h6, h7⟩ := endF_step h5
      have h8 := endF_le (p := digB) (s := w ++ r) (i := digF (w ++ r) i + 2) h6
      have h9 : digF (w ++ r) (digF (w ++ r) i + 1) = endF digB (w ++ r) (digF (w ++ r) i + 2) := h7
      have e2 : digF w (digF (w ++ r) i + 1) = digF (w ++ r) (digF (w ++ r) i + 1) := end_cut (by omega) (by show digF (w ++ r) _ ≤ _; omega)
      have hyes : ¬ (isAt (fun b => b.toNat == 46) w (digF (w ++ r) i) && isAt digB w (digF (w ++ r) i + 1)) = false := by
        have a1 := isAt_cut (p := fun b => b.toNat == 46) (w := w) (r := r) (i := digF (w ++ r) i) (by omega)
        have a2 := isAt_cut (p := digB) (w := w) (r := r) (i := digF (w ++ r) i + 1) (by omega)
        rw [← a1, ← a2]; exact hh
      rw [cut_pre he] at hlen
      rw [if_neg hyes, e2, cut_pre he, cut_pre (by omega : digF (w ++ r) i ≤ w.length)]
      rw [if_neg hlen]
theorem textL_cut : ∀ (l : List UInt8) (p : Nat) (acc : List UInt8) (bad : Int) (b : List UInt8) (q : Nat) (z : Int), textL l p acc bad = some (b, q, z) → ∀ n, q + 1 ≤ p + n → textL (l.take n) p acc bad = some (b, q, z) := by
  intro l p acc bad
  induction l, p, acc, bad using textL.induct with
  | case1 p acc bad => intro b q z h; unfold textL at h; cases h
  | case2 c l p acc bad h1 => intro b q z h; unfold textL at h; rw [if_pos h1] at h; cases h
  | case3 c p acc bad h1 h2 d l' h3 ih =>
    intro b q z h n hn
    have hle := textL_le _ _ _ _ _ _ _ h
    unfold textL at h; rw [if_neg h1, if_pos h2] at h; dsimp only at h; rw [if_pos h3] at h
    have hle2 := textL_le _ _ _ _ _ _ _ h
    obtain ⟨m, rfl⟩ : ∃ m, n = m + 2 := ⟨n - 2, by omega⟩
    rw [List.take_succ_cons, List.take_succ_cons]
    unfold textL
    rw [if_neg h1, if_pos h2]
    dsimp only
    rw [if_pos h3]
    exact ih b q z h m (by omega)
  | case4 c p acc bad h1 h2 d l' h3 =>
    intro b q z h n hn
    unfold textL at h; rw [if_neg h1, if_pos h2] at h; dsimp only at h; rw [if_neg h3] at h
    cases h
    obtain ⟨m, rfl⟩ : ∃ m, n = m + 1 := ⟨n - 1, by omega⟩
    cases m with
    | zero =>
      show textL [c] _ _ _ = _
      unfold textL
      rw [if_neg h1, if_pos h2]
    | succ m =>
      rw [List.take_succ_cons, List.take_succ_cons]
      unfold textL
      rw [if_neg h1, if_pos h2]
      dsimp only
      rw [if_neg h3]
  | case5 c p acc bad h1 h2 =>
    intro b q z h n hn
    unfold textL at h; rw [if_neg h1, if_pos h2] at h; dsimp only at h
    cases h
    obtain ⟨m, rfl⟩ : ∃ m, n = m + 1 := ⟨n - 1, by omega⟩
    rw [List.take_succ_cons, List.take_nil]
    unfold textL
    rw [if_neg h1, if_pos h2]
  | case6 c l p acc bad h1 h2 ih =>
    intro b q z h n hn
    have hle := textL_le _ _ _ _ _ _ _ h
    unfold textL at h; rw [if_neg h1, if_neg h2] at h
    have hle2 := textL_le _ _ _ _ _ _ _ h
    obtain ⟨m, rfl⟩ : ∃ m, n = m + 1 := ⟨n - 1, by omega⟩
    rw [List.take_succ_cons]
    unfold textL
    rw [if_neg h1, if_neg h2]
    exact ih b q z h m (by omega)
theorem text_cut {w r : List UInt8} {i e : Nat} {t : List UInt8} {bad : Int} (h : textF (w ++ r) i = .ok (t, e, bad)) (he : e ≤ w.length) : textF w i = .ok (t, e, bad) := by
  have hle := text_le h
  unfold textF at h ⊢
  have hd : w.drop (i + 1) = ((w ++ r).drop (i + 1)).take (w.length - (i + 1)) := by
    rw [drop_pre (by omega), List.take_append_of_le_length (by simp), List.take_of_length_le (by simp)]
  split at h
  · cases h
  · rename_i b p z hh
    split at h
    · cases h
    · rename_i hl
      cases h
      rw [hd, textL_cut _ _ _ _ _ _ _ hh _ (by omega)]
      dsimp only
      rw [if_neg hl]
theorem tok_cut {w r : List UInt8} {i : Nat} {x : TokR} (hi : i < w.length) (h : tokF (w ++ r) i = .ok x) (he : x.to = w.length) : tokF w i = .ok x := by
  have hlt : i < (w ++ r).length := by simp; omega
  have g : (w ++ r).getD i 0 = w.getD i 0 := getD_pre hi
  unfold tokF at h ⊢
  dsimp only at h ⊢
  rw [g] at h
  split at h
  · rename_i hl
    rw [if_pos hl]
    have hn : nameF (w ++ r) i = w.length := by
      split at h
      · cases h; exact he
      · split at h
        · cases h
        · cases h; exact he
    have e1 : nameF w i = nameF (w ++ r) i := end_cut (by omega) (by show nameF (w ++ r) i ≤ _; omega)
    rw [e1, ← cut_pre (c := r) (by omega : nameF (w ++ r) i ≤ w.length)]
    exact h
  · rename_i hl
    rw [if_neg hl]
    split at h
    · rename_i hd
      rw [if_pos hd]
      split at h
      · rename_i hn
        cases h
        rw [num_cut (by rw [isAt_lt hlt, g]; exact hd) hn (by have := he; dsimp only at this; omega)]
      · cases h
    · rename_i hd
      rw [if_neg hd]
      split at h
      · rename_i hq
        rw [if_pos hq]
        split at h
        · rename_i hn
          cases h
          rw [text_cut hn (by have := he; dsimp only at this; omega)]
        · cases h
      · rename_i hq
        rw [if_neg hq]
        split at h
        · rename_i hs
          rw [if_pos hs]
          split at h
          · rename_i hc
            cases h
            dsimp only at he
            have es : signN w i = signN (w ++ r) i := by
              have hh : signN (w ++ r) i = 2 ∨ signN (w ++ r) i = 1 := by unfold signN; split <;> simp
              rcases hh with hh | hh
              · have h2 : i + 2 ≤ w.length := by omega
                unfold signN
                rw [cut_pre (by omega : i + 2 ≤ w.length)]
                have : i + 2 ≤ (w ++ r).length ↔ i + 2 ≤ w.length := by simp; omega
                simp only [this]
              · rw [hh]
                unfold signN
                rw [if_neg (by omega)]
            rw [es, ← cut_pre (c := r) (by omega : i + signN (w ++ r) i ≤ w.length), if_pos hc]
          · cases h
        · cases h
theorem tok_skip {s : List UInt8} {i : Nat} {x : TokR} (hi : i < s.length) (h : tokF s i = .ok x) : skipF s i = .ok i := by
  rw [skip_at hi]
  unfold tokF at h
  dsimp only at h
  have h1 : letB (s.getD i 0) = true → ¬ ((s.getD i 0).toNat = 32 ∨ (s.getD i 0).toNat = 10) ∧ (s.getD i 0).toNat ≠ 36 := by intro h; unfold letB at h; simp only [Bool.or_eq_true, Bool.and_eq_true, decide_eq_true_eq] at h; omega
  have h2 : digB (s.getD i 0) = true → ¬ ((s.getD i 0).toNat = 32 ∨ (s.getD i 0).toNat = 10) ∧ (s.getD i 0).toNat ≠ 36 := by intro h; unfold digB at h; simp only [Bool.or_eq_true, Bool.and_eq_true, decide_eq_true_eq] at h; omega
  have h3 : signB (s.getD i 0) = true → ¬ ((s.getD i 0).toNat = 32 ∨ (s.getD i 0).toNat = 10) ∧ (s.getD i 0).toNat ≠ 36 := by
    intro h; unfold signB at h
    generalize (s.getD i 0).toNat = n at h
    simp at h; omega
  have key : ¬ ((s.getD i 0).toNat = 32 ∨ (s.getD i 0).toNat = 10) ∧ (s.getD i 0).toNat ≠ 36 := by
    split at h
    · exact h1 (by assumption)
    · split at h
      · exact h2 (by assumption)
      · split at h
        · omega
        · split at h
          · exact h3 (by assumption)
          · cases h
  rw [if_neg key.1, if_neg key.2]
theorem split3 (s : List UInt8) {i e : Nat} (h1 : i ≤ e) (h2 : e ≤ s.length) : s = s.take i ++ (cutF s i e ++ s.drop e) := by
  unfold cutF
  have : s = s.take e ++ s.drop e := (List.take_append_drop e s).symm
  conv => lhs; rw [this]
  rw [← List.append_assoc]
  congr 1
  have : (s.take e).take i ++ (s.take e).drop i = s.take e := List.take_append_drop i (s.take e)
  rw [List.take_take, Nat.min_eq_left h1] at this
  exact this.symm
theorem scan_alone {s : List UInt8} {i : Nat} {x : TokR} (hs : s.length ≤ 20000) (hi : i < s.length) (h : tokF s i = .ok x) (hb : ¬ 0 ≤ x.bad) : scanF (cutF s i x.to) = ([⟨x.kind, x.text, 0, x.to - i⟩], 0, 0) := by
  have hle := tok_le hi h
  have hcl := cut_len (s := s) (i := i) hle.2.1
  have hsp := split3 s (Nat.le_of_lt hle.1) hle.2.1
  have hti : (s.take i).length = i := by rw [List.length_take]; omega
  have h1 : tokF (cutF s i x.to ++ s.drop x.to) 0 = .ok ⟨x.kind, x.text, x.to - i, x.bad⟩ := by
    have := tok_suf (c := s.take i) (b := cutF s i x.to ++ s.drop x.to) (i := 0)
    rw [← hsp, hti, Nat.add_zero, h] at this
    cases hq : tokF (cutF s i x.to ++ s.drop x.to) 0 with
    | error e => rw [hq] at this; cases this
    | ok y =>
      rw [hq] at this
      obtain ⟨yk, yt, ye, yb⟩ := y
      simp only [mvT, Except.ok.injEq] at this
      subst this
      unfold mvB at hb ⊢
      dsimp only at hb hle ⊢
      have : i + ye - i = ye := by omega
      rw [this]
      split
      · rfl
      · rename_i hyb
        exfalso
        rw [if_neg hyb] at hb
        omega
  have h2 := tok_cut (by omega) h1 (by dsimp only; omega)
  have h3 := tok_skip (by omega) h2
  have h4 : stepF (cutF s i x.to) 0 [] = .go (x.to - i) [⟨x.kind, x.text, 0, x.to - i⟩] := step_go h3 (by omega) h2 (by simp) hb
  have h5 : stepF (cutF s i x.to) (x.to - i) [⟨x.kind, x.text, 0, x.to - i⟩] = .done [⟨x.kind, x.text, 0, x.to - i⟩] := step_done (skip_end (by omega)) (by omega)
  have h6 : scanEnd (cutF s i x.to) = .done [⟨x.kind, x.text, 0, x.to - i⟩] := ends_eq (.step h4 (.stop h5 rfl))
  rw [scanF_eq, if_neg (by omega), h6]
def passL : Bool → List UInt8 → Bool
  | _, [] => true
  | false, c :: l => if c.toNat = 36 then passL true l else if c.toNat = 32 ∨ c.toNat = 10 then passL false l else false
  | true, c :: l => if c.toNat = 10 then passL false l else passL true l
theorem passL_f (c : UInt8) (l : List UInt8) : passL false (c :: l) = if c.toNat = 36 then passL true l else if c.toNat = 32 ∨ c.toNat = 10 then passL false l else false := rfl
theorem passL_t (c : UInt8) (l : List UInt8) : passL true (c :: l) = if c.toNat = 10 then passL false l else passL true l := rfl
theorem passL_n (m : Bool) : passL m [] = true := by cases m <;> rfl
theorem skip_pass : ∀ (l : List UInt8) (m : Bool) (p j : Nat), skipL m l p = .ok j → passL m (l.take (j - p)) = true
  | [], m, p, j, h => by rw [List.take_nil, passL_n]
  | c :: l, m, p, j, h => by
    have step : ∀ m', skipL m' l (p + 1) = .ok j → p + 1 ≤ j := by
      intro m' h'
      clear h
      have : ∀ (l : List UInt8) (m : Bool) (p j : Nat), skipL m l p = .ok j → p ≤ j := by
        intro l
        induction l with
        | nil => intro m p j h; rw [skipL_n] at h; cases h; exact Nat.le_refl _
        | cons c l ih =>
          intro m p j h
          cases m
          · rw [skipL_f] at h
            split at h
            · have := ih _ _ _ h; omega
            · split at h
              · have := ih _ _ _ h; omega
              · cases h; exact Nat.le_refl _
          · rw [skipL_t] at h
            split at h
            · have := ih _ _ _ h; omega
            · split at h
              · have := ih _ _ _ h; omega
              · cases h
      exact this l m' (p + 1) j h'
    cases m
    · rw [skipL_f] at h
      split at h
      · rename_i hc
        have h1 := step _ h
        rw [show j - p = (j - (p + 1)) + 1 by omega, List.take_succ_cons, passL_f, if_neg (by omega), if_pos hc]
        exact skip_pass l false (p + 1) j h
      · split at h
        · rename_i hc
          have h1 := step _ h
          rw [show j - p = (j - (p + 1)) + 1 by omega, List.take_succ_cons, passL_f, if_pos hc]
          exact skip_pass l true (p + 1) j h
        · cases h
          rw [Nat.sub_self, List.take_zero, passL_n]
    · rw [skipL_t] at h
      split at h
      · rename_i hc
        have h1 := step _ h
        rw [show j - p = (j - (p + 1)) + 1 by omega, List.take_succ_cons, passL_t, if_pos hc]
        exact skip_pass l false (p + 1) j h
      · split at h
        · rename_i hc hc2
          have h1 := step _ h
          rw [show j - p = (j - (p + 1)) + 1 by omega, List.take_succ_cons, passL_t, if_neg hc]
          exact skip_pass l true (p + 1) j h
        · cases h
theorem pass_cut {s : List UInt8} {i j : Nat} (hi : i ≤ s.length) (h : skipF s i = .ok j) : passL false (cutF s i j) = true := by
  have := skip_pass _ _ _ _ h
  unfold cutF
  rw [List.drop_take]
  exact this
def TokOk (s : List UInt8) (last : Nat) (t : Tok) : Prop := last ≤ t.at_ ∧ t.at_ < t.to ∧ t.to ≤ s.length ∧ passL false (cutF s last t.at_) = true ∧ scanF (cutF s t.at_ t.to) = ([⟨t.kind, t.text, 0, t.to - t.at_⟩], 0, 0)
def lastOf (l : List Tok) (j : Nat) : Nat := match j with
  | 0 => 0
  | j + 1 => match l[j]? with | some t => t.to | none => 0
def AllOk (s : List UInt8) (l : List Tok) : Prop := ∀ j t, l[j]? = some t → TokOk s (lastOf l j) t
theorem lastOf_app {l : List Tok} {t : Tok} {j : Nat} (h : j ≤ l.length) : lastOf (l ++ [t]) j = lastOf l j := by
  cases j with
  | zero => rfl
  | succ j => unfold lastOf; dsimp only; rw [List.getElem?_append_left (by omega)]
theorem ends_ok {s : List UInt8} (hs : s.length ≤ 20000) {i : Nat} {l : List Tok} {r : Scn} (h : Ends s i l r) : i ≤ s.length → lastOf l l.length = i → AllOk s l → ∀ x, r = .done x → AllOk s x ∧ passL false (s.drop (lastOf x x.length)) = true := by
  induction h with
  | @stop i l r h1 h2 =>
    intro hi hl hok x hx
    subst hx
    unfold stepF at h1
    split at h1
    · cases h1
    · rename_i j hj
      have hij := (skip_le _ i (Nat.le_refl _) hi).1 j hj
      split at h1
      · rename_i hge
        cases h1
        refine ⟨hok, ?_⟩
        have := pass_cut hi hj
        rw [hl]
        unfold cutF at this
        rw [List.take_of_length_le hge] at this
        exact this
      · split at h1
        · cases h1
        · split at h1
          · cases h1
          · split at h1 <;> cases h1
  | @step i l i' l' r h1 h2 ih =>
    intro hi hl hok
    have hinc := step_inc hi h1
    unfold stepF at h1
    split at h1
    · cases h1
    · rename_i j hj
      have hij := (skip_le _ i (Nat.le_refl _) hi).1 j hj
      split at h1
      · cases h1
      · split at h1
        · cases h1
        · rename_i t ht
          have htl := tok_le (by omega) ht
          split at h1
          · cases h1
          · split at h1
            · cases h1
            · rename_i hbad
              cases h1
              refine ih hinc.2.1 ?_ ?_
              · rw [List.length_append]
                show lastOf (l ++ [_]) (l.length + 1) = t.to
                unfold lastOf
                simp
              · intro k t' hk
                rcases Nat.lt_or_ge k l.length with hlt | hge
                · rw [List.getElem?_append_left hlt] at hk
                  rw [lastOf_app (by omega)]
                  exact hok k t' hk
                · have : k = l.length := by
                    have := (List.getElem?_eq_some_iff.1 hk).1
                    rw [List.length_append] at this
                    simp at this
                    omega
                  subst this
                  rw [List.getElem?_append_right (Nat.le_refl _), Nat.sub_self] at hk
                  cases hk
                  rw [lastOf_app (Nat.le_refl _), hl]
                  exact ⟨hij.1, htl.1, htl.2.1, pass_cut hi hj, scan_alone (i := j) (x := t) hs (by omega) ht hbad⟩
theorem scan_all {s : List UInt8} (hs : s.length ≤ 20000) {x : List Tok} (h : scanEnd s = .done x) : AllOk s x ∧ passL false (s.drop (lastOf x x.length)) = true :=
  ends_ok hs (ends_scan s) (Nat.zero_le _) rfl (fun j t h => by cases h) x h
theorem line_back (s : List UInt8) : ∀ p, p ≤ s.length → lineAt s ((fs s p).1 - 1) = some (fs s p).2 ∧ (fs s p).2 ≤ p ∧ 1 ≤ (fs s p).1 ∧ ∀ x, (fs s p).2 ≤ x → x < p → (s.getD x 0).toNat ≠ 10
  | 0, _ => ⟨rfl, Nat.le_refl _, Nat.le_refl _, fun x h1 h2 => by omega⟩
  | p + 1, hp => by
    obtain ⟨h1, h2, h3, h4⟩ := line_back s p (by omega)
    unfold fs
    split
    · rename_i h10
      refine ⟨?_, Nat.le_refl _, by dsimp only; omega, fun x a b => by dsimp only at a; omega⟩
      dsimp only
      rw [show (fs s p).1 + 1 - 1 = ((fs s p).1 - 1) + 1 by omega]
      unfold lineAt
      rw [h1]
      dsimp only
      rw [idx_found h2 (by omega) h10 h4]
      dsimp only
      congr 1
      omega
    · rename_i h10
      refine ⟨h1, by omega, h3, fun x a b => ?_⟩
      rcases Nat.eq_or_lt_of_le (Nat.le_of_lt_succ b) with rfl | hlt
      · exact h10
      · exact h4 x a hlt
theorem off_back (s : List UInt8) {p : Nat} (hp : p ≤ s.length) : offF s (lc s p).1 (lc s p).2 = ((p : Int), 0) := by
  obtain ⟨h1, h2, h3, h4⟩ := line_back s p hp
  have hlong : p - (fs s p).2 ≤ longAt s (fs s p).2 := by
    unfold longAt
    cases hi : idxB 10 (s.drop (fs s p).2) 0 with
    | none => dsimp only; omega
    | some i =>
      dsimp only
      obtain ⟨a1, a2, a3⟩ := idx_line hi
      rcases Nat.lt_or_ge ((fs s p).2 + i) p with h | h
      · exact absurd a2 (h4 _ (by omega) h)
      · omega
  rw [lc_fs]
  dsimp only
  rw [off_hit h1 (by omega) (by omega) (by omega)]
  congr 1
  omega
end
end Go.Proofs.YtekioipmhhcbhaaDoor
namespace Go.Proofs.YtekioipmhhcbhaaDoor
open Go Go.Z Go.Q Go.W6
open Go.Y hiding KE KK KR go Task go_sound
noncomputable section
def noNl (b : UInt8) : Bool := !(b.toNat == 10)
def le17 (s : List UInt8) (i : Int) : List V := [.sstr s, .sint .i64 i]
def l17i (fi : FI) (ds : List DV) (env : Tr V) (hp : Mem) (k : KK) : Prop := atV 36 0 [] [] fi ds hp fun rc => match pk [0, 3] env with
  | [some v0, some v1] => match strOf v0, int64 v1 with
    | some s, some i => (0 ≤ i ∧ i ≤ (s.length : Int) ∧ (s.length : Int) ≤ 20000) ∧ k (.exit 2) [] (ofE ([0, 3].zip (le17 s (endF noNl s i.toNat)))) ⟨0, ofM ([].zip [] ++ [].zip rc), hp.ro⟩
    | _, _ => False
  | _ => False
def l17 (fi : FI) (ds : List DV) (env : Tr V) (hp : Mem) (k : KK) : Prop := atV 36 0 [] [] fi ds hp fun rc => match pk [0, 3] env with
  | [some v0, some v1] => match strOf v0, int64 v1 with
    | some s, some i => (i = 0 ∧ (s.length : Int) ≤ 20000 ∧ passL false s = true) ∧ k (.exit 0) [] (ofE ([0, 3].zip (le17 s s.length))) ⟨0, ofM ([].zip [] ++ [].zip rc), hp.ro⟩
    | _, _ => False
  | _ => False
def sPassed (args : List V) (hp : Mem) (k : KE) : Prop := match args with
  | [v] => match strOf v with
    | some s => (s.length ≤ 20000 ∧ passL false s = true) ∧ k (.ret (.bool true)) hp
    | none => False
  | _ => False
def le4 (s : List UInt8) (up : Bool) (n : Nat) (last i : Int) : List V := [.sstr s, .bool up, .ssl 1 0 n 6, .sint .i64 last, .sint .i64 i]
def l4 (fi : FI) (ds : List DV) (env : Tr V) (hp : Mem) (k : KK) : Prop := match Nat.beq fi.nt 170, fi.ro, ds, Nat.beq hp.n 2, hp.ro with
  | true, none, [], true, [(0, 0, 0)] => (match pk [0, 3, 4, 7, 8] env, pk [0, 1] hp.t with
    | [some v0, some (.bool up), some (.ssl 1 0 n 6), some v3, some v4], [some (.cells l ty sz), some (.rowsO xs sh ty')] => match strOf v0, int64 v3, int64 v4 with
      | some s, some last, some i => (last = 0 ∧ i = 0 ∧ s.length ≤ 20000 ∧ Chunk.cells l ty sz = spC ty ∧ sh = shTok ∧ ty' = 34) ∧
          ∃ x : List Tok, (xs = x.map (rowTok s) ∧ n = x.length ∧ x.length ≤ 20000 ∧ AllOk s x) ∧ k (.exit 0) [] (ofE ([0, 3, 4, 7, 8].zip (le4 s up x.length (lastOf x x.length) x.length))) ⟨2, ofM ([0, 1].zip [spC ty, .rowsO (x.map (rowTok s)) shTok 34]), [wh 0]⟩
      | _, _, _ => False
    | _, _ => False)
  | _, _, _, _, _ => False
theorem code_sameG {P : Program} {t : Tr Nat} {kn vs kn' vs' gf gl gf' gl'} {fi : FI} {c : Code} {ds : List DV} {env : Tr V} {hp : Mem} {k : KK} (h : TaskOk P ⟨⟨t, kn', vs'⟩, gf', gl'⟩ (.code fi c ds env hp k)) : TaskOk P ⟨⟨t, kn, vs⟩, gf, gl⟩ (.code fi c ds env hp k) :=
  fun ρ W ds' L K ro hG hH hE hF hk => h ρ W ds' L K ro hG hH hE hF hk
theorem pass_true {s : List UInt8} : ∀ (n i : Nat), s.length - i ≤ n → i ≤ s.length → passL true (s.drop i) = passL false (s.drop (endF noNl s i)) := by
  intro n
  induction n with
  | zero =>
    intro i h hi
    have : endF noNl s i = i := endF_stop (isAt_ge (by omega))
    rw [this, List.drop_eq_nil_of_le (by omega), passL_n, passL_n]
  | succ n ih =>
    intro i h hi
    cases hb : isAt noNl s i with
    | false =>
      have e : endF noNl s i = i := endF_stop hb
      rw [e]
      rcases Nat.lt_or_ge i s.length with hlt | hge
      · rw [isAt_lt hlt] at hb
        have h10 : (s.getD i 0).toNat = 10 := by simpa [noNl] using hb
        rw [drop_at hlt, passL_t, if_pos h10, passL_f, if_neg (by omega), if_pos (.inr h10)]
      · rw [List.drop_eq_nil_of_le hge, passL_n, passL_n]
    | true =>
      obtain ⟨hlt, e⟩ := endF_step hb
      rw [e, ← ih (i + 1) (by omega) (by omega)]
      rw [isAt_lt hlt] at hb
      have h10 : ¬ (s.getD i 0).toNat = 10 := by simpa [noNl] using hb
      rw [drop_at hlt, passL_t, if_neg h10]
end
end Go.Proofs.YtekioipmhhcbhaaDoor
set_option maxRecDepth 20000
namespace Go.Proofs.YtekioipmhhcbhaaDoor
open Go Go.Z Go.Q Go.W6
open Go.Y hiding KE KK KR go Task go_sound
noncomputable section
theorem f17_in (s : List UInt8) (i : Int) (N : O → List (Option V) → Nat → List (Option Chunk) → Prop) : Go.Q.go Tryd.prog ⟨⟨.nil, [], []⟩, [], []⟩ 100 (.code ⟨36, none⟩ (lp Tryd.prog 17 1) [] (ofE ([0,3].zip [.sstr s, .sint .i64 i])) ⟨0, ofMo ([].zip []), []⟩ (cutM [0,3] [] N)) =
  (True ∧
  True ∧
  (decide (i < (↑s.length : Int)) = true → ((0 : Int) ≤ i ∧
  i < (↑s.length : Int)) ∧
  True ∧
  ((!decide ((↑(s.getD i.toNat 0).toNat : Int) = (10 : Int))) = true → ((-9223372036854775808 : Int) ≤ i + (1 : Int) ∧
  i + (1 : Int) ≤ (9223372036854775807 : Int)) ∧
  N O.normal [some (V.sstr s), some (V.sint IntKind.i64 (i + (1 : Int)))] (0 : Nat) []) ∧
  ((!decide ((↑(s.getD i.toNat 0).toNat : Int) = (10 : Int))) = false → N (O.exit (2 : Nat)) [some (V.sstr s), some (V.sint IntKind.i64 i)] (0 : Nat) [])) ∧
  (decide (i < (↑s.length : Int)) = false → N (O.exit (2 : Nat)) [some (V.sstr s), some (V.sint IntKind.i64 i)] (0 : Nat) [])) := by kernel_rfl
theorem f17_loop (s : List UInt8) (i : Int) (N : O → List (Option V) → Nat → List (Option Chunk) → Prop) : Go.Q.go Tryd.prog ⟨⟨.nil, [], []⟩, [], [(36004, lp Tryd.prog 17 1, l17i)]⟩ 100 (.code ⟨36, none⟩ (lp Tryd.prog 17 0) [] (ofE ([0,3].zip [.sstr s, .sint .i64 i])) ⟨0, ofMo ([].zip []), []⟩ (cutM [0,3] [] N)) =
  (True ∧
  True ∧
  (decide (i < (↑s.length : Int)) = true → ((0 : Int) ≤ i ∧
  i < (↑s.length : Int)) ∧
  True ∧
  (decide ((↑(s.getD i.toNat 0).toNat : Int) = (36 : Int)) = true → lp Tryd.prog (17 : Nat) (1 : Nat) = lp Tryd.prog (17 : Nat) (1 : Nat) ∧
  ((0 : Int) ≤ i ∧
  i ≤ (↑s.length : Int) ∧
  (↑s.length : Int) ≤ (20000 : Int)) ∧
  N O.normal [some (V.sstr s), some (V.sint IntKind.i64 (↑(endF noNl s i.toNat) : Int))] (0 : Nat) []) ∧
  (decide ((↑(s.getD i.toNat 0).toNat : Int) = (36 : Int)) = false → ((0 : Int) ≤ i ∧
  i < (↑s.length : Int)) ∧
  True ∧
  ((!decide ((↑(s.getD i.toNat 0).toNat : Int) = (32 : Int))) = true → ((0 : Int) ≤ i ∧
  i < (↑s.length : Int)) ∧
  True ∧
  ((!decide ((↑(s.getD i.toNat 0).toNat : Int) = (10 : Int))) = true → N O.ret [some (V.sstr s), some (V.sint IntKind.i64 i)] (0 : Nat) []) ∧
  ((!decide ((↑(s.getD i.toNat 0).toNat : Int) = (10 : Int))) = false → ((-9223372036854775808 : Int) ≤ i + (1 : Int) ∧
  i + (1 : Int) ≤ (9223372036854775807 : Int)) ∧
  N O.normal [some (V.sstr s), some (V.sint IntKind.i64 (i + (1 : Int)))] (0 : Nat) [])) ∧
  ((!decide ((↑(s.getD i.toNat 0).toNat : Int) = (32 : Int))) = false → ((-9223372036854775808 : Int) ≤ i + (1 : Int) ∧
  i + (1 : Int) ≤ (9223372036854775807 : Int)) ∧
  N O.normal [some (V.sstr s), some (V.sint IntKind.i64 (i + (1 : Int)))] (0 : Nat) []))) ∧
  (decide (i < (↑s.length : Int)) = false → N (O.exit (0 : Nat)) [some (V.sstr s), some (V.sint IntKind.i64 i)] (0 : Nat) [])) := by kernel_rfl
theorem f17_eq (s : List UInt8) (N : E → Nat → List (Option Chunk) → Prop) : Go.Q.go Tryd.prog ⟨⟨.nil, [], []⟩, [], [(36002, lp Tryd.prog 17 0, l17)]⟩ 100 (.call 17 [.sstr s] nomem (cutE [] N)) =
  (lp Tryd.prog (17 : Nat) (0 : Nat) = lp Tryd.prog (17 : Nat) (0 : Nat) ∧
  ((0 : Int) = (0 : Int) ∧
  (↑s.length : Int) ≤ (20000 : Int) ∧
  passL false s = true) ∧
  N (E.ret (V.bool true)) (0 : Nat) []) := by kernel_rfl
theorem f4_loop (s : List UInt8) (up : Bool) (xs : List (List V)) (n ty : Nat) (last i : Int) (N : O → List (Option V) → Nat → List (Option Chunk) → Prop) : Go.Q.go Tryd.prog ⟨⟨varG 0, [], []⟩, [(16, sScan), (17, sPassed), (11, sumW), (12, sumO)], []⟩ 300 (.code ⟨170, none⟩ (lp Tryd.prog 4 0) [] (ofE ([0,3,4,7,8].zip [.sstr s, .bool up, .ssl 1 0 n 6, .sint .i64 last, .sint .i64 i])) ⟨2, ofMo ([0,1].zip [some (spC ty), some (.rowsO xs shTok 34)]), [wh 0]⟩ (cutV [0,3,4,7,8] [0,1] N)) =
  (True ∧
  True ∧
  (decide (i < (↑n : Int)) = true → ((0 : Int) ≤ i ∧
  i < (↑n : Int)) ∧
  (0 : Nat) + i.toNat < xs.length ∧
  True ∧
  (decide (vI ((xs.getD ((0 : Nat) + i.toNat) []).getD ((0 : Nat) + (1 : Nat) + (1 : Nat)) V.und) < last) = true → N O.ret [some (V.sstr s), some (V.bool up), some (V.ssl (1 : Nat) (0 : Nat) n (6 : Nat)), some (V.sint IntKind.i64 last), some (V.sint IntKind.i64 i)] (3 : Nat) [some (Chunk.cells spaceV ty (1 : Nat)), some (Chunk.rowsO xs shTok (34 : Nat))]) ∧
  (decide (vI ((xs.getD ((0 : Nat) + i.toNat) []).getD ((0 : Nat) + (1 : Nat) + (1 : Nat)) V.und) < last) = false → True ∧
  (decide (vI ((xs.getD ((0 : Nat) + i.toNat) []).getD ((0 : Nat) + (1 : Nat) + (1 : Nat) + (1 : Nat)) V.und) ≤ vI ((xs.getD ((0 : Nat) + i.toNat) []).getD ((0 : Nat) + (1 : Nat) + (1 : Nat)) V.und)) = true → N O.ret [some (V.sstr s), some (V.bool up), some (V.ssl (1 : Nat) (0 : Nat) n (6 : Nat)), some (V.sint IntKind.i64 last), some (V.sint IntKind.i64 i)] (3 : Nat) [some (Chunk.cells spaceV ty (1 : Nat)), some (Chunk.rowsO xs shTok (34 : Nat))]) ∧
  (decide (vI ((xs.getD ((0 : Nat) + i.toNat) []).getD ((0 : Nat) + (1 : Nat) + (1 : Nat) + (1 : Nat)) V.und) ≤ vI ((xs.getD ((0 : Nat) + i.toNat) []).getD ((0 : Nat) + (1 : Nat) + (1 : Nat)) V.und)) = false → True ∧
  True ∧
  (decide ((↑s.length : Int) < vI ((xs.getD ((0 : Nat) + i.toNat) []).getD ((0 : Nat) + (1 : Nat) + (1 : Nat) + (1 : Nat)) V.und)) = true → N O.ret [some (V.sstr s), some (V.bool up), some (V.ssl (1 : Nat) (0 : Nat) n (6 : Nat)), some (V.sint IntKind.i64 last), some (V.sint IntKind.i64 i)] (3 : Nat) [some (Chunk.cells spaceV ty (1 : Nat)), some (Chunk.rowsO xs shTok (34 : Nat))]) ∧
  (decide ((↑s.length : Int) < vI ((xs.getD ((0 : Nat) + i.toNat) []).getD ((0 : Nat) + (1 : Nat) + (1 : Nat) + (1 : Nat)) V.und)) = false → ((0 : Int) ≤ last ∧
  last ≤ vI ((xs.getD ((0 : Nat) + i.toNat) []).getD ((0 : Nat) + (1 : Nat) + (1 : Nat)) V.und) ∧
  vI ((xs.getD ((0 : Nat) + i.toNat) []).getD ((0 : Nat) + (1 : Nat) + (1 : Nat)) V.und) ≤ (↑s.length : Int)) ∧
  ((List.drop last.toNat (List.take (vI ((xs.getD ((0 : Nat) + i.toNat) []).getD ((0 : Nat) + (1 : Nat) + (1 : Nat)) V.und)).toNat s)).length ≤ (20000 : Nat) ∧
  passL false (List.drop last.toNat (List.take (vI ((xs.getD ((0 : Nat) + i.toNat) []).getD ((0 : Nat) + (1 : Nat) + (1 : Nat)) V.und)).toNat s)) = true) ∧
  ((0 : Int) ≤ vI ((xs.getD ((0 : Nat) + i.toNat) []).getD ((0 : Nat) + (1 : Nat) + (1 : Nat)) V.und) ∧
  vI ((xs.getD ((0 : Nat) + i.toNat) []).getD ((0 : Nat) + (1 : Nat) + (1 : Nat)) V.und) ≤ vI ((xs.getD ((0 : Nat) + i.toNat) []).getD ((0 : Nat) + (1 : Nat) + (1 : Nat) + (1 : Nat)) V.und) ∧
  vI ((xs.getD ((0 : Nat) + i.toNat) []).getD ((0 : Nat) + (1 : Nat) + (1 : Nat) + (1 : Nat)) V.und) ≤ (↑s.length : Int)) ∧
  Chunk.cells spaceV ty (1 : Nat) = Chunk.cells spaceV ty (1 : Nat) ∧
  True ∧
  ((!decide ((↑(scanF (List.drop (vI ((xs.getD ((0 : Nat) + i.toNat) []).getD ((0 : Nat) + (1 : Nat) + (1 : Nat)) V.und)).toNat (List.take (vI ((xs.getD ((0 : Nat) + i.toNat) []).getD ((0 : Nat) + (1 : Nat) + (1 : Nat) + (1 : Nat)) V.und)).toNat s))).snd.snd : Int) = (0 : Int))) = true → N O.ret [some (V.sstr s), some (V.bool up), some (V.ssl (1 : Nat) (0 : Nat) n (6 : Nat)), some (V.sint IntKind.i64 last), some (V.sint IntKind.i64 i)] (4 : Nat) [some (Chunk.cells spaceV ty (1 : Nat)), some (Chunk.rowsO xs shTok (34 : Nat))]) ∧
  ((!decide ((↑(scanF (List.drop (vI ((xs.getD ((0 : Nat) + i.toNat) []).getD ((0 : Nat) + (1 : Nat) + (1 : Nat)) V.und)).toNat (List.take (vI ((xs.getD ((0 : Nat) + i.toNat) []).getD ((0 : Nat) + (1 : Nat) + (1 : Nat) + (1 : Nat)) V.und)).toNat s))).snd.snd : Int) = (0 : Int))) = false → True ∧
  True ∧
  ((!decide ((↑(scanF (List.drop (vI ((xs.getD ((0 : Nat) + i.toNat) []).getD ((0 : Nat) + (1 : Nat) + (1 : Nat)) V.und)).toNat (List.take (vI ((xs.getD ((0 : Nat) + i.toNat) []).getD ((0 : Nat) + (1 : Nat) + (1 : Nat) + (1 : Nat)) V.und)).toNat s))).fst.length : Int) = (1 : Int))) = true → N O.ret [some (V.sstr s), some (V.bool up), some (V.ssl (1 : Nat) (0 : Nat) n (6 : Nat)), some (V.sint IntKind.i64 last), some (V.sint IntKind.i64 i)] (4 : Nat) [some (Chunk.cells spaceV ty (1 : Nat)), some (Chunk.rowsO xs shTok (34 : Nat))]) ∧
  ((!decide ((↑(scanF (List.drop (vI ((xs.getD ((0 : Nat) + i.toNat) []).getD ((0 : Nat) + (1 : Nat) + (1 : Nat)) V.und)).toNat (List.take (vI ((xs.getD ((0 : Nat) + i.toNat) []).getD ((0 : Nat) + (1 : Nat) + (1 : Nat) + (1 : Nat)) V.und)).toNat s))).fst.length : Int) = (1 : Int))) = false → ((0 : Int) ≤ (0 : Int) ∧
  (0 : Int) < (↑(scanF (List.drop (vI ((xs.getD ((0 : Nat) + i.toNat) []).getD ((0 : Nat) + (1 : Nat) + (1 : Nat)) V.und)).toNat (List.take (vI ((xs.getD ((0 : Nat) + i.toNat) []).getD ((0 : Nat) + (1 : Nat) + (1 : Nat) + (1 : Nat)) V.und)).toNat s))).fst.length : Int)) ∧
  True ∧
  (0 : Nat) < (List.map (rowTok (List.drop (vI ((xs.getD ((0 : Nat) + i.toNat) []).getD ((0 : Nat) + (1 : Nat) + (1 : Nat)) V.und)).toNat (List.take (vI ((xs.getD ((0 : Nat) + i.toNat) []).getD ((0 : Nat) + (1 : Nat) + (1 : Nat) + (1 : Nat)) V.und)).toNat s))) (scanF (List.drop (vI ((xs.getD ((0 : Nat) + i.toNat) []).getD ((0 : Nat) + (1 : Nat) + (1 : Nat)) V.und)).toNat (List.take (vI ((xs.getD ((0 : Nat) + i.toNat) []).getD ((0 : Nat) + (1 : Nat) + (1 : Nat) + (1 : Nat)) V.und)).toNat s))).fst).length ∧
  True ∧
  ((!decide (vI (((List.map (rowTok (List.drop (vI ((xs.getD ((0 : Nat) + i.toNat) []).getD ((0 : Nat) + (1 : Nat) + (1 : Nat)) V.und)).toNat (List.take (vI ((xs.getD ((0 : Nat) + i.toNat) []).getD ((0 : Nat) + (1 : Nat) + (1 : Nat) + (1 : Nat)) V.und)).toNat s))) (scanF (List.drop (vI ((xs.getD ((0 : Nat) + i.toNat) []).getD ((0 : Nat) + (1 : Nat) + (1 : Nat)) V.und)).toNat (List.take (vI ((xs.getD ((0 : Nat) + i.toNat) []).getD ((0 : Nat) + (1 : Nat) + (1 : Nat) + (1 : Nat)) V.und)).toNat s))).fst).getD ((0 : Nat) + Int.toNat (0 : Int)) []).getD (0 : Nat) V.und) = vI ((xs.getD ((0 : Nat) + i.toNat) []).getD (0 : Nat) V.und))) = true → N O.ret [some (V.sstr s), some (V.bool up), some (V.ssl (1 : Nat) (0 : Nat) n (6 : Nat)), some (V.sint IntKind.i64 last), some (V.sint IntKind.i64 i)] (4 : Nat) [some (Chunk.cells spaceV ty (1 : Nat)), some (Chunk.rowsO xs shTok (34 : Nat))]) ∧
  ((!decide (vI (((List.map (rowTok (List.drop (vI ((xs.getD ((0 : Nat) + i.toNat) []).getD ((0 : Nat) + (1 : Nat) + (1 : Nat)) V.und)).toNat (List.take (vI ((xs.getD ((0 : Nat) + i.toNat) []).getD ((0 : Nat) + (1 : Nat) + (1 : Nat) + (1 : Nat)) V.und)).toNat s))) (scanF (List.drop (vI ((xs.getD ((0 : Nat) + i.toNat) []).getD ((0 : Nat) + (1 : Nat) + (1 : Nat)) V.und)).toNat (List.take (vI ((xs.getD ((0 : Nat) + i.toNat) []).getD ((0 : Nat) + (1 : Nat) + (1 : Nat) + (1 : Nat)) V.und)).toNat s))).fst).getD ((0 : Nat) + Int.toNat (0 : Int)) []).getD (0 : Nat) V.und) = vI ((xs.getD ((0 : Nat) + i.toNat) []).getD (0 : Nat) V.und))) = false → ((0 : Int) ≤ (0 : Int) ∧
  (0 : Int) < (↑(scanF (List.drop (vI ((xs.getD ((0 : Nat) + i.toNat) []).getD ((0 : Nat) + (1 : Nat) + (1 : Nat)) V.und)).toNat (List.take (vI ((xs.getD ((0 : Nat) + i.toNat) []).getD ((0 : Nat) + (1 : Nat) + (1 : Nat) + (1 : Nat)) V.und)).toNat s))).fst.length : Int)) ∧
  True ∧
  (0 : Nat) < (List.map (rowTok (List.drop (vI ((xs.getD ((0 : Nat) + i.toNat) []).getD ((0 : Nat) + (1 : Nat) + (1 : Nat)) V.und)).toNat (List.take (vI ((xs.getD ((0 : Nat) + i.toNat) []).getD ((0 : Nat) + (1 : Nat) + (1 : Nat) + (1 : Nat)) V.und)).toNat s))) (scanF (List.drop (vI ((xs.getD ((0 : Nat) + i.toNat) []).getD ((0 : Nat) + (1 : Nat) + (1 : Nat)) V.und)).toNat (List.take (vI ((xs.getD ((0 : Nat) + i.toNat) []).getD ((0 : Nat) + (1 : Nat) + (1 : Nat) + (1 : Nat)) V.und)).toNat s))).fst).length ∧
  True ∧
  ((!decide (vS (((List.map (rowTok (List.drop (vI ((xs.getD ((0 : Nat) + i.toNat) []).getD ((0 : Nat) + (1 : Nat) + (1 : Nat)) V.und)).toNat (List.take (vI ((xs.getD ((0 : Nat) + i.toNat) []).getD ((0 : Nat) + (1 : Nat) + (1 : Nat) + (1 : Nat)) V.und)).toNat s))) (scanF (List.drop (vI ((xs.getD ((0 : Nat) + i.toNat) []).getD ((0 : Nat) + (1 : Nat) + (1 : Nat)) V.und)).toNat (List.take (vI ((xs.getD ((0 : Nat) + i.toNat) []).getD ((0 : Nat) + (1 : Nat) + (1 : Nat) + (1 : Nat)) V.und)).toNat s))).fst).getD ((0 : Nat) + Int.toNat (0 : Int)) []).getD ((0 : Nat) + (1 : Nat)) V.und) = vS ((xs.getD ((0 : Nat) + i.toNat) []).getD ((0 : Nat) + (1 : Nat)) V.und))) = true → N O.ret [some (V.sstr s), some (V.bool up), some (V.ssl (1 : Nat) (0 : Nat) n (6 : Nat)), some (V.sint IntKind.i64 last), some (V.sint IntKind.i64 i)] (4 : Nat) [some (Chunk.cells spaceV ty (1 : Nat)), some (Chunk.rowsO xs shTok (34 : Nat))]) ∧
  ((!decide (vS (((List.map (rowTok (List.drop (vI ((xs.getD ((0 : Nat) + i.toNat) []).getD ((0 : Nat) + (1 : Nat) + (1 : Nat)) V.und)).toNat (List.take (vI ((xs.getD ((0 : Nat) + i.toNat) []).getD ((0 : Nat) + (1 : Nat) + (1 : Nat) + (1 : Nat)) V.und)).toNat s))) (scanF (List.drop (vI ((xs.getD ((0 : Nat) + i.toNat) []).getD ((0 : Nat) + (1 : Nat) + (1 : Nat)) V.und)).toNat (List.take (vI ((xs.getD ((0 : Nat) + i.toNat) []).getD ((0 : Nat) + (1 : Nat) + (1 : Nat) + (1 : Nat)) V.und)).toNat s))).fst).getD ((0 : Nat) + Int.toNat (0 : Int)) []).getD ((0 : Nat) + (1 : Nat)) V.und) = vS ((xs.getD ((0 : Nat) + i.toNat) []).getD ((0 : Nat) + (1 : Nat)) V.und))) = false → True ∧
  ((!decide ((whereF s (vI ((xs.getD ((0 : Nat) + i.toNat) []).getD ((0 : Nat) + (1 : Nat) + (1 : Nat)) V.und))).snd.snd = (0 : Int))) = true → N O.ret [some (V.sstr s), some (V.bool up), some (V.ssl (1 : Nat) (0 : Nat) n (6 : Nat)), some (V.sint IntKind.i64 last), some (V.sint IntKind.i64 i)] (4 : Nat) [some (Chunk.cells spaceV ty (1 : Nat)), some (Chunk.rowsO xs shTok (34 : Nat))]) ∧
  ((!decide ((whereF s (vI ((xs.getD ((0 : Nat) + i.toNat) []).getD ((0 : Nat) + (1 : Nat) + (1 : Nat)) V.und))).snd.snd = (0 : Int))) = false → True ∧
  ((!decide ((offsetF s (vI ((xs.getD ((0 : Nat) + i.toNat) []).getD ((0 : Nat) + (1 : Nat) + (1 : Nat) + (1 : Nat) + (1 : Nat)) V.und)) (vI ((xs.getD ((0 : Nat) + i.toNat) []).getD ((0 : Nat) + (1 : Nat) + (1 : Nat) + (1 : Nat) + (1 : Nat) + (1 : Nat)) V.und))).snd = (0 : Int))) = true → N O.ret [some (V.sstr s), some (V.bool up), some (V.ssl (1 : Nat) (0 : Nat) n (6 : Nat)), some (V.sint IntKind.i64 last), some (V.sint IntKind.i64 i)] (4 : Nat) [some (Chunk.cells spaceV ty (1 : Nat)), some (Chunk.rowsO xs shTok (34 : Nat))]) ∧
  ((!decide ((offsetF s (vI ((xs.getD ((0 : Nat) + i.toNat) []).getD ((0 : Nat) + (1 : Nat) + (1 : Nat) + (1 : Nat) + (1 : Nat)) V.und)) (vI ((xs.getD ((0 : Nat) + i.toNat) []).getD ((0 : Nat) + (1 : Nat) + (1 : Nat) + (1 : Nat) + (1 : Nat) + (1 : Nat)) V.und))).snd = (0 : Int))) = false → True ∧
  ((!decide ((whereF s (vI ((xs.getD ((0 : Nat) + i.toNat) []).getD ((0 : Nat) + (1 : Nat) + (1 : Nat)) V.und))).fst = vI ((xs.getD ((0 : Nat) + i.toNat) []).getD ((0 : Nat) + (1 : Nat) + (1 : Nat) + (1 : Nat) + (1 : Nat)) V.und))) = true → N O.ret [some (V.sstr s), some (V.bool up), some (V.ssl (1 : Nat) (0 : Nat) n (6 : Nat)), some (V.sint IntKind.i64 last), some (V.sint IntKind.i64 i)] (4 : Nat) [some (Chunk.cells spaceV ty (1 : Nat)), some (Chunk.rowsO xs shTok (34 : Nat))]) ∧
  ((!decide ((whereF s (vI ((xs.getD ((0 : Nat) + i.toNat) []).getD ((0 : Nat) + (1 : Nat) + (1 : Nat)) V.und))).fst = vI ((xs.getD ((0 : Nat) + i.toNat) []).getD ((0 : Nat) + (1 : Nat) + (1 : Nat) + (1 : Nat) + (1 : Nat)) V.und))) = false → True ∧
  ((!decide ((whereF s (vI ((xs.getD ((0 : Nat) + i.toNat) []).getD ((0 : Nat) + (1 : Nat) + (1 : Nat)) V.und))).snd.fst = vI ((xs.getD ((0 : Nat) + i.toNat) []).getD ((0 : Nat) + (1 : Nat) + (1 : Nat) + (1 : Nat) + (1 : Nat) + (1 : Nat)) V.und))) = true → N O.ret [some (V.sstr s), some (V.bool up), some (V.ssl (1 : Nat) (0 : Nat) n (6 : Nat)), some (V.sint IntKind.i64 last), some (V.sint IntKind.i64 i)] (4 : Nat) [some (Chunk.cells spaceV ty (1 : Nat)), some (Chunk.rowsO xs shTok (34 : Nat))]) ∧
  ((!decide ((whereF s (vI ((xs.getD ((0 : Nat) + i.toNat) []).getD ((0 : Nat) + (1 : Nat) + (1 : Nat)) V.und))).snd.fst = vI ((xs.getD ((0 : Nat) + i.toNat) []).getD ((0 : Nat) + (1 : Nat) + (1 : Nat) + (1 : Nat) + (1 : Nat) + (1 : Nat)) V.und))) = false → True ∧
  ((!decide ((offsetF s (vI ((xs.getD ((0 : Nat) + i.toNat) []).getD ((0 : Nat) + (1 : Nat) + (1 : Nat) + (1 : Nat) + (1 : Nat)) V.und)) (vI ((xs.getD ((0 : Nat) + i.toNat) []).getD ((0 : Nat) + (1 : Nat) + (1 : Nat) + (1 : Nat) + (1 : Nat) + (1 : Nat)) V.und))).fst = vI ((xs.getD ((0 : Nat) + i.toNat) []).getD ((0 : Nat) + (1 : Nat) + (1 : Nat)) V.und))) = true → N O.ret [some (V.sstr s), some (V.bool up), some (V.ssl (1 : Nat) (0 : Nat) n (6 : Nat)), some (V.sint IntKind.i64 last), some (V.sint IntKind.i64 i)] (4 : Nat) [some (Chunk.cells spaceV ty (1 : Nat)), some (Chunk.rowsO xs shTok (34 : Nat))]) ∧
  ((!decide ((offsetF s (vI ((xs.getD ((0 : Nat) + i.toNat) []).getD ((0 : Nat) + (1 : Nat) + (1 : Nat) + (1 : Nat) + (1 : Nat)) V.und)) (vI ((xs.getD ((0 : Nat) + i.toNat) []).getD ((0 : Nat) + (1 : Nat) + (1 : Nat) + (1 : Nat) + (1 : Nat) + (1 : Nat)) V.und))).fst = vI ((xs.getD ((0 : Nat) + i.toNat) []).getD ((0 : Nat) + (1 : Nat) + (1 : Nat)) V.und))) = false → ((-9223372036854775808 : Int) ≤ i + (1 : Int) ∧
  i + (1 : Int) ≤ (9223372036854775807 : Int)) ∧
  N O.normal [some (V.sstr s), some (V.bool up), some (V.ssl (1 : Nat) (0 : Nat) n (6 : Nat)), some (V.sint IntKind.i64 (vI ((xs.getD ((0 : Nat) + i.toNat) []).getD ((0 : Nat) + (1 : Nat) + (1 : Nat) + (1 : Nat)) V.und))), some (V.sint IntKind.i64 (i + (1 : Int)))] (4 : Nat) [some (Chunk.cells spaceV ty (1 : Nat)), some (Chunk.rowsO xs shTok (34 : Nat))]))))))))))))) ∧
  (decide (i < (↑n : Int)) = false → N (O.exit (0 : Nat)) [some (V.sstr s), some (V.bool up), some (V.ssl (1 : Nat) (0 : Nat) n (6 : Nat)), some (V.sint IntKind.i64 last), some (V.sint IntKind.i64 i)] (2 : Nat) [some (Chunk.cells spaceV ty (1 : Nat)), some (Chunk.rowsO xs shTok (34 : Nat))])) := by kernel_rfl
theorem f4_eq (s : List UInt8) (ty : Nat) (K : E → Prop) : Go.Q.go Tryd.prog ⟨⟨varG 0, kn9, [(0, spaceV)]⟩, [(16, sScan), (17, sPassed), (11, sumW), (12, sumO)], [(170009, lp Tryd.prog 4 0, l4)]⟩ 200 (.call 4 [.sstr s] (varM spaceV ty) fun e _ => K e) =
  (True ∧
  True ∧
  (decide ((↑s.length : Int) ≤ (2000 : Int)) = true → Chunk.cells spaceV ty (1 : Nat) = Chunk.cells spaceV ty (1 : Nat) ∧
  True ∧
  ((!decide ((↑(scanF s).snd.snd : Int) = (0 : Int))) = true → True ∧
  True ∧
  (decide ((↑(scanF s).fst.length : Int) = (0 : Int)) = true → True ∧
  (decide ((0 : Int) ≤ (scanF s).snd.fst) = true → True ∧
  True ∧
  (decide ((scanF s).snd.fst < (↑s.length : Int)) = true → K (E.ret (V.bool true))) ∧
  (decide ((scanF s).snd.fst < (↑s.length : Int)) = false → K (E.ret (V.bool false)))) ∧
  (decide ((0 : Int) ≤ (scanF s).snd.fst) = false → K (E.ret (V.bool false)))) ∧
  (decide ((↑(scanF s).fst.length : Int) = (0 : Int)) = false → K (E.ret (V.bool false)))) ∧
  ((!decide ((↑(scanF s).snd.snd : Int) = (0 : Int))) = false → lp Tryd.prog (4 : Nat) (0 : Nat) = lp Tryd.prog (4 : Nat) (0 : Nat) ∧
  ((0 : Int) = (0 : Int) ∧
  (0 : Int) = (0 : Int) ∧
  s.length ≤ (20000 : Nat) ∧
  Chunk.cells spaceV ty (1 : Nat) = Chunk.cells spaceV ty (1 : Nat) ∧
  shTok = shTok ∧
  (34 : Nat) = (34 : Nat)) ∧
  ∃ (x : List Tok), (List.map (rowTok s) (scanF s).fst = List.map (rowTok s) x ∧
  (scanF s).fst.length = x.length ∧
  x.length ≤ (20000 : Nat) ∧
  ∀ (j : Nat) (t : Tok), x[j]? = some t → lastOf x j ≤ t.at_ ∧
  t.at_ < t.to ∧
  t.to ≤ s.length ∧
  passL false (List.drop (lastOf x j) (List.take t.at_ s)) = true ∧
  scanF (cutF s t.at_ t.to) = ([{ kind := t.kind, text := t.text, at_ := (0 : Nat), «to» := t.to - t.at_ }], (0 : Int), (0 : Nat))) ∧
  ((0 : Int) ≤ (↑(lastOf x x.length) : Int) ∧
  (↑(lastOf x x.length) : Int) ≤ (↑s.length : Int)) ∧
  ((List.drop (↑(lastOf x x.length) : Int).toNat s).length ≤ (20000 : Nat) ∧
  passL false (List.drop (↑(lastOf x x.length) : Int).toNat s) = true) ∧
  K (E.ret (V.bool true)))) ∧
  (decide ((↑s.length : Int) ≤ (2000 : Int)) = false → K (E.ret (V.bool true)))) := by kernel_rfl
theorem l17i_ok {gv gf gl} : ∀ fi ds env hp k, l17i fi ds env hp k → TaskOk Tryd.prog ⟨gv, gf, gl⟩ (.code fi (.loop (lp Tryd.prog 17 1)) ds env hp k) := by
  intro fi ds env hp k h
  obtain ⟨rfl, rfl, hn, hlk, rc, hrc, h⟩ := atV_inv h
  split at h
  · rename_i v0 v1 hT
    split at h
    · rename_i s i e0 e1
      obtain ⟨⟨h0, h1, h2⟩, hk⟩ := h
      obtain ⟨n', ht, hro⟩ := hp
      dsimp only at hn hlk hrc hk
      subst hn
      refine loop_fv [0, 3] [] [] [] rc 0 (fun x : Nat => le17 s x) (fun _ => []) (fun x => i.toNat ≤ x ∧ x ≤ s.length ∧ endF noNl s x = endF noNl s i.toNat) (fun x => s.length - x) i.toNat ⟨Nat.le_refl _, by omega, rfl⟩ rfl rfl rfl (Nat.le_refl 0) hlk rfl rfl (fun x => rfl) (fun x => rfl) ?_ trivial hrc ?_
      · rw [hT]
        exact ⟨strOf_vle e0, by rw [show ((i.toNat : Nat) : Int) = i by omega]; exact int64_ok e1, trivial⟩
      · rintro x ⟨x0, x1, x2⟩
        refine code_anyG (gf' := []) (gl' := []) ?_
        refine go_sound (G := nilG) qmix qNG known_nil (fs_none rfl) (ls_none rfl) 100 _ (Eq.mpr (f17_in s x _) ?_)
        have out : endF noNl s x = x → rMv hro [0, 3] [] [] [] rc (fun x : Nat => le17 s x) (fun _ => []) 0 0 (fun x => i.toNat ≤ x ∧ x ≤ s.length ∧ endF noNl s x = endF noNl s i.toNat) (fun x => s.length - x) k x (.exit 2) [some (V.sstr s), some (V.sint .i64 x)] 0 [] := fun he =>
          ⟨le17 s x, [], [], Nat.le_refl 0, rfl, rfl, ⟨vle_refl _, vle_refl _, trivial⟩, trivial, by rw [← x2, he] at hk; exact hk⟩
        simp only [decide_eq_true_eq, decide_eq_false_iff_not, Bool.not_eq_true', Bool.not_eq_false', Int.toNat_natCast]
        refine ⟨trivial, trivial, fun hlt => ⟨⟨by omega, by omega⟩, trivial, fun h10 => ⟨⟨by omega, by omega⟩, ?_⟩, fun h10 => out (endF_stop ?_)⟩, fun hge => out (endF_stop (isAt_ge (by omega)))⟩
        · have hb : isAt noNl s x = true := by
            rw [isAt_lt (by omega)]
            have : ¬ (s.getD x 0).toNat = 10 := by exact_mod_cast h10
            simpa [noNl] using this
          obtain ⟨g1, g2⟩ := endF_step hb
          exact ⟨x + 1, [], ⟨by omega, by omega, by rw [← x2]; exact g2.symm⟩, by show s.length - (x + 1) < s.length - x; omega, Nat.le_refl 0, rfl, ⟨vle_refl _, ⟨rfl, by push_cast; rfl⟩, trivial⟩, trivial⟩
        · rw [isAt_lt (by omega)]
          have : (s.getD x 0).toNat = 10 := by exact_mod_cast h10
          show (!((s.getD x 0).toNat == 10)) = false
          rw [this]; rfl
    · exact h.elim
  · exact h.elim
theorem l17_ok {gv gf gl} : ∀ fi ds env hp k, l17 fi ds env hp k → TaskOk Tryd.prog ⟨gv, gf, gl⟩ (.code fi (.loop (lp Tryd.prog 17 0)) ds env hp k) := by
  intro fi ds env hp k h
  obtain ⟨rfl, rfl, hn, hlk, rc, hrc, h⟩ := atV_inv h
  split at h
  · rename_i v0 v1 hT
    split at h
    · rename_i s i e0 e1
      obtain ⟨⟨rfl, h1, h2⟩, hk⟩ := h
      obtain ⟨n', ht, hro⟩ := hp
      dsimp only at hn hlk hrc hk
      subst hn
      refine loop_fv [0, 3] [] [] [] rc 0 (fun x : Nat => le17 s x) (fun _ => []) (fun x => x ≤ s.length ∧ passL false (s.drop x) = true) (fun x => s.length - x) 0 ⟨Nat.zero_le _, h2⟩ rfl rfl rfl (Nat.le_refl 0) hlk rfl rfl (fun x => rfl) (fun x => rfl) ?_ trivial hrc ?_
      · rw [hT]
        exact ⟨strOf_vle e0, int64_ok e1, trivial⟩
      · rintro x ⟨x1, x2⟩
        refine code_anyG (gf' := []) (gl' := [(36004, lp Tryd.prog 17 1, l17i)]) ?_
        refine go_sound (G := ⟨⟨.nil, [], []⟩, [], [(36004, lp Tryd.prog 17 1, l17i)]⟩) qmix qNG known_nil (fs_none rfl) (ls_one rfl l17i_ok) 100 _ (Eq.mpr (f17_loop s x _) ?_)
        have on : ∀ y : Nat, x < y → y ≤ s.length → passL false (s.drop y) = true → ∀ z : Int, z = y → rMv hro [0, 3] [] [] [] rc (fun x : Nat => le17 s x) (fun _ => []) 0 0 (fun x => x ≤ s.length ∧ passL false (s.drop x) = true) (fun x => s.length - x) k x .normal [some (V.sstr s), some (V.sint .i64 z)] 0 [] := fun y hy hy2 hp z hz =>
          ⟨y, [], ⟨hy2, hp⟩, by show s.length - y < s.length - x; omega, Nat.le_refl 0, rfl, ⟨vle_refl _, ⟨rfl, hz⟩, trivial⟩, trivial⟩
        simp only [decide_eq_true_eq, decide_eq_false_iff_not, Bool.not_eq_true', Bool.not_eq_false', Int.toNat_natCast]
        have at_ : x < s.length → passL false (s.drop x) = if (s.getD x 0).toNat = 36 then passL true (s.drop (x + 1)) else if (s.getD x 0).toNat = 32 ∨ (s.getD x 0).toNat = 10 then passL false (s.drop (x + 1)) else false := fun h => by rw [drop_at h, passL_f]
        refine ⟨trivial, trivial, fun hlt => ⟨⟨by omega, by omega⟩, trivial, fun h36 => ⟨trivial, ⟨by omega, by omega, by omega⟩, ?_⟩, fun h36 => ⟨⟨by omega, by omega⟩, trivial, fun h32 => ⟨⟨by omega, by omega⟩, trivial, fun h10 => ?_, fun h10 => ⟨⟨by omega, by omega⟩, ?_⟩⟩, fun h32 => ⟨⟨by omega, by omega⟩, ?_⟩⟩⟩, fun hge => ?_⟩
        · have hb : isAt noNl s x = true := by
            rw [isAt_lt (by omega)]
            have : ¬ (s.getD x 0).toNat = 10 := by omega
            simpa [noNl] using this
          obtain ⟨g1, g2⟩ := endF_step hb
          have g3 := endF_le (p := noNl) (s := s) (i := x + 1) g1
          refine on _ (by omega) (by omega) ?_ _ rfl
          rw [g2, ← pass_true _ _ (Nat.le_refl _) (by omega)]
          rw [at_ (by omega), if_pos (by omega)] at x2
          exact x2
        · rw [at_ (by omega), if_neg (by omega), if_neg (by omega)] at x2
          cases x2
        · rw [at_ (by omega), if_neg (by omega), if_pos (by omega)] at x2
          exact on (x + 1) (by omega) (by omega) x2 _ (by push_cast; rfl)
        · rw [at_ (by omega), if_neg (by omega), if_pos (by omega)] at x2
          exact on (x + 1) (by omega) (by omega) x2 _ (by push_cast; rfl)
        · have e : x = s.length := by omega
          subst e
          exact ⟨le17 s s.length, [], [], Nat.le_refl 0, rfl, rfl, ⟨vle_refl _, vle_refl _, trivial⟩, trivial, hk⟩
    · exact h.elim
  · exact h.elim
theorem passed_run (s : List UInt8) (h1 : s.length ≤ 20000) (h2 : passL false s = true) : TaskOk Tryd.prog ⟨⟨.nil, [], []⟩, [], [(36002, lp Tryd.prog 17 0, l17)]⟩ (.call 17 [.sstr s] nomem (cutE [] fun e _ _ => retV (.bool true) e)) := by
  refine go_sound qmix qNG known_nil (fs_none rfl) (ls_one rfl l17_ok) 100 _ (Eq.mpr (f17_eq s _) ?_)
  refine ⟨rfl, ⟨rfl, by omega, h2⟩, ?_⟩
  unfold retV
  exact rfl
theorem passed_ok {G : GQ} : ∀ args hp k, sPassed args hp k → TaskOk Tryd.prog G (.call 17 args hp k) := by
  intro args hp k h
  unfold sPassed at h
  split at h
  · split at h
    · rename_i v s e0
      obtain ⟨⟨h0, h1⟩, hk⟩ := h
      exact sum_of1v (call_mono (passed_run s h0 h1) cutE_nil) rfl ⟨strOf_vle e0, trivial⟩ rfl rfl hk
    · exact h.elim
  · exact h.elim
theorem rt0 {s : List UInt8} {t : Tok} : vI ((rowTok s t).getD 0 .und) = t.kind := rfl
theorem rt1 {s : List UInt8} {t : Tok} : vS ((rowTok s t).getD 1 .und) = t.text := rfl
theorem rt2 {s : List UInt8} {t : Tok} : vI ((rowTok s t).getD 2 .und) = t.at_ := rfl
theorem rt3 {s : List UInt8} {t : Tok} : vI ((rowTok s t).getD 3 .und) = t.to := rfl
theorem rt4 {s : List UInt8} {t : Tok} : vI ((rowTok s t).getD 4 .und) = (lc s t.at_).1 := rfl
theorem rt5 {s : List UInt8} {t : Tok} : vI ((rowTok s t).getD 5 .und) = (lc s t.at_).2 := rfl
theorem where_at {s : List UInt8} {p : Nat} (hs : s.length ≤ 20000) (hp : p ≤ s.length) : whereF s p = (((lc s p).1 : Int), ((lc s p).2 : Int), (0 : Int)) := by
  unfold whereF
  rw [if_neg (by omega), if_neg (by omega), Int.toNat_natCast]
theorem off_at {s : List UInt8} {p : Nat} (hs : s.length ≤ 20000) (hp : p ≤ s.length) : offsetF s (lc s p).1 (lc s p).2 = ((p : Int), (0 : Int)) := by
  unfold offsetF
  rw [if_neg (by omega), off_back s hp]
theorem one_row {w : List UInt8} {t : Tok} : (List.map (rowTok w) [t]).getD 0 [] = rowTok w t := rfl
abbrev G4 : GQ := ⟨⟨varG 0, kn9, [(0, spaceV)]⟩, [(16, sScan), (17, sPassed), (11, sumW), (12, sumO)], [(170009, lp Tryd.prog 4 0, l4)]⟩
theorem fs4_ok {kn vs gl} : FsOk Tryd.prog ⟨⟨varG 0, kn, vs⟩, [(16, sScan), (17, sPassed), (11, sumW), (12, sumO)], gl⟩ := by
  intro f s hl args hp k h
  simp only [lookF] at hl
  split at hl
  · rename_i hb; cases hl; rw [← beq_tt hb]; exact scan_ok args hp k h
  split at hl
  · rename_i hb; cases hl; rw [← beq_tt hb]; exact passed_ok args hp k h
  split at hl
  · rename_i hb
    cases hl
    rw [← beq_tt hb]
    unfold sumW at h
    split at h
    · exact sum_of (where_run _ _) rfl rfl rfl h
    · exact h.elim
  split at hl
  · rename_i hb
    cases hl
    rw [← beq_tt hb]
    unfold sumO at h
    split at h
    · exact sum_of (offset_run _ _ _) rfl rfl rfl h
    · exact h.elim
  · cases hl
theorem cut_fold2 (s : List UInt8) (i j : Nat) : List.drop i (List.take j s) = cutF s i j := rfl
theorem spC_coks (ty : Nat) (x : List Tok) (s : List UInt8) : coks2 (okI [0, 1] 2) 2 [0, 1] [some (spC ty), some (.rowsO (x.map (rowTok s)) shTok 34)] = true := by kernel_rfl
set_option maxHeartbeats 2000000 in
theorem l4_ok {kn vs gf gl} : ∀ fi ds env hp k, l4 fi ds env hp k → TaskOk Tryd.prog ⟨⟨varG 0, kn, vs⟩, gf, gl⟩ (.code fi (.loop (lp Tryd.prog 4 0)) ds env hp k) := by
  intro fi ds env hp k h
  unfold l4 at h
  split at h
  · rename_i g1 g2 g3 g4
    split at h
    · rename_i v0 up n v3 v4 l ty sz xs sh ty' hT hC
      split at h
      · rename_i s last i e0 e1 e2
        obtain ⟨⟨rfl, rfl, hs, hc, rfl, rfl⟩, x, ⟨rfl, rfl, hx, hok⟩, hk⟩ := h
        obtain ⟨n', ht, hro⟩ := hp
        obtain ⟨nt, ro⟩ := fi
        dsimp only at g1 g2 g3 g4 hC hk
        have g1 := beq_tt g1
        have g3 := beq_tt g3
        subst g1 g2 g3 g4
        rw [hc] at hC
        refine loop_fw [0, 3, 4, 7, 8] [0, 1] [0, 1] [] [] [(0, 0, 0)] 2 (fun j : Nat => le4 s up x.length (lastOf x j) j) (fun _ => [some (spC ty), some (.rowsO (x.map (rowTok s)) shTok 34)]) (fun j => j ≤ x.length) (fun j => x.length - j) 0 (Nat.zero_le _) rfl rfl rfl (Nat.le_refl 2) (fun l hl => .inr hl) (fun l hl => by rw [List.mem_singleton.1 hl]; exact Nat.zero_lt_two) rfl rfl (fun j => rfl) (fun j => spC_coks ty x s) ?_ (fitE_of (l := [spC ty, .rowsO (x.map (rowTok s)) shTok 34]) hC) rfl ?_
        · rw [hT]
          exact ⟨strOf_vle e0, vle_refl _, vle_refl _, int64_ok e1, int64_ok e2, trivial⟩
        · intro j hj
          have hj : j ≤ x.length := hj
          refine code_sameG (kn' := []) (vs' := []) (gf' := [(16, sScan), (17, sPassed), (11, sumW), (12, sumO)]) (gl' := []) ?_
          refine go_sound (G := ⟨⟨varG 0, [], []⟩, [(16, sScan), (17, sPassed), (11, sumW), (12, sumO)], []⟩) qmix qNG known_nil fs4_ok (ls_none rfl) 300 _ (Eq.mpr (f4_loop s up (x.map (rowTok s)) x.length ty (lastOf x j) j _) ?_)
          simp only [decide_eq_true_eq, decide_eq_false_iff_not, Bool.not_eq_true', Bool.not_eq_false']
          refine ⟨trivial, trivial, fun hlt => ?_, fun hge => ?_⟩
          · have hjl : j < x.length := by omega
            have hg : x[j]? = some (x[j]'hjl) := List.getElem?_eq_getElem hjl
            obtain ⟨t, ht'⟩ : ∃ t, t = x[j]'hjl := ⟨_, rfl⟩
            obtain ⟨o1, o2, o3, o4, o5⟩ := hok j t (by rw [hg, ht'])
            have hrow : (List.map (rowTok s) x).getD j [] = rowTok s t := by rw [getD_map hjl, ht']
            have hlast : lastOf x (j + 1) = t.to := by
              show (match x[j]? with | some t => t.to | none => 0) = t.to
              rw [hg, ht']
            have w1 := where_at (p := t.at_) hs (by omega)
            have w2 := off_at (p := t.at_) hs (by omega)
            have c1 := cut_len (s := s) (i := lastOf x j) (j := t.at_) (by omega)
            simp only [Int.toNat_natCast, Nat.zero_add, Nat.reduceAdd, hrow, rt0, rt1, rt2, rt3, rt4, rt5, cut_fold2, o5, w1, w2, one_row, List.length_map, List.length_cons, List.length_nil]
            repeat' first | exact trivial | apply And.intro | intro _
            all_goals first
              | omega
              | exact o4
              | (exfalso; omega)
              | (exfalso; rename_i hq; exact hq trivial)
              | (exfalso; rename_i hq; exact hq rfl)
              | exact ⟨j + 1, [0, 1], by show j + 1 ≤ x.length; omega, by show x.length - (j + 1) < x.length - j; omega, by decide, rfl, ⟨vle_refl _, vle_refl _, vle_refl _, ⟨rfl, by rw [hlast]⟩, ⟨rfl, by push_cast; rfl⟩, trivial⟩, ⟨_, rfl, chle_refl _⟩, ⟨_, rfl, chle_refl _⟩, trivial⟩
          · have e : j = x.length := by omega
            subst e
            exact ⟨le4 s up x.length (lastOf x x.length) x.length, [0, 1], [spC ty, .rowsO (x.map (rowTok s)) shTok 34], Nat.le_refl 2, rfl, rfl, ⟨vle_refl _, vle_refl _, vle_refl _, vle_refl _, vle_refl _, trivial⟩, ⟨⟨_, rfl, chle_refl _⟩, ⟨_, rfl, chle_refl _⟩, trivial⟩, hk⟩
      · exact h.elim
    · exact h.elim
  · exact h.elim
theorem positions_run (s : List UInt8) (ty : Nat) : TaskOk Tryd.prog G4 (.call 4 [.sstr s] (varM spaceV ty) fun e _ => e = .ret (.bool true)) := by
  refine go_sound (G := G4) qmix qNG known9 fs4_ok (ls_one rfl l4_ok) 200 _ (Eq.mpr (f4_eq s ty _) ?_)
  simp only [decide_eq_true_eq, decide_eq_false_iff_not, Bool.not_eq_true', Bool.not_eq_false']
  refine ⟨trivial, trivial, fun hs => ⟨trivial, trivial, fun he => ?_, fun he => ?_⟩, fun _ => trivial⟩
  · rcases scanF_cases (s := s) (by omega) with ⟨x, h1, h2, _⟩ | ⟨p, e, h1, h2, h3, h4, h5⟩
    · rw [h2] at he; exact absurd rfl he
    · rw [h2]
      refine ⟨trivial, trivial, fun _ => ⟨trivial, fun _ => ⟨trivial, trivial, fun _ => trivial, fun h => ?_⟩, fun h => ?_⟩, fun h => ?_⟩
      · exact absurd h4 h
      · exact absurd h3 h
      · exact absurd rfl h
  · rcases scanF_cases (s := s) (by omega) with ⟨x, h1, h2, h3, h4⟩ | ⟨p, e, h1, h2, _, _, h5⟩
    · have h6 := scan_all (s := s) (by omega) h1
      have h7 : lastOf x x.length ≤ s.length := by
        unfold lastOf
        split
        · omega
        · rename_i j hj
          cases hg : x[j]? with
          | none => dsimp only; omega
          | some t => exact (h4 t (List.mem_of_getElem? hg)).2
      rw [h2]
      refine ⟨trivial, ⟨trivial, trivial, by omega, trivial, trivial, trivial⟩, x, ⟨rfl, rfl, by omega, h6.1⟩, ⟨by omega, by omega⟩, ⟨?_, ?_⟩, trivial⟩
      · rw [List.length_drop]; omega
      · rw [Int.toNat_natCast]; exact h6.2
    · rw [h2] at he; exact absurd (by simpa using he) h5
theorem positions_fn (s : List UInt8) (junk : List Value) (ty : Nat) : Z.Fn Tryd.prog 4 [.string (Z.bs s)] [Z.pt 0 (varO (spaceL.map fun n => Value.int .u8 (.ofNat n)) junk ty (0, 0))] (TrulyV 0 (varO (spaceL.map fun n => Value.int .u8 (.ofNat n)) junk ty (0, 0))) :=
  var_fn rfl rfl (positions_run s) space_rel (.cons rfl .nil) junk ty
end
end Go.Proofs.YtekioipmhhcbhaaDoor
