/- Words that are one token: plain laws, no program in sight. -/
import Derived.Test.YtekioipmhhcbhaaDoorV4
import Derived.Lib.Replace
import Derived.Test.YtekioipmhhcbhaaDoorV5
import Derived.Test.YtekioipmhhcbhaaDoorM9
set_option linter.unusedVariables false
set_option linter.unusedSimpArgs false
set_option linter.unusedSectionVars false
set_option maxRecDepth 20000
namespace Go.Proofs.YtekioipmhhcbhaaDoor
open Go Go.Z Go.W6
noncomputable section
def zqC (k : Int) (s : List UInt8) : Bool := match scanF s with
 | ([t], _, 0) => decide ((t.kind : Int) = k) && (decide (t.text = s) && decide ((t.to : Int) - t.at_ = s.length))
 | _ => false
theorem ends_prefix {s : List UInt8} {i : Nat} {l : List Tok} {r : Scn} (h : Ends s i l r) : ∀ x, r = .done x -> ∃ m, x = l ++ m := by
 induction h with
 | @stop i l r h1 h2 =>
  rintro x rfl
  refine ⟨[], ?_⟩
  unfold stepF at h1
  split at h1
  ·cases h1
  ·split at h1
   ·cases h1; simp
   ·split at h1
    ·cases h1
    ·split at h1
     ·cases h1
     ·split at h1 <;> cases h1
 | @step i l i' l' r h1 h2 ih =>
  rintro x rfl
  obtain ⟨m, hm⟩ := ih x rfl
  unfold stepF at h1
  split at h1
  ·cases h1
  ·split at h1
   ·cases h1
   ·split at h1
    ·cases h1
    ·split at h1
     ·cases h1
     ·split at h1
      ·cases h1
      ·cases h1
       exact ⟨_, by rw [hm, List.append_assoc]⟩
theorem zjb (s : List UInt8) : cutF s 0 s.length = s := by unfold cutF; rw [List.take_length]; rfl
def OneTok (s : List UInt8) (k : Int) : Prop := 0 < s.length /\ s.length <= 20000 /\ ∃ x : TokR, tokF s 0 = .ok x /\ ¬ 0 <= x.bad /\ (x.kind : Int) = k /\ x.text = s /\ x.to = s.length
theorem zqR (k : Int) (s : List UInt8) : zqC k s = true ↔ OneTok s k := by
 constructor
 ·intro h
  unfold zqC at h
  split at h
  ·rename_i t p hs
   simp only [Bool.and_eq_true, decide_eq_true_eq] at h
   obtain ⟨h1, h2, h3⟩ := h
   have hlen : s.length <= 20000 := by
    rcases Nat.lt_or_ge 20000 s.length with h | h
    ·unfold scanF at hs; rw [if_pos h] at hs; cases hs
    ·exact h
   rcases zxu hlen with ⟨x, g1, g2, g3, g4⟩ | ⟨p', e, g1, g2, _⟩
   ·rw [g2] at hs
    cases hs
    have he := zxS s
    rw [g1] at he
    cases he with
    | stop s1 s2 =>
     unfold stepF at s1
     split at s1
     ·cases s1
     ·split at s1
      ·cases s1
      ·split at s1
       ·cases s1
       ·split at s1
        ·cases s1
        ·split at s1 <;> cases s1
    | step s1 s2 =>
     unfold stepF at s1
     split at s1
     ·cases s1
     ·rename_i j hj
      split at s1
      ·cases s1
      ·rename_i hjl
       split at s1
       ·cases s1
       ·rename_i x hx
        split at s1
        ·cases s1
        ·split at s1
         ·cases s1
         ·rename_i hb
          cases s1
          obtain ⟨m, hm⟩ := ends_prefix s2 _ rfl
          simp only [List.nil_append, List.cons_append] at hm
          injection hm with hm hm2
          subst hm
          dsimp only at h1 h2 h3
          have hto := tok_le (by omega) hx
          have hj0 : j = 0 := by omega
          subst hj0
          exact ⟨by omega, hlen, x, hx, hb, h1, h2, by omega⟩
   ·rw [g2] at hs; cases hs
  ·cases h
 ·rintro ⟨h0, hl, x, hx, hb, hk, ht, hto⟩
  have := scan_alone hl h0 hx hb
  rw [hto, zjb] at this
  unfold zqC
  rw [this]
  simp [hk, ht]
def nameB (s : List UInt8) : Bool := decide (1 <= s.length /\ s.length <= 24) && (letB (s.getD 0 0) && (decide (Go.Lib.toLowerA s = s) && (!decide (s ∈ keysL) && s.all restB)))
theorem zkx {p : UInt8 -> Bool} : ∀ l : List UInt8, (∀ b ∈ l, p b = true) -> l.takeWhile p = l
 | [], _ => rfl
 | b :: l, h => by rw [List.takeWhile_cons, if_pos (h b (List.mem_cons_self ..)), zkx l λ c hc => h c (List.mem_cons_of_mem _ hc)]
theorem zwW {p : UInt8 -> Bool} {s : List UInt8} : endF p s 0 = s.length ↔ s.all p = true := by
 unfold endF
 rw [List.drop_zero, Nat.zero_add]
 constructor
 ·intro h
  have : s.takeWhile p = s := List.Sublist.eq_of_length (List.takeWhile_sublist p) h
  rw [List.all_eq_true]
  intro b hb
  rw [<- this] at hb
  exact zwO hb
 ·intro h
  rw [List.all_eq_true] at h
  rw [zkx s h]
theorem name_one (s : List UInt8) : zqC 1 s = nameB s := by
 rw [Bool.eq_iff_iff, zqR]
 unfold nameB
 simp only [Bool.and_eq_true, decide_eq_true_eq, Bool.not_eq_true', decide_eq_false_iff_not]
 have hlow : ∀ l : List UInt8, (Go.Lib.toLowerA l).length = l.length := low_len
 constructor
 ·rintro ⟨h0, hl, x, hx, hb, hk, ht, hto⟩
  unfold tokF at hx
  dsimp only at hx
  split at hx
  ·rename_i hlet
   split at hx
   ·cases hx; dsimp only at hk; omega
   ·rename_i hnk
    split at hx
    ·cases hx
    ·rename_i h24
     cases hx
     dsimp only at ht hto
     rw [hto, zjb] at ht hnk h24
     rw [ht] at hnk h24
     exact ⟨⟨h0, by omega⟩, hlet, ht, hnk, zwW.1 hto⟩
  ·split at hx
   ·split at hx
    ·rename_i kk t e hn
     cases hx
     dsimp only at hk
     unfold numF at hn
     dsimp only at hn
     split at hn <;> split at hn <;> cases hn <;> omega
    ·cases hx
   ·split at hx
    ·split at hx
     ·cases hx; dsimp only at hk; omega
     ·cases hx
    ·split at hx
     ·split at hx
      ·cases hx; dsimp only at hk; omega
      ·cases hx
     ·cases hx
 ·rintro ⟨⟨h0, h24⟩, hlet, hlo, hnk, hall⟩
  refine ⟨h0, by omega, ⟨1, s, s.length, -1⟩, ?_, show ¬ (0 : Int) <= -1 by decide, rfl, rfl, rfl⟩
  have hto : nameF s 0 = s.length := zwW.2 hall
  unfold tokF
  dsimp only
  rw [if_pos hlet, hto, zjb, hlo, if_neg hnk, if_neg (by omega)]
end
end Go.Proofs.YtekioipmhhcbhaaDoor
set_option maxRecDepth 20000
namespace Go.Proofs.YtekioipmhhcbhaaDoor
open Go Go.Z Go.W6
noncomputable section
def keyHd (w : List UInt8) : Bool := decide (1 <= w.length) && (letB (w.getD 0 0) && (decide (Go.Lib.toLowerA w = w) && w.all restB))
theorem keys_hd {w : List UInt8} (h : w ∈ keysL) : keyHd w = true := (by decide : ∀ x ∈ keysL, keyHd x = true) w h
theorem keys_len {w : List UInt8} (h : w ∈ keysL) : w.length <= 24 := (by decide : ∀ x ∈ keysL, x.length <= 24) w h
theorem key_one (s : List UInt8) : zqC 2 s = decide (s ∈ keysL) := by
 rw [Bool.eq_iff_iff, zqR, decide_eq_true_eq]
 constructor
 ·rintro ⟨h0, hl, x, hx, hb, hk, ht, hto⟩
  unfold tokF at hx
  dsimp only at hx
  split at hx
  ·split at hx
   ·rename_i hkk
    cases hx
    dsimp only at ht
    rw [ht] at hkk
    exact hkk
   ·split at hx
    ·cases hx
    ·cases hx; dsimp only at hk; omega
  ·split at hx
   ·split at hx
    ·rename_i kk t e hn
     cases hx
     dsimp only at hk
     unfold numF at hn
     dsimp only at hn
     split at hn <;> split at hn <;> cases hn <;> omega
    ·cases hx
   ·split at hx
    ·split at hx
     ·cases hx; dsimp only at hk; omega
     ·cases hx
    ·split at hx
     ·split at hx
      ·cases hx; dsimp only at hk; omega
      ·cases hx
     ·cases hx
 ·intro h
  have h1 := keys_hd h
  unfold keyHd at h1
  simp only [Bool.and_eq_true, decide_eq_true_eq] at h1
  obtain ⟨h0, hlet, hlo, hall⟩ := h1
  have h24 := keys_len h
  refine ⟨h0, by omega, ⟨2, s, s.length, -1⟩, ?_, show ¬ (0 : Int) <= -1 by decide, rfl, rfl, rfl⟩
  have hto : nameF s 0 = s.length := zwW.2 hall
  unfold tokF
  dsimp only
  rw [if_pos hlet, hto, zjb, hlo, if_pos h]
def signOk (w : List UInt8) : Bool := (decide (w.length = 1) || decide (w.length = 2)) && (!letB (w.getD 0 0) && (!digB (w.getD 0 0) && (decide ((w.getD 0 0).toNat ≠ 34) && signB (w.getD 0 0))))
theorem signs_ok {w : List UInt8} (h : w ∈ signsL) : signOk w = true := (by decide : ∀ x ∈ signsL, signOk x = true) w h
theorem sign_one (s : List UInt8) : zqC 6 s = decide (s ∈ signsL) := by
 rw [Bool.eq_iff_iff, zqR, decide_eq_true_eq]
 constructor
 ·rintro ⟨h0, hl, x, hx, hb, hk, ht, hto⟩
  unfold tokF at hx
  dsimp only at hx
  split at hx
  ·split at hx
   ·cases hx; dsimp only at hk; omega
   ·split at hx
    ·cases hx
    ·cases hx; dsimp only at hk; omega
  ·split at hx
   ·split at hx
    ·rename_i kk t e hn
     cases hx
     dsimp only at hk
     unfold numF at hn
     dsimp only at hn
     split at hn <;> split at hn <;> cases hn <;> omega
    ·cases hx
   ·split at hx
    ·split at hx
     ·cases hx; dsimp only at hk; omega
     ·cases hx
    ·split at hx
     ·split at hx
      ·rename_i hm
       cases hx
       dsimp only at ht hto
       rw [ht] at hm
       exact hm
      ·cases hx
     ·cases hx
 ·intro h
  have h1 := signs_ok h
  unfold signOk at h1
  simp only [Bool.and_eq_true, Bool.or_eq_true, decide_eq_true_eq, Bool.not_eq_true'] at h1
  obtain ⟨hlen, hlet, hdig, h34, hsg⟩ := h1
  have hlet' : ¬ (letB (s.getD 0 0) = true) := by rw [hlet]; simp
  have hdig' : ¬ (digB (s.getD 0 0) = true) := by rw [hdig]; simp
  have hN : signN s 0 = s.length := by
   unfold signN
   rcases hlen with hlen | hlen
   ·rw [if_neg (λ x => by omega), hlen]
   ·rw [if_pos ⟨by omega, by rw [show 0 + 2 = s.length by omega, zjb]; exact h⟩, hlen]
  refine ⟨by omega, by omega, ⟨6, s, s.length, -1⟩, ?_, show ¬ (0 : Int) <= -1 by decide, rfl, rfl, rfl⟩
  unfold tokF
  dsimp only
  rw [if_neg hlet', if_neg hdig', if_neg h34, if_pos hsg, hN, Nat.zero_add, zjb, if_pos h]
def numB (k : Int) (s : List UInt8) : Bool := decide (0 < s.length) && (digB (s.getD 0 0) && (match numF s 0 with
 | some (kk, t, e) => decide ((kk : Int) = k) && (decide (e = s.length) && decide (t = s))
 | none => false))
theorem dig_let {b : UInt8} (h : digB b = true) : letB b = false := by
 unfold digB at h
 unfold letB
 simp only [Bool.and_eq_true, decide_eq_true_eq] at h
 simp only [Bool.or_eq_false_iff, Bool.and_eq_false_iff, decide_eq_false_iff_not]
 omega
theorem num_one {k : Int} (hk : k = 3 \/ k = 4) {s : List UInt8} (hs : s.length <= 20000) : zqC k s = numB k s := by
 rw [Bool.eq_iff_iff, zqR]
 unfold numB
 simp only [Bool.and_eq_true, decide_eq_true_eq]
 constructor
 ·rintro ⟨h0, hl, x, hx, hb, hkk, ht, hto⟩
  unfold tokF at hx
  dsimp only at hx
  split at hx
  ·split at hx
   ·cases hx; dsimp only at hkk; omega
   ·split at hx
    ·cases hx
    ·cases hx; dsimp only at hkk; omega
  ·split at hx
   ·rename_i hd
    split at hx
    ·rename_i kk t e hn
     cases hx
     refine ⟨h0, hd, ?_⟩
     rw [hn]
     simp only [Bool.and_eq_true, decide_eq_true_eq]
     exact ⟨hkk, hto, ht⟩
    ·cases hx
   ·split at hx
    ·split at hx
     ·cases hx; dsimp only at hkk; omega
     ·cases hx
    ·split at hx
     ·split at hx
      ·cases hx; dsimp only at hkk; omega
      ·cases hx
     ·cases hx
 ·rintro ⟨h0, hd, h⟩
  split at h
  ·rename_i kk t e hn
   simp only [Bool.and_eq_true, decide_eq_true_eq] at h
   obtain ⟨h1, h2, h3⟩ := h
   refine ⟨h0, hs, ⟨kk, t, e, -1⟩, ?_, show ¬ (0 : Int) <= -1 by decide, h1, h3, h2⟩
   unfold tokF
   dsimp only
   rw [dig_let hd, if_neg (by simp), if_pos hd, hn]
  ·cases h
end
end Go.Proofs.YtekioipmhhcbhaaDoor
set_option maxRecDepth 20000
namespace Go.Proofs.YtekioipmhhcbhaaDoor
open Go Go.Z Go.W6
noncomputable section
theorem zwA {s old new : List UInt8} (hne : old ≠ new) : Go.Lib.replaceAll s old new = Go.Lib.replaceK old new (Go.Lib.count s old) s := by
 unfold Go.Lib.replaceAll Go.Lib.replace Go.Lib.replaceNum
 have h : ¬ ((old == new) = true) := by simpa using hne
 rw [if_neg h, if_pos (.inl (by decide))]
theorem index_pre {old r : List UInt8} (h0 : old ≠ []) : Go.Lib.index (old ++ r) old = 0 := by
 cases old with
 | nil => exact absurd rfl h0
 | cons c l =>
  rw [List.cons_append]
  unfold Go.Lib.index
  rw [if_pos]
  rw [<- List.cons_append]
  simp
theorem repl_pre {old new r : List UInt8} (h0 : old ≠ []) (hne : old ≠ new) : Go.Lib.replaceAll (old ++ r) old new = new ++ Go.Lib.replaceAll r old new := by
 have hi : Go.Lib.index (old ++ r) old = ((0 : Nat) : Int) := index_pre h0
 rw [zwA hne, zwA hne, Go.Lib.count_hit h0 hi, Nat.add_comm, Go.Lib.replaceK_hit _ _ _ _ _ hi]
 simp
theorem zwz {s old new : List UInt8} (hne : old ≠ new) (h : Go.Lib.index s old = -1) : Go.Lib.replaceAll s old new = s := by
 rw [zwA hne, Go.Lib.count_miss h]; rfl
theorem zwB {b : UInt8} {l old new : List UInt8} (h0 : old ≠ []) (hne : old ≠ new) (hp : old.isPrefixOf (b :: l) = false) : Go.Lib.replaceAll (b :: l) old new = b :: Go.Lib.replaceAll l old new := by
 have hx : Go.Lib.index (b :: l) old = if Go.Lib.index l old == -1 then -1 else Go.Lib.index l old + 1 := by
  conv => lhs; unfold Go.Lib.index
  rw [hp]; rfl
 have hge := Go.Lib.index_ge l old
 by_cases hm : Go.Lib.index l old = -1
 ·rw [hm] at hx
  rw [zwz hne hm, zwz hne (by rw [hx]; rfl)]
 ·obtain ⟨i, hi⟩ : ∃ i : Nat, Go.Lib.index l old = i := ⟨(Go.Lib.index l old).toNat, by omega⟩
  have hb : ¬ ((Go.Lib.index l old == -1) = true) := by simpa using hm
  rw [if_neg hb, hi] at hx
  have hx : Go.Lib.index (b :: l) old = ((i + 1 : Nat) : Int) := by rw [hx]; push_cast; rfl
  have e : (b :: l).drop (i + 1 + old.length) = l.drop (i + old.length) := by
   rw [show i + 1 + old.length = (i + old.length) + 1 by omega]; rfl
  have c1 := Go.Lib.count_hit h0 hx
  have c2 := Go.Lib.count_hit h0 hi
  rw [e] at c1
  rw [zwA hne, zwA hne, c1, c2, Nat.add_comm, Go.Lib.replaceK_hit _ _ _ _ _ hx, Go.Lib.replaceK_hit _ _ _ _ _ hi, e]
  rfl
theorem repl_nil {old new : List UInt8} (h0 : old ≠ []) (hne : old ≠ new) : Go.Lib.replaceAll [] old new = [] := by
 refine zwz hne ?_
 cases old with
 | nil => exact absurd rfl h0
 | cons c l => rfl
def dblB : List UInt8 -> List UInt8
 | [] => []
 | b :: l => if b.toNat = 34 then 34 :: 34 :: dblB l else b :: dblB l
theorem dbl_repl : ∀ s : List UInt8, Go.Lib.replaceAll s [34] [34, 34] = dblB s
 | [] => repl_nil (by decide) (by decide)
 | b :: l => by
  have ih := dbl_repl l
  unfold dblB
  by_cases h : b.toNat = 34
  ·rw [if_pos h]
   have : b = 34 := u8_eq h
   subst this
   have := repl_pre (old := [34]) (new := [34, 34]) (r := l) (by decide) (by decide)
   rw [List.singleton_append] at this
   rw [this, ih]; rfl
  ·rw [if_neg h, zwB (by decide) (by decide), ih]
   have : b ≠ 34 := λ e => h (by rw [e]; rfl)
   simp [List.isPrefixOf, this.symm]
def quoB (b : UInt8) : Bool := 32 <= b.toNat && b.toNat <= 126
def quoteF (s : List UInt8) : List UInt8 × Int := if s.all quoB = false then ([], 2) else if 1000 < s.length then ([], 3) else (34 :: (dblB s ++ [34]), 0)
theorem half_repl : ∀ (s r : List UInt8), Go.Lib.replaceAll (dblB s) [34, 34] [34] = s
 | [], _ => repl_nil (by decide) (by decide)
 | b :: l, r => by
  have ih := half_repl l r
  unfold dblB
  by_cases h : b.toNat = 34
  ·rw [if_pos h]
   have : b = 34 := u8_eq h
   subst this
   have := repl_pre (old := [34, 34]) (new := [34]) (r := dblB l) (by decide) (by decide)
   rw [show [34, 34] ++ dblB l = 34 :: 34 :: dblB l from rfl] at this
   rw [this, ih]; rfl
  ·rw [if_neg h, zwB (by decide) (by decide), ih]
   have : b ≠ 34 := λ e => h (by rw [e]; rfl)
   simp [List.isPrefixOf, this.symm]
theorem zvy : ∀ s : List UInt8, s.length <= (dblB s).length /\ (dblB s).length <= 2 * s.length
 | [] => ⟨Nat.le_refl _, Nat.le_refl _⟩
 | b :: l => by
  have ih := zvy l
  unfold dblB
  split <;> simp only [List.length_cons] <;> omega
theorem zvL : ∀ (s : List UInt8) (p : Nat) (acc : List UInt8), s.all quoB = true -> textL (dblB s ++ [34]) p acc (-1) = some (acc ++ s, p + (dblB s).length, -1)
 | [], p, acc, _ => by
  show textL [34] p acc (-1) = _
  unfold textL
  rw [if_neg (by decide), if_pos (by decide)]
  simp [dblB]
 | b :: l, p, acc, h => by
  rw [List.all_cons, Bool.and_eq_true] at h
  have hq := h.1
  unfold quoB at hq
  simp only [Bool.and_eq_true, decide_eq_true_eq] at hq
  unfold dblB
  by_cases h34 : b.toNat = 34
  ·have : b = 34 := u8_eq h34
   subst this
   rw [if_pos h34]
   show textL (34 :: 34 :: (dblB l ++ [34])) p acc (-1) = _
   unfold textL
   rw [if_neg (by decide), if_pos (by decide)]
   dsimp only
   rw [if_pos (by decide), zvL l _ _ h.2]
   simp; omega
  ·rw [if_neg h34]
   show textL (b :: (dblB l ++ [34])) p acc (-1) = _
   unfold textL
   rw [if_neg (by omega), if_neg h34]
   have hp : ¬ (plainB b = false /\ (-1 : Int) < 0) := by
    rintro ⟨hp, _⟩
    unfold plainB at hp
    simp only [Bool.or_eq_false_iff, Bool.and_eq_false_iff, decide_eq_false_iff_not] at hp
    omega
   rw [if_neg hp, zvL l _ _ h.2]
   simp; omega
end
end Go.Proofs.YtekioipmhhcbhaaDoor
set_option maxRecDepth 20000
namespace Go.Proofs.YtekioipmhhcbhaaDoor
open Go Go.Z Go.W6
noncomputable section
theorem text_neg : ∀ (n : Nat) (l : List UInt8) (p : Nat) (acc : List UInt8) (bad : Int) (b : List UInt8) (q : Nat) (z : Int), l.length <= n -> textL l p acc bad = some (b, q, z) -> 0 <= bad -> 0 <= z := by
 intro n
 induction n with
 | zero =>
  intro l p acc bad b q z h1 h2
  cases l with
  | nil => cases h2
  | cons c l => simp at h1
 | succ n ih =>
  intro l p acc bad b q z h1 h2 h3
  cases l with
  | nil => cases h2
  | cons c l =>
   simp only [List.length_cons] at h1
   unfold textL at h2
   split at h2
   ·cases h2
   ·split at h2
    ·split at h2
     ·rename_i d l'
      simp only [List.length_cons] at h1
      split at h2
      ·exact ih l' _ _ _ _ _ _ (by omega) h2 h3
      ·cases h2; exact h3
     ·cases h2; exact h3
    ·refine ih l _ _ _ _ _ _ (by omega) h2 ?_
     split
     ·omega
     ·exact h3
theorem text_back : ∀ (n : Nat) (l : List UInt8) (p : Nat) (acc b : List UInt8) (q : Nat), l.length <= n -> textL l p acc (-1) = some (b, q, -1) -> ∃ t r, b = acc ++ t /\ l = dblB t ++ 34 :: r /\ q = p + (dblB t).length /\ t.all quoB = true := by
 intro n
 induction n with
 | zero =>
  intro l p acc b q h1 h2
  cases l with
  | nil => cases h2
  | cons c l => simp at h1
 | succ n ih =>
  intro l p acc b q h1 h2
  cases l with
  | nil => cases h2
  | cons c l =>
   simp only [List.length_cons] at h1
   unfold textL at h2
   split at h2
   ·cases h2
   ·rename_i h10
    split at h2
    ·rename_i h34
     have hc : c = 34 := u8_eq h34
     subst hc
     split at h2
     ·rename_i d l'
      simp only [List.length_cons] at h1
      split at h2
      ·rename_i hd
       have hd' : d = 34 := u8_eq hd
       subst hd'
       obtain ⟨t, r, e1, e2, e3, e4⟩ := ih l' _ _ _ _ (by omega) h2
       refine ⟨34 :: t, r, by rw [e1, List.append_assoc]; rfl, ?_, ?_, ?_⟩
       ·unfold dblB; rw [if_pos hd, e2]; rfl
       ·unfold dblB; rw [if_pos hd, e3]; simp only [List.length_cons]; omega
       ·rw [List.all_cons, e4]; decide
      ·cases h2
       exact ⟨[], _, by simp, rfl, rfl, rfl⟩
     ·cases h2
      exact ⟨[], _, by simp, rfl, rfl, rfl⟩
    ·rename_i h34
     by_cases hp : plainB c = false
     ·rw [if_pos ⟨hp, by decide⟩] at h2
      have := text_neg _ _ _ _ _ _ _ _ (Nat.le_refl _) h2 (by omega)
      omega
     ·rw [if_neg (λ x => hp x.1)] at h2
      obtain ⟨t, r, e1, e2, e3, e4⟩ := ih l _ _ _ _ (by omega) h2
      refine ⟨c :: t, r, by rw [e1, List.append_assoc]; rfl, ?_, ?_, ?_⟩
      ·unfold dblB; rw [if_neg h34, e2]; rfl
      ·unfold dblB; rw [if_neg h34, e3]; simp only [List.length_cons]; omega
      ·rw [List.all_cons, e4, Bool.and_true]
       have hp : plainB c = true := by simpa using hp
       unfold plainB at hp
       unfold quoB
       simp only [Bool.or_eq_true, Bool.and_eq_true, beq_iff_eq, decide_eq_true_eq] at hp ⊢
       omega
def Quoted (s b : List UInt8) : Prop := s = 34 :: (dblB b ++ [34]) /\ b.all quoB = true /\ b.length <= 1000
def unqL (s : List UInt8) : List UInt8 × Int :=
 if s.length < 2 \/ (s.getD 0 0).toNat ≠ 34 \/ (s.getD (s.length - 1) 0).toNat ≠ 34 then ([], 2)
 else if (quoteF (Go.Lib.replaceAll (cutF s 1 (s.length - 1)) [34, 34] [34])).2 ≠ 0 \/ (quoteF (Go.Lib.replaceAll (cutF s 1 (s.length - 1)) [34, 34] [34])).1 ≠ s then ([], 2)
 else (Go.Lib.replaceAll (cutF s 1 (s.length - 1)) [34, 34] [34], 0)
def unqR (s : List UInt8) : List UInt8 × Int :=
 if s.length < 2 \/ (s.getD 0 0).toNat ≠ 34 then ([], 2)
 else match textL (s.drop 1) 1 [] (-1) with
  | none => ([], 2)
  | some (b, p, bad) => if 1000 < b.length \/ 0 <= bad \/ p + 1 ≠ s.length then ([], 2) else (b, 0)
theorem quote_ok {b : List UInt8} (h1 : b.all quoB = true) (h2 : b.length <= 1000) : quoteF b = (34 :: (dblB b ++ [34]), 0) := by
 unfold quoteF
 rw [h1, if_neg (by simp), if_neg (by omega)]
theorem zyp {b s : List UInt8} (h1 : (quoteF b).2 = 0) (h2 : (quoteF b).1 = s) : Quoted s b := by
 unfold quoteF at h1 h2
 split at h1
 ·cases h1
 ·rename_i hq
  rw [if_neg hq] at h2
  split at h1
  ·cases h1
  ·rename_i hl
   rw [if_neg hl] at h2
   exact ⟨h2.symm, by simpa using hq, by omega⟩
theorem zyo {s b : List UInt8} (h : Quoted s b) : 2 <= s.length /\ s.length = (dblB b).length + 2 /\ (s.getD 0 0).toNat = 34 /\ (s.getD (s.length - 1) 0).toNat = 34 /\ s.drop 1 = dblB b ++ [34] /\ cutF s 1 (s.length - 1) = dblB b := by
 have hs := h.1
 subst hs
 refine ⟨by simp, by simp, rfl, ?_, rfl, ?_⟩
 ·rw [show (34 :: (dblB b ++ [34])).length - 1 = (dblB b).length + 1 by simp, List.getD_cons_succ, List.getD_eq_getElem?_getD, List.getElem?_append_right (Nat.le_refl _), Nat.sub_self]
  rfl
 ·rw [show (34 :: (dblB b ++ [34])).length - 1 = (dblB b).length + 1 by simp]
  unfold cutF
  rw [List.take_succ_cons, List.drop_succ_cons, List.drop_zero, List.take_left']
  rfl
theorem unqL_yes {s b : List UInt8} (h : Quoted s b) : unqL s = (b, 0) := by
 obtain ⟨l1, l2, l3, l4, l5, l6⟩ := zyo h
 unfold unqL
 rw [if_neg (by omega), l6, half_repl b [], quote_ok h.2.1 h.2.2]
 rw [if_neg]
 rintro (h1 | h1)
 ·exact h1 rfl
 ·exact h1 h.1.symm
theorem unqL_no {s : List UInt8} (h : ∀ b, ¬ Quoted s b) : unqL s = ([], 2) := by
 unfold unqL
 split
 ·rfl
 ·split
  ·rfl
  ·rename_i h1 h2
   exact absurd (zyp (by by_cases e : (quoteF (Go.Lib.replaceAll (cutF s 1 (s.length - 1)) [34, 34] [34])).2 = 0; exact e; exact absurd (.inl e) h2) (by by_cases e : (quoteF (Go.Lib.replaceAll (cutF s 1 (s.length - 1)) [34, 34] [34])).1 = s; exact e; exact absurd (.inr e) h2)) (h _)
theorem unqR_yes {s b : List UInt8} (h : Quoted s b) : unqR s = (b, 0) := by
 obtain ⟨l1, l2, l3, l4, l5, l6⟩ := zyo h
 unfold unqR
 rw [if_neg (by omega), l5, zvL b _ _ h.2.1]
 have := h.2.2
 dsimp only
 rw [List.nil_append, if_neg (by omega)]
theorem unqR_no {s : List UInt8} (h : ∀ b, ¬ Quoted s b) : unqR s = ([], 2) := by
 unfold unqR
 split
 ·rfl
 ·rename_i h1
  split
  ·rfl
  ·rename_i b p bad hT
   split
   ·rfl
   ·rename_i h2
    exfalso
    have hz := zxy _ _ _ _ _ _ _ hT
    have hb : bad = -1 := by have := hz.2.2 (by decide) (by decide); omega
    subst hb
    obtain ⟨t, r, e1, e2, e3, e4⟩ := text_back _ _ _ _ _ _ (Nat.le_refl _) hT
    rw [List.nil_append] at e1
    subst e1
    have hd := zxT (s := s) (p := 0) (by omega)
    rw [List.drop_zero, e2] at hd
    have hc : s.getD 0 0 = 34 := u8_eq (by show (s.getD 0 0).toNat = 34; omega)
    rw [hc] at hd
    have hl : s.length = (dblB b).length + 2 + r.length := by rw [hd]; simp; omega
    have hr : r = [] := List.eq_nil_of_length_eq_zero (by omega)
    rw [hr] at hd
    exact h b ⟨hd, e4, by omega⟩
theorem unq_same (s : List UInt8) : unqL s = unqR s := by
 by_cases h : ∃ b, Quoted s b
 ·obtain ⟨b, h⟩ := h
  rw [unqL_yes h, unqR_yes h]
 ·have h : ∀ b, ¬ Quoted s b := λ b hb => h ⟨b, hb⟩
  rw [unqL_no h, unqR_no h]
end
end Go.Proofs.YtekioipmhhcbhaaDoor
namespace Go.Proofs.YtekioipmhhcbhaaDoor
open Go Go.Z Go.Q Go.W6
open Go.Y hiding KE KK KR go Task go_sound
noncomputable section
abbrev KT : Type := Nat × List UInt8
def spW (t : KT) : List UInt8 := if t.1 = 5 then 34 :: (dblB t.2 ++ [34]) else t.2
def TokS (t : KT) : Prop := 0 < (spW t).length /\ ∃ x : TokR, tokF (spW t) 0 = .ok x /\ ¬ 0 <= x.bad /\ x.kind = t.1 /\ x.text = t.2 /\ x.to = (spW t).length
theorem zkw {t : KT} (h : TokS t) : Stop t.1 (spW t) [] := by
 obtain ⟨h0, x, hx, hb, hk, ht, hto⟩ := h
 have := zyC (r := []) h0 (by rw [List.append_nil]; exact hx) hto
 rwa [hk] at this
def txt : List (Bool × KT) -> List UInt8
 | [] => []
 | (b, t) :: r => (if b then [32] else []) ++ (spW t ++ txt r)
def Adj : List (Bool × KT) -> Prop
 | [] => True
 | (_, t) :: r => TokS t /\ Stop t.1 (spW t) (txt r) /\ Adj r
theorem zxs : ∀ a b : List (Bool × KT), txt (a ++ b) = txt a ++ txt b
 | [], b => rfl
 | (s, t) :: a, b => by simp [txt, zxs a b]
theorem adj_ws : ∀ l : List (Bool × KT), Adj l -> Ws (txt l) (l.map (·.2))
 | [], _ => .nil
 | (b, t) :: r, ⟨⟨h0, x, hx, hb, hk, ht, hto⟩, h2, h3⟩ => by
  have ih := adj_ws r h3
  have : Ws (spW t ++ txt r) (t :: r.map (·.2)) := by
   have e : t = (x.kind, x.text) := by rw [hk, ht]
   have := Ws.tok h0 (tok_ext (R := txt r) h0 hx hto (by rw [hk]; exact h2)) hto hb ih
   rwa [<- e] at this
  cases b with
  | false => exact this
  | true => exact .blank (.inl rfl) this
theorem zqE {p : UInt8 -> Bool} {R s : List UInt8} {i : Nat} (h : i < R.length) : isAt p (R ++ s) i = isAt p R i := by
 unfold isAt; rw [List.getElem?_append_left h]
theorem stop_two {k : Nat} {w R s : List UInt8} (hR : 2 <= R.length) (h : Stop k w R) : Stop k w (R ++ s) := by
 obtain ⟨s1, s2, s3, s4, s5⟩ := h
 refine ⟨λ h => ?_, λ h => ?_, λ h => ?_, λ h => ?_, λ h h1 c hc => ?_⟩
 ·rw [zqE (by omega)]; exact s1 h
 ·rw [zqE (by omega)]; exact s2 h
 ·rw [zqE (by omega), zqE (by omega)]; exact s3 h
 ·rw [zqE (by omega)]; exact s4 h
 ·rw [List.getElem?_append_left (by omega)] at hc
  exact s5 h h1 c hc
theorem stop_blank {k : Nat} {w R v : List UInt8} (h : Stop k w R) : Stop k w (R ++ 32 :: v) := by
 cases R with
 | nil =>
  refine ⟨λ _ => (by decide : restB 32 = false), λ _ => (by decide : digB 32 = false), λ _ => rfl, λ _ => (by decide : ((32 : UInt8).toNat == 34) = false), λ _ _ c hc hm => ?_⟩
  simp only [List.nil_append, List.getElem?_cons_zero, Option.some.injEq] at hc
  subst hc
  have := signs_in _ hm 32 (by simp)
  exact absurd this (by decide)
 | cons c R =>
  obtain ⟨s1, s2, s3, s4, s5⟩ := h
  refine ⟨λ h => ?_, λ h => ?_, λ h => ?_, λ h => ?_, λ h h1 c hc => ?_⟩
  ·rw [zqE (by simp)]; exact s1 h
  ·rw [zqE (by simp)]; exact s2 h
  ·rw [zqE (by simp)]
   cases R with
   | nil =>
    have : isAt digB ([c] ++ 32 :: v) 1 = false := by show digB 32 = false; decide
    rw [this, Bool.and_false]
   | cons d R => rw [zqE (by simp)]; exact s3 h
  ·rw [zqE (by simp)]; exact s4 h
  ·rw [List.getElem?_append_left (by simp)] at hc
   exact s5 h h1 c hc
theorem adj_blank {t : KT} (ht : TokS t) : ∀ {l : List (Bool × KT)}, Adj l -> Adj (l ++ [(true, t)])
 | [], _ => ⟨ht, zkw ht, trivial⟩
 | (b, t0) :: r, ⟨h1, h2, h3⟩ => by
  refine ⟨h1, ?_, adj_blank ht h3⟩
  show Stop t0.1 (spW t0) (txt (r ++ [(true, t)]))
  rw [zxs]
  exact stop_blank h2
theorem txt_ge : ∀ {l : List (Bool × KT)}, Adj l -> l.length <= (txt l).length
 | [], _ => Nat.le_refl _
 | (b, t) :: r, h => by
  have := txt_ge h.2.2
  have h0 := h.1.1
  simp only [txt, List.length_cons, List.length_append]
  omega
theorem adj_join {x : Bool × KT} : ∀ {a b : List (Bool × KT)}, Adj (a ++ b) -> 2 <= (txt b).length -> Adj (b ++ [x]) -> Adj (a ++ (b ++ [x]))
 | [], b, _, _, h => h
 | (s, t) :: a, b, ⟨h1, h2, h3⟩, hb, h => by
  refine ⟨h1, ?_, adj_join h3 hb h⟩
  have hl : (txt b).length <= (txt (a ++ b)).length := by rw [zxs, List.length_append]; omega
  show Stop t.1 (spW t) (txt (a ++ (b ++ [x])))
  rw [<- List.append_assoc, zxs]
  exact stop_two (by omega) h2
def cat (l : List KT) : List UInt8 := (l.map spW).flatten
def flat (l : List KT) : List (Bool × KT) := l.map λ t => (false, t)
theorem zvK : ∀ l : List KT, txt (flat l) = cat l
 | [] => rfl
 | t :: l => by
  have := zvK l
  unfold flat at this
  simp [flat, txt, cat, this]
theorem zwe (t : KT) (l : List KT) : cat (t :: l) = spW t ++ cat l := rfl
theorem cat_app (a b : List KT) : cat (a ++ b) = cat a ++ cat b := by simp [cat]
end
end Go.Proofs.YtekioipmhhcbhaaDoor
namespace Go.Proofs.YtekioipmhhcbhaaDoor
open Go Go.Z Go.Q Go.W6
open Go.Y hiding KE KK KR go Task go_sound
noncomputable section
def pickF (b : Bool) (s : List UInt8) : List UInt8 × Int := if b then (s, 0) else ([], 2)
def spellF (kk : Int) (s : List UInt8) : List UInt8 × Int :=
 if kk = 1 then pickF (nameB s) s else if kk = 2 then pickF (decide (s ∈ keysL)) s else if kk = 3 \/ kk = 4 then pickF (numB kk s) s
 else if kk = 6 then pickF (decide (s ∈ signsL)) s else if kk = 5 then (if (quoteF s).2 = 0 then ((quoteF s).1, 0) else ([], 2)) else ([], 1)
theorem zwu {kk : Int} {s : List UInt8} (hs : s.length <= 20000) (h : kk = 1 \/ kk = 2 \/ kk = 3 \/ kk = 4 \/ kk = 6) : spellF kk s = pickF (zqC kk s) s := by
 unfold spellF
 rcases h with rfl | rfl | rfl | rfl | rfl
 ·rw [name_one]; rfl
 ·rw [key_one]; rfl
 ·rw [num_one (.inl rfl) hs]; rfl
 ·rw [num_one (.inr rfl) hs]; rfl
 ·rw [sign_one]; rfl
theorem zkJ {k : Nat} {s : List UInt8} (hk : k ≠ 5) (h : OneTok s k) : TokS (k, s) /\ spW (k, s) = s := by
 obtain ⟨h0, hl, x, hx, hb, hkk, ht, hto⟩ := h
 have e : spW (k, s) = s := by unfold spW; rw [if_neg hk]
 refine ⟨?_, e⟩
 unfold TokS
 rw [e]
 exact ⟨h0, x, hx, hb, by exact_mod_cast hkk, ht, hto⟩
theorem zkK {k : Nat} {s : List UInt8} (hk : k = 1 \/ k = 2 \/ k = 3 \/ k = 4 \/ k = 6) (h : OneTok s k) : spellF k s = (spW (k, s), 0) := by
 have hl := h.2.1
 rw [(zkJ (by omega) h).2, zwu hl (by omega), (zqR _ _).2 h]
 rfl
theorem quo_tokS {s : List UInt8} (h1 : s.all quoB = true) (h2 : s.length <= 1000) : TokS (5, s) /\ spW (5, s) = 34 :: (dblB s ++ [34]) := by
 have e : spW (5, s) = 34 :: (dblB s ++ [34]) := rfl
 refine ⟨?_, e⟩
 unfold TokS
 rw [e]
 refine ⟨by simp, ⟨5, s, 1 + (dblB s).length + 1, -1⟩, ?_, show ¬ (0 : Int) <= -1 by decide, rfl, rfl, by simp; omega⟩
 have hg : (34 :: (dblB s ++ [34])).getD 0 0 = 34 := rfl
 unfold tokF
 dsimp only
 rw [hg, if_neg (by decide : ¬ letB 34 = true), if_neg (by decide : ¬ digB 34 = true), if_pos (by decide : ((34 : UInt8)).toNat = 34)]
 unfold textF
 rw [show (34 :: (dblB s ++ [34])).drop (0 + 1) = dblB s ++ [34] from rfl, zvL s _ _ h1]
 dsimp only
 rw [List.nil_append, if_neg (by omega)]
theorem quo_spell {s : List UInt8} (h1 : s.all quoB = true) (h2 : s.length <= 1000) : spellF (5 : Nat) s = (spW (5, s), 0) := by
 unfold spellF
 rw [if_neg (by decide), if_neg (by decide), if_neg (by decide), if_neg (by decide), if_pos (by decide), quote_ok h1 h2, if_pos rfl]
 rfl
theorem spell_tokS {k : Int} {s : List UInt8} (hs : s.length <= 20000) (h : (spellF k s).2 = 0) : ∃ n : Nat, k = n /\ spellF k s = (spW (n, s), 0) /\ TokS (n, s) := by
 have one : ∀ n : Nat, k = n -> (n = 1 \/ n = 2 \/ n = 3 \/ n = 4 \/ n = 6) -> ∃ n : Nat, k = n /\ spellF k s = (spW (n, s), 0) /\ TokS (n, s) := by
  rintro n rfl hn
  have e := zwu (kk := (n : Int)) hs (by omega)
  rw [e] at h
  cases hb : zqC n s with
  | false => rw [hb] at h; simp [pickF] at h
  | true =>
   have := (zqR _ _).1 hb
   exact ⟨n, rfl, zkK hn this, (zkJ (by omega) this).1⟩
 by_cases h1 : k = 1
 ·exact one 1 h1 (by omega)
 by_cases h2 : k = 2
 ·exact one 2 h2 (by omega)
 by_cases h3 : k = 3
 ·exact one 3 h3 (by omega)
 by_cases h4 : k = 4
 ·exact one 4 h4 (by omega)
 by_cases h6 : k = 6
 ·exact one 6 h6 (by omega)
 by_cases h5 : k = 5
 ·subst h5
  refine ⟨5, rfl, ?_⟩
  have : (quoteF s).2 = 0 := by
   unfold spellF at h
   rw [if_neg (by decide), if_neg (by decide), if_neg (by decide), if_neg (by decide), if_pos rfl] at h
   by_cases e : (quoteF s).2 = 0
   ·exact e
   ·rw [if_neg e] at h; simp at h
  obtain ⟨q1, q2, q3⟩ := zyp this rfl
  exact ⟨quo_spell q2 q3, (quo_tokS q2 q3).1⟩
 ·unfold spellF at h
  rw [if_neg h1, if_neg h2, if_neg (by omega), if_neg h6, if_neg h5] at h
  simp at h
theorem u8_all {p : UInt8 -> Bool} (h : (List.range 256).all (λ n => p (UInt8.ofNat n)) = true) (c : UInt8) : p c = true := by
 have := List.all_eq_true.1 h c.toNat (List.mem_range.2 (UInt8.toNat_lt c))
 simpa using this
theorem zkM (c : UInt8) : Go.Lib.lowerB (Go.Lib.lowerB c) = Go.Lib.lowerB c /\ letB (Go.Lib.lowerB c) = letB c /\ restB (Go.Lib.lowerB c) = restB c /\ digB (Go.Lib.lowerB c) = digB c := by
 have := u8_all (p := λ c => decide (Go.Lib.lowerB (Go.Lib.lowerB c) = Go.Lib.lowerB c /\ letB (Go.Lib.lowerB c) = letB c /\ restB (Go.Lib.lowerB c) = restB c /\ digB (Go.Lib.lowerB c) = digB c)) (by decide +kernel) c
 exact of_decide_eq_true this
theorem let_facts (c : UInt8) (h : letB c = true) : restB c = true /\ digB c = false /\ c.toNat ≠ 46 /\ c.toNat ≠ 34 /\ signB c = false := by
 have := u8_all (p := λ c => decide (letB c = true -> restB c = true /\ digB c = false /\ c.toNat ≠ 46 /\ c.toNat ≠ 34 /\ signB c = false)) (by decide +kernel) c
 exact of_decide_eq_true this h
theorem dig_facts (c : UInt8) (h : digB c = true) : restB c = true /\ letB c = false /\ c.toNat ≠ 46 /\ c.toNat ≠ 34 /\ signB c = false := by
 have := u8_all (p := λ c => decide (digB c = true -> restB c = true /\ letB c = false /\ c.toNat ≠ 46 /\ c.toNat ≠ 34 /\ signB c = false)) (by decide +kernel) c
 exact of_decide_eq_true this h
theorem low_idem (l : List UInt8) : Go.Lib.toLowerA (Go.Lib.toLowerA l) = Go.Lib.toLowerA l := by
 unfold Go.Lib.toLowerA
 rw [List.map_map]
 exact List.map_congr_left λ c _ => (zkM c).1
theorem low_getD {l : List UInt8} (h : 0 < l.length) : (Go.Lib.toLowerA l).getD 0 0 = Go.Lib.lowerB (l.getD 0 0) := by
 cases l with
 | nil => cases h
 | cons c l => rfl
theorem low_len2 (l : List UInt8) : (Go.Lib.toLowerA l).length = l.length := by unfold Go.Lib.toLowerA; rw [List.length_map]
theorem src_name {w : List UInt8} {x : TokR} (hl : letB (w.getD 0 0) = true) (hw : 0 < w.length) (hw2 : w.length <= 20000) (h : tokF w 0 = .ok x) (he : x.to = w.length) : (x.kind = 1 \/ x.kind = 2) /\ x.text = Go.Lib.toLowerA w /\ OneTok x.text x.kind := by
 unfold tokF at h
 dsimp only at h
 rw [if_pos hl] at h
 have hc : nameF w 0 = w.length -> cutF w 0 (nameF w 0) = w := λ h => by rw [h]; exact zjb w
 split at h
 ·rename_i hk
  cases h
  have he : nameF w 0 = w.length := he
  rw [hc he] at hk ⊢
  refine ⟨.inr rfl, rfl, (zqR _ _).1 ?_⟩
  show zqC 2 (Go.Lib.toLowerA w) = true
  rw [key_one, decide_eq_true hk]
 ·rename_i hk
  split at h
  ·cases h
  ·rename_i h24
   cases h
   have he : nameF w 0 = w.length := he
   rw [hc he] at hk h24 ⊢
   refine ⟨.inl rfl, rfl, (zqR _ _).1 ?_⟩
   show zqC 1 (Go.Lib.toLowerA w) = true
   rw [name_one]
   unfold nameB
   have ha : w.all restB = true := zwW.1 he
   rw [low_len2] at h24 ⊢
   rw [low_getD hw, (zkM _).2.1, hl, low_idem]
   have : (Go.Lib.toLowerA w).all restB = true := by
    rw [List.all_eq_true] at ha ⊢
    intro c hc
    unfold Go.Lib.toLowerA at hc
    obtain ⟨d, hd, rfl⟩ := List.mem_map.1 hc
    rw [(zkM d).2.2.1]; exact ha d hd
   simp [this, hk]
   omega
theorem dw_idem {α : Type} (p : α -> Bool) : ∀ l : List α, (l.dropWhile p).dropWhile p = l.dropWhile p
 | [] => rfl
 | x :: l => by
  rw [List.dropWhile_cons]
  split
  ·exact dw_idem p l
  ·rename_i h
   rw [List.dropWhile_cons, if_neg h]
theorem dw_le {α : Type} (p : α -> Bool) (l : List α) : (l.dropWhile p).length <= l.length := (List.dropWhile_sublist p).length_le
theorem trim_ne (d : List UInt8) : trimF d ≠ [] := by
 unfold trimF
 split
 ·simp
 ·assumption
theorem tail_ne (d : List UInt8) : tailF d ≠ [] := by
 unfold tailF
 split
 ·simp
 ·assumption
theorem trim_idem (d : List UInt8) : trimF (trimF d) = trimF d := by
 by_cases h : Go.Lib.trimLeftB d 48 = []
 ·have : trimF d = [48] := by unfold trimF; rw [if_pos h]
  rw [this]; decide
 ·have e : trimF d = Go.Lib.trimLeftB d 48 := by unfold trimF; rw [if_neg h]
  have i : Go.Lib.trimLeftB (Go.Lib.trimLeftB d 48) 48 = Go.Lib.trimLeftB d 48 := dw_idem _ d
  rw [e]
  unfold trimF
  rw [i, if_neg h]
theorem tail_idem (d : List UInt8) : tailF (tailF d) = tailF d := by
 by_cases h : Go.Lib.trimRightB d 48 = []
 ·have : tailF d = [48] := by unfold tailF; rw [if_pos h]
  rw [this]; decide
 ·have e : tailF d = Go.Lib.trimRightB d 48 := by unfold tailF; rw [if_neg h]
  have i : Go.Lib.trimRightB (Go.Lib.trimRightB d 48) 48 = Go.Lib.trimRightB d 48 := by
   unfold Go.Lib.trimRightB
   rw [List.reverse_reverse, dw_idem]
  rw [e]
  unfold tailF
  rw [i, if_neg h]
theorem trim_le {d : List UInt8} (h : d ≠ []) : (trimF d).length <= d.length := by
 unfold trimF
 split
 ·cases d with
  | nil => exact absurd rfl h
  | cons c d => simp
 ·exact dw_le _ d
theorem tail_le {d : List UInt8} (h : d ≠ []) : (tailF d).length <= d.length := by
 unfold tailF
 split
 ·cases d with
  | nil => exact absurd rfl h
  | cons c d => simp
 ·unfold Go.Lib.trimRightB
  rw [List.length_reverse]
  have := dw_le (λ x => x == (48 : UInt8)) d.reverse
  rwa [List.length_reverse] at this
theorem trim_all {d : List UInt8} (h : d.all digB = true) : (trimF d).all digB = true := by
 unfold trimF
 split
 ·decide
 ·rw [List.all_eq_true] at h ⊢
  intro c hc
  exact h c ((List.dropWhile_sublist _).subset hc)
theorem tail_all {d : List UInt8} (h : d.all digB = true) : (tailF d).all digB = true := by
 unfold tailF
 split
 ·decide
 ·rw [List.all_eq_true] at h ⊢
  intro c hc
  unfold Go.Lib.trimRightB at hc
  rw [List.mem_reverse] at hc
  exact h c (List.mem_reverse.1 ((List.dropWhile_sublist _).subset hc))
theorem tw_all {p : UInt8 -> Bool} {d r : List UInt8} (h : d.all p = true) (hr : isAt p r 0 = false) : (d ++ r).takeWhile p = d := by
 rw [tw_ext hr, zkx d (List.all_eq_true.1 h)]
theorem num_int {t : List UInt8} (ha : t.all digB = true) (hl : t.length <= 380) : numF t 0 = some (3, trimF t, t.length) := by
 have hj : digF t 0 = t.length := zwW.2 ha
 unfold numF
 dsimp only
 have h0 : isAt (λ b => b.toNat == 46) t t.length = false := zxQ (Nat.le_refl _)
 rw [hj, h0, Bool.false_and, if_pos rfl, if_neg (by omega), zjb]
theorem num_dec {d b : List UInt8} (hd : d.all digB = true) (hb : b.all digB = true) (hb0 : b ≠ []) (h1 : d.length + b.length <= 380) (h2 : (tailF b).length <= 20) : numF (d ++ 46 :: b) 0 = some (4, trimF d ++ [46] ++ tailF b, (d ++ 46 :: b).length) := by
 have hj : digF (d ++ 46 :: b) 0 = d.length := by
  show 0 + ((List.drop 0 (d ++ 46 :: b)).takeWhile digB).length = _
  rw [List.drop_zero, tw_all hd (by show digB 46 = false; decide), Nat.zero_add]
 have he : digF (d ++ 46 :: b) (d.length + 1) = (d ++ 46 :: b).length := by
  show d.length + 1 + ((List.drop (d.length + 1) (d ++ 46 :: b)).takeWhile digB).length = _
  have : List.drop (d.length + 1) (d ++ 46 :: b) = b := by
   rw [<- List.drop_drop, List.drop_left]; rfl
  rw [this, zkx b (List.all_eq_true.1 hb)]
  simp; omega
 have hp : isAt (λ b => b.toNat == 46) (d ++ 46 :: b) d.length = true := by
  unfold isAt
  rw [List.getElem?_append_right (Nat.le_refl _), Nat.sub_self]
  rfl
 have hq : isAt digB (d ++ 46 :: b) (d.length + 1) = true := by
  cases b with
  | nil => exact absurd rfl hb0
  | cons c b =>
   unfold isAt
   rw [List.getElem?_append_right (by omega), Nat.add_sub_cancel_left]
   simp only [List.getElem?_cons_succ, List.getElem?_cons_zero]
   rw [List.all_cons, Bool.and_eq_true] at hb
   exact hb.1
 have c1 : cutF (d ++ 46 :: b) 0 d.length = d := by unfold cutF; rw [List.take_left]; rfl
 have c2 : cutF (d ++ 46 :: b) (d.length + 1) (d ++ 46 :: b).length = b := by
  unfold cutF; rw [List.take_length, <- List.drop_drop, List.drop_left]; rfl
 unfold numF
 dsimp only
 rw [hj, hp, hq, he, c1, c2]
 rw [if_neg (by simp), if_neg]
 have : (d ++ 46 :: b).length = d.length + 1 + b.length := by simp; omega
 omega
theorem tw_mem {p : UInt8 -> Bool} : ∀ {l : List UInt8} {c : UInt8}, c ∈ l.takeWhile p -> p c = true
 | [], c, h => by cases h
 | x :: l, c, h => by
  rw [List.takeWhile_cons] at h
  split at h
  ·rename_i hx
   rcases List.mem_cons.1 h with rfl | h
   ·exact hx
   ·exact tw_mem h
  ·cases h
theorem numB_ok {k : Nat} {t : List UInt8} (h0 : 0 < t.length) (hd : digB (t.getD 0 0) = true) (h : numF t 0 = some (k, t, t.length)) : numB k t = true := by
 unfold numB
 rw [h, hd, decide_eq_true h0]
 simp
theorem all_getD {p : UInt8 -> Bool} {t : List UInt8} (h : t.all p = true) (h0 : 0 < t.length) : p (t.getD 0 0) = true := by
 cases t with
 | nil => cases h0
 | cons c t => rw [List.all_cons, Bool.and_eq_true] at h; exact h.1
theorem len_pos {t : List UInt8} (h : t ≠ []) : 0 < t.length := List.length_pos_iff.2 h
theorem src_num {w : List UInt8} {k e : Nat} {t : List UInt8} (hd : digB (w.getD 0 0) = true) (hw : 0 < w.length) (h : numF w 0 = some (k, t, e)) (he : e = w.length) : (k = 3 \/ k = 4) /\ t.length <= w.length /\ digB (t.getD 0 0) = true /\ numB k t = true /\ t.length <= 1000 := by
 have hne : w ≠ [] := λ h => by rw [h] at hw; cases hw
 have hsp : w.takeWhile digB ++ w.dropWhile digB = w := List.takeWhile_append_dropWhile
 have hda : (w.takeWhile digB).all digB = true := List.all_eq_true.2 λ c hc => tw_mem hc
 have hdn : w.takeWhile digB ≠ [] := by
  cases w with
  | nil => exact absurd rfl hne
  | cons c w =>
   rw [List.takeWhile_cons, if_pos (show digB c = true from hd)]
   simp
 have hj : digF w 0 = (w.takeWhile digB).length := by
  show 0 + ((List.drop 0 w).takeWhile digB).length = _
  rw [List.drop_zero, Nat.zero_add]
 unfold numF at h
 dsimp only at h
 rw [hj] at h
 split at h
 ·rename_i hp
  split at h
  ·cases h
  ·rename_i hl
   have hx := Option.some.inj h
   have h1 : 3 = k := congrArg (λ z => z.1) hx
   have h2 : trimF (cutF w 0 (w.takeWhile digB).length) = t := congrArg (λ z => z.2.1) hx
   have h3 : (w.takeWhile digB).length = e := congrArg (λ z => z.2.2) hx
   subst h1
   have hall : w.all digB = true := by
    have : w.dropWhile digB = [] := by
     have := congrArg List.length hsp
     rw [List.length_append] at this
     exact List.eq_nil_of_length_eq_zero (by omega)
    rw [this, List.append_nil] at hsp
    rw [<- hsp]; exact hda
   rw [h3, he, zjb] at h2
   subst h2
   have hle := trim_le hne
   have h0 := len_pos (trim_ne w)
   have ha := trim_all hall
   have hl3 : (trimF w).length <= 380 := by omega
   refine ⟨.inl rfl, hle, all_getD ha h0, numB_ok h0 (all_getD ha h0) ?_, by omega⟩
   have := num_int ha hl3
   rwa [trim_idem] at this
 ·rename_i hp
  have hp : (isAt (λ b => b.toNat == 46) w (w.takeWhile digB).length && isAt digB w ((w.takeWhile digB).length + 1)) = true := by simpa using hp
  rw [Bool.and_eq_true] at hp
  split at h
  ·cases h
  ·rename_i hl
   have hx := Option.some.inj h
   have h1 : 4 = k := congrArg (λ z => z.1) hx
   have h2 : trimF (cutF w 0 (w.takeWhile digB).length) ++ [46] ++ tailF (cutF w ((w.takeWhile digB).length + 1) (digF w ((w.takeWhile digB).length + 1))) = t := congrArg (λ z => z.2.1) hx
   have h3 : digF w ((w.takeWhile digB).length + 1) = e := congrArg (λ z => z.2.2) hx
   subst h1
   rw [h3, he] at h2 hl
   have c1 : cutF w 0 (w.takeWhile digB).length = w.takeWhile digB := by
    unfold cutF
    rw [List.drop_zero]
    conv => lhs; rw [<- hsp]
    rw [List.take_left' (by rw [hsp])]
   have c2 : cutF w ((w.takeWhile digB).length + 1) w.length = w.drop ((w.takeWhile digB).length + 1) := by unfold cutF; rw [List.take_length]
   rw [c1, c2] at h2
   rw [c2] at hl
   generalize hd0 : w.takeWhile digB = d at *
   generalize hb0 : w.drop (d.length + 1) = b at *
   have hba : b.all digB = true := by
    rw [<- hb0]
    have h3' : digF w (d.length + 1) = w.length := by rw [h3, he]
    have h3'' : d.length + 1 + ((w.drop (d.length + 1)).takeWhile digB).length = w.length := h3'
    have : (w.drop (d.length + 1)).takeWhile digB = w.drop (d.length + 1) := by
     apply (List.takeWhile_sublist _).eq_of_length
     rw [List.length_drop]; omega
    rw [<- this]
    exact List.all_eq_true.2 λ c hc => tw_mem hc
   have hbn : b ≠ [] := by
    intro hb
    rw [hb] at hb0
    have := List.drop_eq_nil_iff.1 hb0
    have hq := hp.2
    rw [zxQ this] at hq; cases hq
   have hlb : d.length + 1 + b.length = w.length := by
    rw [<- hb0, List.length_drop]
    have : ¬ w.length <= d.length := λ h => by
     have hq := hp.1
     rw [zxQ h] at hq; cases hq
    omega
   have l1 := trim_le hdn
   have l2 := tail_le hbn
   have l3 := len_pos (trim_ne d)
   have l4 := len_pos (tail_ne b)
   have ha := trim_all hda
   subst h2
   have hlt : (trimF d ++ [46] ++ tailF b).length = (trimF d).length + 1 + (tailF b).length := by simp; omega
   have hg : digB ((trimF d ++ [46] ++ tailF b).getD 0 0) = true := by
    have : (trimF d ++ [46] ++ tailF b).getD 0 0 = (trimF d).getD 0 0 := by
     rw [List.append_assoc]; exact getD_app l3
    rw [this]; exact all_getD ha l3
   refine ⟨.inr rfl, by omega, hg, numB_ok (by omega) hg ?_, by omega⟩
   have := num_dec ha (tail_all hba) (tail_ne b) (by omega) (by rw [tail_idem]; omega)
   rw [trim_idem, tail_idem] at this
   simpa using this
def Hd (w s : List UInt8) : Prop := ∀ (k : Nat) (u c R : List UInt8), Stop k u (c ++ (w ++ R)) -> Stop k u (c ++ s) /\ (s.length = w.length -> Stop k u (c ++ (s ++ R)))
theorem stop_front {k : Nat} {u A R : List UInt8} (hA : A ≠ []) (h : Stop k u (A ++ R)) : Stop k u A := by
 obtain ⟨s1, s2, s3, s4, s5⟩ := h
 have l := len_pos hA
 refine ⟨λ h => ?_, λ h => ?_, λ h => ?_, λ h => ?_, λ h h1 c hc => ?_⟩
 ·have := s1 h; rwa [zqE l] at this
 ·have := s2 h; rwa [zqE l] at this
 ·have := s3 h
  rw [zqE l] at this
  by_cases l2 : 1 < A.length
  ·rwa [zqE l2] at this
  ·rw [zxQ (p := digB) (by omega), Bool.and_false]
 ·have := s4 h; rwa [zqE l] at this
 ·exact s5 h h1 c (by rw [List.getElem?_append_left l]; exact hc)
theorem hd_self {s : List UInt8} (hs : s ≠ []) : Hd s s := by
 intro k u c R h
 refine ⟨?_, λ _ => h⟩
 rw [<- List.append_assoc] at h
 exact stop_front (by simp [hs]) h
theorem isAt_0 {p : UInt8 -> Bool} {s : List UInt8} (h : 0 < s.length) : isAt p s 0 = p (s.getD 0 0) := by
 cases s with
 | nil => cases h
 | cons c s => rfl
theorem hd_any {w s : List UInt8} (hw : 0 < w.length) (hs : 0 < s.length) (h1 : restB (s.getD 0 0) = restB (w.getD 0 0)) (h2 : digB (s.getD 0 0) = digB (w.getD 0 0)) (h3 : (s.getD 0 0).toNat ≠ 46) (h4 : (s.getD 0 0).toNat ≠ 34) (h5 : signB (s.getD 0 0) = false) {k : Nat} {u : List UInt8} : ∀ {c R : List UInt8} (R' : List UInt8), Stop k u (c ++ (w ++ R)) -> Stop k u (c ++ (s ++ R'))
 | [], R, R', ⟨s1, s2, s3, s4, s5⟩ => by
  simp only [List.nil_append] at *
  refine ⟨λ h => ?_, λ h => ?_, λ h => ?_, λ h => ?_, λ h h1 c hc hm => ?_⟩
  ·have := s1 h; rw [zqE hw, isAt_0 hw] at this; rw [zqE hs, isAt_0 hs, h1]; exact this
  ·have := s2 h; rw [zqE hw, isAt_0 hw] at this; rw [zqE hs, isAt_0 hs, h2]; exact this
  ·rw [zqE hs, isAt_0 hs]
   have : ((s.getD 0 0).toNat == 46) = false := by simpa using h3
   rw [this, Bool.false_and]
  ·rw [zqE hs, isAt_0 hs]; simpa using h4
  ·have e : s.getD 0 0 = c := by rw [List.getElem?_append_left hs] at hc; rw [List.getD_eq_getElem?_getD, hc]; rfl
   have := signs_in _ hm c (by simp)
   rw [e] at h5
   rw [h5] at this; cases this
 | [b], R, R', ⟨s1, s2, s3, s4, s5⟩ => by
  refine ⟨s1, s2, λ h => ?_, s4, s5⟩
  have := s3 h
  have e : ∀ x : List UInt8, isAt digB ([b] ++ x) 1 = isAt digB x 0 := λ x => rfl
  rw [e] at this ⊢
  rw [zqE hw, isAt_0 hw] at this
  rw [zqE hs, isAt_0 hs, h2]
  exact this
 | b :: b' :: c, R, R', ⟨s1, s2, s3, s4, s5⟩ => ⟨s1, s2, s3, s4, s5⟩
theorem hd_head {w s : List UInt8} (hw : 0 < w.length) (hs : 0 < s.length) (h1 : restB (s.getD 0 0) = restB (w.getD 0 0)) (h2 : digB (s.getD 0 0) = digB (w.getD 0 0)) (h3 : (s.getD 0 0).toNat ≠ 46) (h4 : (s.getD 0 0).toNat ≠ 34) (h5 : signB (s.getD 0 0) = false) : Hd w s := λ k u c R h => by
 refine ⟨?_, λ _ => hd_any hw hs h1 h2 h3 h4 h5 R h⟩
 have := hd_any hw hs h1 h2 h3 h4 h5 [] h
 rwa [List.append_nil] at this
theorem src_tok {w r : List UInt8} {x : TokR} (hw : 0 < w.length) (hw2 : w.length <= 20000) (h : tokF (w ++ r) 0 = .ok x) (he : x.to = w.length) (hb : ¬ 0 <= x.bad) : TokS (x.kind, x.text) /\ (spW (x.kind, x.text)).length <= w.length /\ Hd w (spW (x.kind, x.text)) /\ spellF x.kind x.text = (spW (x.kind, x.text), 0) /\ x.text.length <= 20000 /\ (x.kind = 6 -> spW (x.kind, x.text) = w) := by
 have h := tok_cut hw h he
 by_cases hl : letB (w.getD 0 0) = true
 ·obtain ⟨hk, ht, ho⟩ := src_name hl hw hw2 h he
  have ts := zkJ (k := x.kind) (by omega) ho
  have hlen : x.text.length = w.length := by rw [ht, low_len2]
  have hg : x.text.getD 0 0 = Go.Lib.lowerB (w.getD 0 0) := by rw [ht]; exact low_getD hw
  have lf := zkM (w.getD 0 0)
  have tf := let_facts (Go.Lib.lowerB (w.getD 0 0)) (by rw [lf.2.1, hl])
  refine ⟨ts.1, by rw [ts.2]; omega, ?_, zkK (by omega) ho, by omega, ?_⟩
  ·rw [ts.2]
   exact hd_head hw (by omega) (by rw [hg, lf.2.2.1]) (by rw [hg, lf.2.2.2]) (by rw [hg]; exact tf.2.2.1) (by rw [hg]; exact tf.2.2.2.1) (by rw [hg]; exact tf.2.2.2.2)
  ·intro h; omega
 ·unfold tokF at h
  dsimp only at h
  rw [if_neg hl] at h
  split at h
  ·rename_i hd
   split at h
   ·rename_i k t e hn
    cases h
    have he : e = w.length := he
    obtain ⟨hk, l1, hg, hn2, l2⟩ := src_num hd hw hn he
    have ho : OneTok t k := (zqR _ _).1 (by rw [num_one (by omega) (by omega)]; exact hn2)
    have ts := zkJ (k := k) (by omega) ho
    have df := dig_facts _ hg
    have df2 := dig_facts _ hd
    refine ⟨ts.1, by rw [ts.2]; exact l1, ?_, zkK (k := k) (by omega) ho, by show t.length <= 20000; omega, ?_⟩
    ·rw [ts.2]
     exact hd_head hw ho.1 (by rw [df.1, df2.1]) (by rw [hg, hd]) df.2.2.1 df.2.2.2.1 df.2.2.2.2
    ·intro h; have h : k = 6 := h; omega
   ·cases h
  ·split at h
   ·rename_i h34
    split at h
    ·rename_i t e bad hT
     cases h
     have he : e = w.length := he
     have hb : ¬ 0 <= bad := hb
     unfold textF at hT
     split at hT
     ·cases hT
     ·rename_i b p z hL
      split at hT
      ·cases hT
      ·rename_i hlen
       cases hT
       have hz := zxy _ _ _ _ _ _ _ hL
       have hbad : bad = -1 := by have := hz.2.2 (by decide) (by decide); omega
       subst hbad
       obtain ⟨t', r', e1, e2, e3, e4⟩ := text_back _ _ _ _ _ _ (Nat.le_refl _) hL
       rw [List.nil_append] at e1
       subst e1
       have hd := zxT (s := w) (p := 0) hw
       rw [List.drop_zero] at hd
       have hc : w.getD 0 0 = 34 := u8_eq h34
       have e2 : List.drop (0 + 1) w = dblB t ++ 34 :: r' := e2
       rw [hc, e2] at hd
       have hwl : w.length = (dblB t).length + 2 + r'.length := by rw [hd]; simp; omega
       have hr : r' = [] := List.eq_nil_of_length_eq_zero (by omega)
       rw [hr] at hd
       have q := quo_tokS e4 (by omega)
       have ew : spW (5, t) = w := by rw [q.2, <- hd]
       refine ⟨q.1, by show (spW (5, t)).length <= _; rw [ew]; exact Nat.le_refl _, ?_, quo_spell (s := t) e4 (by omega), by have := (zvy t).1; show t.length <= 20000; omega, ?_⟩
       ·show Hd w (spW (5, t))
        rw [ew]; exact hd_self λ h => by rw [h] at hw; cases hw
       ·intro h; have h : 5 = 6 := h; omega
    ·cases h
   ·split at h
    ·split at h
     ·rename_i hs
      cases h
      have he : 0 + signN w 0 = w.length := he
      rw [he, zjb] at hs ⊢
      have ho : OneTok w (6 : Nat) := (zqR _ _).1 (by show zqC 6 w = true; rw [sign_one, decide_eq_true hs])
      have ts := zkJ (k := 6) (by decide) ho
      refine ⟨ts.1, by rw [ts.2]; exact Nat.le_refl _, ?_, zkK (k := 6) (by decide) ho, by show w.length <= 20000; omega, λ _ => ts.2⟩
      rw [ts.2]; exact hd_self λ h => by rw [h] at hw; cases hw
     ·cases h
    ·cases h
end
end Go.Proofs.YtekioipmhhcbhaaDoor
namespace Go.Proofs.YtekioipmhhcbhaaDoor
open Go Go.Z Go.Q Go.W6
open Go.Y hiding KE KK KR go Task go_sound
noncomputable section
theorem wp_ws {i : Nat} {u : List UInt8} {l : List Tok} (h : Wp i u l) : Ws u (l.map ktT) := by
 induction h with
 | nil => exact .nil
 | blank hc _ ih => exact .blank hc ih
 | note hb hr _ ih => exact .note hb hr ih
 | tok hw hx he hb _ ih => exact .tok hw hx he hb ih
theorem ws_adj {u : List UInt8} {ts : List KT} (h : Ws u ts) : u.length <= 20000 -> (cat ts).length <= u.length /\ (u = cat ts -> Adj (flat ts)) := by
 induction h with
 | nil => exact λ _ => ⟨Nat.le_refl _, λ _ => trivial⟩
 | @blank c r l hc _ ih =>
  intro hu
  simp only [List.length_cons] at hu
  have := (ih (by omega)).1
  refine ⟨by simp only [List.length_cons]; omega, λ h => ?_⟩
  have := congrArg List.length h
  simp only [List.length_cons] at this
  omega
 | @note b r l hb hr _ ih =>
  intro hu
  simp only [List.length_cons, List.length_append] at hu
  have := (ih (by omega)).1
  refine ⟨by simp only [List.length_cons, List.length_append]; omega, λ h => ?_⟩
  have := congrArg List.length h
  simp only [List.length_cons, List.length_append] at this
  omega
 | @tok w r x l hw hx he hb _ ih =>
  intro hu
  rw [List.length_append] at hu
  obtain ⟨i1, i2⟩ := ih (by omega)
  obtain ⟨t1, t2, _⟩ := src_tok hw (by omega) hx he hb
  rw [zwe, List.length_append, List.length_append]
  refine ⟨by omega, λ h => ?_⟩
  have hl := congrArg List.length h
  rw [List.length_append, List.length_append] at hl
  obtain ⟨e1, e2⟩ := List.append_inj h (by omega)
  refine ⟨t1, ?_, i2 e2⟩
  have := zyC hw hx he
  rw [e1, e2] at this
  have h2 : txt (List.map (λ t => (false, t)) l) = cat l := zvK l
  rw [h2]
  exact this
theorem flat_snd : ∀ l : List KT, (flat l).map (·.2) = l
 | [] => rfl
 | t :: l => congrArg (t :: ·) (flat_snd l)
def fitsF (last : List KT) (t : KT) : Bool := decide ((scanF (cat (last ++ [t]))).2.2 = 0 /\ (scanF (cat (last ++ [t]))).1.map ktT = last ++ [t])
theorem scan_20000 {s : List UInt8} (h : (scanF s).2.2 = 0) : s.length <= 20000 := by
 rcases Nat.lt_or_ge 20000 s.length with h1 | h1
 ·unfold scanF at h; rw [if_pos h1] at h; cases h
 ·exact h1
theorem scan_adj {l : List KT} (h : (scanF (cat l)).2.2 = 0 /\ (scanF (cat l)).1.map ktT = l) : Adj (flat l) := by
 have hl := scan_20000 h.1
 have hw := wp_ws (scan_ws hl h.1)
 rw [h.2] at hw
 exact (ws_adj hw hl).2 rfl
theorem adj_scan {l : List KT} (h : Adj (flat l)) (hl : (cat l).length <= 20000) (hn : l.length <= 6000) : (scanF (cat l)).2.2 = 0 /\ (scanF (cat l)).1.map ktT = l := by
 have := adj_ws _ h
 rw [zvK, flat_snd] at this
 exact ws_scan hl hn this
def lastN (l : List KT) : List KT := if 3 < l.length then l.drop 1 else l
abbrev JS : Type := List (Bool × KT) × List KT
def stepJ (st : JS) (t : KT) : JS := if st.1 ≠ [] /\ fitsF st.2 t = false then (st.1 ++ [(true, t)], [t]) else (st.1 ++ [(false, t)], lastN (st.2 ++ [t]))
def runJ : List KT -> JS -> List UInt8 × Int
 | [], st => (txt st.1, 0)
 | t :: r, st => if 20000 < (txt (stepJ st t).1).length then ([], 3) else runJ r (stepJ st t)
def InvJ (st : JS) : Prop := Adj st.1 /\ ∃ pre L, st.1 = pre ++ L /\ L.map (·.2) = st.2 /\ (∀ x ∈ L.tail, x.1 = false) /\ (pre = [] \/ 2 <= (txt L).length) /\ L.length <= 3 /\ (st.1 ≠ [] -> L ≠ [])
theorem flat_tail : ∀ {l : List (Bool × KT)}, (∀ x ∈ l, x.1 = false) -> flat (l.map (·.2)) = l
 | [], _ => rfl
 | (b, t) :: l, h => by
  have h1 : b = false := h (b, t) List.mem_cons_self
  subst h1
  have := flat_tail (l := l) λ x hx => h x (List.mem_cons_of_mem _ hx)
  show (false, t) :: flat (l.map (·.2)) = _
  rw [this]
theorem adj_flat {L : List (Bool × KT)} (h : ∀ x ∈ L.tail, x.1 = false) (ha : Adj (flat (L.map (·.2)))) : Adj L := by
 cases L with
 | nil => exact trivial
 | cons x L =>
  obtain ⟨b, t⟩ := x
  have : flat (((b, t) :: L).map (·.2)) = (false, t) :: L := by
   show (false, t) :: flat (L.map (·.2)) = _
   rw [flat_tail (l := L) h]
  rw [this] at ha
  exact ha
theorem txt_1 {t : KT} (ht : TokS t) : 2 <= (txt [(true, t)]).length := by
 have := ht.1
 simp only [txt, if_true, List.length_append, List.length_cons, List.length_nil]
 omega
theorem inv_step {st : JS} {t : KT} (h : InvJ st) (ht : TokS t) : InvJ (stepJ st t) := by
 obtain ⟨ha, pre, L, h1, h2, h3, h4, h5, h6⟩ := h
 unfold stepJ
 split
 ·exact ⟨adj_blank ht ha, st.1, [(true, t)], rfl, rfl, (λ x hx => by cases hx), .inr (txt_1 ht), Nat.le_add_left 1 2, λ _ => by simp⟩
 ·rename_i hc
  by_cases he : st.1 = []
  ·rw [he] at h1
   obtain ⟨rfl, rfl⟩ := List.append_eq_nil_iff.1 h1.symm
   have e2 : st.2 = [] := h2.symm
   rw [he, e2]
   refine ⟨⟨ht, zkw ht, trivial⟩, [], [(false, t)], rfl, rfl, (λ x hx => by cases hx), .inl rfl, Nat.le_add_left 1 2, λ _ => by simp⟩
  ·have hf : fitsF st.2 t = true := by
    cases hb : fitsF st.2 t with
    | true => rfl
    | false => exact absurd ⟨he, hb⟩ hc
   have hL := h6 he
   have hfl := scan_adj (of_decide_eq_true hf)
   have htl : ∀ x ∈ (L ++ [(false, t)]).tail, x.1 = false := by
    intro x hx
    rw [List.tail_append_of_ne_nil hL] at hx
    rcases List.mem_append.1 hx with hx | hx
    ·exact h3 x hx
    ·rw [List.mem_singleton.1 hx]
   have hLt : Adj (L ++ [(false, t)]) := adj_flat htl (by rw [List.map_append, h2]; exact hfl)
   have hAll : Adj (pre ++ (L ++ [(false, t)])) := by
    rcases h4 with rfl | h4
    ·exact hLt
    ·exact adj_join (by rw [<- h1]; exact ha) h4 hLt
   have e1 : st.1 ++ [(false, t)] = pre ++ (L ++ [(false, t)]) := by rw [h1, List.append_assoc]
   have l0 : (L.map (·.2)).length = L.length := List.length_map ..
   rw [h2] at l0
   rw [e1]
   unfold lastN
   split
   ·rename_i h3'
    rw [List.length_append, l0] at h3'
    cases L with
    | nil => exact absurd rfl hL
    | cons x L =>
     refine ⟨hAll, pre ++ [x], L ++ [(false, t)], by simp, ?_, ?_, .inr ?_, ?_, λ _ => by simp⟩
     ·rw [<- h2]; simp
     ·intro y hy
      exact htl y (by
       cases L with
       | nil => cases hy
       | cons z L => exact List.mem_cons_of_mem _ hy)
     ·have hb : Adj (L ++ [(false, t)]) := hLt.2.2
      have := txt_ge hb
      simp only [List.length_append, List.length_cons, List.length_nil] at this h3' ⊢
      omega
     ·simp only [List.length_append, List.length_cons, List.length_nil] at h5 ⊢; omega
   ·rename_i h3'
    rw [List.length_append, l0] at h3'
    refine ⟨hAll, pre, L ++ [(false, t)], rfl, by rw [List.map_append, h2]; rfl, htl, ?_, by rw [List.length_append]; simpa using h3', λ _ => by simp⟩
    rcases h4 with h4 | h4
    ·exact .inl h4
    ·exact .inr (by rw [zxs, List.length_append]; omega)
theorem inv_nil : InvJ ([], []) := ⟨trivial, [], [], rfl, rfl, (λ x hx => by cases hx), .inl rfl, by decide, λ h => absurd rfl h⟩
def SAdj : List KT -> List UInt8 -> Prop
 | [], _ => True
 | t :: r, u => TokS t /\ Stop t.1 (spW t) (cat r ++ u) /\ SAdj r u
theorem sadj_fit {w r s : List UInt8} (hd : Hd w s) {x : KT} (hs : spW x = s) (hx : TokS x) : ∀ {last : List KT}, SAdj last (w ++ r) -> Adj (flat (last ++ [x]))
 | [], _ => ⟨hx, zkw hx, trivial⟩
 | t :: l, ⟨h1, h2, h3⟩ => by
  refine ⟨h1, ?_, sadj_fit hd hs hx h3⟩
  have e : txt (flat (l ++ [x])) = cat l ++ s := by rw [zvK, cat_app, <- hs]; simp [cat]
  show Stop t.1 (spW t) (txt (flat (l ++ [x])))
  rw [e]
  exact (hd _ _ _ _ h2).1
theorem sadj_on {w r s : List UInt8} (hd : Hd w s) {x : KT} (hs : spW x = s) (hl : s.length = w.length) (hx : TokS x) (hst : Stop x.1 (spW x) r) : ∀ {last : List KT}, SAdj last (w ++ r) -> SAdj (last ++ [x]) r
 | [], _ => ⟨hx, hst, trivial⟩
 | t :: l, ⟨h1, h2, h3⟩ => by
  refine ⟨h1, ?_, sadj_on hd hs hl hx hst h3⟩
  have e : cat (l ++ [x]) ++ r = cat l ++ (s ++ r) := by rw [cat_app, <- hs]; simp [cat]
  show Stop t.1 (spW t) (cat (l ++ [x]) ++ r)
  rw [e]
  exact (hd _ _ _ _ h2).2 hl
theorem sadj_last {l : List KT} {u : List UInt8} (h : SAdj l u) : SAdj (lastN l) u := by
 unfold lastN
 split
 ·cases l with
  | nil => exact h
  | cons t l => exact h.2.2
 ·exact h
theorem cat_txt {L : List (Bool × KT)} : (cat (L.map (·.2))).length <= (txt L).length := by
 induction L with
 | nil => exact Nat.le_refl _
 | cons x L ih =>
  obtain ⟨b, t⟩ := x
  rw [List.map_cons, zwe, txt, List.length_append, List.length_append, List.length_append]
  dsimp only
  omega
theorem join_src {i : Nat} {u : List UInt8} {l : List Tok} (h : Wp i u l) : ∀ st : JS, i + u.length <= 2000 -> InvJ st -> (txt st.1).length <= i -> (st.1 = [] \/ (txt st.1).length + 1 <= i \/ SAdj st.2 u) ->
  ∃ items, runJ (l.map ktT) st = (txt items, 0) /\ Adj items /\ items.map (·.2) = st.1.map (·.2) ++ l.map ktT /\ (txt items).length <= i + u.length := by
 induction h with
 | nil i => exact λ st _ hI hl _ => ⟨st.1, rfl, hI.1, by simp, by simpa using hl⟩
 | @blank i c r l hc _ ih =>
  intro st hb hI hl _
  simp only [List.length_cons] at hb ⊢
  obtain ⟨it, a1, a2, a3, a4⟩ := ih st (by omega) hI (by omega) (.inr (.inl (by omega)))
  exact ⟨it, a1, a2, a3, by omega⟩
 | @note i b r l hb' hr _ ih =>
  intro st hb hI hl _
  simp only [List.length_cons, List.length_append] at hb ⊢
  obtain ⟨it, a1, a2, a3, a4⟩ := ih st (by omega) hI (by omega) (.inr (.inl (by omega)))
  exact ⟨it, a1, a2, a3, by omega⟩
 | @tok i w r x l hw hx he hb' _ ih =>
  intro st hb hI hl hK
  rw [List.length_append] at hb ⊢
  obtain ⟨t1, t2, t3, _, _, t6⟩ := src_tok hw (by omega) hx he hb'
  have hst : Stop x.kind (spW (x.kind, x.text)) r := by
   have := zyC hw hx he
   by_cases h6 : x.kind = 6
   ·rw [t6 h6]; exact this
   ·exact ⟨this.1, this.2.1, this.2.2.1, this.2.2.2.1, λ h => absurd h h6⟩
  have hI' := inv_step hI t1
  have hone : SAdj [(x.kind, x.text)] r := ⟨t1, by exact hst, trivial⟩
  have go : ∀ st' : JS, st' = stepJ st (x.kind, x.text) -> st'.1.map (·.2) = st.1.map (·.2) ++ [(x.kind, x.text)] -> (txt st'.1).length <= i + w.length -> ((txt st'.1).length + 1 <= i + w.length \/ SAdj st'.2 r) ->
    ∃ items, runJ ((⟨x.kind, x.text, i, i + w.length⟩ :: l : List Tok).map ktT) st = (txt items, 0) /\ Adj items /\ items.map (·.2) = st.1.map (·.2) ++ (⟨x.kind, x.text, i, i + w.length⟩ :: l : List Tok).map ktT /\ (txt items).length <= i + (w.length + r.length) := by
   rintro st' rfl hm hlen hK'
   obtain ⟨it, a1, a2, a3, a4⟩ := ih (stepJ st (x.kind, x.text)) (by omega) hI' hlen (.inr hK')
   refine ⟨it, ?_, a2, ?_, by omega⟩
   ·show (if 20000 < (txt (stepJ st (x.kind, x.text)).1).length then ([], 3) else runJ (l.map ktT) (stepJ st (x.kind, x.text))) = _
    rw [if_neg (by omega), a1]
   ·rw [a3, hm, List.append_assoc]; rfl
  have tb : (txt (st.1 ++ [(true, (x.kind, x.text))])).length = (txt st.1).length + 1 + (spW (x.kind, x.text)).length := by
   rw [zxs, List.length_append]; simp [txt]; omega
  have tf : (txt (st.1 ++ [(false, (x.kind, x.text))])).length = (txt st.1).length + (spW (x.kind, x.text)).length := by
   rw [zxs, List.length_append]; simp [txt]
  by_cases hc : st.1 ≠ [] /\ fitsF st.2 (x.kind, x.text) = false
  ·have e : stepJ st (x.kind, x.text) = (st.1 ++ [(true, (x.kind, x.text))], [(x.kind, x.text)]) := by unfold stepJ; rw [if_pos hc]
   have hslack : (txt st.1).length + 1 <= i := by
    rcases hK with h | h | h
    ·exact absurd h hc.1
    ·exact h
    ·exfalso
     have ha := sadj_fit t3 rfl t1 h
     obtain ⟨_, pre, L, q1, q2, _, _, q5, _⟩ := hI
     have c1 : (cat st.2).length <= (txt st.1).length := by
      have := cat_txt (L := L)
      rw [q2] at this
      rw [q1, zxs, List.length_append]; omega
     have c2 : (cat (st.2 ++ [(x.kind, x.text)])).length <= 20000 := by
      rw [cat_app, List.length_append]
      have : cat [(x.kind, x.text)] = spW (x.kind, x.text) := by simp [cat]
      rw [this]; omega
     have c3 : (st.2 ++ [(x.kind, x.text)]).length <= 6000 := by
      have : (L.map (·.2)).length = L.length := List.length_map ..
      rw [q2] at this
      rw [List.length_append]; simp; omega
     have := adj_scan ha c2 c3
     have hf := hc.2
     unfold fitsF at hf
     rw [decide_eq_true this] at hf
     cases hf
   refine go _ e.symm (by simp) ?_ (.inr hone)
   show (txt (st.1 ++ [(true, (x.kind, x.text))])).length <= _
   omega
  ·have e : stepJ st (x.kind, x.text) = (st.1 ++ [(false, (x.kind, x.text))], lastN (st.2 ++ [(x.kind, x.text)])) := by unfold stepJ; rw [if_neg hc]
   refine go _ e.symm (by simp) ?_ ?_
   ·show (txt (st.1 ++ [(false, (x.kind, x.text))])).length <= _
    omega
   ·show (txt (st.1 ++ [(false, (x.kind, x.text))])).length + 1 <= _ \/ SAdj (lastN (st.2 ++ [(x.kind, x.text)])) r
    rcases hK with h | h | h
    ·have e2 : st.2 = [] := by
      obtain ⟨_, pre, L, q1, q2, _⟩ := hI
      rw [h] at q1
      have := (List.append_eq_nil_iff.1 q1.symm).2
      rw [this] at q2
      exact q2.symm
     rw [e2]; exact .inr hone
    ·exact .inl (by omega)
    ·by_cases hlt : (spW (x.kind, x.text)).length = w.length
     ·exact .inr (sadj_last (sadj_on t3 rfl hlt t1 hst h))
     ·exact .inl (by omega)
theorem join_scan {s : List UInt8} (hs : s.length <= 2000) (h : (scanF s).2.2 = 0) : ∃ a, runJ ((scanF s).1.map ktT) ([], []) = (a, 0) /\ (scanF a).2.2 = 0 /\ (scanF a).1.map ktT = (scanF s).1.map ktT /\ a.length <= s.length := by
 have hw := scan_ws (by omega) h
 have hl := wp_len hw
 obtain ⟨it, a1, a2, a3, a4⟩ := join_src hw ([], []) (by omega) inv_nil (Nat.le_refl _) (.inl rfl)
 have hws := adj_ws it a2
 rw [a3] at hws
 obtain ⟨b1, b2⟩ := ws_scan (by omega) (by simp; omega) hws
 exact ⟨txt it, a1, b1, by simpa using b2, by omega⟩
end
end Go.Proofs.YtekioipmhhcbhaaDoor
set_option maxRecDepth 100000
set_option maxHeartbeats 4000000
namespace Go.Proofs.YtekioipmhhcbhaaDoor
open Go Go.Z Go.Q Go.W6
open Go.Y hiding KE KK KR go Task go_sound
noncomputable section
variable [Ext]
def sameG (xs ys : List (List V)) : Bool := decide (xs.length = ys.length) && (List.range xs.length).all λ j => sameR (xs.getD j []) (ys.getD j [])
theorem sameG_t {xs ys : List (List V)} (hl : xs.length = ys.length) (h : ∀ j, j < xs.length -> sameR (xs.getD j []) (ys.getD j []) = true) : sameG xs ys = true := by
 unfold sameG
 rw [decide_eq_true hl, Bool.true_and, List.all_eq_true]
 exact λ j hj => h j (List.mem_range.1 hj)
theorem sameG_l {xs ys : List (List V)} (hl : ¬ xs.length = ys.length) : sameG xs ys = false := by
 unfold sameG; rw [decide_eq_false hl]; rfl
theorem sameG_f {xs ys : List (List V)} {j : Nat} (hj : j < xs.length) (h : sameR (xs.getD j []) (ys.getD j []) = false) : sameG xs ys = false := by
 unfold sameG
 rw [Bool.and_eq_false_iff]
 refine .inr ?_
 cases ha : (List.range xs.length).all λ j => sameR (xs.getD j []) (ys.getD j []) with
 | false => rfl
 | true =>
  have := List.all_eq_true.1 ha j (List.mem_range.2 hj)
  rw [h] at this; cases this
abbrev ts35 : List Nat := [1, 2, 6, 15, 16, 17]
def le35 (n m : Nat) (r : Bool) (i : Int) : List V := [.ssl 1 0 m 6, fnS, .bool r, .ssl 0 0 n 6, .sint .i64 n, .sint .i64 i]
def l35 (fi : FI) (ds : List DV) (env : Tr V) (hp : Mem) (k : KK) : Prop := atV 32 2 [0, 1] [] fi ds hp λ rc => match pk ts35 env, hp.t.get 0, hp.t.get 1 with
 | [some (.ssl 1 0 m 6), some (.fn f [] []), some (.bool false), some (.ssl 0 0 n 6), some w, some v], some (.rowsO xs sh t0), some (.rowsO ys sh1 t1) => match isFn f, int64 w, int64 v with
  | true, some j, some i => (i = 0 /\ j = (n : Int) /\ sh = shTok /\ sh1 = shTok /\ t0 = 34 /\ t1 = 34 /\ n = xs.length /\ m = ys.length /\ xs.length = ys.length /\ n <= 30000) /\
    (sameG xs ys = true -> k (.exit 0) [] (ofE (ts35.zip (le35 n m false n))) ⟨2, ofM ([0, 1].zip [tokC xs, tokC ys] ++ [].zip rc), hp.ro⟩) /\
    (sameG xs ys = false -> ∀ i : Int, k .ret [] (ofE (ts35.zip (le35 n m false i))) ⟨6, ofM ([0, 1].zip [tokC xs, tokC ys] ++ [].zip rc), hp.ro⟩)
  | _, _, _ => False
 | _, _, _ => False
theorem l35_ok {gv gf gl} : ∀ fi ds env hp k, l35 fi ds env hp k -> TaskOk Tryd.prog ⟨gv, gf, gl⟩ (.code fi (.loop (lp Tryd.prog 34 0)) ds env hp k) := by
 intro fi ds env hp k h
 obtain ⟨rfl, rfl, hn, hlk, rc, hrc, h⟩ := atV_inv h
 split at h
 ·rename_i m f n w v xs sh t0 ys sh1 t1 hT g0 g1
  split at h
  ·rename_i j i qf e1 e0
   obtain ⟨⟨rfl, rfl, rfl, rfl, rfl, rfl, rfl, rfl, hl, hb⟩, hk1, hk2⟩ := h
   obtain rfl := isFn_eq qf
   obtain ⟨n', ht, hro⟩ := hp
   dsimp only at hn hlk hrc hk1 hk2 g0 g1
   subst hn
   refine loop_fv ts35 [0, 1] [0, 1] [] rc 2 (λ x : Nat => le35 xs.length ys.length false x) (λ _ => [some (tokC xs), some (tokC ys)]) (λ x => x <= xs.length /\ ∀ j, j < x -> sameR (xs.getD j []) (ys.getD j []) = true) (λ x => xs.length - x) 0 ⟨Nat.zero_le _, λ j hj => absurd hj (Nat.not_lt_zero j)⟩ rfl rfl rfl (Nat.le_refl 2) hlk rfl rfl (λ x => rfl) (λ x => rfl) ?_ ⟨⟨_, g0, zqb _⟩, ⟨_, g1, zqb _⟩, trivial⟩ hrc ?_
   ·rw [hT]
    exact ⟨zqa _, zqa _, zqa _, zqa _, zqr e1, zqr e0, trivial⟩
   ·intro x hx
    obtain ⟨hx, hall⟩ := hx
    refine zkZ (gf' := []) (gl' := []) ?_
    refine go_sound (G := nilG) qmix qNG zqf (zxp rfl) (zqz rfl) 200 _ ?_
    refine ⟨trivial, λ h => ?_, λ h => ?_⟩
    ·have h : (x : Int) < xs.length := of_decide_eq_true h
     have b1 : (0 : Int) <= (x : Int) /\ (x : Int) < (xs.length : Nat) := ⟨by omega, h⟩
     have b2 : (0 : Int) <= (x : Int) /\ (x : Int) < (ys.length : Nat) := by omega
     have i1 : 0 + (x : Int).toNat < xs.length := by omega
     have i2 : 0 + (x : Int).toNat < ys.length := by omega
     have e1 : 0 + (x : Int).toNat = x := by omega
     have c5 : I64 ((x : Int) + 1) := by unfold I64; omega
     refine ⟨b1, i1, b2, i2, trivial, λ h1 => ⟨trivial, λ h2 => ⟨c5, ?_⟩, λ h2 => ?_⟩, λ h1 => ?_⟩
     ·have h1 : vI ((xs.getD (0 + (x : Int).toNat) []).getD 0 .und) = vI ((ys.getD (0 + (x : Int).toNat) []).getD 0 .und) := of_decide_eq_true h1
      have h2 : vS ((xs.getD (0 + (x : Int).toNat) []).getD 1 .und) = vS ((ys.getD (0 + (x : Int).toNat) []).getD 1 .und) := of_decide_eq_true h2
      rw [e1] at h1 h2
      have hs : sameR (xs.getD x []) (ys.getD x []) = true := by unfold sameR; rw [decide_eq_true h1, decide_eq_true h2]; rfl
      refine ⟨x + 1, [0, 1], ⟨by omega, λ j hj => ?_⟩, (by omega : xs.length - (x + 1) < xs.length - x), Nat.le_of_ble_eq_true rfl, rfl, ⟨zqa _, zqa _, zqa _, zqa _, zqa _, ⟨rfl, by push_cast; rfl⟩, trivial⟩, ⟨_, rfl, zqb _⟩, ⟨_, rfl, zqb _⟩, trivial⟩
      rcases Nat.lt_succ_iff_lt_or_eq.1 hj with hj | rfl
      ·exact hall j hj
      ·exact hs
     ·have h2 : ¬ vS ((xs.getD (0 + (x : Int).toNat) []).getD 1 .und) = vS ((ys.getD (0 + (x : Int).toNat) []).getD 1 .und) := of_decide_eq_false h2
      rw [e1] at h2
      exact ⟨le35 xs.length ys.length false x, [0, 1], [tokC xs, tokC ys], Nat.le_of_ble_eq_true rfl, rfl, rfl, ⟨zqa _, zqa _, zqa _, zqa _, zqa _, zqa _, trivial⟩, ⟨⟨_, rfl, zqb _⟩, ⟨_, rfl, zqb _⟩, trivial⟩, hk2 (sameG_f (j := x) (by omega) (by unfold sameR; rw [decide_eq_false h2]; exact Bool.and_false _)) x⟩
     ·have h1 : ¬ vI ((xs.getD (0 + (x : Int).toNat) []).getD 0 .und) = vI ((ys.getD (0 + (x : Int).toNat) []).getD 0 .und) := of_decide_eq_false h1
      rw [e1] at h1
      exact ⟨le35 xs.length ys.length false x, [0, 1], [tokC xs, tokC ys], Nat.le_of_ble_eq_true rfl, rfl, rfl, ⟨zqa _, zqa _, zqa _, zqa _, zqa _, zqa _, trivial⟩, ⟨⟨_, rfl, zqb _⟩, ⟨_, rfl, zqb _⟩, trivial⟩, hk2 (sameG_f (j := x) (by omega) (by unfold sameR; rw [decide_eq_false h1]; rfl)) x⟩
    ·have h : ¬ (x : Int) < xs.length := of_decide_eq_false h
     obtain rfl : x = xs.length := by omega
     exact ⟨le35 xs.length ys.length false xs.length, [0, 1], [tokC xs, tokC ys], Nat.le_refl 2, rfl, rfl, ⟨zqa _, zqa _, zqa _, zqa _, zqa _, zqa _, trivial⟩, ⟨⟨_, rfl, zqb _⟩, ⟨_, rfl, zqb _⟩, trivial⟩, hk1 (sameG_t hl hall)⟩
  ·exact h.elim
 ·exact h.elim
def kSameG (xs ys : List (List V)) : E -> List (Option Chunk) -> Prop := λ e cs => cs = [some (tokC xs), some (tokC ys)] /\ e = .ret (.sbool (sameG xs ys))
theorem sameG_run (xs ys : List (List V)) (hx : xs.length <= 30000) : TaskOk Tryd.prog ⟨⟨.nil, [], []⟩, [], [(32004, lp Tryd.prog 34 0, l35)]⟩ (.call 18 [.ssl 0 0 xs.length 6, .ssl 1 0 ys.length 6] ⟨2, ofMo ([0, 1].zip [some (tokC xs), some (tokC ys)]), []⟩ (cutE [0, 1] (cN [0, 1] [true, true] (kSameG xs ys)))) := by
 refine go_sound qmix qNG zqf (zxp rfl) (ls_one rfl l35_ok) 200 _ ?_
 have fin : ∀ b : Bool, sameG xs ys = b -> cN [0, 1] [true, true] (kSameG xs ys) (.ret (.bool b)) 0 [some (tokC xs), some (tokC ys)] := λ b hb =>
  ⟨.ret (.sbool (sameG xs ys)), [some (tokC xs), some (tokC ys)], hb.symm, rfl, ⟨zqb _, zqb _, trivial⟩, rfl, rfl, rfl, rfl⟩
 refine ⟨trivial, trivial, trivial, λ h => fin false (sameG_l λ e => nT h (by rw [e])), λ h => ⟨trivial, rfl, ⟨rfl, rfl, rfl, rfl, rfl, rfl, rfl, rfl, ?_, hx⟩, λ h => fin true h, λ h i => fin false h⟩⟩
 have := nF h
 omega
def rowsX : Option Chunk -> Option (List (List V) × List Sh × Nat)
 | some (.rowsO l sh ty) => some (l, sh, ty)
 | some (.rows l sh ty) => some (l, sh, ty)
 | _ => none
theorem rowsX_ok {o : Option Chunk} {l : List (List V)} {sh : List Sh} {ty : Nat} (h : rowsX o = some (l, sh, ty)) : ∃ c, o = some c /\ chle c (.rowsO l sh ty) := by
 unfold rowsX at h
 split at h
 ·cases h; exact ⟨_, rfl, zqb _⟩
 ·cases h; exact ⟨_, rfl, rfl, rfl, rfl⟩
 ·cases h
def asL (v : V) (t : Tr Chunk) : Option (Nat × Nat × List (List V) × List Sh × Nat) := match v with
 | .ssl id 0 n 6 => match rowsX (t.get id) with
  | some (l, sh, ty) => some (id, n, l, sh, ty)
  | none => none
 | .sl id 0 0 n none => match t.get id with
  | some (.cells l ty 6) => match zwY 6 n l with
   | some m => match fitAll shTok m with | true => some (id, n, m, shTok, ty) | false => none
   | none => none
  | _ => none
 | _ => none
theorem asL_ok {v : V} {t : Tr Chunk} {id n ty : Nat} {l : List (List V)} {sh : List Sh} (h : asL v t = some (id, n, l, sh, ty)) : vle v (.ssl id 0 n 6) /\ ∃ c, t.get id = some c /\ chle c (.rowsO l sh ty) := by
 unfold asL at h
 split at h
 ·split at h
  ·rename_i hr
   cases h
   exact ⟨zqa _, rowsX_ok hr⟩
  ·cases h
 ·split at h
  ·rename_i hg
   split at h
   ·rename_i m hm
    split at h
    ·rename_i hf
     cases h
     obtain ⟨h1, h2⟩ := zvz hm
     exact ⟨⟨rfl, rfl, rfl, rfl⟩, _, hg, .inr ⟨rfl, rfl, zwU hf, by rw [h1]; exact zqo _⟩⟩
    ·cases h
   ·cases h
  ·cases h
 ·cases h
def sSameG (args : List V) (hp : Mem) (k : KE) : Prop := match args with
 | [va, vb] => match asL va hp.t, asL vb hp.t with
  | some (a, n, xs, sh, t0), some (b, m, ys, sh1, t1) => match below hp.n [a, b], nodupB [a, b], noLk [a, b] hp.ro with
   | true, true, true => (sh = shTok /\ sh1 = shTok /\ t0 = 34 /\ t1 = 34 /\ n = xs.length /\ m = ys.length /\ n <= 30000) /\
    k (.ret (.sbool (sameG xs ys))) ⟨hp.n, Tr.set 20 (Tr.set 20 hp.t b (some (tokC ys))) a (some (tokC xs)), hp.ro⟩
   | _, _, _ => False
  | _, _ => False
 | _ => False
theorem sameGs_ok {G : GQ} : ∀ args hp k, sSameG args hp k -> TaskOk Tryd.prog G (.call 18 args hp k) := by
 intro args hp k h
 unfold sSameG at h
 split at h
 ·split at h
  ·rename_i va vb a n xs sh t0 b m ys sh1 t1 ga gb
   split at h
   ·rename_i hb hd hlk
    obtain ⟨⟨rfl, rfl, rfl, rfl, rfl, rfl, hL⟩, hk⟩ := h
    obtain ⟨va1, c0, ga, la⟩ := asL_ok ga
    obtain ⟨vb1, c1, gb, lb⟩ := asL_ok gb
    refine call_fr 2 [0, 1] [a, b] [some (tokC xs), some (tokC ys)] (kSameG xs ys) (sameG_run xs ys hL) rfl (args0 := [.ssl 0 0 xs.length 6, .ssl 1 0 ys.length 6]) ⟨va1, vb1, trivial⟩ rfl rfl rfl hb rfl hd rfl ⟨⟨_, ga, la⟩, ⟨_, gb, lb⟩, trivial⟩ hlk ?_ ?_
    ·intro ρ W hH i hi
     have get : ∀ {i c}, hp.t.get i = some c -> ∃ x, ρ i = some x := λ {i c} hg => by
      obtain ⟨b, o, _, h2⟩ := hH.rel i _ hg
      obtain ⟨c, h3⟩ := h2.at
      exact ⟨_, h3⟩
     rcases List.mem_cons.1 hi with rfl | hi
     ·exact get ga
     ·rw [List.mem_singleton.1 hi]; exact get gb
    ·rintro e cs' ⟨rfl, rfl⟩
     exact hk
   ·exact h.elim
  ·exact h.elim
 ·exact h.elim
end
end Go.Proofs.YtekioipmhhcbhaaDoor
