/- Words that are one token: plain laws, no program in sight. -/
import Derived.Test.YtekioipmhhcbhaaGreatDoorV6
import Derived.Lib.Replace
set_option linter.unusedVariables false
set_option linter.unusedSimpArgs false
set_option maxRecDepth 20000
namespace Go.Proofs.YtekioipmhhcbhaaGreatDoor
open Go Go.Z Go.W6
noncomputable section
def zqQ (k : Int) (s : List UInt8) : Bool := match scanF s with
 | ([t], _, 0) => decide ((t.kind : Int) = k) && (decide (t.text = s) && decide ((t.to : Int) - t.at_ = s.length))
 | _ => false
theorem ends_prefix {s : List UInt8} {i : Nat} {l : List Tok} {r : Scn} (h : Ends s i l r) : ∀ x, r = .done x -> ∃ m, x = l ++ m := by
 induction h with
 | @stop i l r h1 h2 =>
  rintro x rfl
  refine ⟨[], ?_⟩
  unfold stepF at h1
  split at h1
  ·cases h1
  ·split at h1
   ·cases h1; simp
   ·split at h1
    ·cases h1
    ·split at h1
     ·cases h1
     ·split at h1 <;> cases h1
 | @step i l i' l' r h1 h2 ih =>
  rintro x rfl
  obtain ⟨m, hm⟩ := ih x rfl
  unfold stepF at h1
  split at h1
  ·cases h1
  ·split at h1
   ·cases h1
   ·split at h1
    ·cases h1
    ·split at h1
     ·cases h1
     ·split at h1
      ·cases h1
      ·cases h1
       exact ⟨_, by rw [hm, List.append_assoc]⟩
theorem zvi (s : List UInt8) : cutF s 0 s.length = s := by unfold cutF; rw [List.take_length]; rfl
def OneTok (s : List UInt8) (k : Int) : Prop := 0 < s.length /\ s.length <= 20000 /\ ∃ x : TokR, tokF s 0 = .ok x /\ ¬ 0 <= x.bad /\ (x.kind : Int) = k /\ x.text = s /\ x.to = s.length
theorem zjR (k : Int) (s : List UInt8) : zqQ k s = true ↔ OneTok s k := by
 constructor
 ·intro h
  unfold zqQ at h
  split at h
  ·rename_i t p hs
   simp only [Bool.and_eq_true, decide_eq_true_eq] at h
   obtain ⟨h1, h2, h3⟩ := h
   have hlen : s.length <= 20000 := by
    rcases Nat.lt_or_ge 20000 s.length with h | h
    ·unfold scanF at hs; rw [if_pos h] at hs; cases hs
    ·exact h
   rcases scanF_cases hlen with ⟨x, g1, g2, g3, g4⟩ | ⟨p', e, g1, g2, _⟩
   ·rw [g2] at hs
    cases hs
    have he := ends_scan s
    rw [g1] at he
    cases he with
    | stop s1 s2 =>
     unfold stepF at s1
     split at s1
     ·cases s1
     ·split at s1
      ·cases s1
      ·split at s1
       ·cases s1
       ·split at s1
        ·cases s1
        ·split at s1 <;> cases s1
    | step s1 s2 =>
     unfold stepF at s1
     split at s1
     ·cases s1
     ·rename_i j hj
      split at s1
      ·cases s1
      ·rename_i hjl
       split at s1
       ·cases s1
       ·rename_i x hx
        split at s1
        ·cases s1
        ·split at s1
         ·cases s1
         ·rename_i hb
          cases s1
          obtain ⟨m, hm⟩ := ends_prefix s2 _ rfl
          simp only [List.nil_append, List.cons_append] at hm
          injection hm with hm hm2
          subst hm
          dsimp only at h1 h2 h3
          have hto := tok_le (by omega) hx
          have hj0 : j = 0 := by omega
          subst hj0
          exact ⟨by omega, hlen, x, hx, hb, h1, h2, by omega⟩
   ·rw [g2] at hs; cases hs
  ·cases h
 ·rintro ⟨h0, hl, x, hx, hb, hk, ht, hto⟩
  have := scan_alone hl h0 hx hb
  rw [hto, zvi] at this
  unfold zqQ
  rw [this]
  simp [hk, ht]
def nameB (s : List UInt8) : Bool := decide (1 <= s.length /\ s.length <= 24) && (letB (s.getD 0 0) && (decide (Go.Lib.toLowerA s = s) && (!decide (s ∈ keysL) && s.all restB)))
theorem takeW_all {p : UInt8 -> Bool} : ∀ l : List UInt8, (∀ b ∈ l, p b = true) -> l.takeWhile p = l
 | [], _ => rfl
 | b :: l, h => by rw [List.takeWhile_cons, if_pos (h b (List.mem_cons_self ..)), takeW_all l λ c hc => h c (List.mem_cons_of_mem _ hc)]
theorem end_all {p : UInt8 -> Bool} {s : List UInt8} : endF p s 0 = s.length ↔ s.all p = true := by
 unfold endF
 rw [List.drop_zero, Nat.zero_add]
 constructor
 ·intro h
  have : s.takeWhile p = s := List.Sublist.eq_of_length (List.takeWhile_sublist p) h
  rw [List.all_eq_true]
  intro b hb
  rw [<- this] at hb
  exact mem_takeW hb
 ·intro h
  rw [List.all_eq_true] at h
  rw [takeW_all s h]
theorem name_one (s : List UInt8) : zqQ 1 s = nameB s := by
 rw [Bool.eq_iff_iff, zjR]
 unfold nameB
 simp only [Bool.and_eq_true, decide_eq_true_eq, Bool.not_eq_true', decide_eq_false_iff_not]
 have hlow : ∀ l : List UInt8, (Go.Lib.toLowerA l).length = l.length := low_len
 constructor
 ·rintro ⟨h0, hl, x, hx, hb, hk, ht, hto⟩
  unfold tokF at hx
  dsimp only at hx
  split at hx
  ·rename_i hlet
   split at hx
   ·cases hx; dsimp only at hk; omega
   ·rename_i hnk
    split at hx
    ·cases hx
    ·rename_i h24
     cases hx
     dsimp only at ht hto
     rw [hto, zvi] at ht hnk h24
     rw [ht] at hnk h24
     exact ⟨⟨h0, by omega⟩, hlet, ht, hnk, end_all.1 hto⟩
  ·split at hx
   ·split at hx
    ·rename_i kk t e hn
     cases hx
     dsimp only at hk
     unfold numF at hn
     dsimp only at hn
     split at hn <;> split at hn <;> cases hn <;> omega
    ·cases hx
   ·split at hx
    ·split at hx
     ·cases hx; dsimp only at hk; omega
     ·cases hx
    ·split at hx
     ·split at hx
      ·cases hx; dsimp only at hk; omega
      ·cases hx
     ·cases hx
 ·rintro ⟨⟨h0, h24⟩, hlet, hlo, hnk, hall⟩
  refine ⟨h0, by omega, ⟨1, s, s.length, -1⟩, ?_, show ¬ (0 : Int) <= -1 by decide, rfl, rfl, rfl⟩
  have hto : nameF s 0 = s.length := end_all.2 hall
  unfold tokF
  dsimp only
  rw [if_pos hlet, hto, zvi, hlo, if_neg hnk, if_neg (by omega)]
end
end Go.Proofs.YtekioipmhhcbhaaGreatDoor
set_option maxRecDepth 20000
namespace Go.Proofs.YtekioipmhhcbhaaGreatDoor
open Go Go.Z Go.W6
noncomputable section
def keyHd (w : List UInt8) : Bool := decide (1 <= w.length) && (letB (w.getD 0 0) && (decide (Go.Lib.toLowerA w = w) && w.all restB))
theorem keys_hd {w : List UInt8} (h : w ∈ keysL) : keyHd w = true := (by decide : ∀ x ∈ keysL, keyHd x = true) w h
theorem keys_len {w : List UInt8} (h : w ∈ keysL) : w.length <= 24 := (by decide : ∀ x ∈ keysL, x.length <= 24) w h
theorem key_one (s : List UInt8) : zqQ 2 s = decide (s ∈ keysL) := by
 rw [Bool.eq_iff_iff, zjR, decide_eq_true_eq]
 constructor
 ·rintro ⟨h0, hl, x, hx, hb, hk, ht, hto⟩
  unfold tokF at hx
  dsimp only at hx
  split at hx
  ·split at hx
   ·rename_i hkk
    cases hx
    dsimp only at ht
    rw [ht] at hkk
    exact hkk
   ·split at hx
    ·cases hx
    ·cases hx; dsimp only at hk; omega
  ·split at hx
   ·split at hx
    ·rename_i kk t e hn
     cases hx
     dsimp only at hk
     unfold numF at hn
     dsimp only at hn
     split at hn <;> split at hn <;> cases hn <;> omega
    ·cases hx
   ·split at hx
    ·split at hx
     ·cases hx; dsimp only at hk; omega
     ·cases hx
    ·split at hx
     ·split at hx
      ·cases hx; dsimp only at hk; omega
      ·cases hx
     ·cases hx
 ·intro h
  have h1 := keys_hd h
  unfold keyHd at h1
  simp only [Bool.and_eq_true, decide_eq_true_eq] at h1
  obtain ⟨h0, hlet, hlo, hall⟩ := h1
  have h24 := keys_len h
  refine ⟨h0, by omega, ⟨2, s, s.length, -1⟩, ?_, show ¬ (0 : Int) <= -1 by decide, rfl, rfl, rfl⟩
  have hto : nameF s 0 = s.length := end_all.2 hall
  unfold tokF
  dsimp only
  rw [if_pos hlet, hto, zvi, hlo, if_pos h]
def signOk (w : List UInt8) : Bool := (decide (w.length = 1) || decide (w.length = 2)) && (!letB (w.getD 0 0) && (!digB (w.getD 0 0) && (decide ((w.getD 0 0).toNat ≠ 34) && signB (w.getD 0 0))))
theorem signs_ok {w : List UInt8} (h : w ∈ signsL) : signOk w = true := (by decide : ∀ x ∈ signsL, signOk x = true) w h
theorem sign_one (s : List UInt8) : zqQ 6 s = decide (s ∈ signsL) := by
 rw [Bool.eq_iff_iff, zjR, decide_eq_true_eq]
 constructor
 ·rintro ⟨h0, hl, x, hx, hb, hk, ht, hto⟩
  unfold tokF at hx
  dsimp only at hx
  split at hx
  ·split at hx
   ·cases hx; dsimp only at hk; omega
   ·split at hx
    ·cases hx
    ·cases hx; dsimp only at hk; omega
  ·split at hx
   ·split at hx
    ·rename_i kk t e hn
     cases hx
     dsimp only at hk
     unfold numF at hn
     dsimp only at hn
     split at hn <;> split at hn <;> cases hn <;> omega
    ·cases hx
   ·split at hx
    ·split at hx
     ·cases hx; dsimp only at hk; omega
     ·cases hx
    ·split at hx
     ·split at hx
      ·rename_i hm
       cases hx
       dsimp only at ht hto
       rw [ht] at hm
       exact hm
      ·cases hx
     ·cases hx
 ·intro h
  have h1 := signs_ok h
  unfold signOk at h1
  simp only [Bool.and_eq_true, Bool.or_eq_true, decide_eq_true_eq, Bool.not_eq_true'] at h1
  obtain ⟨hlen, hlet, hdig, h34, hsg⟩ := h1
  have hlet' : ¬ (letB (s.getD 0 0) = true) := by rw [hlet]; simp
  have hdig' : ¬ (digB (s.getD 0 0) = true) := by rw [hdig]; simp
  have hN : signN s 0 = s.length := by
   unfold signN
   rcases hlen with hlen | hlen
   ·rw [if_neg (λ x => by omega), hlen]
   ·rw [if_pos ⟨by omega, by rw [show 0 + 2 = s.length by omega, zvi]; exact h⟩, hlen]
  refine ⟨by omega, by omega, ⟨6, s, s.length, -1⟩, ?_, show ¬ (0 : Int) <= -1 by decide, rfl, rfl, rfl⟩
  unfold tokF
  dsimp only
  rw [if_neg hlet', if_neg hdig', if_neg h34, if_pos hsg, hN, Nat.zero_add, zvi, if_pos h]
def numB (k : Int) (s : List UInt8) : Bool := decide (0 < s.length) && (digB (s.getD 0 0) && (match numF s 0 with
 | some (kk, t, e) => decide ((kk : Int) = k) && (decide (e = s.length) && decide (t = s))
 | none => false))
theorem dig_let {b : UInt8} (h : digB b = true) : letB b = false := by
 unfold digB at h
 unfold letB
 simp only [Bool.and_eq_true, decide_eq_true_eq] at h
 simp only [Bool.or_eq_false_iff, Bool.and_eq_false_iff, decide_eq_false_iff_not]
 omega
theorem num_one {k : Int} (hk : k = 3 \/ k = 4) {s : List UInt8} (hs : s.length <= 20000) : zqQ k s = numB k s := by
 rw [Bool.eq_iff_iff, zjR]
 unfold numB
 simp only [Bool.and_eq_true, decide_eq_true_eq]
 constructor
 ·rintro ⟨h0, hl, x, hx, hb, hkk, ht, hto⟩
  unfold tokF at hx
  dsimp only at hx
  split at hx
  ·split at hx
   ·cases hx; dsimp only at hkk; omega
   ·split at hx
    ·cases hx
    ·cases hx; dsimp only at hkk; omega
  ·split at hx
   ·rename_i hd
    split at hx
    ·rename_i kk t e hn
     cases hx
     refine ⟨h0, hd, ?_⟩
     rw [hn]
     simp only [Bool.and_eq_true, decide_eq_true_eq]
     exact ⟨hkk, hto, ht⟩
    ·cases hx
   ·split at hx
    ·split at hx
     ·cases hx; dsimp only at hkk; omega
     ·cases hx
    ·split at hx
     ·split at hx
      ·cases hx; dsimp only at hkk; omega
      ·cases hx
     ·cases hx
 ·rintro ⟨h0, hd, h⟩
  split at h
  ·rename_i kk t e hn
   simp only [Bool.and_eq_true, decide_eq_true_eq] at h
   obtain ⟨h1, h2, h3⟩ := h
   refine ⟨h0, hs, ⟨kk, t, e, -1⟩, ?_, show ¬ (0 : Int) <= -1 by decide, h1, h3, h2⟩
   unfold tokF
   dsimp only
   rw [dig_let hd, if_neg (by simp), if_pos hd, hn]
  ·cases h
end
end Go.Proofs.YtekioipmhhcbhaaGreatDoor
set_option maxRecDepth 20000
namespace Go.Proofs.YtekioipmhhcbhaaGreatDoor
open Go Go.Z Go.W6
noncomputable section
theorem repl_eq {s old new : List UInt8} (hne : old ≠ new) : Go.Lib.replaceAll s old new = Go.Lib.replaceK old new (Go.Lib.count s old) s := by
 unfold Go.Lib.replaceAll Go.Lib.replace Go.Lib.replaceNum
 have h : ¬ ((old == new) = true) := by simpa using hne
 rw [if_neg h, if_pos (.inl (by decide))]
theorem index_pre {old r : List UInt8} (h0 : old ≠ []) : Go.Lib.index (old ++ r) old = 0 := by
 cases old with
 | nil => exact absurd rfl h0
 | cons c l =>
  rw [List.cons_append]
  unfold Go.Lib.index
  rw [if_pos]
  rw [<- List.cons_append]
  simp
theorem repl_pre {old new r : List UInt8} (h0 : old ≠ []) (hne : old ≠ new) : Go.Lib.replaceAll (old ++ r) old new = new ++ Go.Lib.replaceAll r old new := by
 have hi : Go.Lib.index (old ++ r) old = ((0 : Nat) : Int) := index_pre h0
 rw [repl_eq hne, repl_eq hne, Go.Lib.count_hit h0 hi, Nat.add_comm, Go.Lib.replaceK_hit _ _ _ _ _ hi]
 simp
theorem repl_miss {s old new : List UInt8} (hne : old ≠ new) (h : Go.Lib.index s old = -1) : Go.Lib.replaceAll s old new = s := by
 rw [repl_eq hne, Go.Lib.count_miss h]; rfl
theorem repl_cons {b : UInt8} {l old new : List UInt8} (h0 : old ≠ []) (hne : old ≠ new) (hp : old.isPrefixOf (b :: l) = false) : Go.Lib.replaceAll (b :: l) old new = b :: Go.Lib.replaceAll l old new := by
 have hx : Go.Lib.index (b :: l) old = if Go.Lib.index l old == -1 then -1 else Go.Lib.index l old + 1 := by
  conv => lhs; unfold Go.Lib.index
  rw [hp]; rfl
 have hge := Go.Lib.index_ge l old
 by_cases hm : Go.Lib.index l old = -1
 ·rw [hm] at hx
  rw [repl_miss hne hm, repl_miss hne (by rw [hx]; rfl)]
 ·obtain ⟨i, hi⟩ : ∃ i : Nat, Go.Lib.index l old = i := ⟨(Go.Lib.index l old).toNat, by omega⟩
  have hb : ¬ ((Go.Lib.index l old == -1) = true) := by simpa using hm
  rw [if_neg hb, hi] at hx
  have hx : Go.Lib.index (b :: l) old = ((i + 1 : Nat) : Int) := by rw [hx]; push_cast; rfl
  have e : (b :: l).drop (i + 1 + old.length) = l.drop (i + old.length) := by
   rw [show i + 1 + old.length = (i + old.length) + 1 by omega]; rfl
  have c1 := Go.Lib.count_hit h0 hx
  have c2 := Go.Lib.count_hit h0 hi
  rw [e] at c1
  rw [repl_eq hne, repl_eq hne, c1, c2, Nat.add_comm, Go.Lib.replaceK_hit _ _ _ _ _ hx, Go.Lib.replaceK_hit _ _ _ _ _ hi, e]
  rfl
theorem repl_nil {old new : List UInt8} (h0 : old ≠ []) (hne : old ≠ new) : Go.Lib.replaceAll [] old new = [] := by
 refine repl_miss hne ?_
 cases old with
 | nil => exact absurd rfl h0
 | cons c l => rfl
def dblB : List UInt8 -> List UInt8
 | [] => []
 | b :: l => if b.toNat = 34 then 34 :: 34 :: dblB l else b :: dblB l
theorem dbl_repl : ∀ s : List UInt8, Go.Lib.replaceAll s [34] [34, 34] = dblB s
 | [] => repl_nil (by decide) (by decide)
 | b :: l => by
  have ih := dbl_repl l
  unfold dblB
  by_cases h : b.toNat = 34
  ·rw [if_pos h]
   have : b = 34 := u8_eq h
   subst this
   have := repl_pre (old := [34]) (new := [34, 34]) (r := l) (by decide) (by decide)
   rw [List.singleton_append] at this
   rw [this, ih]; rfl
  ·rw [if_neg h, repl_cons (by decide) (by decide), ih]
   have : b ≠ 34 := λ e => h (by rw [e]; rfl)
   simp [List.isPrefixOf, this.symm]
def quoB (b : UInt8) : Bool := 32 <= b.toNat && b.toNat <= 126
def quoteF (s : List UInt8) : List UInt8 × Int := if s.all quoB = false then ([], 2) else if 1000 < s.length then ([], 3) else (34 :: (dblB s ++ [34]), 0)
theorem half_repl : ∀ (s r : List UInt8), Go.Lib.replaceAll (dblB s) [34, 34] [34] = s
 | [], _ => repl_nil (by decide) (by decide)
 | b :: l, r => by
  have ih := half_repl l r
  unfold dblB
  by_cases h : b.toNat = 34
  ·rw [if_pos h]
   have : b = 34 := u8_eq h
   subst this
   have := repl_pre (old := [34, 34]) (new := [34]) (r := dblB l) (by decide) (by decide)
   rw [show [34, 34] ++ dblB l = 34 :: 34 :: dblB l from rfl] at this
   rw [this, ih]; rfl
  ·rw [if_neg h, repl_cons (by decide) (by decide), ih]
   have : b ≠ 34 := λ e => h (by rw [e]; rfl)
   simp [List.isPrefixOf, this.symm]
theorem dbl_len : ∀ s : List UInt8, s.length <= (dblB s).length /\ (dblB s).length <= 2 * s.length
 | [] => ⟨Nat.le_refl _, Nat.le_refl _⟩
 | b :: l => by
  have ih := dbl_len l
  unfold dblB
  split <;> simp only [List.length_cons] <;> omega
theorem text_dbl : ∀ (s : List UInt8) (p : Nat) (acc : List UInt8), s.all quoB = true -> textL (dblB s ++ [34]) p acc (-1) = some (acc ++ s, p + (dblB s).length, -1)
 | [], p, acc, _ => by
  show textL [34] p acc (-1) = _
  unfold textL
  rw [if_neg (by decide), if_pos (by decide)]
  simp [dblB]
 | b :: l, p, acc, h => by
  rw [List.all_cons, Bool.and_eq_true] at h
  have hq := h.1
  unfold quoB at hq
  simp only [Bool.and_eq_true, decide_eq_true_eq] at hq
  unfold dblB
  by_cases h34 : b.toNat = 34
  ·have : b = 34 := u8_eq h34
   subst this
   rw [if_pos h34]
   show textL (34 :: 34 :: (dblB l ++ [34])) p acc (-1) = _
   unfold textL
   rw [if_neg (by decide), if_pos (by decide)]
   dsimp only
   rw [if_pos (by decide), text_dbl l _ _ h.2]
   simp; omega
  ·rw [if_neg h34]
   show textL (b :: (dblB l ++ [34])) p acc (-1) = _
   unfold textL
   rw [if_neg (by omega), if_neg h34]
   have hp : ¬ (plainB b = false /\ (-1 : Int) < 0) := by
    rintro ⟨hp, _⟩
    unfold plainB at hp
    simp only [Bool.or_eq_false_iff, Bool.and_eq_false_iff, decide_eq_false_iff_not] at hp
    omega
   rw [if_neg hp, text_dbl l _ _ h.2]
   simp; omega
end
end Go.Proofs.YtekioipmhhcbhaaGreatDoor
set_option maxRecDepth 20000
namespace Go.Proofs.YtekioipmhhcbhaaGreatDoor
open Go Go.Z Go.W6
noncomputable section
theorem text_neg : ∀ (n : Nat) (l : List UInt8) (p : Nat) (acc : List UInt8) (bad : Int) (b : List UInt8) (q : Nat) (z : Int), l.length <= n -> textL l p acc bad = some (b, q, z) -> 0 <= bad -> 0 <= z := by
 intro n
 induction n with
 | zero =>
  intro l p acc bad b q z h1 h2
  cases l with
  | nil => cases h2
  | cons c l => simp at h1
 | succ n ih =>
  intro l p acc bad b q z h1 h2 h3
  cases l with
  | nil => cases h2
  | cons c l =>
   simp only [List.length_cons] at h1
   unfold textL at h2
   split at h2
   ·cases h2
   ·split at h2
    ·split at h2
     ·rename_i d l'
      simp only [List.length_cons] at h1
      split at h2
      ·exact ih l' _ _ _ _ _ _ (by omega) h2 h3
      ·cases h2; exact h3
     ·cases h2; exact h3
    ·refine ih l _ _ _ _ _ _ (by omega) h2 ?_
     split
     ·omega
     ·exact h3
theorem text_back : ∀ (n : Nat) (l : List UInt8) (p : Nat) (acc b : List UInt8) (q : Nat), l.length <= n -> textL l p acc (-1) = some (b, q, -1) -> ∃ t r, b = acc ++ t /\ l = dblB t ++ 34 :: r /\ q = p + (dblB t).length /\ t.all quoB = true := by
 intro n
 induction n with
 | zero =>
  intro l p acc b q h1 h2
  cases l with
  | nil => cases h2
  | cons c l => simp at h1
 | succ n ih =>
  intro l p acc b q h1 h2
  cases l with
  | nil => cases h2
  | cons c l =>
   simp only [List.length_cons] at h1
   unfold textL at h2
   split at h2
   ·cases h2
   ·rename_i h10
    split at h2
    ·rename_i h34
     have hc : c = 34 := u8_eq h34
     subst hc
     split at h2
     ·rename_i d l'
      simp only [List.length_cons] at h1
      split at h2
      ·rename_i hd
       have hd' : d = 34 := u8_eq hd
       subst hd'
       obtain ⟨t, r, e1, e2, e3, e4⟩ := ih l' _ _ _ _ (by omega) h2
       refine ⟨34 :: t, r, by rw [e1, List.append_assoc]; rfl, ?_, ?_, ?_⟩
       ·unfold dblB; rw [if_pos hd, e2]; rfl
       ·unfold dblB; rw [if_pos hd, e3]; simp only [List.length_cons]; omega
       ·rw [List.all_cons, e4]; decide
      ·cases h2
       exact ⟨[], _, by simp, rfl, rfl, rfl⟩
     ·cases h2
      exact ⟨[], _, by simp, rfl, rfl, rfl⟩
    ·rename_i h34
     by_cases hp : plainB c = false
     ·rw [if_pos ⟨hp, by decide⟩] at h2
      have := text_neg _ _ _ _ _ _ _ _ (Nat.le_refl _) h2 (by omega)
      omega
     ·rw [if_neg (λ x => hp x.1)] at h2
      obtain ⟨t, r, e1, e2, e3, e4⟩ := ih l _ _ _ _ (by omega) h2
      refine ⟨c :: t, r, by rw [e1, List.append_assoc]; rfl, ?_, ?_, ?_⟩
      ·unfold dblB; rw [if_neg h34, e2]; rfl
      ·unfold dblB; rw [if_neg h34, e3]; simp only [List.length_cons]; omega
      ·rw [List.all_cons, e4, Bool.and_true]
       have hp : plainB c = true := by simpa using hp
       unfold plainB at hp
       unfold quoB
       simp only [Bool.or_eq_true, Bool.and_eq_true, beq_iff_eq, decide_eq_true_eq] at hp ⊢
       omega
def Quoted (s b : List UInt8) : Prop := s = 34 :: (dblB b ++ [34]) /\ b.all quoB = true /\ b.length <= 1000
def unqL (s : List UInt8) : List UInt8 × Int :=
 if s.length < 2 \/ (s.getD 0 0).toNat ≠ 34 \/ (s.getD (s.length - 1) 0).toNat ≠ 34 then ([], 2)
 else if (quoteF (Go.Lib.replaceAll (cutF s 1 (s.length - 1)) [34, 34] [34])).2 ≠ 0 \/ (quoteF (Go.Lib.replaceAll (cutF s 1 (s.length - 1)) [34, 34] [34])).1 ≠ s then ([], 2)
 else (Go.Lib.replaceAll (cutF s 1 (s.length - 1)) [34, 34] [34], 0)
def unqR (s : List UInt8) : List UInt8 × Int :=
 if s.length < 2 \/ (s.getD 0 0).toNat ≠ 34 then ([], 2)
 else match textL (s.drop 1) 1 [] (-1) with
  | none => ([], 2)
  | some (b, p, bad) => if 1000 < b.length \/ 0 <= bad \/ p + 1 ≠ s.length then ([], 2) else (b, 0)
theorem quote_ok {b : List UInt8} (h1 : b.all quoB = true) (h2 : b.length <= 1000) : quoteF b = (34 :: (dblB b ++ [34]), 0) := by
 unfold quoteF
 rw [h1, if_neg (by simp), if_neg (by omega)]
theorem quote_back {b s : List UInt8} (h1 : (quoteF b).2 = 0) (h2 : (quoteF b).1 = s) : Quoted s b := by
 unfold quoteF at h1 h2
 split at h1
 ·cases h1
 ·rename_i hq
  rw [if_neg hq] at h2
  split at h1
  ·cases h1
  ·rename_i hl
   rw [if_neg hl] at h2
   exact ⟨h2.symm, by simpa using hq, by omega⟩
theorem quoted_len {s b : List UInt8} (h : Quoted s b) : 2 <= s.length /\ s.length = (dblB b).length + 2 /\ (s.getD 0 0).toNat = 34 /\ (s.getD (s.length - 1) 0).toNat = 34 /\ s.drop 1 = dblB b ++ [34] /\ cutF s 1 (s.length - 1) = dblB b := by
 have hs := h.1
 subst hs
 refine ⟨by simp, by simp, rfl, ?_, rfl, ?_⟩
 ·rw [show (34 :: (dblB b ++ [34])).length - 1 = (dblB b).length + 1 by simp, List.getD_cons_succ, List.getD_eq_getElem?_getD, List.getElem?_append_right (Nat.le_refl _), Nat.sub_self]
  rfl
 ·rw [show (34 :: (dblB b ++ [34])).length - 1 = (dblB b).length + 1 by simp]
  unfold cutF
  rw [List.take_succ_cons, List.drop_succ_cons, List.drop_zero, List.take_left']
  rfl
theorem unqL_yes {s b : List UInt8} (h : Quoted s b) : unqL s = (b, 0) := by
 obtain ⟨l1, l2, l3, l4, l5, l6⟩ := quoted_len h
 unfold unqL
 rw [if_neg (by omega), l6, half_repl b [], quote_ok h.2.1 h.2.2]
 rw [if_neg]
 rintro (h1 | h1)
 ·exact h1 rfl
 ·exact h1 h.1.symm
theorem unqL_no {s : List UInt8} (h : ∀ b, ¬ Quoted s b) : unqL s = ([], 2) := by
 unfold unqL
 split
 ·rfl
 ·split
  ·rfl
  ·rename_i h1 h2
   exact absurd (quote_back (by by_cases e : (quoteF (Go.Lib.replaceAll (cutF s 1 (s.length - 1)) [34, 34] [34])).2 = 0; exact e; exact absurd (.inl e) h2) (by by_cases e : (quoteF (Go.Lib.replaceAll (cutF s 1 (s.length - 1)) [34, 34] [34])).1 = s; exact e; exact absurd (.inr e) h2)) (h _)
theorem unqR_yes {s b : List UInt8} (h : Quoted s b) : unqR s = (b, 0) := by
 obtain ⟨l1, l2, l3, l4, l5, l6⟩ := quoted_len h
 unfold unqR
 rw [if_neg (by omega), l5, text_dbl b _ _ h.2.1]
 have := h.2.2
 dsimp only
 rw [List.nil_append, if_neg (by omega)]
theorem unqR_no {s : List UInt8} (h : ∀ b, ¬ Quoted s b) : unqR s = ([], 2) := by
 unfold unqR
 split
 ·rfl
 ·rename_i h1
  split
  ·rfl
  ·rename_i b p bad hT
   split
   ·rfl
   ·rename_i h2
    exfalso
    have hz := zjo _ _ _ _ _ _ _ hT
    have hb : bad = -1 := by have := hz.2.2 (by decide) (by decide); omega
    subst hb
    obtain ⟨t, r, e1, e2, e3, e4⟩ := text_back _ _ _ _ _ _ (Nat.le_refl _) hT
    rw [List.nil_append] at e1
    subst e1
    have hd := zxr (s := s) (p := 0) (by omega)
    rw [List.drop_zero, e2] at hd
    have hc : s.getD 0 0 = 34 := u8_eq (by show (s.getD 0 0).toNat = 34; omega)
    rw [hc] at hd
    have hl : s.length = (dblB b).length + 2 + r.length := by rw [hd]; simp; omega
    have hr : r = [] := List.eq_nil_of_length_eq_zero (by omega)
    rw [hr] at hd
    exact h b ⟨hd, e4, by omega⟩
theorem unq_same (s : List UInt8) : unqL s = unqR s := by
 by_cases h : ∃ b, Quoted s b
 ·obtain ⟨b, h⟩ := h
  rw [unqL_yes h, unqR_yes h]
 ·have h : ∀ b, ¬ Quoted s b := λ b hb => h ⟨b, hb⟩
  rw [unqL_no h, unqR_no h]
end
end Go.Proofs.YtekioipmhhcbhaaGreatDoor
