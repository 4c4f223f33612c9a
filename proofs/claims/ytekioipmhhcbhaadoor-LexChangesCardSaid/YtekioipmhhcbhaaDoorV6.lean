/- Lists of tokens that are equal: slices.Equal, the law's own comparison; tokens alike: lex.Same of single tokens. -/
import Derived.Test.YtekioipmhhcbhaaDoorV5
set_option linter.unusedVariables false
set_option linter.unusedSectionVars false
set_option linter.unusedSimpArgs false
set_option maxRecDepth 100000
set_option maxHeartbeats 4000000
namespace Go.Proofs.YtekioipmhhcbhaaDoor
open Go Go.Z Go.Q Go.W6
open Go.Y hiding KE KK KR go Task go_sound
noncomputable section
theorem nT {p : Prop} [Decidable p] (h : (!decide p) = true) : ¬ p := by simpa using h
theorem nF {p : Prop} [Decidable p] (h : (!decide p) = false) : p := by simpa using h
def eqR (a b : List V) : Bool := and (decide (vI (a.getD 0 .und) = vI (b.getD 0 .und))) (and (decide (vS (a.getD 1 .und) = vS (b.getD 1 .und))) (and (decide (vI (a.getD 2 .und) = vI (b.getD 2 .und))) (and (decide (vI (a.getD 3 .und) = vI (b.getD 3 .und))) (and (decide (vI (a.getD 4 .und) = vI (b.getD 4 .und))) (and (decide (vI (a.getD 5 .und) = vI (b.getD 5 .und))) true)))))
theorem eqR_self (a : List V) : eqR a a = true := by simp [eqR]
def sameR (a b : List V) : Bool := and (decide (vI (a.getD 0 .und) = vI (b.getD 0 .und))) (decide (vS (a.getD 1 .und) = vS (b.getD 1 .und)))
abbrev tokC (xs : List (List V)) : Chunk := .rowsO xs shTok 34
abbrev ts25 : List Nat := [0, 1, 5]
def le25 (n : Nat) (i : Int) : List V := [.ssl 0 0 n 6, .ssl 1 0 n 6, .sint .i64 i]
def l25 (fi : FI) (ds : List DV) (env : Tr V) (hp : Mem) (k : KK) : Prop := atV 26 2 [0, 1] [] fi ds hp λ rc => match pk ts25 env, hp.t.get 0, hp.t.get 1 with
 | [some (.ssl 0 0 n 6), some (.ssl 1 0 m 6), some v], some (.rowsO xs sh t0), some (.rowsO ys sh1 t1) => match int64 v with
  | some i => (i = 0 /\ sh = shTok /\ sh1 = shTok /\ t0 = 34 /\ t1 = 34 /\ xs = ys /\ n = xs.length /\ m = xs.length /\ n <= 30000) /\ k (.exit 0) [] (ofE (ts25.zip (le25 n n))) ⟨2, ofM ([0, 1].zip [tokC xs, tokC xs] ++ [].zip rc), hp.ro⟩
  | none => False
 | _, _, _ => False
theorem l25_ok {gv gf gl} : ∀ fi ds env hp k, l25 fi ds env hp k -> TaskOk Tryd.prog ⟨gv, gf, gl⟩ (.code fi (.loop (lp Tryd.prog 25 0)) ds env hp k) := by
 intro fi ds env hp k h
 obtain ⟨rfl, rfl, hn, hlk, rc, hrc, h⟩ := zjM h
 split at h
 ·rename_i n m v xs sh t0 ys sh1 t1 hT g0 g1
  split at h
  ·rename_i i e0
   obtain ⟨⟨rfl, rfl, rfl, rfl, rfl, rfl, rfl, rfl, hb⟩, hk⟩ := h
   obtain ⟨n', ht, hro⟩ := hp
   dsimp only at hn hlk hrc hk g0 g1
   subst hn
   refine zxQ ts25 [0, 1] [0, 1] [] rc 2 (λ x : Nat => le25 xs.length x) (λ _ => [some (tokC xs), some (tokC xs)]) (λ x => x <= xs.length) (λ x => xs.length - x) 0 (Nat.zero_le _) rfl rfl rfl (Nat.le_refl 2) hlk rfl rfl (λ x => rfl) (λ x => rfl) ?_ ⟨⟨_, g0, zqb _⟩, ⟨_, g1, zqb _⟩, trivial⟩ hrc ?_
   ·rw [hT]
    exact ⟨zqa _, zqa _, zqj e0, trivial⟩
   ·intro x hx
    refine zqX (gf' := []) (gl' := []) ?_
    refine go_sound (G := nilG) qmix qNG zqh (zqL rfl) (zqD rfl) 100 _ ?_
    refine ⟨trivial, trivial, λ h => ?_, λ h => ?_⟩
    ·have h : (x : Int) < xs.length := of_decide_eq_true h
     have hb : (0 : Int) <= (x : Int) /\ (x : Int) < (xs.length : Nat) := ⟨by omega, h⟩
     have hi : 0 + (x : Int).toNat < xs.length := by omega
     refine ⟨hb, hi, hb, hi, trivial, λ g => ?_, λ g => ⟨⟨(by omega : (-9223372036854775808 : Int) <= (x : Int) + 1), (by omega : (x : Int) + 1 <= 9223372036854775807)⟩, ?_⟩⟩
     ·have g : (!eqR (xs.getD (0 + (x : Int).toNat) []) (xs.getD (0 + (x : Int).toNat) [])) = true := g
      rw [eqR_self] at g; cases g
     ·exact ⟨x + 1, [0, 1], (by omega : x + 1 <= xs.length), (by omega : xs.length - (x + 1) < xs.length - x), Nat.le_refl 2, rfl, ⟨zqa _, zqa _, ⟨rfl, by push_cast; rfl⟩, trivial⟩, ⟨_, rfl, zqb _⟩, ⟨_, rfl, zqb _⟩, trivial⟩
    ·have h : ¬ (x : Int) < xs.length := of_decide_eq_false h
     obtain rfl : x = xs.length := by omega
     exact ⟨le25 xs.length xs.length, [0, 1], [tokC xs, tokC xs], Nat.le_refl 2, rfl, rfl, ⟨zqa _, zqa _, zqa _, trivial⟩, ⟨⟨_, rfl, zqb _⟩, ⟨_, rfl, zqb _⟩, trivial⟩, hk⟩
  ·exact h.elim
 ·exact h.elim
abbrev ts41 : List Nat := [0, 1, 12, 13]
def le41 (n : Nat) (i : Int) : List V := [.ssl 0 0 n 6, .ssl 1 0 n 6, .sint .i64 n, .sint .i64 i]
def l41 (fi : FI) (ds : List DV) (env : Tr V) (hp : Mem) (k : KK) : Prop := atV 26 2 [0, 1] [] fi ds hp λ rc => match pk ts41 env, hp.t.get 0, hp.t.get 1 with
 | [some (.ssl 0 0 n 6), some (.ssl 1 0 m 6), some w, some v], some (.rowsO xs sh t0), some (.rowsO ys sh1 t1) => match int64 v, int64 w with
  | some i, some j => (i = 0 /\ j = (n : Int) /\ sh = shTok /\ sh1 = shTok /\ t0 = 34 /\ t1 = 34 /\ xs = ys /\ n = xs.length /\ m = xs.length /\ n <= 30000) /\ k (.exit 0) [] (ofE (ts41.zip (le41 n n))) ⟨2, ofM ([0, 1].zip [tokC xs, tokC xs] ++ [].zip rc), hp.ro⟩
  | _, _ => False
 | _, _, _ => False
theorem l41_ok {gv gf gl} : ∀ fi ds env hp k, l41 fi ds env hp k -> TaskOk Tryd.prog ⟨gv, gf, gl⟩ (.code fi (.loop (lp Tryd.prog 41 0)) ds env hp k) := by
 intro fi ds env hp k h
 obtain ⟨rfl, rfl, hn, hlk, rc, hrc, h⟩ := zjM h
 split at h
 ·rename_i n m w v xs sh t0 ys sh1 t1 hT g0 g1
  split at h
  ·rename_i i j e0 e1
   obtain ⟨⟨rfl, rfl, rfl, rfl, rfl, rfl, rfl, rfl, rfl, hb⟩, hk⟩ := h
   obtain ⟨n', ht, hro⟩ := hp
   dsimp only at hn hlk hrc hk g0 g1
   subst hn
   refine zxQ ts41 [0, 1] [0, 1] [] rc 2 (λ x : Nat => le41 xs.length x) (λ _ => [some (tokC xs), some (tokC xs)]) (λ x => x <= xs.length) (λ x => xs.length - x) 0 (Nat.zero_le _) rfl rfl rfl (Nat.le_refl 2) hlk rfl rfl (λ x => rfl) (λ x => rfl) ?_ ⟨⟨_, g0, zqb _⟩, ⟨_, g1, zqb _⟩, trivial⟩ hrc ?_
   ·rw [hT]
    exact ⟨zqa _, zqa _, zqj e1, zqj e0, trivial⟩
   ·intro x hx
    refine zqX (gf' := []) (gl' := []) ?_
    refine go_sound (G := nilG) qmix qNG zqh (zqL rfl) (zqD rfl) 100 _ ?_
    refine ⟨trivial, λ h => ?_, λ h => ?_⟩
    ·have h : (x : Int) < xs.length := of_decide_eq_true h
     have hb : (0 : Int) <= (x : Int) /\ (x : Int) < (xs.length : Nat) := ⟨by omega, h⟩
     have hi : 0 + (x : Int).toNat < xs.length := by omega
     refine ⟨hb, hi, hb, hi, trivial, λ g => ?_, λ g => ⟨⟨(by omega : (-9223372036854775808 : Int) <= (x : Int) + 1), (by omega : (x : Int) + 1 <= 9223372036854775807)⟩, ?_⟩⟩
     ·have g : (!eqR (xs.getD (0 + (x : Int).toNat) []) (xs.getD (0 + (x : Int).toNat) [])) = true := g
      rw [eqR_self] at g; cases g
     ·exact ⟨x + 1, [0, 1], (by omega : x + 1 <= xs.length), (by omega : xs.length - (x + 1) < xs.length - x), Nat.le_refl 2, rfl, ⟨zqa _, zqa _, zqa _, ⟨rfl, by push_cast; rfl⟩, trivial⟩, ⟨_, rfl, zqb _⟩, ⟨_, rfl, zqb _⟩, trivial⟩
    ·have h : ¬ (x : Int) < xs.length := of_decide_eq_false h
     obtain rfl : x = xs.length := by omega
     exact ⟨le41 xs.length xs.length, [0, 1], [tokC xs, tokC xs], Nat.le_refl 2, rfl, rfl, ⟨zqa _, zqa _, zqa _, zqa _, trivial⟩, ⟨⟨_, rfl, zqb _⟩, ⟨_, rfl, zqb _⟩, trivial⟩, hk⟩
  ·exact h.elim
 ·exact h.elim
def kEq2 (xs : List (List V)) : E -> List (Option Chunk) -> Prop := λ e cs => cs = [some (tokC xs), some (tokC xs)] /\ e = .ret (.bool true)
theorem tokens_run (xs : List (List V)) (hL : xs.length <= 30000) : TaskOk Tryd.prog ⟨⟨.nil, [], []⟩, [], [(26004, lp Tryd.prog 25 0, l25)]⟩ (.call 25 [.ssl 0 0 xs.length 6, .ssl 1 0 xs.length 6] ⟨2, ofMo ([0, 1].zip [some (tokC xs), some (tokC xs)]), []⟩ (cutE [0, 1] (cN [0, 1] [true, true] (kEq2 xs)))) := by
 refine go_sound qmix qNG zqh (zqL rfl) (ls_one rfl l25_ok) 100 _ ?_
 refine ⟨trivial, trivial, trivial, λ h => absurd rfl (nT h), λ h => ⟨rfl, ⟨rfl, rfl, rfl, rfl, rfl, rfl, rfl, rfl, hL⟩, ?_⟩⟩
 exact ⟨.ret (.bool true), [some (tokC xs), some (tokC xs)], rfl, rfl, ⟨zqb _, zqb _, trivial⟩, rfl, rfl, rfl, rfl⟩
theorem equal_run (xs : List (List V)) (hL : xs.length <= 30000) : TaskOk Tryd.prog ⟨⟨.nil, [], []⟩, [], [(26004, lp Tryd.prog 41 0, l41)]⟩ (.call 41 [.ssl 0 0 xs.length 6, .ssl 1 0 xs.length 6] ⟨2, ofMo ([0, 1].zip [some (tokC xs), some (tokC xs)]), []⟩ (cutE [0, 1] (cN [0, 1] [true, true] (kEq2 xs)))) := by
 refine go_sound qmix qNG zqh (zqL rfl) (ls_one rfl l41_ok) 100 _ ?_
 refine ⟨trivial, trivial, trivial, λ h => absurd rfl (nT h), λ h => ⟨trivial, rfl, ⟨rfl, rfl, rfl, rfl, rfl, rfl, rfl, rfl, rfl, hL⟩, ?_⟩⟩
 exact ⟨.ret (.bool true), [some (tokC xs), some (tokC xs)], rfl, rfl, ⟨zqb _, zqb _, trivial⟩, rfl, rfl, rfl, rfl⟩
def sEq2 (args : List V) (hp : Mem) (k : KE) : Prop := match args with
 | [.ssl a 0 n 6, .ssl b 0 m 6] => match hp.t.get a, hp.t.get b, below hp.n [a, b], nodupB [a, b], noLk [a, b] hp.ro with
  | some (.rowsO xs sh t0), some (.rowsO ys sh1 t1), true, true, true => (sh = shTok /\ sh1 = shTok /\ t0 = 34 /\ t1 = 34 /\ ys = xs /\ n = xs.length /\ m = xs.length /\ n <= 30000) /\
    k (.ret (.bool true)) ⟨hp.n, Tr.set 20 (Tr.set 20 hp.t b (some (tokC xs))) a (some (tokC xs)), hp.ro⟩
  | _, _, _, _, _ => False
 | _ => False
theorem eq2_ok {G : GQ} {f : Nat} {l0 : List (Nat × Code × (FI -> List DV -> Tr V -> Mem -> KK -> Prop))} (hr : ∀ xs : List (List V), xs.length <= 30000 -> TaskOk Tryd.prog ⟨⟨.nil, [], []⟩, [], l0⟩ (.call f [.ssl 0 0 xs.length 6, .ssl 1 0 xs.length 6] ⟨2, ofMo ([0, 1].zip [some (tokC xs), some (tokC xs)]), []⟩ (cutE [0, 1] (cN [0, 1] [true, true] (kEq2 xs))))) :
  ∀ args hp k, sEq2 args hp k -> TaskOk Tryd.prog G (.call f args hp k) := by
 intro args hp k h
 unfold sEq2 at h
 split at h
 ·rename_i a n b m
  split at h
  ·rename_i xs sh t0 ys sh1 t1 ga gb hb hd hlk
   obtain ⟨⟨rfl, rfl, rfl, rfl, rfl, rfl, rfl, hL⟩, hk⟩ := h
   refine call_fr 2 [0, 1] [a, b] [some (tokC ys), some (tokC ys)] (kEq2 ys) (hr ys hL) rfl (args0 := [.ssl 0 0 ys.length 6, .ssl 1 0 ys.length 6]) ⟨zqa _, zqa _, trivial⟩ rfl rfl rfl hb rfl hd rfl ⟨⟨_, ga, zqb _⟩, ⟨_, gb, zqb _⟩, trivial⟩ hlk ?_ ?_
   ·intro ρ W hH i hi
    have get : ∀ {i c}, hp.t.get i = some c -> ∃ x, ρ i = some x := λ {i c} hg => by
     obtain ⟨b, o, _, h2⟩ := hH.rel i _ hg
     obtain ⟨c, h3⟩ := h2.at
     exact ⟨_, h3⟩
    rcases List.mem_cons.1 hi with rfl | hi
    ·exact get ga
    ·rw [List.mem_singleton.1 hi]; exact get gb
   ·rintro e cs' ⟨rfl, rfl⟩
    exact hk
  ·exact h.elim
 ·exact h.elim
end
end Go.Proofs.YtekioipmhhcbhaaDoor
namespace Go.Proofs.YtekioipmhhcbhaaDoor
open Go Go.Z Go.Q Go.W6
open Go.Y hiding KE KK KR go Task go_sound
noncomputable section
theorem lc_up (s : List UInt8) (i : Nat) : (lc s i).1 <= (lc s (i + 1)).1 := by
 rw [zjq]; split
 ·exact Nat.le_succ _
 ·exact Nat.le_refl _
theorem lc_mono (s : List UInt8) {i j : Nat} (h : i <= j) : (lc s i).1 <= (lc s j).1 := by
 induction h with
 | refl => exact Nat.le_refl _
 | step h ih => exact Nat.le_trans ih (lc_up s _)
theorem lc_flat {s : List UInt8} {i j : Nat} (hij : i <= j) (h : ∀ k, i <= k -> k < j -> (s.getD k 0).toNat ≠ 10) : (lc s j).1 = (lc s i).1 := by
 induction hij with
 | refl => rfl
 | @step m hm ih =>
  have hm' : i <= m := hm
  rw [zjq, if_neg (h m hm' (Nat.lt_succ_self _))]
  exact ih λ k h1 h2 => h k h1 (by omega)
theorem last_nl : ∀ A : List UInt8, (∀ c ∈ A, c.toNat ≠ 10) \/ ∃ a r, A = a ++ 10 :: r /\ ∀ c ∈ r, c.toNat ≠ 10
 | [] => .inl λ c h => by cases h
 | c :: A => by
  rcases last_nl A with h | ⟨a, r, rfl, h⟩
  ·by_cases e : c.toNat = 10
   ·exact .inr ⟨[], A, by rw [show c = 10 from UInt8.toNat_inj.1 e]; rfl, h⟩
   ·refine .inl λ d hd => ?_
    rcases List.mem_cons.1 hd with rfl | hd
    ·exact e
    ·exact h d hd
  ·exact .inr ⟨c :: a, r, rfl, h⟩
theorem first_nl : ∀ Z : List UInt8, (∀ c ∈ Z, c.toNat ≠ 10) \/ ∃ q d, Z = q ++ 10 :: d /\ ∀ c ∈ q, c.toNat ≠ 10
 | [] => .inl λ c h => by cases h
 | c :: Z => by
  by_cases e : c.toNat = 10
  ·exact .inr ⟨[], Z, by rw [show c = 10 from UInt8.toNat_inj.1 e]; rfl, λ c h => by cases h⟩
  ·rcases first_nl Z with h | ⟨q, d, rfl, h⟩
   ·refine .inl λ d hd => ?_
    rcases List.mem_cons.1 hd with rfl | hd
    ·exact e
    ·exact h d hd
   ·refine .inr ⟨c :: q, d, rfl, λ x hx => ?_⟩
    rcases List.mem_cons.1 hx with rfl | hx
    ·exact e
    ·exact h x hx
theorem getD_ne {l : List UInt8} (h : ∀ c ∈ l, c.toNat ≠ 10) (i : Nat) : (l.getD i 0).toNat ≠ 10 := by
 rcases Nat.lt_or_ge i l.length with hi | hi
 ·rw [List.getD_eq_getElem?_getD, List.getElem?_eq_getElem hi]; exact h _ (List.getElem_mem hi)
 ·rw [List.getD_eq_getElem?_getD, List.getElem?_eq_none hi]; decide
theorem zjp {a b : List UInt8} (hl : a.length + 1 + b.length < 6000) (h : (scanF (a ++ 10 :: b)).2.2 = 0) : ∃ x y, (scanF (a ++ 10 :: b)).1 = x ++ y.map (mvTok (a.length + 1)) /\ Lie a x /\ Lie b y /\ (∃ r, scanF a = (x, r)) /\ ∃ r, scanF b = (y, r) := by
 have h4 := scanF_eq (a ++ 10 :: b)
 rw [if_neg (by simp; omega)] at h4
 rcases zjk (s := a) (by omega) with ⟨x, h1, h2, _, h10⟩ | ⟨p, e, h1, h2, _, _, h3⟩
 ·rcases zjk (s := b) (by omega) with ⟨y, h5, h6, _, h8⟩ | ⟨q, f, h5, h6, _, _, h8⟩
  ·rw [pieces_done hl h1, h5] at h4
   exact ⟨x, y, by rw [h4]; rfl, h10, h8, ⟨_, h2⟩, _, h6⟩
  ·rw [pieces_done hl h1, h5] at h4
   rw [h4] at h
   exact absurd h h8
 ·rw [pieces_err h1] at h4
  rw [h4] at h
  exact absurd h h3
theorem pre_suf_len {α : Type} (P : α -> Bool) {p u q v : List α} (h : p ++ u = q ++ v) (hp : ∀ t ∈ p, P t = true) (hv : ∀ t ∈ v, P t = false) : p.length + v.length <= (q ++ v).length := by
 have h1 : p.countP P = p.length := List.countP_eq_length.2 hp
 have h2 : v.countP P = 0 := List.countP_eq_zero.2 λ t ht => by rw [hv t ht]; simp
 have h3 := congrArg (List.countP P) h
 rw [List.countP_append, List.countP_append, h1, h2] at h3
 have h4 := List.countP_le_length (p := P) (l := q)
 rw [List.length_append]
 omega
def cntP (p : Int -> Bool) (xs : List (List V)) : Nat := xs.countP λ r => p (vI (r.getD 4 .und))
theorem cntP_map (p : Int -> Bool) (s : List UInt8) (X : List Tok) : cntP p (X.map (rowTok s)) = X.countP λ t => p (lc s t.at_).1 := by
 unfold cntP; rw [List.countP_map]; rfl
def preP (xs ys : List (List V)) (b : Nat) : Prop := b <= min xs.length ys.length /\ (∀ j, j < b -> eqR (xs.getD j []) (ys.getD j []) = true) /\ (b = min xs.length ys.length \/ eqR (xs.getD b []) (ys.getD b []) = false)
def sufP (xs ys : List (List V)) (b e : Nat) : Prop := e <= min xs.length ys.length - b /\ (∀ j, j < e -> sameR (xs.getD (xs.length - 1 - j) []) (ys.getD (ys.length - 1 - j) []) = true) /\ (e = min xs.length ys.length - b \/ sameR (xs.getD (xs.length - 1 - e) []) (ys.getD (ys.length - 1 - e) []) = false)
theorem ahead {s t : List UInt8} {i : Nat} (hi : i <= s.length) (hs : s.length <= 4000) (ht : t.length <= 4000) (hst : s.take i = t.take i) (hit : i <= t.length) (e1 : (scanF s).2.2 = 0) (e2 : (scanF t).2.2 = 0) :
  ∃ x u v, (scanF s).1 = x ++ u /\ (scanF t).1 = x ++ v /\ (∀ k ∈ x, k.at_ < i) /\ (∀ j, j < x.length -> ((scanF s).1.map (rowTok s)).getD j [] = ((scanF t).1.map (rowTok t)).getD j []) /\ cntP (λ l => decide (l < (lc s i).1)) ((scanF s).1.map (rowTok s)) = x.length := by
 rcases last_nl (s.take i) with h | ⟨a, r, e, h⟩
 ·refine ⟨[], _, _, rfl, rfl, λ k hk => by (cases hk), λ j hj => absurd hj (Nat.not_lt_zero _), ?_⟩
  rw [cntP_map]
  refine List.countP_eq_zero.2 λ k hk => ?_
  have h1 : (lc s i).1 = 1 := by
   rw [lc_flat (i := 0) (Nat.zero_le i) λ k _ hk => ?_]
   ·rfl
   ·have := getD_ne h k
    rwa [List.getD_eq_getElem?_getD, List.getElem?_take_of_lt hk, <- List.getD_eq_getElem?_getD] at this
  have := (lc_le s k.at_).1
  simp only [decide_eq_true_eq]
  omega
 ·have el : i = a.length + 1 + r.length := by
   have := congrArg List.length e
   rw [List.length_take, Nat.min_eq_left hi] at this
   simp at this; omega
  have es : s = a ++ 10 :: (r ++ s.drop i) := by
   have := List.take_append_drop i s
   rw [e, List.append_assoc] at this
   exact this.symm
  have et : t = a ++ 10 :: (r ++ t.drop i) := by
   have := List.take_append_drop i t
   rw [<- hst, e, List.append_assoc] at this
   exact this.symm
  generalize s.drop i = sd at es
  generalize t.drop i = td at et
  subst es et
  have l1 : a.length + 1 + (r ++ sd).length < 6000 := by simp at hs ⊢; omega
  have l2 : a.length + 1 + (r ++ td).length < 6000 := by simp at ht ⊢; omega
  obtain ⟨x, y, h1, h2, h3, ⟨z1, h4⟩, _⟩ := zjp l1 e1
  obtain ⟨x', y', h1', _, _, ⟨z2, h4'⟩, _⟩ := zjp l2 e2
  rw [h4] at h4'
  cases h4'
  have hf : (lc (a ++ 10 :: (r ++ sd)) i).1 = (lc a a.length).1 + 1 := by
   rw [el, lc_suf]
   show _ + (lc (r ++ sd) r.length).1 = _
   rw [lc_pre _ (Nat.le_refl _), lc_flat (i := 0) (Nat.zero_le _) λ k _ hk => getD_ne h k]
   rfl
  refine ⟨x, _, _, h1, h1', λ k hk => by have := h2 k hk; omega, λ j hj => ?_, ?_⟩
  ·rw [h1, h1', rows_pre hj h2, rows_pre hj h2]
  ·rw [cntP_map, h1, List.countP_append, hf]
   have c1 : x.countP (λ k => decide (((lc (a ++ 10 :: (r ++ sd)) k.at_).1 : Int) < ((lc a a.length).1 + 1 : Nat))) = x.length := List.countP_eq_length.2 λ k hk => by
    have := h2 k hk
    rw [lc_pre _ (by omega)]
    have := lc_mono a (i := k.at_) (j := a.length) (by omega)
    simp only [decide_eq_true_eq]; omega
   have c2 : (y.map (mvTok (a.length + 1))).countP (λ k => decide (((lc (a ++ 10 :: (r ++ sd)) k.at_).1 : Int) < ((lc a a.length).1 + 1 : Nat))) = 0 := List.countP_eq_zero.2 λ k hk => by
    obtain ⟨k', _, rfl⟩ := List.mem_map.1 hk
    show ¬ decide (((lc (a ++ 10 :: (r ++ sd)) (a.length + 1 + k'.at_)).1 : Int) < _) = true
    rw [lc_suf]
    have := (lc_le (r ++ sd) k'.at_).1
    simp only [decide_eq_true_eq]; omega
   rw [c1, c2]; rfl
theorem behind {c c1 d : List UInt8} (hs : c.length + 1 + d.length <= 4000) (ht : c1.length + 1 + d.length <= 4000) (e1 : (scanF (c ++ 10 :: d)).2.2 = 0) (e2 : (scanF (c1 ++ 10 :: d)).2.2 = 0) :
  ∃ u v y y', (scanF (c ++ 10 :: d)).1 = u ++ y /\ (scanF (c1 ++ 10 :: d)).1 = v ++ y' /\ y'.length = y.length /\ (∀ k ∈ y, c.length < k.at_) /\ (∀ k ∈ y', c1.length < k.at_) /\
   (∀ j, j < y.length -> sameR (((scanF (c ++ 10 :: d)).1.map (rowTok (c ++ 10 :: d))).getD ((scanF (c ++ 10 :: d)).1.length - 1 - j) []) (((scanF (c1 ++ 10 :: d)).1.map (rowTok (c1 ++ 10 :: d))).getD ((scanF (c1 ++ 10 :: d)).1.length - 1 - j) []) = true) /\
   cntP (λ l => decide (((lc c c.length).1 : Int) < l)) ((scanF (c ++ 10 :: d)).1.map (rowTok (c ++ 10 :: d))) = y.length := by
 obtain ⟨x, y, h1, h2, h3, _, ⟨z1, h4⟩⟩ := zjp (a := c) (b := d) (by omega) e1
 obtain ⟨x', y', h1', _, _, _, ⟨z2, h4'⟩⟩ := zjp (a := c1) (b := d) (by omega) e2
 rw [h4] at h4'
 cases h4'
 refine ⟨x, x', _, _, h1, h1', by simp, λ k hk => ?_, λ k hk => ?_, λ j hj => ?_, ?_⟩
 ·obtain ⟨k', _, rfl⟩ := List.mem_map.1 hk
  show c.length < c.length + 1 + k'.at_; omega
 ·obtain ⟨k', _, rfl⟩ := List.mem_map.1 hk
  show c1.length < c1.length + 1 + k'.at_; omega
 ·rw [List.length_map] at hj
  rw [h1, h1']
  have a1 : (x ++ y.map (mvTok (c.length + 1))).length - 1 - j = x.length + (y.length - 1 - j) := by simp; omega
  have a2 : (x' ++ y.map (mvTok (c1.length + 1))).length - 1 - j = x'.length + (y.length - 1 - j) := by simp; omega
  rw [a1, a2, rows_suf (by omega), rows_suf (by omega), zkw (by omega)]
  simp [sameR, mvRow, rowTok, vI, vS]
 ·rw [cntP_map, h1, List.countP_append]
  have c1 : x.countP (λ k => decide (((lc c c.length).1 : Int) < (lc (c ++ 10 :: d) k.at_).1)) = 0 := List.countP_eq_zero.2 λ k hk => by
   have := h2 k hk
   rw [lc_pre _ (by omega)]
   have := lc_mono c (i := k.at_) (j := c.length) (by omega)
   simp only [decide_eq_true_eq]; omega
  have c2 : (y.map (mvTok (c.length + 1))).countP (λ k => decide (((lc c c.length).1 : Int) < (lc (c ++ 10 :: d) k.at_).1)) = (y.map (mvTok (c.length + 1))).length := List.countP_eq_length.2 λ k hk => by
   obtain ⟨k', _, rfl⟩ := List.mem_map.1 hk
   show decide (_ < ((lc (c ++ 10 :: d) (c.length + 1 + k'.at_)).1 : Int)) = true
   rw [lc_suf]
   have := (lc_le d k'.at_).1
   simp only [decide_eq_true_eq]; omega
  rw [c1, c2]; simp
theorem ch_law {s put : List UInt8} {i g : Nat} (hi : i + g <= s.length) (hs : s.length <= 2000) (hp : put.length <= 2000) (e1 : (scanF s).2.2 = 0) (e2 : (scanF (s.take i ++ put ++ s.drop (i + g))).2.2 = 0) {b e : Nat}
  (hb : preP ((scanF s).1.map (rowTok s)) ((scanF (s.take i ++ put ++ s.drop (i + g))).1.map (rowTok (s.take i ++ put ++ s.drop (i + g)))) b) (he : sufP ((scanF s).1.map (rowTok s)) ((scanF (s.take i ++ put ++ s.drop (i + g))).1.map (rowTok (s.take i ++ put ++ s.drop (i + g)))) b e) :
  cntP (λ l => decide (l < (lc s i).1)) ((scanF s).1.map (rowTok s)) <= b /\ cntP (λ l => decide (l < (lc s i).1)) ((scanF s).1.map (rowTok s)) + cntP (λ l => decide (((lc s (i + g)).1 : Int) < l)) ((scanF s).1.map (rowTok s)) <= b + e := by
 obtain ⟨b1, b2, b3⟩ := hb
 obtain ⟨f1, f2, f3⟩ := he
 have hil : (s.take i).length = i := by rw [List.length_take]; omega
 have hlen : (s.take i ++ put ++ s.drop (i + g)).length <= 4000 := by simp; omega
 obtain ⟨x, u, v, x1, x2, x3, x4, x5⟩ := ahead (s := s) (t := s.take i ++ put ++ s.drop (i + g)) (i := i) (by omega) (by omega) hlen (by rw [List.append_assoc, List.take_left' hil]) (by simp; omega) e1 e2
 have n1 : ((scanF s).1.map (rowTok s)).length = x.length + u.length := by rw [List.length_map, x1, List.length_append]
 have n2 : ((scanF (s.take i ++ put ++ s.drop (i + g))).1.map (rowTok (s.take i ++ put ++ s.drop (i + g)))).length = x.length + v.length := by rw [List.length_map, x2, List.length_append]
 have hxb : x.length <= b := by
  rcases Nat.lt_or_ge b x.length with h | h
  ·exfalso
   rcases b3 with b3 | b3
   ·omega
   ·rw [x4 b h, eqR_self] at b3; cases b3
  ·exact h
 rw [x5]
 refine ⟨hxb, ?_⟩
 rcases first_nl (s.drop (i + g)) with h | ⟨q, d, eq, h⟩
 ·have : cntP (λ l => decide (((lc s (i + g)).1 : Int) < l)) ((scanF s).1.map (rowTok s)) = 0 := by
   rw [cntP_map]
   refine List.countP_eq_zero.2 λ k hk => ?_
   have hk2 : k.at_ <= s.length := by
    rcases zjk (s := s) (by omega) with ⟨z, _, hz, _, hl⟩ | ⟨p, e, _, hz, _⟩
    ·rw [hz] at hk; have := hl k hk; omega
    ·rw [hz] at hk; cases hk
   have h1 := lc_mono s (i := k.at_) (j := s.length) hk2
   have h2 : (lc s s.length).1 = (lc s (i + g)).1 := lc_flat hi λ j h1 h2 => by
    have := getD_ne h (j - (i + g))
    rw [drop_getD] at this
    rwa [show i + g + (j - (i + g)) = j by omega] at this
   simp only [decide_eq_true_eq]; omega
  rw [this]; omega
 ·have es : s = (s.take (i + g) ++ q) ++ 10 :: d := by
   have := List.take_append_drop (i + g) s
   rw [eq] at this
   rw [<- List.append_assoc] at this
   exact this.symm
  have et : s.take i ++ put ++ s.drop (i + g) = (s.take i ++ put ++ q) ++ 10 :: d := by rw [eq]; simp
  have hcl : (s.take (i + g) ++ q).length = i + g + q.length := by rw [List.length_append, List.length_take]; omega
  have hlast : (lc s (i + g)).1 = (lc (s.take (i + g) ++ q) (s.take (i + g) ++ q).length).1 := by
   have h0 : lc s (i + g) = lc (s.take (i + g) ++ q) (i + g) := by
    conv => lhs; rw [es]
    exact lc_pre _ (by omega)
   rw [h0]
   refine (lc_flat (by omega) λ j h1 h2 => ?_).symm
   have := getD_ne h (j - (i + g))
   have h3 := getD_suf (c := s.take (i + g)) (b := q) (i := j - (i + g))
   rw [show (s.take (i + g)).length + (j - (i + g)) = j by rw [List.length_take]; omega] at h3
   rw [h3]; exact this
  have dl : s.length = (s.take (i + g) ++ q).length + 1 + d.length := by
   have := congrArg List.length es
   simp only [List.length_append, List.length_cons] at this ⊢
   omega
  rw [et] at hlen e2 f1 f2 f3 n2 x2 b1
  have e1' : (scanF ((s.take (i + g) ++ q) ++ 10 :: d)).2.2 = 0 := by rw [<- es]; exact e1
  obtain ⟨w, w', y, y', y1, y2, y3, y4, y5, y6, y7⟩ := behind (c := s.take (i + g) ++ q) (c1 := s.take i ++ put ++ q) (d := d) (by omega) (by simp at hlen ⊢; omega) e1' e2
  rw [<- es] at y1 y6 y7
  rw [hlast, y7]
  have m1 := pre_suf_len (λ k : Tok => decide (k.at_ < i)) (x1.symm.trans y1) (λ k hk => by simp [x3 k hk]) (λ k hk => by have := y4 k hk; rw [hcl] at this; simp; omega)
  have m2 := pre_suf_len (λ k : Tok => decide (k.at_ < i)) (x2.symm.trans y2) (λ k hk => by simp [x3 k hk]) (λ k hk => by
   have := y5 k hk
   simp only [List.length_append, hil] at this
   simp; omega)
  rw [<- y1] at m1
  rw [<- y2] at m2
  rw [List.length_map] at n1 n2
  simp only [List.length_map] at f1 f2 f3 b1
  rcases Nat.lt_or_ge e y.length with hl | hl
  ·rcases f3 with f3 | f3
   ·omega
   ·rw [y6 e hl] at f3; cases f3
  ·omega
end
end Go.Proofs.YtekioipmhhcbhaaDoor
set_option maxRecDepth 100000
set_option maxHeartbeats 4000000
namespace Go.Proofs.YtekioipmhhcbhaaDoor
open Go Go.Z Go.Q Go.W6
open Go.Y hiding KE KK KR go Task go_sound
noncomputable section
def kSame (xs ys : List (List V)) (i j : Nat) : E -> List (Option Chunk) -> Prop := λ e cs => cs = [some (tokC xs), some (tokC ys)] /\ e = .ret (.sbool (sameR (xs.getD i []) (ys.getD j [])))
theorem same_run (xs ys : List (List V)) (i j : Nat) (hi : i < xs.length) (hj : j < ys.length) : TaskOk Tryd.prog ⟨⟨.nil, [], []⟩, [], []⟩ (.call 18 [.ssl 0 i 1 6, .ssl 1 j 1 6] ⟨2, ofMo ([0, 1].zip [some (tokC xs), some (tokC ys)]), []⟩ (cutE [0, 1] (cN [0, 1] [true, true] (kSame xs ys i j)))) := by
 refine go_sound (G := nilG) qmix qNG zqh (zqL rfl) (zqD rfl) 200 _ ?_
 have out : ∀ (b : Bool) (n : Nat), b = sameR (xs.getD i []) (ys.getD j []) -> cN [0, 1] [true, true] (kSame xs ys i j) (.ret (.bool b)) n [some (tokC xs), some (tokC ys)] := λ b n h =>
  ⟨.ret (.sbool (sameR (xs.getD i []) (ys.getD j []))), [some (tokC xs), some (tokC ys)], h, rfl, ⟨zqb _, zqb _, trivial⟩, rfl, rfl, rfl, rfl⟩
 have no : ∀ {q : Prop}, false = true -> q := λ h => (Bool.false_ne_true h).elim
 have no2 : ∀ {q : Prop}, true = false -> q := λ h => (Bool.false_ne_true h.symm).elim
 have z : (0 : Int) <= 0 /\ (0 : Int) < 1 := by decide
 refine ⟨trivial, trivial, trivial, λ h => no h, λ _ => ⟨trivial, trivial, λ _ => ⟨z, hi, z, hj, trivial, λ h1 => ⟨trivial, λ h2 => ⟨trivial, λ h => no h, λ _ => out true 0 ?_⟩, λ h2 => out false 0 ?_⟩, λ h1 => out false 0 ?_⟩, λ h => no2 h⟩⟩
 ·have h1 : decide (vI ((xs.getD i []).getD 0 .und) = vI ((ys.getD j []).getD 0 .und)) = true := h1
  have h2 : decide (vS ((xs.getD i []).getD 1 .und) = vS ((ys.getD j []).getD 1 .und)) = true := h2
  unfold sameR; rw [h1, h2]; rfl
 ·have h1 : decide (vI ((xs.getD i []).getD 0 .und) = vI ((ys.getD j []).getD 0 .und)) = true := h1
  have h2 : decide (vS ((xs.getD i []).getD 1 .und) = vS ((ys.getD j []).getD 1 .und)) = false := h2
  unfold sameR; rw [h1, h2]; rfl
 ·have h1 : decide (vI ((xs.getD i []).getD 0 .und) = vI ((ys.getD j []).getD 0 .und)) = false := h1
  unfold sameR; rw [h1]; rfl
def sSame1 (args : List V) (hp : Mem) (k : KE) : Prop := match args with
 | [.ssl a i n 6, .ssl b j m 6] => match hp.t.get a, hp.t.get b, below hp.n [a, b], nodupB [a, b], noLk [a, b] hp.ro with
  | some (.rowsO xs sh t0), some (.rowsO ys sh1 t1), true, true, true => (sh = shTok /\ sh1 = shTok /\ t0 = 34 /\ t1 = 34 /\ n = 1 /\ m = 1 /\ i < xs.length /\ j < ys.length) /\
    k (.ret (.sbool (sameR (xs.getD i []) (ys.getD j [])))) ⟨hp.n, Tr.set 20 (Tr.set 20 hp.t b (some (tokC ys))) a (some (tokC xs)), hp.ro⟩
  | _, _, _, _, _ => False
 | _ => False
theorem same1_ok {G : GQ} : ∀ args hp k, sSame1 args hp k -> TaskOk Tryd.prog G (.call 18 args hp k) := by
 intro args hp k h
 unfold sSame1 at h
 split at h
 ·rename_i a i n b j m
  split at h
  ·rename_i xs sh t0 ys sh1 t1 ga gb hb hd hlk
   obtain ⟨⟨rfl, rfl, rfl, rfl, rfl, rfl, hi, hj⟩, hk⟩ := h
   refine call_fr 2 [0, 1] [a, b] [some (tokC xs), some (tokC ys)] (kSame xs ys i j) (same_run xs ys i j hi hj) rfl (args0 := [.ssl 0 i 1 6, .ssl 1 j 1 6]) ⟨zqa _, zqa _, trivial⟩ rfl rfl rfl hb rfl hd rfl ⟨⟨_, ga, zqb _⟩, ⟨_, gb, zqb _⟩, trivial⟩ hlk ?_ ?_
   ·intro ρ W hH i hi
    have get : ∀ {i c}, hp.t.get i = some c -> ∃ x, ρ i = some x := λ {i c} hg => by
     obtain ⟨b, o, _, h2⟩ := hH.rel i _ hg
     obtain ⟨c, h3⟩ := h2.at
     exact ⟨_, h3⟩
    rcases List.mem_cons.1 hi with rfl | hi
    ·exact get ga
    ·rw [List.mem_singleton.1 hi]; exact get gb
   ·rintro e cs' ⟨rfl, rfl⟩
    exact hk
  ·exact h.elim
 ·exact h.elim
end
end Go.Proofs.YtekioipmhhcbhaaDoor
set_option maxRecDepth 100000
set_option maxHeartbeats 4000000
namespace Go.Proofs.YtekioipmhhcbhaaDoor
open Go Go.Z Go.Q Go.W6
open Go.Y hiding KE KK KR go Task go_sound
noncomputable section
abbrev tsE : List Nat := [1, 19, 20, 23, 24]
def leE (t : List UInt8) (n m : Nat) (b e : Int) : List V := [.ssl 1 0 n 6, .sstr t, .ssl 4 0 m 6, .sint .i64 b, .sint .i64 e]
abbrev mE (xs ys : List (List V)) : List Chunk := [tokC xs, tokC ys]
def lEd (first : Bool) (fi : FI) (ds : List DV) (env : Tr V) (hp : Mem) (k : KK) : Prop := atV 143 5 [1, 4] [0, 2, 3] fi ds hp λ rc => match pk tsE env, hp.t.get 1, hp.t.get 4 with
 | [some (.ssl 1 0 n 6), some v1, some (.ssl 4 0 m 6), some v3, some v4], some (.rowsO xs sh t0), some (.rowsO ys sh1 t1) => match strOf v1, int64 v3, int64 v4 with
  | some t, some b, some e => (sh = shTok /\ sh1 = shTok /\ t0 = 34 /\ t1 = 34 /\ n = xs.length /\ m = ys.length /\ n <= 30000 /\ m <= 30000 /\ e = 0) /\
   match first with
   | true => b = 0 /\ ∀ b' : Nat, preP xs ys b' -> k (.exit 0) [] (ofE (tsE.zip (leE t n m b' 0))) ⟨5, ofM ([1, 4].zip (mE xs ys) ++ [0, 2, 3].zip rc), hp.ro⟩
   | false => (0 <= b /\ b <= min xs.length ys.length) /\ ∀ e' : Nat, sufP xs ys b.toNat e' -> k (.exit 2) [] (ofE (tsE.zip (leE t n m b e'))) ⟨5, ofM ([1, 4].zip (mE xs ys) ++ [0, 2, 3].zip rc), hp.ro⟩
  | _, _, _ => False
 | _, _, _ => False
abbrev I64 (a : Int) : Prop := -9223372036854775808 <= a /\ a <= 9223372036854775807
theorem ed0_ok {gv gf gl} : ∀ fi ds env hp k, lEd true fi ds env hp k -> TaskOk Tryd.prog ⟨gv, gf, gl⟩ (.code fi (.loop (lp Tryd.prog 24 0)) ds env hp k) := by
 intro fi ds env hp k h
 obtain ⟨rfl, rfl, hn, hlk, rc, hrc, h⟩ := zjM h
 split at h
 ·rename_i n v1 m v3 v4 xs sh t0 ys sh1 t1 hT g0 g1
  split at h
  ·rename_i t b e q1 q3 q4
   obtain ⟨⟨rfl, rfl, rfl, rfl, rfl, rfl, hn1, hm1, rfl⟩, rfl, hk⟩ := h
   obtain ⟨n', ht, hro⟩ := hp
   dsimp only at hn hlk hrc hk g0 g1
   subst hn
   refine zxQ tsE [1, 4] [1, 4] [0, 2, 3] rc 5 (λ x : Nat => leE t xs.length ys.length x 0) (λ _ => [some (tokC xs), some (tokC ys)]) (λ x => x <= min xs.length ys.length /\ ∀ j, j < x -> eqR (xs.getD j []) (ys.getD j []) = true) (λ x => xs.length - x) 0 ⟨Nat.zero_le _, λ j hj => absurd hj (Nat.not_lt_zero _)⟩ rfl rfl rfl (Nat.le_refl 5) hlk rfl rfl (λ x => rfl) (λ x => rfl) ?_ ⟨⟨_, g0, zqb _⟩, ⟨_, g1, zqb _⟩, trivial⟩ hrc ?_
   ·rw [hT]
    exact ⟨zqa _, zxS q1, zqa _, zqj q3, zqj q4, trivial⟩
   ·rintro x ⟨hx, hpre⟩
    refine zqX (gf' := []) (gl' := []) ?_
    refine go_sound (G := nilG) qmix qNG zqh (zqL rfl) (zqD rfl) 200 _ ?_
    have out : preP xs ys x -> rMv hro tsE [1, 4] [1, 4] [0, 2, 3] rc (λ x : Nat => leE t xs.length ys.length x 0) (λ _ => [some (tokC xs), some (tokC ys)]) 5 5 (λ x => x <= min xs.length ys.length /\ ∀ j, j < x -> eqR (xs.getD j []) (ys.getD j []) = true) (λ x => xs.length - x) k x (.exit 0) ((leE t xs.length ys.length x 0).map some) 5 [some (tokC xs), some (tokC ys)] := λ hp =>
     ⟨leE t xs.length ys.length x 0, [1, 4], mE xs ys, Nat.le_refl 5, rfl, rfl, ⟨zqa _, zqa _, zqa _, zqa _, zqa _, trivial⟩, ⟨⟨_, rfl, zqb _⟩, ⟨_, rfl, zqb _⟩, trivial⟩, hk x hp⟩
    refine ⟨trivial, trivial, trivial, trivial, λ h => ?_, λ h => out ⟨hx, hpre, .inl ?_⟩⟩
    ·have h : (x : Int) < min (xs.length : Int) ys.length := of_decide_eq_true h
     have c1 : (0 : Int) <= (x : Int) /\ (x : Int) < (xs.length : Nat) := by omega
     have c2 : (0 : Int) <= (x : Int) /\ (x : Int) < (ys.length : Nat) := by omega
     have c3 : 0 + (x : Int).toNat < xs.length := by omega
     have c4 : 0 + (x : Int).toNat < ys.length := by omega
     have c5 : I64 ((x : Int) + 1) := by unfold I64; omega
     have e1 : 0 + (x : Int).toNat = x := by omega
     refine ⟨c1, c3, c2, c4, trivial, λ g => ⟨c5, ?_⟩, λ g => out ⟨hx, hpre, .inr ?_⟩⟩
     ·have g : eqR (xs.getD (0 + (x : Int).toNat) []) (ys.getD (0 + (x : Int).toNat) []) = true := g
      rw [e1] at g
      exact ⟨x + 1, [1, 4], ⟨by omega, λ j hj => by rcases Nat.lt_succ_iff_lt_or_eq.1 hj with h | rfl; exact hpre j h; exact g⟩, (by omega : xs.length - (x + 1) < xs.length - x), Nat.le_refl 5, rfl, ⟨zqa _, zqa _, zqa _, ⟨rfl, by push_cast; rfl⟩, zqa _, trivial⟩, ⟨_, rfl, zqb _⟩, ⟨_, rfl, zqb _⟩, trivial⟩
     ·have g : eqR (xs.getD (0 + (x : Int).toNat) []) (ys.getD (0 + (x : Int).toNat) []) = false := g
      rw [e1] at g
      exact g
    ·have h : ¬ (x : Int) < min (xs.length : Int) ys.length := of_decide_eq_false h
     omega
  ·exact h.elim
 ·exact h.elim
theorem ed1_ok {gv gf gl} : ∀ fi ds env hp k, lEd false fi ds env hp k -> TaskOk Tryd.prog ⟨gv, gf, gl⟩ (.code fi (.loop (lp Tryd.prog 24 1)) ds env hp k) := by
 intro fi ds env hp k h
 obtain ⟨rfl, rfl, hn, hlk, rc, hrc, h⟩ := zjM h
 split at h
 ·rename_i n v1 m v3 v4 xs sh t0 ys sh1 t1 hT g0 g1
  split at h
  ·rename_i t b0 e q1 q3 q4
   obtain ⟨⟨rfl, rfl, rfl, rfl, rfl, rfl, hn1, hm1, rfl⟩, ⟨hb0, hb1⟩, hk⟩ := h
   obtain ⟨b, rfl⟩ : ∃ b : Nat, b0 = b := ⟨b0.toNat, by omega⟩
   obtain ⟨n', ht, hro⟩ := hp
   dsimp only at hn hlk hrc hk g0 g1
   rw [Int.toNat_natCast] at hk
   subst hn
   refine zxQ tsE [1, 4] [1, 4] [0, 2, 3] rc 5 (λ x : Nat => leE t xs.length ys.length b x) (λ _ => [some (tokC xs), some (tokC ys)]) (λ x => x <= min xs.length ys.length - b /\ ∀ j, j < x -> sameR (xs.getD (xs.length - 1 - j) []) (ys.getD (ys.length - 1 - j) []) = true) (λ x => xs.length - x) 0 ⟨Nat.zero_le _, λ j hj => absurd hj (Nat.not_lt_zero _)⟩ rfl rfl rfl (Nat.le_refl 5) hlk rfl rfl (λ x => rfl) (λ x => rfl) ?_ ⟨⟨_, g0, zqb _⟩, ⟨_, g1, zqb _⟩, trivial⟩ hrc ?_
   ·rw [hT]
    exact ⟨zqa _, zxS q1, zqa _, zqj q3, zqj q4, trivial⟩
   ·rintro x ⟨hx, hsuf⟩
    refine zqX (gf' := [(18, sSame1)]) (gl' := []) ?_
    refine go_sound (G := ⟨⟨.nil, [], []⟩, [(18, sSame1)], []⟩) qmix qNG zqh (fs_one rfl same1_ok) (zqD rfl) 200 _ ?_
    have out : sufP xs ys b x -> rMv hro tsE [1, 4] [1, 4] [0, 2, 3] rc (λ x : Nat => leE t xs.length ys.length b x) (λ _ => [some (tokC xs), some (tokC ys)]) 5 5 (λ x => x <= min xs.length ys.length - b /\ ∀ j, j < x -> sameR (xs.getD (xs.length - 1 - j) []) (ys.getD (ys.length - 1 - j) []) = true) (λ x => xs.length - x) k x (.exit 2) ((leE t xs.length ys.length b x).map some) 5 [some (tokC xs), some (tokC ys)] := λ hp =>
     ⟨leE t xs.length ys.length b x, [1, 4], mE xs ys, Nat.le_refl 5, rfl, rfl, ⟨zqa _, zqa _, zqa _, zqa _, zqa _, trivial⟩, ⟨⟨_, rfl, zqb _⟩, ⟨_, rfl, zqb _⟩, trivial⟩, hk x hp⟩
    have i1 : I64 (min (xs.length : Int) ys.length - b) := by unfold I64; omega
    refine ⟨trivial, trivial, trivial, i1, trivial, λ h => ?_, λ h => out ⟨hx, hsuf, .inl ?_⟩⟩
    ·have h : (x : Int) < min (xs.length : Int) ys.length - b := of_decide_eq_true h
     have side : ∀ {l : List (List V)}, x < l.length -> l.length <= 30000 -> I64 ((l.length : Int) - 1) /\ I64 ((l.length : Int) - 1 - x) /\ I64 ((l.length : Int) - x) /\ ((l.length : Int) - 1 - x < l.length - x) /\ ((0 : Int) <= (l.length : Int) - 1 - x /\ (l.length : Int) - x <= l.length) /\ ((l.length : Int) - x).toNat - ((l.length : Int) - 1 - x).toNat = 1 /\ 0 + ((l.length : Int) - 1 - x).toNat < l.length /\ 0 + ((l.length : Int) - 1 - x).toNat = l.length - 1 - x := λ {l} h1 h2 => by
      unfold I64; refine ⟨?_, ?_, ?_, ?_, ?_, ?_, ?_, ?_⟩ <;> omega
     obtain ⟨a1, a2, a3, a4, a5, a6, a7, a8⟩ := side (l := xs) (by omega) hn1
     obtain ⟨d1, d2, d3, d4, d5, d6, d7, d8⟩ := side (l := ys) (by omega) hm1
     have c5 : I64 ((x : Int) + 1) := by unfold I64; omega
     refine ⟨trivial, a1, a2, trivial, a3, λ c1 => ⟨a5, trivial, d1, d2, trivial, d3, λ c2 => ⟨d5, ⟨rfl, rfl, rfl, rfl, a6, d6, a7, d7⟩, λ g => ⟨c5, ?_⟩, λ g => out ⟨hx, hsuf, .inr ?_⟩⟩, λ c2 => absurd d4 (of_decide_eq_false c2)⟩, λ c1 => absurd a4 (of_decide_eq_false c1)⟩
     ·have g : sameR (xs.getD (0 + ((xs.length : Int) - 1 - x).toNat) []) (ys.getD (0 + ((ys.length : Int) - 1 - x).toNat) []) = true := g
      rw [a8, d8] at g
      exact ⟨x + 1, [1, 4], ⟨by omega, λ j hj => by rcases Nat.lt_succ_iff_lt_or_eq.1 hj with h | rfl; exact hsuf j h; exact g⟩, (by omega : xs.length - (x + 1) < xs.length - x), Nat.le_refl 5, rfl, ⟨zqa _, zqa _, zqa _, zqa _, ⟨rfl, by push_cast; rfl⟩, trivial⟩, ⟨_, rfl, zqb _⟩, ⟨_, rfl, zqb _⟩, trivial⟩
     ·have g : sameR (xs.getD (0 + ((xs.length : Int) - 1 - x).toNat) []) (ys.getD (0 + ((ys.length : Int) - 1 - x).toNat) []) = false := g
      rw [a8, d8] at g
      exact g
    ·have h : ¬ (x : Int) < min (xs.length : Int) ys.length - b := of_decide_eq_false h
     omega
  ·exact h.elim
 ·exact h.elim
end
end Go.Proofs.YtekioipmhhcbhaaDoor
set_option maxRecDepth 100000
set_option maxHeartbeats 4000000
namespace Go.Proofs.YtekioipmhhcbhaaDoor
open Go Go.Z Go.Q Go.W6
open Go.Y hiding KE KK KR go Task go_sound
noncomputable section
abbrev tsF : List Nat := [9, 10, 18, 19, 20, 23, 24, 25, 26, 27]
def leF (n m : Nat) (b e f l a z i : Int) : List V := [.bool true, .ssl 1 0 n 6, .ssl 4 0 m 6, .sint .i64 b, .sint .i64 e, .sint .i64 f, .sint .i64 l, .sint .i64 a, .sint .i64 z, .sint .i64 i]
def lCnt (fi : FI) (ds : List DV) (env : Tr V) (hp : Mem) (k : KK) : Prop := atV 245 5 [1] [0, 2, 3, 4] fi ds hp λ rc => match pk tsF env, hp.t.get 1 with
 | [some (.bool true), some (.ssl 1 0 n 6), some (.ssl 4 0 m 6), some v3, some v4, some v5, some v6, some v7, some v8, some v9], some (.rowsO xs sh t0) => match int64 v3, int64 v4, int64 v5, int64 v6, int64 v7, int64 v8, int64 v9 with
  | some b, some e, some f, some l, some a, some z, some i => (sh = shTok /\ t0 = 34 /\ n = xs.length /\ n <= 30000 /\ a = 0 /\ z = 0 /\ i = 0) /\
    k (.exit 0) [] (ofE (tsF.zip (leF n m b e f l (cntP (λ x => decide (x < f)) xs : Nat) (cntP (λ x => decide (l < x)) xs : Nat) n))) ⟨5, ofM ([1].zip [tokC xs] ++ [0, 2, 3, 4].zip rc), hp.ro⟩
  | _, _, _, _, _, _, _ => False
 | _, _ => False
abbrev tsG : List Nat := [9, 10, 18, 19, 20, 25, 26, 28]
abbrev tsH : List Nat := [9, 10, 18, 19, 20, 25, 26, 29]
def leG (n m : Nat) (b e a z i : Int) : List V := [.bool true, .ssl 1 0 n 6, .ssl 4 0 m 6, .sint .i64 b, .sint .i64 e, .sint .i64 a, .sint .i64 z, .sint .i64 i]
def lPre (fi : FI) (ds : List DV) (env : Tr V) (hp : Mem) (k : KK) : Prop := atV 245 5 [1, 4] [0, 2, 3] fi ds hp λ rc => match pk tsG env, hp.t.get 1, hp.t.get 4 with
 | [some (.bool true), some (.ssl 1 0 n 6), some (.ssl 4 0 m 6), some v3, some v4, some v5, some v6, some v7], some (.rowsO xs sh t0), some (.rowsO ys sh1 t1) => match int64 v3, int64 v4, int64 v5, int64 v6, int64 v7 with
  | some b, some e, some a, some z, some i => (sh = shTok /\ t0 = 34 /\ sh1 = shTok /\ t1 = 34 /\ n = xs.length /\ m = ys.length /\ n <= 30000 /\ m <= 30000 /\ i = 0 /\ 0 <= b /\ b <= (min xs.length ys.length : Nat) /\ ∀ j : Nat, (j : Int) < b -> eqR (xs.getD j []) (ys.getD j []) = true) /\
    k (.exit 2) [] (ofE (tsG.zip (leG n m b e a z b))) ⟨5, ofM ([1, 4].zip (mE xs ys) ++ [0, 2, 3].zip rc), hp.ro⟩
  | _, _, _, _, _ => False
 | _, _, _ => False
def lSuf (fi : FI) (ds : List DV) (env : Tr V) (hp : Mem) (k : KK) : Prop := atV 245 5 [1, 4] [0, 2, 3] fi ds hp λ rc => match pk tsH env, hp.t.get 1, hp.t.get 4 with
 | [some (.bool true), some (.ssl 1 0 n 6), some (.ssl 4 0 m 6), some v3, some v4, some v5, some v6, some v7], some (.rowsO xs sh t0), some (.rowsO ys sh1 t1) => match int64 v3, int64 v4, int64 v5, int64 v6, int64 v7 with
  | some b, some e, some a, some z, some i => (sh = shTok /\ t0 = 34 /\ sh1 = shTok /\ t1 = 34 /\ n = xs.length /\ m = ys.length /\ n <= 30000 /\ m <= 30000 /\ i = 1 /\ 0 <= e /\ e <= (min xs.length ys.length : Nat) /\ ∀ j : Nat, (j : Int) < e -> sameR (xs.getD (xs.length - 1 - j) []) (ys.getD (ys.length - 1 - j) []) = true) /\
    k (.exit 4) [] (ofE (tsH.zip (leG n m b e a z (e + 1)))) ⟨5, ofM ([1, 4].zip (mE xs ys) ++ [0, 2, 3].zip rc), hp.ro⟩
  | _, _, _, _, _ => False
 | _, _, _ => False
theorem cntP_snoc {p : Int -> Bool} {xs : List (List V)} {x : Nat} (h : x < xs.length) : cntP p (xs.take (x + 1)) = cntP p (xs.take x) + if p (vI ((xs.getD x []).getD 4 .und)) = true then 1 else 0 := by
 unfold cntP
 rw [List.take_add_one, List.getElem?_eq_getElem h, List.countP_append, List.getD_eq_getElem?_getD (l := xs), List.getElem?_eq_getElem h]
 simp [List.countP_cons]
theorem cntP_le (p : Int -> Bool) (xs : List (List V)) (x : Nat) : cntP p (xs.take x) <= xs.length := by
 unfold cntP
 have := List.countP_le_length (p := λ r => p (vI (r.getD 4 .und))) (l := xs.take x)
 rw [List.length_take] at this
 omega
theorem cnt_ok {gv gf gl} : ∀ fi ds env hp k, lCnt fi ds env hp k -> TaskOk Tryd.prog ⟨gv, gf, gl⟩ (.code fi (.loop (lp Tryd.prog 8 0)) ds env hp k) := by
 intro fi ds env hp k h
 obtain ⟨rfl, rfl, hn, hlk, rc, hrc, h⟩ := zjM h
 split at h
 ·rename_i n m v3 v4 v5 v6 v7 v8 v9 xs sh t0 hT g0
  split at h
  ·rename_i b e f l a z i q3 q4 q5 q6 q7 q8 q9
   obtain ⟨⟨rfl, rfl, rfl, hn1, rfl, rfl, rfl⟩, hk⟩ := h
   obtain ⟨n', ht, hro⟩ := hp
   dsimp only at hn hlk hrc hk g0
   subst hn
   refine zxQ tsF [1] [1] [0, 2, 3, 4] rc 5 (λ x : Nat => leF xs.length m b e f l (cntP (λ y => decide (y < f)) (xs.take x) : Nat) (cntP (λ y => decide (l < y)) (xs.take x) : Nat) x) (λ _ => [some (tokC xs)]) (λ x => x <= xs.length) (λ x => xs.length - x) 0 (Nat.zero_le _) rfl rfl rfl (Nat.le_refl 5) hlk rfl rfl (λ x => rfl) (λ x => rfl) ?_ ⟨⟨_, g0, zqb _⟩, trivial⟩ hrc ?_
   ·rw [hT]
    exact ⟨zqa _, zqa _, zqa _, zqj q3, zqj q4, zqj q5, zqj q6, zqj q7, zqj q8, zqj q9, trivial⟩
   ·intro x hx
    have hx : x <= xs.length := hx
    refine zqX (gf' := []) (gl' := []) ?_
    refine go_sound (G := nilG) qmix qNG zqh (zqL rfl) (zqD rfl) 200 _ ?_
    have b1 := cntP_le (λ y => decide (y < f)) xs x
    have b2 := cntP_le (λ y => decide (l < y)) xs x
    refine ⟨trivial, trivial, λ h => ?_, λ h => ?_⟩
    ·have h : (x : Int) < xs.length := of_decide_eq_true h
     have c1 : (0 : Int) <= (x : Int) /\ (x : Int) < (xs.length : Nat) := ⟨by omega, h⟩
     have c3 : 0 + (x : Int).toNat < xs.length := by omega
     have c5 : I64 ((x : Int) + 1) := by unfold I64; omega
     have c6 : I64 (((cntP (λ y => decide (y < f)) (xs.take x) : Nat) : Int) + 1) := by unfold I64; omega
     have c7 : I64 (((cntP (λ y => decide (l < y)) (xs.take x) : Nat) : Int) + 1) := by unfold I64; omega
     have e1 : 0 + (x : Int).toNat = x := by omega
     have s1 := cntP_snoc (p := λ y => decide (y < f)) (by omega : x < xs.length)
     have s2 := cntP_snoc (p := λ y => decide (l < y)) (by omega : x < xs.length)
     have nrm : ∀ a' z' : Int, a' = (cntP (λ y => decide (y < f)) (xs.take (x + 1)) : Nat) -> z' = (cntP (λ y => decide (l < y)) (xs.take (x + 1)) : Nat) -> rMv hro tsF [1] [1] [0, 2, 3, 4] rc (λ x : Nat => leF xs.length m b e f l (cntP (λ y => decide (y < f)) (xs.take x) : Nat) (cntP (λ y => decide (l < y)) (xs.take x) : Nat) x) (λ _ => [some (tokC xs)]) 5 5 (λ x => x <= xs.length) (λ x => xs.length - x) k x .normal
       [some (.bool true), some (.ssl 1 0 xs.length 6), some (.ssl 4 0 m 6), some (.sint .i64 b), some (.sint .i64 e), some (.sint .i64 f), some (.sint .i64 l), some (.sint .i64 a'), some (.sint .i64 z'), some (.sint .i64 ((x : Int) + 1))] 5 [some (tokC xs)] := λ a' z' ha hz =>
      ⟨x + 1, [1], (by omega : x + 1 <= xs.length), (by omega : xs.length - (x + 1) < xs.length - x), Nat.le_refl 5, rfl, ⟨zqa _, zqa _, zqa _, zqa _, zqa _, zqa _, zqa _, ⟨rfl, ha⟩, ⟨rfl, hz⟩, ⟨rfl, by push_cast; rfl⟩, trivial⟩, ⟨_, rfl, zqb _⟩, trivial⟩
     refine ⟨c1, trivial, c3, trivial, λ g => ⟨c6, c1, trivial, c3, trivial, λ g2 => ⟨c7, c5, nrm _ _ ?_ ?_⟩, λ g2 => ⟨c5, nrm _ _ ?_ ?_⟩⟩, λ g => ⟨c1, trivial, c3, trivial, λ g2 => ⟨c7, c5, nrm _ _ ?_ ?_⟩, λ g2 => ⟨c5, nrm _ _ ?_ ?_⟩⟩⟩
     all_goals first
      | (have g : decide (vI ((xs.getD (0 + (x : Int).toNat) []).getD 4 .und) < f) = _ := g; rw [e1] at g; rw [s1, g]; rfl)
      | (have g2 : decide (l < vI ((xs.getD (0 + (x : Int).toNat) []).getD 4 .und)) = _ := g2; rw [e1] at g2; rw [s2, g2]; rfl)
    ·have h : ¬ (x : Int) < xs.length := of_decide_eq_false h
     obtain rfl : x = xs.length := by omega
     refine ⟨leF xs.length m b e f l (cntP (λ y => decide (y < f)) xs : Nat) (cntP (λ y => decide (l < y)) xs : Nat) xs.length, [1], [tokC xs], Nat.le_refl 5, rfl, rfl, ⟨zqa _, zqa _, zqa _, zqa _, zqa _, zqa _, zqa _, ⟨rfl, ?_⟩, ⟨rfl, ?_⟩, zqa _, trivial⟩, ⟨⟨_, rfl, zqb _⟩, trivial⟩, hk⟩
     all_goals (simp only [List.take_length])
  ·exact h.elim
 ·exact h.elim
theorem pre_ok {gv gf gl} : ∀ fi ds env hp k, lPre fi ds env hp k -> TaskOk Tryd.prog ⟨gv, gf, gl⟩ (.code fi (.loop (lp Tryd.prog 8 1)) ds env hp k) := by
 intro fi ds env hp k h
 obtain ⟨rfl, rfl, hn, hlk, rc, hrc, h⟩ := zjM h
 split at h
 ·rename_i n m v3 v4 v5 v6 v7 xs sh t0 ys sh1 t1 hT g0 g1
  split at h
  ·rename_i b0 e a z i q3 q4 q5 q6 q7
   obtain ⟨⟨rfl, rfl, rfl, rfl, rfl, rfl, hn1, hm1, rfl, hb0, hb1, hrow⟩, hk⟩ := h
   obtain ⟨b, rfl⟩ : ∃ b : Nat, b0 = b := ⟨b0.toNat, by omega⟩
   obtain ⟨n', ht, hro⟩ := hp
   dsimp only at hn hlk hrc hk g0 g1
   subst hn
   refine zxQ tsG [1, 4] [1, 4] [0, 2, 3] rc 5 (λ x : Nat => leG xs.length ys.length b e a z x) (λ _ => [some (tokC xs), some (tokC ys)]) (λ x => x <= b) (λ x => b - x) 0 (Nat.zero_le _) rfl rfl rfl (Nat.le_refl 5) hlk rfl rfl (λ x => rfl) (λ x => rfl) ?_ ⟨⟨_, g0, zqb _⟩, ⟨_, g1, zqb _⟩, trivial⟩ hrc ?_
   ·rw [hT]
    exact ⟨zqa _, zqa _, zqa _, zqj q3, zqj q4, zqj q5, zqj q6, zqj q7, trivial⟩
   ·intro x hx
    have hx : x <= b := hx
    refine zqX (gf' := []) (gl' := []) ?_
    refine go_sound (G := nilG) qmix qNG zqh (zqL rfl) (zqD rfl) 200 _ ?_
    refine ⟨trivial, λ h => ?_, λ h => ?_⟩
    ·have h : (x : Int) < b := of_decide_eq_true h
     have c1 : (0 : Int) <= (x : Int) /\ (x : Int) < (xs.length : Nat) := by omega
     have c2 : (0 : Int) <= (x : Int) /\ (x : Int) < (ys.length : Nat) := by omega
     have c3 : 0 + (x : Int).toNat < xs.length := by omega
     have c4 : 0 + (x : Int).toNat < ys.length := by omega
     have c5 : I64 ((x : Int) + 1) := by unfold I64; omega
     have e1 : 0 + (x : Int).toNat = x := by omega
     refine ⟨c1, c3, c2, c4, trivial, λ g => ?_, λ g => ⟨c5, ?_⟩⟩
     ·have g : (!eqR (xs.getD (0 + (x : Int).toNat) []) (ys.getD (0 + (x : Int).toNat) [])) = true := g
      rw [e1, hrow x h] at g; cases g
     ·exact ⟨x + 1, [1, 4], (by omega : x + 1 <= b), (by omega : b - (x + 1) < b - x), Nat.le_refl 5, rfl, ⟨zqa _, zqa _, zqa _, zqa _, zqa _, zqa _, zqa _, ⟨rfl, by push_cast; rfl⟩, trivial⟩, ⟨_, rfl, zqb _⟩, ⟨_, rfl, zqb _⟩, trivial⟩
    ·have h : ¬ (x : Int) < b := of_decide_eq_false h
     obtain rfl : x = b := by omega
     exact ⟨leG xs.length ys.length x e a z x, [1, 4], mE xs ys, Nat.le_refl 5, rfl, rfl, ⟨zqa _, zqa _, zqa _, zqa _, zqa _, zqa _, zqa _, zqa _, trivial⟩, ⟨⟨_, rfl, zqb _⟩, ⟨_, rfl, zqb _⟩, trivial⟩, hk⟩
  ·exact h.elim
 ·exact h.elim
theorem suf_ok {gv gf gl} : ∀ fi ds env hp k, lSuf fi ds env hp k -> TaskOk Tryd.prog ⟨gv, gf, gl⟩ (.code fi (.loop (lp Tryd.prog 8 2)) ds env hp k) := by
 intro fi ds env hp k h
 obtain ⟨rfl, rfl, hn, hlk, rc, hrc, h⟩ := zjM h
 split at h
 ·rename_i n m v3 v4 v5 v6 v7 xs sh t0 ys sh1 t1 hT g0 g1
  split at h
  ·rename_i b e0 a z i q3 q4 q5 q6 q7
   obtain ⟨⟨rfl, rfl, rfl, rfl, rfl, rfl, hn1, hm1, rfl, hb0, hb1, hrow⟩, hk⟩ := h
   obtain ⟨e, rfl⟩ : ∃ e : Nat, e0 = e := ⟨e0.toNat, by omega⟩
   obtain ⟨n', ht, hro⟩ := hp
   dsimp only at hn hlk hrc hk g0 g1
   subst hn
   refine zxQ tsH [1, 4] [1, 4] [0, 2, 3] rc 5 (λ x : Nat => leG xs.length ys.length b e a z ((x : Int) + 1)) (λ _ => [some (tokC xs), some (tokC ys)]) (λ x => x <= e) (λ x => e - x) 0 (Nat.zero_le _) rfl rfl rfl (Nat.le_refl 5) hlk rfl rfl (λ x => rfl) (λ x => rfl) ?_ ⟨⟨_, g0, zqb _⟩, ⟨_, g1, zqb _⟩, trivial⟩ hrc ?_
   ·rw [hT]
    exact ⟨zqa _, zqa _, zqa _, zqj q3, zqj q4, zqj q5, zqj q6, zqj q7, trivial⟩
   ·intro x hx
    have hx : x <= e := hx
    refine zqX (gf' := []) (gl' := []) ?_
    refine go_sound (G := nilG) qmix qNG zqh (zqL rfl) (zqD rfl) 200 _ ?_
    refine ⟨trivial, λ h => ?_, λ h => ?_⟩
    ·have h : (x : Int) + 1 <= e := of_decide_eq_true h
     have side : ∀ {l : List (List V)}, x + 1 <= l.length -> l.length <= 30000 -> I64 ((l.length : Int) - (x + 1)) /\ ((0 : Int) <= (l.length : Int) - (x + 1) /\ (l.length : Int) - (x + 1) < l.length) /\ 0 + ((l.length : Int) - (x + 1)).toNat < l.length /\ 0 + ((l.length : Int) - (x + 1)).toNat = l.length - 1 - x := λ {l} h1 h2 => by
      unfold I64; refine ⟨?_, ?_, ?_, ?_⟩ <;> omega
     obtain ⟨a1, a2, a3, a4⟩ := side (l := xs) (by omega) hn1
     obtain ⟨d1, d2, d3, d4⟩ := side (l := ys) (by omega) hm1
     have c5 : I64 ((x : Int) + 1 + 1) := by unfold I64; omega
     have hs := hrow x (by omega)
     unfold sameR at hs
     have hs1 : vI ((xs.getD (xs.length - 1 - x) []).getD 0 .und) = vI ((ys.getD (ys.length - 1 - x) []).getD 0 .und) := by
      revert hs; cases hd : decide (vI ((xs.getD (xs.length - 1 - x) []).getD 0 .und) = vI ((ys.getD (ys.length - 1 - x) []).getD 0 .und))
      ·intro h; cases h
      ·intro _; exact of_decide_eq_true hd
     have hs2 : vS ((xs.getD (xs.length - 1 - x) []).getD 1 .und) = vS ((ys.getD (ys.length - 1 - x) []).getD 1 .und) := by
      rw [decide_eq_true hs1] at hs; exact of_decide_eq_true hs
     refine ⟨trivial, d1, d2, d3, trivial, a1, a2, trivial, a3, trivial, a1, a2, trivial, a3, trivial, λ g1 => ⟨trivial, λ g2 => ⟨c5, ?_⟩, λ g2 => ?_⟩, λ g1 => ?_⟩
     ·exact ⟨x + 1, [1, 4], (by omega : x + 1 <= e), (by omega : e - (x + 1) < e - x), Nat.le_succ 5, rfl, ⟨zqa _, zqa _, zqa _, zqa _, zqa _, zqa _, zqa _, ⟨rfl, by push_cast; rfl⟩, trivial⟩, ⟨_, rfl, zqb _⟩, ⟨_, rfl, zqb _⟩, trivial⟩
     ·have g2 : ¬ vS ((ys.getD (0 + ((ys.length : Int) - (x + 1)).toNat) []).getD 1 .und) = vS ((xs.getD (0 + ((xs.length : Int) - (x + 1)).toNat) []).getD 1 .und) := of_decide_eq_false g2
      rw [a4, d4] at g2
      exact absurd hs2.symm g2
     ·have g1 : ¬ vI ((ys.getD (0 + ((ys.length : Int) - (x + 1)).toNat) []).getD 0 .und) = vI ((xs.getD (0 + ((xs.length : Int) - (x + 1)).toNat) []).getD 0 .und) := of_decide_eq_false g1
      rw [a4, d4] at g1
      exact absurd hs1.symm g1
    ·have h : ¬ (x : Int) + 1 <= e := of_decide_eq_false h
     obtain rfl : x = e := by omega
     exact ⟨leG xs.length ys.length b x a z ((x : Int) + 1), [1, 4], mE xs ys, Nat.le_refl 5, rfl, rfl, ⟨zqa _, zqa _, zqa _, zqa _, zqa _, zqa _, zqa _, zqa _, trivial⟩, ⟨⟨_, rfl, zqb _⟩, ⟨_, rfl, zqb _⟩, trivial⟩, hk⟩
  ·exact h.elim
 ·exact h.elim
end
end Go.Proofs.YtekioipmhhcbhaaDoor
