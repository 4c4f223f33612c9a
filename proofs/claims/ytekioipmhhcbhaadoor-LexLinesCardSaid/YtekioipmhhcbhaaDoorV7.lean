/- LexLines: the law's loops over the note and over the tokens. -/
import Derived.Test.YtekioipmhhcbhaaDoorV6
set_option linter.unusedVariables false
set_option linter.unusedSectionVars false
set_option linter.unusedSimpArgs false
set_option maxRecDepth 100000
set_option maxHeartbeats 4000000
namespace Go.Proofs.YtekioipmhhcbhaaDoor
open Go Go.Z Go.Q Go.W6
open Go.Y hiding KE KK KR go Task go_sound
noncomputable section
variable [Ext]
abbrev tsN : List Nat := [0, 1, 2, 6, 7, 8]
def leN (s note : List UInt8) (hs : List (List V)) (sh : List Sh) (r : Bool) (i : Int) : List V := [.sstr s, .xs hs sh, .sstr note, .bool r, .bool true, .sint .i64 i]
def lNt (fi : FI) (ds : List DV) (env : Tr V) (hp : Mem) (k : KK) : Prop := atV 195 1 [] [0] fi ds hp λ rc => match pk tsN env with
 | [some v0, some (.xs hs sh), some v2, some (.bool false), some (.bool true), some v5] => match strOf v0, strOf v2, int64 v5 with
  | some s, some note, some i => (i = 0 /\ note.length <= 100) /\
    (note.all noteB = false -> ∀ i : Int, k .ret [] (ofE (tsN.zip (leN s note hs sh true i))) ⟨1, ofM ([].zip [] ++ [0].zip rc), hp.ro⟩) /\
    (note.all noteB = true -> k (.exit 0) [] (ofE (tsN.zip (leN s note hs sh false note.length))) ⟨1, ofM ([].zip [] ++ [0].zip rc), hp.ro⟩)
  | _, _, _ => False
 | _ => False
theorem noteB_int (c : UInt8) : noteB c = (decide ((32 : Int) <= c.toNat) && decide ((c.toNat : Int) <= 126)) := by
 unfold noteB plainB
 rw [Bool.eq_iff_iff]
 simp
 omega
theorem all_snoc {p : UInt8 -> Bool} {s : List UInt8} {x : Nat} (h : x < s.length) : (s.take (x + 1)).all p = ((s.take x).all p && p (s.getD x 0)) := by
 rw [List.take_add_one, List.getElem?_eq_getElem h, List.all_append, List.getD_eq_getElem?_getD, List.getElem?_eq_getElem h]
 simp
theorem all_bad {p : UInt8 -> Bool} {s : List UInt8} {x : Nat} (h : x < s.length) (hp : p (s.getD x 0) = false) : s.all p = false := by
 have : s.getD x 0 ∈ s := by
  rw [List.getD_eq_getElem?_getD, List.getElem?_eq_getElem h]; exact List.getElem_mem h
 cases ha : s.all p with
 | false => rfl
 | true => rw [List.all_eq_true.1 ha _ this] at hp; cases hp
theorem nt_ok {gv gf gl} : ∀ fi ds env hp k, lNt fi ds env hp k -> TaskOk Tryd.prog ⟨gv, gf, gl⟩ (.code fi (.loop (lp Tryd.prog 5 0)) ds env hp k) := by
 intro fi ds env hp k h
 obtain ⟨rfl, rfl, hn, hlk, rc, hrc, h⟩ := atV_inv h
 split at h
 ·rename_i v0 hs sh v2 v5 hT
  split at h
  ·rename_i s note i q0 q2 q5
   obtain ⟨⟨rfl, hl⟩, hk1, hk2⟩ := h
   obtain ⟨n', ht, hro⟩ := hp
   dsimp only at hn hlk hrc hk1 hk2
   subst hn
   refine zvf tsN [] [] [0] rc 1 (λ x : Nat => leN s note hs sh false x) (λ _ => []) (λ x => x <= note.length /\ (note.take x).all noteB = true) (λ x => note.length - x) 0 ⟨Nat.zero_le _, rfl⟩ rfl rfl rfl (Nat.le_refl 1) hlk rfl rfl (λ x => rfl) (λ x => rfl) ?_ trivial hrc ?_
   ·rw [hT]
    exact ⟨zxy q0, zqa _, zxy q2, zqa _, zqa _, zqG q5, trivial⟩
   ·rintro x ⟨hx, hall⟩
    refine zxQ (gf' := []) (gl' := []) ?_
    refine go_sound (G := nilG) qmix qNG zqk (zxf rfl) (zqT rfl) 200 _ ?_
    have ret : x < note.length -> noteB (note.getD x 0) = false -> rMv hro tsN [] [] [0] rc (λ x : Nat => leN s note hs sh false x) (λ _ => []) 1 1 (λ x => x <= note.length /\ (note.take x).all noteB = true) (λ x => note.length - x) k x .ret
      [some (.sstr s), some (.xs hs sh), some (.sstr note), some (.bool true), some (.bool true), some (.sint .i64 x)] 1 [] := λ h1 h2 =>
     ⟨leN s note hs sh true x, [], [], Nat.le_refl 1, rfl, rfl, ⟨zqa _, zqa _, zqa _, zqa _, zqa _, zqa _, trivial⟩, trivial, hk1 (all_bad h1 h2) x⟩
    refine ⟨trivial, trivial, λ h => ?_, λ h => ?_⟩
    ·have h : (x : Int) < note.length := of_decide_eq_true h
     have c1 : (0 : Int) <= (x : Int) /\ (x : Int) < (note.length : Nat) := ⟨by omega, h⟩
     have c5 : I64 ((x : Int) + 1) := by unfold I64; omega
     have e1 : (x : Int).toNat = x := by omega
     have e2 := noteB_int (note.getD x 0)
     refine ⟨c1, trivial, λ g => ret (by omega) ?_, λ g => ⟨c1, trivial, λ g2 => ret (by omega) ?_, λ g2 => ⟨c5, ?_⟩⟩⟩
     ·have g : ((note.getD (x : Int).toNat 0).toNat : Int) < 32 := of_decide_eq_true g
      rw [e1] at g
      rw [e2, decide_eq_false (by omega)]; rfl
     ·have g2 : (126 : Int) < (note.getD (x : Int).toNat 0).toNat := of_decide_eq_true g2
      rw [e1] at g2
      rw [e2, decide_eq_false (p := ((note.getD x 0).toNat : Int) <= 126) (by omega), Bool.and_false]
     ·have g : ¬ ((note.getD (x : Int).toNat 0).toNat : Int) < 32 := of_decide_eq_false g
      have g2 : ¬ (126 : Int) < (note.getD (x : Int).toNat 0).toNat := of_decide_eq_false g2
      rw [e1] at g g2
      refine ⟨x + 1, [], ⟨by omega, ?_⟩, (by omega : note.length - (x + 1) < note.length - x), Nat.le_refl 1, rfl, ⟨zqa _, zqa _, zqa _, zqa _, zqa _, ⟨rfl, by push_cast; rfl⟩, trivial⟩, trivial⟩
      rw [all_snoc (by omega), hall, e2, decide_eq_true (by omega), decide_eq_true (by omega)]; rfl
    ·have h : ¬ (x : Int) < note.length := of_decide_eq_false h
     obtain rfl : x = note.length := by omega
     rw [List.take_length] at hall
     exact ⟨leN s note hs sh false note.length, [], [], Nat.le_refl 1, rfl, rfl, ⟨zqa _, zqa _, zqa _, zqa _, zqa _, zqa _, trivial⟩, trivial, hk2 hall⟩
  ·exact h.elim
 ·exact h.elim
def atR (i : Int) (xs : List (List V)) (a : Nat) : Nat := a + ((xs.drop a).takeWhile λ r => decide (vI (r.getD 3 .und) <= i)).length
theorem atR_F {s : List UInt8} {l : List Tok} {i a : Nat} : atR i (l.map (rowTok s)) a = atF i l a := by
 unfold atR atF
 rw [<- List.map_drop, List.takeWhile_map, List.length_map]
 congr 2
 apply congrArg (λ p => List.takeWhile p (l.drop a))
 funext t
 show decide (((t.to : Nat) : Int) <= (i : Int)) = decide (t.to <= i)
 exact decide_eq_decide.2 Int.ofNat_le
theorem atR_on {i : Int} {xs : List (List V)} {a : Nat} (h : a < xs.length) (ht : vI ((xs.getD a []).getD 3 .und) <= i) : atR i xs a = atR i xs (a + 1) := by
 rw [List.getD_eq_getElem?_getD (l := xs), List.getElem?_eq_getElem h] at ht
 have ht : vI ((xs[a]).getD 3 .und) <= i := ht
 unfold atR
 rw [List.drop_eq_getElem_cons h, List.takeWhile_cons, if_pos (decide_eq_true ht), List.length_cons]
 omega
theorem atR_no {i : Int} {xs : List (List V)} {a : Nat} (h : a < xs.length) (ht : ¬ vI ((xs.getD a []).getD 3 .und) <= i) : atR i xs a = a := by
 rw [List.getD_eq_getElem?_getD (l := xs), List.getElem?_eq_getElem h] at ht
 have ht : ¬ vI ((xs[a]).getD 3 .und) <= i := ht
 unfold atR
 rw [List.drop_eq_getElem_cons h, List.takeWhile_cons, if_neg (by simpa using ht)]
 rfl
theorem atR_end {i : Int} {xs : List (List V)} {a : Nat} (h : xs.length <= a) : atR i xs a = a := by
 unfold atR
 rw [List.drop_eq_nil_iff.2 h]; rfl
abbrev tsM : List Nat := [0, 1, 2, 7, 9, 12, 13, 14, 15]
def leM (s note : List UInt8) (hs : List (List V)) (sh : List Sh) (n : Nat) (w : V) (k a i : Int) : List V := [.sstr s, .xs hs sh, .sstr note, .bool true, .ssl 1 0 n 6, w, .sint .i64 k, .sint .i64 a, .sint .i64 i]
def bV (b : Bool) (v : V) : Option V := match b, v with
 | false, .nils => some .nils
 | true, .ssl 2 0 m 1 => some (.ssl 2 0 m 1)
 | _, _ => none
theorem bV_f {v w : V} (h : bV false v = some w) : v = .nils /\ w = .nils := by
 unfold bV at h
 split at h <;> first | contradiction | (cases h; exact ⟨rfl, rfl⟩)
theorem bV_t {v w : V} (h : bV true v = some w) : ∃ m, v = .ssl 2 0 m 1 /\ w = .ssl 2 0 m 1 := by
 unfold bV at h
 split at h <;> first | contradiction | (cases h; exact ⟨_, rfl, rfl⟩)
def ridB (b : Bool) : List Nat := match b with | true => [2] | false => []
def lAt (b : Bool) (fi : FI) (ds : List DV) (env : Tr V) (hp : Mem) (k : KK) : Prop := atV 195 3 [1] (ridB b) fi ds hp λ rc => match pk tsM env, hp.t.get 1 with
 | [some v0, some (.xs hs sh), some v2, some (.bool true), some (.ssl 1 0 n 6), some v5, some v6, some v7, some v8], some (.rowsO xs sh1 t0) => match strOf v0, strOf v2, bV b v5, int64 v6, int64 v7, int64 v8 with
  | some s, some note, some w, some z, some a, some i => (sh1 = shTok /\ t0 = 34 /\ n = xs.length /\ n <= 30000 /\ 0 <= a /\ a <= n) /\
    k (.exit 4) [] (ofE (tsM.zip (leM s note hs sh n w z (atR i xs a.toNat : Nat) i))) ⟨3, ofM ([1].zip [tokC xs] ++ (ridB b).zip rc), hp.ro⟩
  | _, _, _, _, _, _ => False
 | _, _ => False
theorem at_ok (b : Bool) {gv gf gl} : ∀ fi ds env hp k, lAt b fi ds env hp k -> TaskOk Tryd.prog ⟨gv, gf, gl⟩ (.code fi (.loop (lp Tryd.prog 5 2)) ds env hp k) := by
 intro fi ds env hp k h
 obtain ⟨rfl, rfl, hn, hlk, rc, hrc, h⟩ := atV_inv h
 split at h
 ·rename_i v0 hs sh v2 n v5 v6 v7 v8 xs sh1 t0 hT g0
  split at h
  ·rename_i s note w z a0 i q0 q2 q5 q6 q7 q8
   obtain ⟨⟨rfl, rfl, rfl, hn1, ha0, ha1⟩, hk⟩ := h
   obtain ⟨a, rfl⟩ : ∃ a : Nat, a0 = a := ⟨a0.toNat, by omega⟩
   rw [Int.toNat_natCast] at hk
   obtain ⟨n', ht, hro⟩ := hp
   dsimp only at hn hlk hrc hk g0
   subst hn
   have main : ∀ {w : V}, (∀ x : Nat, voks (okI [1] 3) (leM s note hs sh xs.length w z x i) = true) -> vle v5 w -> (∀ x : Nat, x <= xs.length -> atR i xs x = atR i xs a -> TaskOk Tryd.prog nilG (.code ⟨195, none⟩ (lp Tryd.prog 5 2) [] (ofE (tsM.zip (leM s note hs sh xs.length w z x i))) ⟨3, ofMo ([1].zip [some (tokC xs)]), []⟩ (cutM tsM [1] (rMv hro tsM [1] [1] (ridB b) rc (λ x : Nat => leM s note hs sh xs.length w z x i) (λ _ => [some (tokC xs)]) 3 3 (λ x => x <= xs.length /\ atR i xs x = atR i xs a) (λ x => xs.length - x) k x)))) -> TaskOk Tryd.prog ⟨gv, gf, gl⟩ (.code ⟨195, none⟩ (.loop (lp Tryd.prog 5 2)) [] env ⟨3, ht, hro⟩ k) := by
    intro w hvo hvl hr
    refine zvf tsM [1] [1] (ridB b) rc 3 (λ x : Nat => leM s note hs sh xs.length w z x i) (λ _ => [some (tokC xs)]) (λ x => x <= xs.length /\ atR i xs x = atR i xs a) (λ x => xs.length - x) a ⟨by omega, rfl⟩ rfl rfl rfl (Nat.le_refl 3) hlk (by cases b <;> rfl) (by cases b <;> rfl) hvo (λ x => rfl) ?_ ⟨⟨_, g0, zqd _⟩, trivial⟩ hrc (λ x hx => zxQ (gf' := []) (gl' := []) (hr x hx.1 hx.2))
    rw [hT]
    exact ⟨zxy q0, zqa _, zxy q2, zqa _, zqa _, hvl, zqG q6, zqG q7, zqG q8, trivial⟩
   cases b with
   | false =>
    obtain ⟨rfl, rfl⟩ := bV_f q5
    refine main (λ x => rfl) (zqa _) λ x hx he => ?_
    refine go_sound (G := nilG) qmix qNG zqk (zxf rfl) (zqT rfl) 200 _ ?_
    refine ⟨trivial, trivial, λ h => ?_, λ h => ?_⟩
    ·have h : (x : Int) < xs.length := of_decide_eq_true h
     have c1 : (0 : Int) <= (x : Int) /\ (x : Int) < (xs.length : Nat) := ⟨by omega, h⟩
     have c3 : 0 + (x : Int).toNat < xs.length := by omega
     have c5 : I64 ((x : Int) + 1) := by unfold I64; omega
     have e1 : 0 + (x : Int).toNat = x := by omega
     refine ⟨c1, trivial, c3, trivial, λ g => ⟨c5, ?_⟩, λ g => ?_⟩
     ·have g : vI ((xs.getD (0 + (x : Int).toNat) []).getD 3 .und) <= i := of_decide_eq_true g
      rw [e1] at g
      exact ⟨x + 1, [1], ⟨by omega, by rw [<- he, atR_on (by omega) g]⟩, (by omega : xs.length - (x + 1) < xs.length - x), Nat.le_refl 3, rfl, ⟨zqa _, zqa _, zqa _, zqa _, zqa _, zqa _, zqa _, ⟨rfl, by push_cast; rfl⟩, zqa _, trivial⟩, ⟨_, rfl, zqd _⟩, trivial⟩
     ·have g : ¬ vI ((xs.getD (0 + (x : Int).toNat) []).getD 3 .und) <= i := of_decide_eq_false g
      rw [e1] at g
      rw [<- he, atR_no (by omega) g] at hk
      exact ⟨leM s note hs sh xs.length .nils z x i, [1], [tokC xs], Nat.le_refl 3, rfl, rfl, ⟨zqa _, zqa _, zqa _, zqa _, zqa _, zqa _, zqa _, zqa _, zqa _, trivial⟩, ⟨⟨_, rfl, zqd _⟩, trivial⟩, hk⟩
    ·have h : ¬ (x : Int) < xs.length := of_decide_eq_false h
     rw [<- he, atR_end (by omega)] at hk
     exact ⟨leM s note hs sh xs.length .nils z x i, [1], [tokC xs], Nat.le_refl 3, rfl, rfl, ⟨zqa _, zqa _, zqa _, zqa _, zqa _, zqa _, zqa _, zqa _, zqa _, trivial⟩, ⟨⟨_, rfl, zqd _⟩, trivial⟩, hk⟩
   | true =>
    obtain ⟨m, rfl, rfl⟩ := bV_t q5
    refine main (λ x => rfl) (zqa _) λ x hx he => ?_
    refine go_sound (G := nilG) qmix qNG zqk (zxf rfl) (zqT rfl) 200 _ ?_
    refine ⟨trivial, trivial, λ h => ?_, λ h => ?_⟩
    ·have h : (x : Int) < xs.length := of_decide_eq_true h
     have c1 : (0 : Int) <= (x : Int) /\ (x : Int) < (xs.length : Nat) := ⟨by omega, h⟩
     have c3 : 0 + (x : Int).toNat < xs.length := by omega
     have c5 : I64 ((x : Int) + 1) := by unfold I64; omega
     have e1 : 0 + (x : Int).toNat = x := by omega
     refine ⟨c1, trivial, c3, trivial, λ g => ⟨c5, ?_⟩, λ g => ?_⟩
     ·have g : vI ((xs.getD (0 + (x : Int).toNat) []).getD 3 .und) <= i := of_decide_eq_true g
      rw [e1] at g
      exact ⟨x + 1, [1], ⟨by omega, by rw [<- he, atR_on (by omega) g]⟩, (by omega : xs.length - (x + 1) < xs.length - x), Nat.le_refl 3, rfl, ⟨zqa _, zqa _, zqa _, zqa _, zqa _, zqa _, zqa _, ⟨rfl, by push_cast; rfl⟩, zqa _, trivial⟩, ⟨_, rfl, zqd _⟩, trivial⟩
     ·have g : ¬ vI ((xs.getD (0 + (x : Int).toNat) []).getD 3 .und) <= i := of_decide_eq_false g
      rw [e1] at g
      rw [<- he, atR_no (by omega) g] at hk
      exact ⟨leM s note hs sh xs.length (.ssl 2 0 m 1) z x i, [1], [tokC xs], Nat.le_refl 3, rfl, rfl, ⟨zqa _, zqa _, zqa _, zqa _, zqa _, zqa _, zqa _, zqa _, zqa _, trivial⟩, ⟨⟨_, rfl, zqd _⟩, trivial⟩, hk⟩
    ·have h : ¬ (x : Int) < xs.length := of_decide_eq_false h
     rw [<- he, atR_end (by omega)] at hk
     exact ⟨leM s note hs sh xs.length (.ssl 2 0 m 1) z x i, [1], [tokC xs], Nat.le_refl 3, rfl, rfl, ⟨zqa _, zqa _, zqa _, zqa _, zqa _, zqa _, zqa _, zqa _, zqa _, trivial⟩, ⟨⟨_, rfl, zqd _⟩, trivial⟩, hk⟩
  ·exact h.elim
 ·exact h.elim
end
end Go.Proofs.YtekioipmhhcbhaaDoor
namespace Go.Proofs.YtekioipmhhcbhaaDoor
open Go Go.Z Go.Q Go.W6
open Go.Y hiding KE KK KR go Task go_sound
noncomputable section
def m4 (v : Int) : Int := (v.tmod 4 + 4).tmod 4
def nsOf (hs : List (List V)) : List Int := hs.map λ r => m4 (vI (r.getD 0 .und))
theorem ns_head {hs : List (List V)} {k : Nat} (h : k < hs.length) : ((nsOf hs).drop k).headD 0 = m4 (vI ((hs.getD k []).getD 0 .und)) := by
 unfold nsOf
 rw [<- List.map_drop, List.drop_eq_getElem_cons h, List.map_cons, List.headD_cons, List.getD_eq_getElem?_getD (l := hs), List.getElem?_eq_getElem h]
 rfl
theorem ns_none {hs : List (List V)} {k : Nat} (h : hs.length <= k) : ((nsOf hs).drop k).headD 0 = 0 := by
 rw [List.drop_eq_nil_iff.2 (by unfold nsOf; rw [List.length_map]; exact h)]; rfl
theorem ns_tail (ns : List Int) (k : Nat) : (ns.drop k).tail = ns.drop (k + 1) := by rw [List.tail_drop]
theorem out_at (note u : List UInt8) (i : Nat) (l : List Tok) (a : Nat) (ns : List Int) : outF note u i (l.drop a) ns = outF note u i (l.drop (atF i l a)) ns := by
 rw [at_drop, out_dropT]
theorem inT_at (l : List Tok) (i a : Nat) : inT (dropT i (l.drop (atF i l a))) i = inT (l.drop (atF i l a)) i := by
 rw [at_drop, dropT_idem]
structure SL where
 i : Nat
 k : Nat
 a : Nat
 b : List UInt8
def PL (s note : List UInt8) (l : List Tok) (ns : List Int) (x : SL) : Prop :=
 x.i <= s.length + 1 /\ x.a <= l.length /\ x.k <= x.i /\ x.b.length <= 103 * x.i /\ (x.i <= s.length -> x.b ++ outF note (s.drop x.i) x.i (l.drop x.a) (ns.drop x.k) = outF note s 0 l ns) /\ (x.i = s.length + 1 -> x.b = outF note s 0 l ns)
theorem pl_zero (s note : List UInt8) (l : List Tok) (ns : List Int) : PL s note l ns ⟨0, 0, 0, []⟩ :=
 ⟨Nat.zero_le _, Nat.zero_le _, Nat.le_refl _, Nat.zero_le _, λ _ => rfl, λ h => by cases h⟩
theorem ins_len {note : List UInt8} (n : Int) (h : note.length <= 100) : (insB note n).length <= 102 := by
 unfold insB
 split
 ·simp; omega
 ·split
  ·simp
  ·split <;> simp
theorem up_10 (b : Bool) (i : Nat) {c : UInt8} (h : c.toNat = 10) : upC b i c = 10 := by rw [up_lo b i (by omega), c10 h]
variable {s note : List UInt8} {l : List Tok} {ns : List Int} {i k a : Nat} {b : List UInt8}
theorem pl_last (hn : note.length <= 100) (h : PL s note l ns ⟨i, k, a, b⟩) (hi : i = s.length) {n : Int} (hnn : n = (ns.drop k).headD 0) : PL s note l ns ⟨i + 1, k + 1, atF i l a, b ++ insB note n⟩ := by
 obtain ⟨h1, h2, h3, h4, h5, h6⟩ := h
 have hl := ins_len n hn
 have ha := at_le i h2
 dsimp only at h1 h2 h3 h4 h5 h6 ha
 refine ⟨by dsimp only; omega, ha.2, by dsimp only; omega, by dsimp only; rw [List.length_append]; omega, λ h => ?_, λ _ => ?_⟩
 ·dsimp only at h; omega
 ·have := h5 (by omega)
  rw [List.drop_eq_nil_iff.2 (by omega), outF, <- hnn] at this
  exact this
theorem pl_line (hn : note.length <= 100) (h : PL s note l ns ⟨i, k, a, b⟩) (hi : i < s.length) (hc : (s.getD i 0).toNat = 10) {n : Int} (hnn : n = (ns.drop k).headD 0) {c : UInt8} (hcc : c = upC (inT (l.drop (atF i l a)) i) i (s.getD i 0)) : PL s note l ns ⟨i + 1, k + 1, atF i l a, b ++ insB note n ++ [c]⟩ := by
 obtain ⟨h1, h2, h3, h4, h5, h6⟩ := h
 have hl := ins_len n hn
 have ha := at_le i h2
 dsimp only at h1 h2 h3 h4 h5 h6 ha
 refine ⟨by dsimp only; omega, ha.2, by dsimp only; omega, by dsimp only; rw [List.length_append, List.length_append]; simp; omega, λ h => ?_, λ h => by dsimp only at h; omega⟩
 have := h5 (by omega)
 rw [out_at, zxP hi, outF, if_pos hc, <- hnn, ns_tail] at this
 dsimp only
 rw [hcc, up_10 _ _ hc, <- this]
 simp
theorem pl_byte (h : PL s note l ns ⟨i, k, a, b⟩) (hi : i < s.length) (hc : ¬ (s.getD i 0).toNat = 10) {c : UInt8} (hcc : c = upC (inT (l.drop (atF i l a)) i) i (s.getD i 0)) : PL s note l ns ⟨i + 1, k, atF i l a, b ++ [c]⟩ := by
 obtain ⟨h1, h2, h3, h4, h5, h6⟩ := h
 have ha := at_le i h2
 dsimp only at h1 h2 h3 h4 h5 h6 ha
 refine ⟨by dsimp only; omega, ha.2, by dsimp only; omega, by dsimp only; rw [List.length_append]; simp; omega, λ h => ?_, λ h => by dsimp only at h; omega⟩
 have := h5 (by omega)
 rw [out_at, zxP hi, outF, if_neg hc, inT_at, <- hcc] at this
 dsimp only
 rw [<- this]
 simp
end
end Go.Proofs.YtekioipmhhcbhaaDoor
set_option maxRecDepth 100000
set_option maxHeartbeats 4000000
namespace Go.Proofs.YtekioipmhhcbhaaDoor
open Go Go.Z Go.Q Go.W6
open Go.Y hiding KE KK KR go Task go_sound
noncomputable section
variable [Ext]
abbrev ts34 : List Nat := [1, 2, 15, 16, 17]
abbrev fnS : V := .fn (.func 35) [] []
def le34 (n m : Nat) (i : Int) : List V := [.ssl 1 0 m 6, fnS, .ssl 0 0 n 6, .sint .i64 n, .sint .i64 i]
def isFn (f : Go.Fn) : Bool := match f with | .func n => Nat.beq n 35 | _ => false
theorem isFn_eq {f : Go.Fn} (h : isFn f = true) : f = .func 35 := by
 unfold isFn at h
 split at h
 ·rw [beq_tt h]
 ·cases h
def l34 (fi : FI) (ds : List DV) (env : Tr V) (hp : Mem) (k : KK) : Prop := atV 32 2 [0, 1] [] fi ds hp λ rc => match pk ts34 env, hp.t.get 0, hp.t.get 1 with
 | [some (.ssl 1 0 m 6), some (.fn f [] []), some (.ssl 0 0 n 6), some w, some v], some (.rowsO xs sh t0), some (.rowsO ys sh1 t1) => match isFn f, int64 w, int64 v with
  | true, some j, some i => (i = 0 /\ j = (n : Int) /\ sh = shTok /\ sh1 = shTok /\ t0 = 34 /\ t1 = 34 /\ n = xs.length /\ m = ys.length /\ xs.length = ys.length /\ n <= 30000 /\ ∀ j, j < xs.length -> sameR (xs.getD j []) (ys.getD j []) = true) /\
    k (.exit 0) [] (ofE (ts34.zip (le34 n m n))) ⟨2, ofM ([0, 1].zip [tokC xs, tokC ys] ++ [].zip rc), hp.ro⟩
  | _, _, _ => False
 | _, _, _ => False
theorem l34_ok {gv gf gl} : ∀ fi ds env hp k, l34 fi ds env hp k -> TaskOk Tryd.prog ⟨gv, gf, gl⟩ (.code fi (.loop (lp Tryd.prog 34 0)) ds env hp k) := by
 intro fi ds env hp k h
 obtain ⟨rfl, rfl, hn, hlk, rc, hrc, h⟩ := atV_inv h
 split at h
 ·rename_i m f n w v xs sh t0 ys sh1 t1 hT g0 g1
  split at h
  ·rename_i j i qf e1 e0
   obtain ⟨⟨rfl, rfl, rfl, rfl, rfl, rfl, rfl, rfl, hl, hb, hrow⟩, hk⟩ := h
   obtain rfl := isFn_eq qf
   obtain ⟨n', ht, hro⟩ := hp
   dsimp only at hn hlk hrc hk g0 g1
   subst hn
   refine zvf ts34 [0, 1] [0, 1] [] rc 2 (λ x : Nat => le34 xs.length ys.length x) (λ _ => [some (tokC xs), some (tokC ys)]) (λ x => x <= xs.length) (λ x => xs.length - x) 0 (Nat.zero_le _) rfl rfl rfl (Nat.le_refl 2) hlk rfl rfl (λ x => rfl) (λ x => rfl) ?_ ⟨⟨_, g0, zqd _⟩, ⟨_, g1, zqd _⟩, trivial⟩ hrc ?_
   ·rw [hT]
    exact ⟨zqa _, zqa _, zqa _, zqG e1, zqG e0, trivial⟩
   ·intro x hx
    have hx : x <= xs.length := hx
    refine zxQ (gf' := []) (gl' := []) ?_
    refine go_sound (G := nilG) qmix qNG zqk (zxf rfl) (zqT rfl) 200 _ ?_
    refine ⟨trivial, λ h => ?_, λ h => ?_⟩
    ·have h : (x : Int) < xs.length := of_decide_eq_true h
     have b1 : (0 : Int) <= (x : Int) /\ (x : Int) < (xs.length : Nat) := ⟨by omega, h⟩
     have b2 : (0 : Int) <= (x : Int) /\ (x : Int) < (ys.length : Nat) := by omega
     have i1 : 0 + (x : Int).toNat < xs.length := by omega
     have i2 : 0 + (x : Int).toNat < ys.length := by omega
     have e1 : 0 + (x : Int).toNat = x := by omega
     have c5 : I64 ((x : Int) + 1) := by unfold I64; omega
     have hs := hrow x (by omega)
     unfold sameR at hs
     rw [Bool.and_eq_true] at hs
     have hs1 := of_decide_eq_true hs.1
     have hs2 := of_decide_eq_true hs.2
     refine ⟨b1, i1, b2, i2, trivial, λ h1 => ⟨trivial, λ h2 => ⟨c5, ?_⟩, λ h2 => ?_⟩, λ h1 => ?_⟩
     ·exact ⟨x + 1, [0, 1], (by omega : x + 1 <= xs.length), (by omega : xs.length - (x + 1) < xs.length - x), Nat.le_of_ble_eq_true rfl, rfl, ⟨zqa _, zqa _, zqa _, zqa _, ⟨rfl, by push_cast; rfl⟩, trivial⟩, ⟨_, rfl, zqd _⟩, ⟨_, rfl, zqd _⟩, trivial⟩
     ·have h2 : ¬ vS ((xs.getD (0 + (x : Int).toNat) []).getD 1 .und) = vS ((ys.getD (0 + (x : Int).toNat) []).getD 1 .und) := of_decide_eq_false h2
      rw [e1] at h2
      exact absurd hs2 h2
     ·have h1 : ¬ vI ((xs.getD (0 + (x : Int).toNat) []).getD 0 .und) = vI ((ys.getD (0 + (x : Int).toNat) []).getD 0 .und) := of_decide_eq_false h1
      rw [e1] at h1
      exact absurd hs1 h1
    ·have h : ¬ (x : Int) < xs.length := of_decide_eq_false h
     obtain rfl : x = xs.length := by omega
     exact ⟨le34 xs.length ys.length xs.length, [0, 1], [tokC xs, tokC ys], Nat.le_refl 2, rfl, rfl, ⟨zqa _, zqa _, zqa _, zqa _, zqa _, trivial⟩, ⟨⟨_, rfl, zqd _⟩, ⟨_, rfl, zqd _⟩, trivial⟩, hk⟩
  ·exact h.elim
 ·exact h.elim
def kSameL (xs ys : List (List V)) : E -> List (Option Chunk) -> Prop := λ e cs => cs = [some (tokC xs), some (tokC ys)] /\ e = .ret (.bool true)
theorem sameL_run (xs ys : List (List V)) (hl : xs.length = ys.length) (hx : xs.length <= 30000) (hr : ∀ j, j < xs.length -> sameR (xs.getD j []) (ys.getD j []) = true) : TaskOk Tryd.prog ⟨⟨.nil, [], []⟩, [], [(32004, lp Tryd.prog 34 0, l34)]⟩ (.call 18 [.ssl 0 0 xs.length 6, .ssl 1 0 ys.length 6] ⟨2, ofMo ([0, 1].zip [some (tokC xs), some (tokC ys)]), []⟩ (cutE [0, 1] (cN [0, 1] [true, true] (kSameL xs ys)))) := by
 refine go_sound qmix qNG zqk (zxf rfl) (ls_one rfl l34_ok) 200 _ ?_
 refine ⟨trivial, trivial, trivial, λ h => absurd (by rw [hl]) (nT h), λ h => ⟨trivial, rfl, ⟨rfl, rfl, rfl, rfl, rfl, rfl, rfl, rfl, hl, hx, hr⟩, ?_⟩⟩
 exact ⟨.ret (.bool true), [some (tokC xs), some (tokC ys)], rfl, rfl, ⟨zqd _, zqd _, trivial⟩, rfl, rfl, rfl, rfl⟩
def sSameL (args : List V) (hp : Mem) (k : KE) : Prop := match args with
 | [.ssl a 0 n 6, .ssl b 0 m 6] => match hp.t.get a, hp.t.get b, below hp.n [a, b], nodupB [a, b], noLk [a, b] hp.ro with
  | some (.rowsO xs sh t0), some (.rowsO ys sh1 t1), true, true, true => (sh = shTok /\ sh1 = shTok /\ t0 = 34 /\ t1 = 34 /\ n = xs.length /\ m = ys.length /\ xs.length = ys.length /\ n <= 30000 /\ ∀ j, j < xs.length -> sameR (xs.getD j []) (ys.getD j []) = true) /\
    k (.ret (.bool true)) ⟨hp.n, Tr.set 20 (Tr.set 20 hp.t b (some (tokC ys))) a (some (tokC xs)), hp.ro⟩
  | _, _, _, _, _ => False
 | _ => False
theorem sameL_ok {G : GQ} : ∀ args hp k, sSameL args hp k -> TaskOk Tryd.prog G (.call 18 args hp k) := by
 intro args hp k h
 unfold sSameL at h
 split at h
 ·rename_i a n b m
  split at h
  ·rename_i xs sh t0 ys sh1 t1 ga gb hb hd hlk
   obtain ⟨⟨rfl, rfl, rfl, rfl, rfl, rfl, hl, hL, hr⟩, hk⟩ := h
   refine call_fr 2 [0, 1] [a, b] [some (tokC xs), some (tokC ys)] (kSameL xs ys) (sameL_run xs ys hl hL hr) rfl (args0 := [.ssl 0 0 xs.length 6, .ssl 1 0 ys.length 6]) ⟨zqa _, zqa _, trivial⟩ rfl rfl rfl hb rfl hd rfl ⟨⟨_, ga, zqd _⟩, ⟨_, gb, zqd _⟩, trivial⟩ hlk ?_ ?_
   ·intro ρ W hH i hi
    have get : ∀ {i c}, hp.t.get i = some c -> ∃ x, ρ i = some x := λ {i c} hg => by
     obtain ⟨b, o, _, h2⟩ := hH.rel i _ hg
     obtain ⟨c, h3⟩ := h2.at
     exact ⟨_, h3⟩
    rcases List.mem_cons.1 hi with rfl | hi
    ·exact get ga
    ·rw [List.mem_singleton.1 hi]; exact get gb
   ·rintro e cs' ⟨rfl, rfl⟩
    exact hk
  ·exact h.elim
 ·exact h.elim
theorem same_rows {s s' : List UInt8} {l l' : List Tok} (h : l.map ktT = l'.map ktT) : (l.map (rowTok s)).length = (l'.map (rowTok s')).length /\ ∀ j, j < (l.map (rowTok s)).length -> sameR ((l.map (rowTok s)).getD j []) ((l'.map (rowTok s')).getD j []) = true := by
 have hl := congrArg List.length h
 rw [List.length_map, List.length_map] at hl
 refine ⟨by rw [List.length_map, List.length_map, hl], λ j hj => ?_⟩
 rw [List.length_map] at hj
 have hj' : j < l'.length := by omega
 have hk : ktT (l[j]) = ktT (l'[j]) := by
  have := congrArg (λ x : List (Nat × List UInt8) => x[j]?) h
  simpa [List.getElem?_eq_getElem hj, List.getElem?_eq_getElem hj'] using this
 have h1 : (l[j]).kind = (l'[j]).kind := congrArg Prod.fst hk
 have h2 : (l[j]).text = (l'[j]).text := congrArg Prod.snd hk
 rw [List.getD_eq_getElem?_getD, List.getD_eq_getElem?_getD, List.getElem?_map, List.getElem?_map, List.getElem?_eq_getElem hj, List.getElem?_eq_getElem hj']
 show sameR (rowTok s l[j]) (rowTok s' l'[j]) = true
 unfold sameR
 show and (decide (((l[j]).kind : Int) = ((l'[j]).kind : Nat))) (decide ((l[j]).text = (l'[j]).text)) = true
 rw [h1, h2, decide_eq_true rfl, decide_eq_true rfl]; rfl
end
end Go.Proofs.YtekioipmhhcbhaaDoor
