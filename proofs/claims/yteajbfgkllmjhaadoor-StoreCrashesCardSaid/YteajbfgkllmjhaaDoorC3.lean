/- StoreCrashes: the reference's Crash. -/
import Derived.Test.YteajbfgkllmjhaaDoorC2
set_option linter.unusedVariables false
set_option linter.unusedSectionVars false
set_option linter.unusedSimpArgs false
set_option maxRecDepth 100000
set_option maxHeartbeats 4000000
namespace Go.Proofs.YteajbfgkllmjhaaDoor
open Go Go.Z Go.Q
open Go.Y hiding KE KK KR go Task go_sound
noncomputable section
variable [Ext]
abbrev mkC (e : Int) : Chunk := .cells [.nils, .int .i64 e] 35 2
abbrev tsX : List Nat := [1, 2, 3, 4, 8, 9]
def leX (L : List (List V)) (n : Int) (Q : List (List V)) (i : Int) : List V := [.xs L shE, .sint .i64 n, .xs Q shB, .ptr 0 0, .ptr 1 0, .sint .i64 i]
def lRe (fi : FI) (ds : List DV) (env : Tr V) (hp : Mem) (k : KK) : Prop := atV 167 2 [0, 1] [] fi ds hp λ _ => match pk tsX env, hp.t.get 0, hp.t.get 1 with
 | [some (.xs L [.int .i64, .str]), some v1, some (.xs Q [.int .u8]), some (.ptr 0 0), some (.ptr 1 0), some v5], some (.cells [.xs S [.str]] ty 1), some c1 => match int64 v1, int64 v5 with
  | some n, some i => (i = 0 /\ ty = 24 /\ c1 = mkC 0 /\ L.length <= 100) /\
    (¬ okL S.length L -> ∀ i, k .ret [] (ofE (tsX.zip (leX L n Q i))) ⟨2, ofM ([1].zip [mkC 1] ++ [].zip []), hp.ro⟩) /\
    (okL S.length L -> k (.exit 0) [] (ofE (tsX.zip (leX L n Q L.length))) ⟨2, ofM ([0, 1].zip [boxS S, mkC 0] ++ [].zip []), hp.ro⟩)
  | _, _ => False
 | _, _, _ => False
theorem re_ok {gv gf gl} : ∀ fi ds env hp k, lRe fi ds env hp k -> TaskOk Tryd.prog ⟨gv, gf, gl⟩ (.code fi (.loop (lp Tryd.prog 7 0)) ds env hp k) := by
 intro fi ds env hp k h
 obtain ⟨rfl, rfl, hn, hlk, rc, hrc, h⟩ := zxo h
 split at h
 ·rename_i L v1 Q v5 S ty c1 hT g0 g1
  split at h
  ·rename_i n i q1 q5
   obtain ⟨⟨rfl, rfl, rfl, hl⟩, hk1, hk2⟩ := h
   obtain ⟨n', ht, hro⟩ := hp
   dsimp only at hn hlk hk1 hk2 g0 g1
   subst hn
   refine zxm tsX [0, 1] [0, 1] [] [] 2 (λ x : Nat => leX L n Q x) (λ _ => [some (boxS S), some (mkC 0)]) (λ x => x <= L.length /\ ∀ j, j < x -> okE S.length L j) (λ x => L.length - x) 0 ⟨Nat.zero_le _, λ j hj => absurd hj (Nat.not_lt_zero j)⟩ rfl rfl rfl (Nat.le_refl 2) hlk rfl rfl (λ x => rfl) (λ x => rfl) ?_ ⟨⟨_, g0, zqd _⟩, ⟨_, g1, zqd _⟩, trivial⟩ rfl ?_
   ·rw [hT]
    exact ⟨zqa _, zql q1, zqa _, zqa _, zqa _, zql q5, trivial⟩
   ·rintro x ⟨hx, hall⟩
    have e1 : (x : Int).toNat = x := by omega
    refine zqP (gf' := []) (gl' := []) ?_
    refine go_sound (G := nilG) qmix qNG zqx (zqV rfl) (zxl rfl) 300 _ ?_
    have ret : ∀ b : V, x < L.length -> ¬ okE S.length L x -> rMv hro tsX [0, 1] [0, 1] [] [] (λ x : Nat => leX L n Q x) (λ _ => [some (boxS S), some (mkC 0)]) 2 2 (λ x => x <= L.length /\ ∀ j, j < x -> okE S.length L j) (λ x => L.length - x) k x .ret
      ((leX L n Q x).map some) 2 [some (boxS S), some (mkC 1)] := λ b h1 h2 =>
     ⟨leX L n Q x, [1], [mkC 1], Nat.le_refl 2, rfl, rfl, ⟨zqa _, zqa _, zqa _, zqa _, zqa _, zqa _, trivial⟩, ⟨⟨_, rfl, zqd _⟩, trivial⟩, hk1 (λ hh => h2 (hh x h1)) x⟩
    have nxt : x < L.length -> okE S.length L x -> rMv hro tsX [0, 1] [0, 1] [] [] (λ x : Nat => leX L n Q x) (λ _ => [some (boxS S), some (mkC 0)]) 2 2 (λ x => x <= L.length /\ ∀ j, j < x -> okE S.length L j) (λ x => L.length - x) k x .normal
      ((leX L n Q ((x : Int) + 1)).map some) 2 [some (boxS S), some (mkC 0)] := λ h1 h2 => by
     refine ⟨x + 1, [0, 1], ⟨by omega, λ j hj => ?_⟩, (by omega : L.length - (x + 1) < L.length - x), Nat.le_refl 2, rfl, ⟨zqa _, zqa _, zqa _, zqa _, zqa _, ⟨rfl, by push_cast; rfl⟩, trivial⟩, ⟨_, rfl, zqd _⟩, ⟨_, rfl, zqd _⟩, trivial⟩
     rcases Nat.lt_or_ge j x with hj' | hj'
     ·exact hall j hj'
     ·obtain rfl : j = x := by omega
      exact h2
    refine ⟨trivial, trivial, λ h => ?_, λ h => ?_⟩
    ·have h : (x : Int) < L.length := of_decide_eq_true h
     have hx' : x < L.length := by omega
     have c5 : I64 ((x : Int) + 1) := by unfold I64; omega
     have c1 : (0 : Int) <= x /\ (x : Int) < L.length := ⟨by omega, h⟩
     have c3 : (x : Int).toNat < L.length := by omega
     have bar : decide (eW L (x : Int).toNat = -1) = true -> decide (eD L (x : Int).toNat = []) = true -> okE S.length L x := λ a b => by
      have a : eW L (x : Int).toNat = -1 := of_decide_eq_true a
      have b : eD L (x : Int).toNat = [] := of_decide_eq_true b
      rw [e1] at a b
      exact .inr ⟨a, b⟩
     have nob : ¬ (0 <= eW L x /\ eW L x < S.length /\ (eD L x).length = 64) -> (decide (eW L (x : Int).toNat = -1) = false \/ decide (eD L (x : Int).toNat = []) = false) -> ¬ okE S.length L x := λ a b => by
      rintro (hh | hh)
      ·exact a hh
      ·rw [e1] at b
       rcases b with b | b
       ·exact of_decide_eq_false b hh.1
       ·exact of_decide_eq_false b hh.2
     refine ⟨c1, trivial, c3, trivial, λ h2 => ⟨c1, trivial, c3, trivial, trivial, λ h3 => ⟨c1, trivial, c3, trivial, trivial, λ h4 => ?_, λ h9 => ?_⟩, λ h14 => ?_⟩, λ h19 => ?_⟩
     ·have h2 : 0 <= eW L (x : Int).toNat := of_decide_eq_true h2
      have h3 : eW L (x : Int).toNat < S.length := of_decide_eq_true h3
      have h4 : ((eD L (x : Int).toNat).length : Int) = 64 := of_decide_eq_true h4
      rw [e1] at h2 h3 h4
      have hk : okE S.length L x := .inl ⟨h2, h3, by omega⟩
      exact ⟨c1, trivial, c3, trivial, λ h5 => ⟨c1, trivial, c3, trivial, λ h6 => ⟨c5, nxt hx' hk⟩, λ h7 => ⟨c5, nxt hx' hk⟩⟩, λ h8 => ⟨c5, nxt hx' hk⟩⟩
     ·have h9 : ¬ ((eD L (x : Int).toNat).length : Int) = 64 := of_decide_eq_false h9
      rw [e1] at h9
      have hno := nob (λ hh => h9 (by omega))
      exact ⟨c1, trivial, c3, trivial, λ h10 => ⟨c1, trivial, c3, trivial, λ h11 => ⟨c5, nxt hx' (bar h10 h11)⟩, λ h12 => ret .und hx' (hno (.inr h12))⟩, λ h13 => ret .und hx' (hno (.inl h13))⟩
     ·have h14 : ¬ eW L (x : Int).toNat < S.length := of_decide_eq_false h14
      rw [e1] at h14
      have hno := nob (λ hh => h14 (by omega))
      exact ⟨c1, trivial, c3, trivial, λ h10 => ⟨c1, trivial, c3, trivial, λ h11 => ⟨c5, nxt hx' (bar h10 h11)⟩, λ h12 => ret .und hx' (hno (.inr h12))⟩, λ h13 => ret .und hx' (hno (.inl h13))⟩
     ·have h19 : ¬ 0 <= eW L (x : Int).toNat := of_decide_eq_false h19
      rw [e1] at h19
      have hno := nob (λ hh => h19 (by omega))
      exact ⟨c1, trivial, c3, trivial, λ h10 => ⟨c1, trivial, c3, trivial, λ h11 => ⟨c5, nxt hx' (bar h10 h11)⟩, λ h12 => ret .und hx' (hno (.inr h12))⟩, λ h13 => ret .und hx' (hno (.inl h13))⟩
    ·have h : ¬ (x : Int) < L.length := of_decide_eq_false h
     obtain rfl : x = L.length := by omega
     exact ⟨leX L n Q L.length, [0, 1], [boxS S, mkC 0], Nat.le_refl 2, rfl, rfl, ⟨zqa _, zqa _, zqa _, zqa _, zqa _, zqa _, trivial⟩, ⟨⟨_, rfl, zqd _⟩, ⟨_, rfl, zqd _⟩, trivial⟩, hk2 hall⟩
  ·exact h.elim
 ·exact h.elim
abbrev tsV : List Nat := [1, 2, 3, 4, 8, 12, 13]
def leV (L : List (List V)) (n : Int) (Q : List (List V)) (w i : Int) : List V := [.xs L shE, .sint .i64 n, .xs Q shB, .ptr 0 0, .ptr 1 0, .sint .i64 w, .sint .i64 i]
def lRl (fi : FI) (ds : List DV) (env : Tr V) (hp : Mem) (k : KK) : Prop := atV 167 2 [] [0, 1] fi ds hp λ rc => match pk tsV env with
 | [some (.xs L [.int .i64, .str]), some v1, some (.xs Q [.int .u8]), some (.ptr 0 0), some (.ptr 1 0), some v5, some v6] => match int64 v1, int64 v5, int64 v6 with
  | some n, some w, some i => (i = 0 /\ w = 0 /\ 0 <= n /\ n <= (L.length : Int) /\ L.length <= 100) /\
    k (.exit 2) [] (ofE (tsV.zip (leV L n Q (lastF L n.toNat : Nat) n))) ⟨2, ofM ([].zip [] ++ [0, 1].zip rc), hp.ro⟩
  | _, _, _ => False
 | _ => False
theorem rl_ok {gv gf gl} : ∀ fi ds env hp k, lRl fi ds env hp k -> TaskOk Tryd.prog ⟨gv, gf, gl⟩ (.code fi (.loop (lp Tryd.prog 7 1)) ds env hp k) := by
 intro fi ds env hp k h
 obtain ⟨rfl, rfl, hn, hlk, rc, hrc, h⟩ := zxo h
 split at h
 ·rename_i L v1 Q v5 v6 hT
  split at h
  ·rename_i n w i q1 q5 q6
   obtain ⟨⟨rfl, rfl, h0, hnl, hl⟩, hk⟩ := h
   obtain ⟨n', ht, hro⟩ := hp
   dsimp only at hn hlk hrc hk
   subst hn
   refine zxm tsV [] [] [0, 1] rc 2 (λ x : Nat => leV L n Q (lastF L x : Nat) x) (λ _ => []) (λ x => x <= n.toNat) (λ x => n.toNat - x) 0 (Nat.zero_le _) rfl rfl rfl (Nat.le_refl 2) hlk rfl rfl (λ x => rfl) (λ x => rfl) ?_ trivial hrc ?_
   ·rw [hT]
    exact ⟨zqa _, zql q1, zqa _, zqa _, zqa _, zql q5, zql q6, trivial⟩
   ·intro x hx
    have hx : x <= n.toNat := hx
    have e1 : (x : Int).toNat = x := by omega
    refine zqP (gf' := []) (gl' := []) ?_
    refine go_sound (G := nilG) qmix qNG zqx (zqV rfl) (zxl rfl) 200 _ ?_
    refine ⟨trivial, λ h => ?_, λ h => ?_⟩
    ·have h : (x : Int) < n := of_decide_eq_true h
     have c5 : I64 ((x : Int) + 1) := by unfold I64; omega
     refine ⟨⟨by omega, by omega⟩, trivial, by omega, trivial, λ g => ⟨c5, c5, ?_⟩, λ g => ⟨c5, ?_⟩⟩
     ·have g : eW L (x : Int).toNat = -1 := of_decide_eq_true g
      rw [e1] at g
      refine ⟨x + 1, [], (by show x + 1 <= n.toNat; omega), (by omega : n.toNat - (x + 1) < n.toNat - x), Nat.le_refl 2, rfl, ⟨zqa _, zqa _, zqa _, zqa _, zqa _, ⟨rfl, ?_⟩, ⟨rfl, by push_cast; rfl⟩, trivial⟩, trivial⟩
      show (x : Int) + 1 = ((lastF L (x + 1) : Nat) : Int)
      simp only [lastF, if_pos g]
      omega
     ·have g : ¬ eW L (x : Int).toNat = -1 := of_decide_eq_false g
      rw [e1] at g
      refine ⟨x + 1, [], (by show x + 1 <= n.toNat; omega), (by omega : n.toNat - (x + 1) < n.toNat - x), Nat.le_refl 2, rfl, ⟨zqa _, zqa _, zqa _, zqa _, zqa _, ⟨rfl, ?_⟩, ⟨rfl, by push_cast; rfl⟩, trivial⟩, trivial⟩
      show ((lastF L x : Nat) : Int) = ((lastF L (x + 1) : Nat) : Int)
      simp only [lastF, if_neg g]
    ·have h : ¬ (x : Int) < n := of_decide_eq_false h
     have ex : x = n.toNat := by omega
     subst ex
     exact ⟨leV L n Q (lastF L n.toNat : Nat) n, [], [], Nat.le_refl 2, rfl, rfl, ⟨zqa _, zqa _, zqa _, zqa _, zqa _, zqa _, ⟨rfl, by omega⟩, trivial⟩, trivial, hk⟩
  ·exact h.elim
 ·exact h.elim
abbrev tsZ : List Nat := [1, 2, 3, 8, 12, 14, 15]
def leZ (L : List (List V)) (n : Int) (Q : List (List V)) (w i : Int) : List V := [.xs L shE, .sint .i64 n, .xs Q shB, .ptr 1 0, .sint .i64 w, .ptr 2 0, .sint .i64 i]
abbrev dC (m : Nat) : Chunk := .cells [.ssl 4 0 m 1] 24 1
def lRw (fi : FI) (ds : List DV) (env : Tr V) (hp : Mem) (k : KK) : Prop := atV 167 5 [2, 4] [1] fi ds hp λ rc => match pk tsZ env, hp.t.get 2, hp.t.get 4 with
 | [some (.xs L [.int .i64, .str]), some v1, some (.xs Q [.int .u8]), some (.ptr 1 0), some v4, some (.ptr 2 0), some v6], some c2, some (.rows R sh ty) => match int64 v1, int64 v4, int64 v6 with
  | some n, some w, some i => ∃ (S : List (List V)) (b : Nat), (i = 0 /\ w = (b : Int) /\ b <= 100 /\ 0 <= n /\ n <= (L.length : Int) /\ L.length <= 100 /\ c2 = dC S.length /\ R = S /\ S = rowsT (T0 S) /\ sh = [.str] /\ ty = 9 /\ fullS S /\ okL S.length L /\ okQ Q) /\
    k (.exit 4) [] (ofE (tsZ.zip (leZ L n Q w n))) ⟨5, ofM ([2, 4].zip [dC S.length, strC (crT S L Q b n.toNat)] ++ [1].zip rc), hp.ro⟩
  | _, _, _ => False
 | _, _, _ => False
theorem rowsT_get {T : List (List UInt8)} {w : Nat} (h : w < T.length) : vS (((rowsT T).getD w []).getD 0 .und) = T.getD w [] := by
 unfold rowsT
 rw [getD_map h, List.getD_eq_getElem?_getD (l := T), List.getElem?_eq_getElem h]; rfl
theorem rowsT_set {T : List (List UInt8)} {w : Nat} {d : List UInt8} : (rowsT T).set w [.sstr d] = rowsT (T.set w d) := by
 unfold rowsT
 rw [List.map_set]
theorem step_all {T : List (List UInt8)} {w : Nat} {d : List UInt8} (hT : all64 T) (hw : w < T.length) (hd : d.length = 64) : stepT T w d 64 = T.set w d := by
 have hg : (T.getD w []).length = 64 := by
  rw [List.getD_eq_getElem?_getD, List.getElem?_eq_getElem hw]
  exact hT _ (List.getElem_mem hw)
 unfold stepT
 rw [List.take_of_length_le (by omega), List.drop_of_length_le (by omega), List.append_nil]
theorem step_zero {T : List (List UInt8)} {w : Nat} {d : List UInt8} (hw : w < T.length) : stepT T w d 0 = T := by
 unfold stepT
 rw [List.take_zero, List.drop_zero, List.nil_append, List.getD_eq_getElem?_getD, List.getElem?_eq_getElem hw]
 exact List.set_getElem_self hw
theorem rw_ok {gv gf gl} : ∀ fi ds env hp k, lRw fi ds env hp k -> TaskOk Tryd.prog ⟨gv, gf, gl⟩ (.code fi (.loop (lp Tryd.prog 7 2)) ds env hp k) := by
 intro fi ds env hp k h
 obtain ⟨rfl, rfl, hn, hlk, rc, hrc, h⟩ := zxo h
 split at h
 ·rename_i L v1 Q v4 v6 c2 R sh ty hT g2 g4
  split at h
  ·rename_i n w i q1 q4 q6
   obtain ⟨S, b, ⟨rfl, rfl, hb, h0, hnl, hl, rfl, rfl, hN, rfl, rfl, hS, hX, hQ⟩, hk⟩ := h
   obtain ⟨n', ht, hro⟩ := hp
   dsimp only at hn hlk hrc hk g2 g4
   subst hn
   refine zxm tsZ [2, 4] [2, 4] [1] rc 5 (λ x : Nat => leZ L n Q b x) (λ x => [some (dC R.length), some (strC (crT R L Q b x))]) (λ x => x <= n.toNat) (λ x => n.toNat - x) 0 (Nat.zero_le _) rfl rfl rfl (Nat.le_refl 5) hlk rfl rfl (λ x => rfl) (λ x => rfl) ?_ ⟨⟨_, g2, zqd _⟩, ⟨_, g4, ?_⟩, trivial⟩ hrc ?_
   ·rw [hT]
    exact ⟨zqa _, zql q1, zqa _, zqa _, zql q4, zqa _, zql q6, trivial⟩
   ·show Chunk.rows R _ _ = Chunk.rows (rowsT (T0 R)) _ _
    rw [<- hN]
   ·intro x hx
    have hx : x <= n.toNat := hx
    have e1 : (x : Int).toNat = x := by omega
    obtain ⟨h64, hlen⟩ := cr_64 (Q := Q) (b := b) hS hX x (by omega)
    refine zqP (gf' := []) (gl' := []) ?_
    refine go_sound (G := nilG) qmix qNG zqx (zqV rfl) (zxl rfl) 300 _ ?_
    have nxt : ∀ (m : Nat) (cs : List (Option Chunk)) (C : Chunk), m = 6 -> cs = [some (dC R.length), some C] -> x < n.toNat -> C = strC (crT R L Q b (x + 1)) -> rMv hro tsZ [2, 4] [2, 4] [1] rc (λ x : Nat => leZ L n Q b x) (λ x => [some (dC R.length), some (strC (crT R L Q b x))]) 5 5 (λ x => x <= n.toNat) (λ x => n.toNat - x) k x .normal
      ((leZ L n Q b ((x : Int) + 1)).map some) m cs := λ m cs C hm h0 h1 h2 => by
     subst hm h0 h2
     exact ⟨x + 1, [2, 4], (by show x + 1 <= n.toNat; omega), (by omega : n.toNat - (x + 1) < n.toNat - x), by decide, rfl, ⟨zqa _, zqa _, zqa _, zqa _, zqa _, zqa _, ⟨rfl, by push_cast; rfl⟩, trivial⟩, ⟨_, rfl, zqd _⟩, ⟨_, rfl, zqd _⟩, trivial⟩
    refine ⟨trivial, λ h => ?_, λ h => ?_⟩
    ·have h : (x : Int) < n := of_decide_eq_true h
     have hx' : x < n.toNat := by omega
     have c5 : I64 ((x : Int) + 1) := by unfold I64; omega
     have c6 : I64 ((x : Int) - b) := by unfold I64; omega
     refine ⟨⟨by omega, by omega⟩, by omega, trivial, λ h2 => ⟨c5, ?_⟩, λ h3 => ?_⟩
     ·have h2 : eW L (x : Int).toNat = -1 := of_decide_eq_true h2
      rw [e1] at h2
      exact nxt _ _ _ rfl rfl hx' (by simp only [crT, if_pos h2])
     ·have h3 : ¬ eW L (x : Int).toNat = -1 := of_decide_eq_false h3
      have h3' : ¬ eW L x = -1 := by rw [e1] at h3; exact h3
      obtain ⟨w1, w2, w3⟩ : 0 <= eW L x /\ eW L x < R.length /\ (eD L x).length = 64 := by
       rcases hX x (by omega) with hw | hw
       ·exact hw
       ·exact absurd hw.1 h3'
      have hlt : (eW L x).toNat < (crT R L Q b x).length := by rw [hlen]; omega
      have d1 : 0 <= eW L (x : Int).toNat /\ eW L (x : Int).toNat < R.length := by rw [e1]; exact ⟨w1, w2⟩
      have d2 : 0 + (eW L (x : Int).toNat).toNat < (rowsT (crT R L Q b x)).length := by
       rw [e1, Nat.zero_add]; unfold rowsT; rw [List.length_map]; exact hlt
      have hold : ((crT R L Q b x).getD (eW L x).toNat []).length = 64 := by
       rw [List.getD_eq_getElem?_getD, List.getElem?_eq_getElem hlt]
       exact h64 _ (List.getElem_mem hlt)
      have cr1 : crT R L Q b (x + 1) = stepT (crT R L Q b x) (eW L x).toNat (eD L x) (manyF Q b x) := by simp only [crT, if_neg h3']
      have whole : manyF Q b x = 64 -> Chunk.rows ((rowsT (crT R L Q b x)).set (0 + (eW L (x : Int).toNat).toNat) [.sstr (eD L (x : Int).toNat)]) [.str] 9 = strC (crT R L Q b (x + 1)) := λ hm => by
       rw [e1, Nat.zero_add, rowsT_set, cr1, hm, step_all h64 hlt w3]
      refine ⟨trivial, λ h4 => ⟨c6, trivial, trivial, λ h5 => ?_, λ h10 => ?_⟩, λ h11 => ?_⟩
      ·have h4 : (b : Int) <= x := of_decide_eq_true h4
       have h5 : (x : Int) - b < Q.length := of_decide_eq_true h5
       have ei : ((x : Int) - b).toNat = x - b := by omega
       have hq := hQ (x - b) (by omega)
       have c8 : I64 (pB Q ((x : Int) - b).toNat) := by rw [ei]; unfold I64; omega
       refine ⟨c6, ⟨by omega, h5⟩, by omega, c8, trivial, λ h6 => ?_, λ h7 => ⟨trivial, λ h8 => ?_, λ h9 => ⟨c5, ?_⟩⟩⟩
       ·have h6 : pB Q ((x : Int) - b).toNat = 255 := of_decide_eq_true h6
        rw [ei] at h6
        exact ⟨d1, ⟨d2, trivial⟩, c5, nxt _ _ _ rfl rfl hx' (whole (by unfold manyF; rw [if_neg λ hh => hh.2.2 h6]))⟩
       ·have h7 : ¬ pB Q ((x : Int) - b).toNat = 255 := of_decide_eq_false h7
        have h8 : 0 < pB Q ((x : Int) - b).toNat := of_decide_eq_true h8
        rw [ei] at h7 h8
        have hm : (Int.tmod (pB Q ((x : Int) - b).toNat) 65).toNat = manyF Q b x := by
         rw [ei, Int.tmod_eq_emod_of_nonneg hq.1]
         unfold manyF
         rw [if_pos ⟨by omega, by omega, h7⟩]
         omega
        have hm0 : 0 <= Int.tmod (pB Q ((x : Int) - b).toNat) 65 := by
         rw [ei, Int.tmod_eq_emod_of_nonneg hq.1]; omega
        have hm1 : Int.tmod (pB Q ((x : Int) - b).toNat) 65 <= 64 := by
         rw [ei, Int.tmod_eq_emod_of_nonneg hq.1]; omega
        have hd : (eD L (x : Int).toNat).length = 64 := by rw [e1]; exact w3
        have ho : vS (((rowsT (crT R L Q b x)).getD (0 + (eW L (x : Int).toNat).toNat) []).getD 0 .und) = (crT R L Q b x).getD (eW L x).toNat [] := by
         rw [e1, Nat.zero_add, rowsT_get hlt]
        have hol : (vS (((rowsT (crT R L Q b x)).getD (0 + (eW L (x : Int).toNat).toNat) []).getD 0 .und)).length = 64 := by rw [ho]; exact hold
        refine ⟨by decide, ⟨hm0, ?_⟩, d1, d2, ⟨hm0, ?_⟩, ?_, d1, ⟨d2, trivial⟩, c5, nxt _ _ _ rfl rfl hx' ?_⟩
        ·show Int.tmod (pB Q ((x : Int) - b).toNat) 65 <= ((eD L (x : Int).toNat).length : Int)
         rw [hd]; exact hm1
        ·show Int.tmod (pB Q ((x : Int) - b).toNat) 65 <= ((vS (((rowsT (crT R L Q b x)).getD (0 + (eW L (x : Int).toNat).toNat) []).getD 0 .und)).length : Int)
         rw [hol]; exact hm1
        ·refine Nat.le_trans (Nat.add_le_add (by rw [List.length_take]; exact Nat.min_le_right _ _) (by rw [List.length_drop]; exact Nat.sub_le _ _)) ?_
         show (eD L (x : Int).toNat).length + (vS (((rowsT (crT R L Q b x)).getD (0 + (eW L (x : Int).toNat).toNat) []).getD 0 .und)).length <= _
         rw [hd, hol]; decide
        ·show Chunk.rows ((rowsT (crT R L Q b x)).set (0 + (eW L (x : Int).toNat).toNat) [.sstr ((eD L (x : Int).toNat).take (Int.tmod (pB Q ((x : Int) - b).toNat) 65).toNat ++ (vS (((rowsT (crT R L Q b x)).getD (0 + (eW L (x : Int).toNat).toNat) []).getD 0 .und)).drop (Int.tmod (pB Q ((x : Int) - b).toNat) 65).toNat)]) [.str] 9 = _
         rw [ho, hm, e1, Nat.zero_add, rowsT_set, cr1]
         rfl
       ·have h7 : ¬ pB Q ((x : Int) - b).toNat = 255 := of_decide_eq_false h7
        have h9 : ¬ 0 < pB Q ((x : Int) - b).toNat := of_decide_eq_false h9
        rw [ei] at h7 h9
        have hm : manyF Q b x = 0 := by
         unfold manyF
         rw [if_pos ⟨by omega, by omega, h7⟩]
         omega
        exact nxt _ _ _ rfl rfl hx' (by rw [cr1, hm, step_zero hlt])
      ·have h10 : ¬ (x : Int) - b < Q.length := of_decide_eq_false h10
       exact ⟨d1, ⟨d2, trivial⟩, c5, nxt _ _ _ rfl rfl hx' (whole (by unfold manyF; rw [if_neg λ hh => by have := hh.1; have := hh.2.1; omega]))⟩
      ·have h11 : ¬ (b : Int) <= x := of_decide_eq_false h11
       exact ⟨d1, ⟨d2, trivial⟩, c5, nxt _ _ _ rfl rfl hx' (whole (by unfold manyF; rw [if_neg λ hh => by have := hh.1; omega]))⟩
    ·have h : ¬ (x : Int) < n := of_decide_eq_false h
     have ex : x = n.toNat := by omega
     subst ex
     exact ⟨leZ L n Q b n, [2, 4], [dC R.length, strC (crT R L Q b n.toNat)], Nat.le_refl 5, rfl, rfl, ⟨zqa _, zqa _, zqa _, zqa _, zqa _, zqa _, ⟨rfl, by omega⟩, trivial⟩, ⟨⟨_, rfl, zqd _⟩, ⟨_, rfl, zqd _⟩, trivial⟩, hk⟩
  ·exact h.elim
 ·exact h.elim
end
end Go.Proofs.YteajbfgkllmjhaaDoor
set_option maxRecDepth 100000
set_option maxHeartbeats 4000000
namespace Go.Proofs.YteajbfgkllmjhaaDoor
open Go Go.Z Go.Q
open Go.Y hiding KE KK KR go Task go_sound
noncomputable section
variable [Ext]
def crashRV (id : Nat) (S L : List (List V)) (n : Int) (Q : List (List V)) : V := .agg [.ssl id 0 (outF S L n Q).length 1, .sint .i64 (errF S L n)]
def kRe (S L : List (List V)) (n : Int) (Q : List (List V)) : E -> List (Option Chunk) -> Option Chunk -> Prop := λ e cs nc => cs = [] /\ e = .ret (crashRV 0 S L n Q) /\ nc = some (crashC S L n Q)
noncomputable abbrev GRe : GQ := ⟨⟨.nil, [], []⟩, [(20, sRight)], [(167004, lp Tryd.prog 7 0, lRe), (167012, lp Tryd.prog 7 1, lRl), (167019, lp Tryd.prog 7 2, lRw)]⟩
theorem dec_p {p : Prop} (h : (!dec p) = false) : p := by
 by_cases hp : p
 ·exact hp
 ·rw [dec_f hp] at h; cases h
theorem dec_n {p : Prop} (h : (!dec p) = true) : ¬ p := λ hp => by rw [dec_t hp] at h; cases h
theorem re_bad {S L Q : List (List V)} {n : Int} {m : Nat} (hm : Nat.blt 1 m = true) {c : Option Chunk} (h : ¬ goodC S L n) : cNn [] [1, 4] 0 [] (kRe S L n Q) (.ret (.agg [.nils, .int .i64 1])) m [some (mkC 1), c] := by
 refine .inr ⟨.ret (crashRV 0 S L n Q), [], 1, mkC 1, crashC S L n Q, ?_, rfl, trivial, rfl, rfl, rfl, hm, rfl, .inl ?_, rfl, rfl, rfl, rfl⟩
 ·show dle (.agg [.nils, _]) (.agg [.ssl _ 0 (outF S L n Q).length 1, .sint .i64 (errF S L n)])
  rw [(zjG (Q := Q) h).1, (zjG (Q := Q) h).2]
  exact ⟨rfl, ⟨rfl, rfl⟩, trivial⟩
 ·rw [(zjG (Q := Q) h).1]; rfl
theorem re_run (S L : List (List V)) (n : Int) (Q : List (List V)) (hL : L.length <= 100) (hQ : okQ Q) (hN : S = rowsT (T0 S)) : TaskOk Tryd.prog GRe (.call 7 [.agg [.xs S [.str]], .xs L shE, .sint .i64 n, .xs Q shB] ⟨0, ofMo ([].zip []), []⟩ (cutA ([] ++ [1, 4]) (cNn [] ([] ++ [1, 4]) 0 (shp []) (kRe S L n Q)))) := by
 refine go_sound (G := GRe) qmix qNG zqx (fs_all ⟨right_ok, trivial⟩) (ls_all ⟨re_ok, rl_ok, rw_ok, trivial⟩) 200 _ ?_
 refine ⟨trivial, λ h1 => ?_, λ h2 => ⟨trivial, λ h3 => ?_, λ h4 => ⟨trivial, trivial, λ h5 => ?_, λ h6 => ?_⟩⟩⟩
 ·exact re_bad rfl (λ hh => dec_n h1 hh.1)
 ·have h3 : n < 0 := of_decide_eq_true h3
  exact re_bad rfl (λ hh => by have := hh.2.2; omega)
 ·have h5 : (L.length : Int) < n := of_decide_eq_true h5
  exact re_bad rfl (λ hh => by have := hh.2.2; omega)
 ·have h2 : rightS S := dec_p h2
  have h4 : ¬ n < 0 := of_decide_eq_false h4
  have h6 : ¬ (L.length : Int) < n := of_decide_eq_false h6
  refine ⟨rfl, ⟨rfl, rfl, rfl, hL⟩, λ h7 i => ?_, λ h8 => ?_⟩
  ·exact re_bad rfl (λ hh => h7 hh.2.1)
  ·have hg : goodC S L n := ⟨h2, h8, by omega, by omega⟩
   have h9 := h2.1
   have hb : lastF L n.toNat <= 100 := by
    have key : ∀ i, lastF L i <= i := λ i => by
     induction i with
     | zero => exact Nat.le_refl 0
     | succ i ih =>
      simp only [lastF]
      split <;> omega
    have := key n.toNat
    omega
   obtain ⟨k1, k2⟩ := cr_64 (Q := Q) (b := lastF L n.toNat) h2.2 h8 n.toNat (by omega)
   refine ⟨rfl, ⟨rfl, rfl, by omega, by omega, hL⟩, ⟨trivial, (by show (0 + S.length) * 16 <= 140737488355328; omega), by omega⟩, rfl, S, _, ⟨rfl, rfl, hb, by omega, by omega, hL, ?_, rfl, hN, rfl, rfl, h2.2, h8, hQ⟩, ?_⟩
   ·show Chunk.cells [.ssl 4 0 (0 + S.length) 1] _ 1 = dC S.length
    rw [Nat.zero_add]
   ·refine .inr ⟨.ret (crashRV 0 S L n Q), [], 4, strC (outF S L n Q), crashC S L n Q, ?_, rfl, trivial, rfl, rfl, rfl, rfl, ?_, ⟨rfl, rfl, rfl⟩, rfl, rfl, rfl, rfl⟩
    ·show dle (.agg [.ssl 4 0 S.length 1, _]) (.agg [.ssl _ 0 (outF S L n Q).length 1, .sint .i64 (errF S L n)])
     rw [(zjr (Q := Q) hg).2, (zjr (Q := Q) hg).1, k2]
     exact ⟨rfl, ⟨rfl, rfl⟩, trivial⟩
    ·rw [(zjr (Q := Q) hg).1]; rfl
theorem lkOk_nil {ro0 : List Lk} : ∀ ls, lkOk [] [] ro0 ls
 | [] => trivial
 | _ :: ls => ⟨trivial, lkOk_nil ls⟩
def sCrash (v : Nat -> List (List V) -> List (List V) -> Int -> List (List V) -> V) (args : List V) (hp : Mem) (k : KE) : Prop := match args with
 | [.agg [.xs S [.str]], .xs L [.int .i64, .str], w, .xs Q [.int .u8]] => match int64 w, small hp.n with
  | some n, true => (L.length <= 100 /\ okQ Q /\ S = rowsT (T0 S)) /\ k (.ret (v hp.n S L n Q)) ⟨hp.n + 1, Tr.set 20 hp.t hp.n (some (crashC S L n Q)), hp.ro⟩
  | _, _ => False
 | _ => False
theorem crash_ok {gv gf gl} : ∀ args hp k, sCrash crashV args hp k -> TaskOk Tryd.prog ⟨gv, gf, gl⟩ (.call 6 args hp k) := by
 intro args hp k h
 unfold sCrash at h
 split at h
 ·rename_i S L w Q
  split at h
  ·rename_i n hw hsm
   obtain ⟨⟨hL, hQ, hN⟩, hk⟩ := h
   refine call_nw 0 [] [1, 6] [] [] [] (kCr S L n Q) (crash_run S L n Q hL hQ) (λ g id e => by cases e) (λ l hl => by cases hl) (args0 := [.agg [.xs S [.str]], .xs L shE, .sint .i64 n, .xs Q shB]) ⟨zqa _, zqa _, zql hw, zqa _, trivial⟩ rfl rfl rfl rfl rfl rfl rfl trivial (lkOk_nil _) (λ ρ W hH i hi => by cases hi) hsm ?_ ?_
   ·rintro e cs' ⟨_, _, h⟩; cases h
   ·rintro e cs' ch ⟨rfl, rfl, h⟩
    cases h
    exact hk
  ·exact h.elim
 ·exact h.elim
theorem crashR_ok {gv gf gl} : ∀ args hp k, sCrash crashRV args hp k -> TaskOk Tryd.prog ⟨gv, gf, gl⟩ (.call 7 args hp k) := by
 intro args hp k h
 unfold sCrash at h
 split at h
 ·rename_i S L w Q
  split at h
  ·rename_i n hw hsm
   obtain ⟨⟨hL, hQ, hN⟩, hk⟩ := h
   refine call_nw 0 [] [1, 4] [] [] [] (kRe S L n Q) (re_run S L n Q hL hQ hN) (λ g id e => by cases e) (λ l hl => by cases hl) (args0 := [.agg [.xs S [.str]], .xs L shE, .sint .i64 n, .xs Q shB]) ⟨zqa _, zqa _, zql hw, zqa _, trivial⟩ rfl rfl rfl rfl rfl rfl rfl trivial (lkOk_nil _) (λ ρ W hH i hi => by cases hi) hsm ?_ ?_
   ·rintro e cs' ⟨_, _, h⟩; cases h
   ·rintro e cs' ch ⟨rfl, rfl, h⟩
    cases h
    exact hk
  ·exact h.elim
 ·exact h.elim
end
end Go.Proofs.YteajbfgkllmjhaaDoor
