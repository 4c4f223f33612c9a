/- StoreCrashes: the loops that write and that tell; the program's Crash. -/
import Derived.Test.YteajbfgkllmjhaaDoorC1
set_option linter.unusedVariables false
set_option linter.unusedSectionVars false
set_option linter.unusedSimpArgs false
set_option maxRecDepth 100000
set_option maxHeartbeats 4000000
namespace Go.Proofs.YteajbfgkllmjhaaDoor
open Go Go.Z Go.Q
open Go.Y hiding KE KK KR go Task go_sound
noncomputable section
variable [Ext]
abbrev tsR : List Nat := [3, 8, 10, 15, 91, 92, 93]
def leR (Q : List (List V)) (m : Nat) (w : Int) (X : List (List V)) (i : Int) : List V := [.xs Q shB, .ptr 1 0, .ssl 3 0 m 64, .sint .i64 w, .xs X shE, .sint .i64 X.length, .sint .i64 i]
def lWr (fi : FI) (ds : List DV) (env : Tr V) (hp : Mem) (k : KK) : Prop := atV 139 4 [3] [1] fi ds hp λ rc => match pk tsR env, hp.t.get 3 with
 | [some (.xs Q [.int .u8]), some (.ptr 1 0), some (.ssl 3 0 m 64), some v3, some (.xs X [.int .i64, .str]), some v5, some v6], some c3 => match int64 v3, int64 v5, int64 v6 with
  | some w, some c, some i => ∃ (S : List (List V)) (b : Nat), (i = 0 /\ c = X.length /\ X.length <= 100 /\ w = (b : Int) - 1 /\ b <= 100 /\ c3 = rowsC (T0 S) /\ m = S.length /\ fullS S /\ okL S.length X /\ ∀ j, j < Q.length -> 0 <= pB Q j /\ pB Q j <= 255) /\
    k (.exit 4) [] (ofE (tsR.zip (leR Q m w X X.length))) ⟨4, ofM ([3].zip [rowsC (crT S X Q b X.length)] ++ [1].zip rc), hp.ro⟩
  | _, _, _ => False
 | _, _ => False
theorem wr_ok {gv gf gl} : ∀ fi ds env hp k, lWr fi ds env hp k -> TaskOk Tryd.prog ⟨gv, gf, gl⟩ (.code fi (.loop (lp Tryd.prog 6 2)) ds env hp k) := by
 intro fi ds env hp k h
 obtain ⟨rfl, rfl, hn, hlk, rc, hrc, h⟩ := zxo h
 split at h
 ·rename_i Q m v3 X v5 v6 c3 hT g0
  split at h
  ·rename_i w c i q3 q5 q6
   obtain ⟨S, b, ⟨rfl, rfl, hl, rfl, hb, rfl, rfl, hS, hX, hQ⟩, hk⟩ := h
   obtain ⟨n', ht, hro⟩ := hp
   dsimp only at hn hlk hrc hk g0
   subst hn
   refine zxm tsR [3] [3] [1] rc 4 (λ x : Nat => leR Q S.length ((b : Int) - 1) X x) (λ x => [some (rowsC (crT S X Q b x))]) (λ x => x <= X.length) (λ x => X.length - x) 0 (Nat.zero_le _) rfl rfl rfl (Nat.le_refl 4) hlk rfl rfl (λ x => rfl) (λ x => rfl) ?_ ⟨⟨_, g0, zqd _⟩, trivial⟩ hrc ?_
   ·rw [hT]
    exact ⟨zqa _, zqa _, zqa _, zql q3, zqa _, zql q5, zql q6, trivial⟩
   ·intro x hx
    have hx : x <= X.length := hx
    have e1 : (x : Int).toNat = x := by omega
    obtain ⟨h64, hlen⟩ := cr_64 (Q := Q) (b := b) hS hX x hx
    refine zqP (gf' := []) (gl' := []) ?_
    refine go_sound (G := nilG) qmix qNG zqx (zqV rfl) (zxl rfl) 300 _ ?_
    have nxt : ∀ (cs : List (Option Chunk)) (C : Chunk), cs = [some C] -> x < X.length -> C = rowsC (crT S X Q b (x + 1)) -> rMv hro tsR [3] [3] [1] rc (λ x : Nat => leR Q S.length ((b : Int) - 1) X x) (λ x => [some (rowsC (crT S X Q b x))]) 4 4 (λ x => x <= X.length) (λ x => X.length - x) k x .normal
      ((leR Q S.length ((b : Int) - 1) X ((x : Int) + 1)).map some) 5 cs := λ cs C h0 h1 h2 => by
     subst h0 h2
     exact ⟨x + 1, [3], (by show x + 1 <= X.length; omega), (by omega : X.length - (x + 1) < X.length - x), by decide, rfl, ⟨zqa _, zqa _, zqa _, zqa _, zqa _, zqa _, ⟨rfl, by push_cast; rfl⟩, trivial⟩, ⟨_, rfl, zqd _⟩, trivial⟩
    refine ⟨trivial, λ h => ?_, λ h => ?_⟩
    ·have h : (x : Int) < X.length := of_decide_eq_true h
     have hx' : x < X.length := by omega
     have c5 : I64 ((x : Int) + 1) := by unfold I64; omega
     have c6 : I64 ((x : Int) - ((b : Int) - 1)) := by unfold I64; omega
     have c7 : I64 ((x : Int) - ((b : Int) - 1) - 1) := by unfold I64; omega
     have ek : (x : Int) - ((b : Int) - 1) - 1 = (x : Int) - b := by omega
     -- a write
     have wrt : ¬ eW X (x : Int).toNat = -1 -> ∀ len : Int, 0 <= len -> len <= 64 -> len.toNat = manyF Q b x ->
       ((0 <= eW X (x : Int).toNat /\ eW X (x : Int).toNat < S.length) /\ (0 + (eW X (x : Int).toNat).toNat < ((crT S X Q b x).map rowB).length)) /\
       Chunk.rows (((crT S X Q b x).map rowB).set (0 + (eW X (x : Int).toNat).toNat) (overR (((crT S X Q b x).map rowB).getD (0 + (eW X (x : Int).toNat).toNat) []) (eD X (x : Int).toNat) len.toNat)) sh64 57 = rowsC (crT S X Q b (x + 1)) := by
      intro hne len l0 l1 l2
      rw [e1] at hne ⊢
      rcases hX x hx' with hw | hw
      ·have hlt : (eW X x).toNat < (crT S X Q b x).length := by rw [hlen]; omega
       rw [Nat.zero_add]
       refine ⟨⟨⟨hw.1, hw.2.1⟩, by rw [List.length_map]; exact hlt⟩, ?_⟩
       rw [l2, row_set h64 hlt hw.2.2 many_le]
       simp only [crT, if_neg hne]
      ·exact absurd hw.1 hne
     refine ⟨⟨by omega, h⟩, by omega, trivial, λ h2 => ⟨c5, ?_⟩, λ h3 => ?_⟩
     ·have h2 : eW X (x : Int).toNat = -1 := of_decide_eq_true h2
      rw [e1] at h2
      exact nxt _ _ rfl hx' (by simp only [crT, if_pos h2])
     ·have h3 : ¬ eW X (x : Int).toNat = -1 := of_decide_eq_false h3
      refine ⟨c6, c7, trivial, λ h4 => ⟨trivial, trivial, λ h5 => ?_, λ h8 => ?_⟩, λ h9 => ?_⟩
      ·have h4 : (b : Int) - 1 < x := of_decide_eq_true h4
       have h5 : (x : Int) - ((b : Int) - 1) - 1 < Q.length := of_decide_eq_true h5
       have ei : ((x : Int) - ((b : Int) - 1) - 1).toNat = x - b := by omega
       have hlt : x - b < Q.length := by omega
       have hq := hQ (x - b) hlt
       refine ⟨⟨by omega, h5⟩, by omega, trivial, λ h6 => ?_, λ h7 => ?_⟩
       ·have h6 : ¬ pB Q ((x : Int) - ((b : Int) - 1) - 1).toNat = 255 := nT h6
        rw [ei] at h6
        have hm : (Int.tmod (pB Q ((x : Int) - ((b : Int) - 1) - 1).toNat) 65).toNat = manyF Q b x := by
         rw [ei, Int.tmod_eq_emod_of_nonneg hq.1]
         unfold manyF
         rw [if_pos ⟨by omega, hlt, h6⟩]
         omega
        have hm0 : 0 <= Int.tmod (pB Q ((x : Int) - ((b : Int) - 1) - 1).toNat) 65 := by
         rw [ei, Int.tmod_eq_emod_of_nonneg hq.1]; omega
        have hm1 : Int.tmod (pB Q ((x : Int) - ((b : Int) - 1) - 1).toNat) 65 <= 64 := by
         rw [ei, Int.tmod_eq_emod_of_nonneg hq.1]; omega
        obtain ⟨⟨w1, w2⟩, w3⟩ := wrt h3 _ hm0 hm1 hm
        have c8 : I64 (pB Q ((x : Int) - ((b : Int) - 1) - 1).toNat) := by rw [ei]; unfold I64; omega
        exact ⟨⟨by omega, h5⟩, (by rw [ei]; exact hlt), c8, (by decide), w1, ⟨hm0, hm1⟩, ⟨rfl, w2, by show (Int.tmod (pB Q ((x : Int) - ((b : Int) - 1) - 1).toNat) 65).toNat <= 64; omega⟩, c5, nxt _ _ rfl hx' w3⟩
       ·have h7 : pB Q ((x : Int) - ((b : Int) - 1) - 1).toNat = 255 := nF h7
        rw [ei] at h7
        have hm : (64 : Int).toNat = manyF Q b x := by
         unfold manyF
         rw [if_neg (λ hh => hh.2.2 h7)]; rfl
        obtain ⟨⟨w1, w2⟩, w3⟩ := wrt h3 64 (by decide) (by decide) hm
        exact ⟨w1, ⟨by decide, by decide⟩, ⟨rfl, w2, by decide⟩, c5, nxt _ _ rfl hx' w3⟩
      ·have h8 : ¬ (x : Int) - ((b : Int) - 1) - 1 < Q.length := of_decide_eq_false h8
       have hm : (64 : Int).toNat = manyF Q b x := by
        unfold manyF
        rw [if_neg (λ hh => by have := hh.1; have := hh.2.1; omega)]; rfl
       obtain ⟨⟨w1, w2⟩, w3⟩ := wrt h3 64 (by decide) (by decide) hm
       exact ⟨w1, ⟨by decide, by decide⟩, ⟨rfl, w2, by decide⟩, c5, nxt _ _ rfl hx' w3⟩
      ·have h9 : ¬ (b : Int) - 1 < x := of_decide_eq_false h9
       have hm : (64 : Int).toNat = manyF Q b x := by
        unfold manyF
        rw [if_neg (λ hh => by have := hh.1; omega)]; rfl
       obtain ⟨⟨w1, w2⟩, w3⟩ := wrt h3 64 (by decide) (by decide) hm
       exact ⟨w1, ⟨by decide, by decide⟩, ⟨rfl, w2, by decide⟩, c5, nxt _ _ rfl hx' w3⟩
    ·have h : ¬ (x : Int) < X.length := of_decide_eq_false h
     obtain rfl : x = X.length := by omega
     exact ⟨leR Q S.length ((b : Int) - 1) X X.length, [3], [rowsC (crT S X Q b X.length)], Nat.le_refl 4, rfl, rfl, ⟨zqa _, zqa _, zqa _, zqa _, zqa _, zqa _, zqa _, trivial⟩, ⟨⟨_, rfl, zqd _⟩, trivial⟩, hk⟩
  ·exact h.elim
 ·exact h.elim
end
end Go.Proofs.YteajbfgkllmjhaaDoor
set_option maxRecDepth 100000
set_option maxHeartbeats 4000000
namespace Go.Proofs.YteajbfgkllmjhaaDoor
open Go Go.Z Go.Q
open Go.Y hiding KE KK KR go Task go_sound
noncomputable section
variable [Ext]
theorem rowV_norm {r : List V} (hr : ∀ v ∈ r, ∃ n, v = .sint .u8 n) : ∀ {sh : List Sh} {j : Nat}, allU8 sh = true -> r.length = j + sh.length -> rowV r sh j = r.drop j
 | [], j, _, h => by rw [List.drop_eq_nil_of_le (by simp at h; omega)]; rfl
 | s :: sh, j, hs, h => by
  have hs2 : s = .int .u8 /\ allU8 sh = true := by
   unfold allU8 at hs
   split at hs
   ·rename_i e; cases e
   ·rename_i e; cases e; exact ⟨rfl, hs⟩
   ·cases hs
  clear hs
  obtain ⟨rfl, hs⟩ := hs2
  simp only [List.length_cons] at h
  have hj : j < r.length := by omega
  rw [List.drop_eq_getElem_cons hj]
  simp only [rowV]
  rw [rowV_norm (sh := sh) (j := j + 1) hr (by assumption) (by omega), List.getD_eq_getElem?_getD, List.getElem?_eq_getElem hj]
  obtain ⟨n, hn⟩ := hr r[j] (List.getElem_mem hj)
  simp only [Option.getD_some, hn]
  rfl
theorem row_norm {t : List UInt8} (h : t.length = 64) : rowV (rowB t) sh64 0 = byR t := by
 rw [byR_arr h, rowV_norm (λ v hv => ?_) sh64_all (by unfold byR; rw [List.length_map, h]; rfl), List.drop_zero]
 obtain ⟨c, _, rfl⟩ := List.mem_map.1 hv
 exact ⟨_, rfl⟩
theorem byB_byR (t : List UInt8) : (byR t).map byB = t := by
 unfold byR
 rw [List.map_map]
 conv => rhs; rw [<- List.map_id t]
 refine List.map_congr_left λ c _ => ?_
 show UInt8.ofNat ((c.toNat : Int)).toNat = c
 simp
theorem byR_isB {t : List UInt8} : ∀ v ∈ byR t, isB v := λ v hv => by
 obtain ⟨c, _, rfl⟩ := List.mem_map.1 hv
 have := c.toNat_lt
 exact ⟨_, by omega, by omega, .inr rfl⟩
abbrev tsT : List Nat := [2, 3, 6, 7, 8]
def leT (m : Nat) (i : Int) : List V := [.ptr 4 0, .ptr 5 0, .ssl 3 0 m 64, .sint .i64 m, .sint .i64 i]
abbrev sC (m : Nat) : Chunk := .cells [.ssl 6 0 m 1] 24 1
abbrev strC (T : List (List UInt8)) : Chunk := .rows (rowsT T) [.str] 9
def lmT (T : List (List UInt8)) : Nat -> List (Option Chunk)
 | 0 => [some (rowsC T), some nilD, none]
 | x + 1 => [some (rowsC T), some (sC (x + 1)), some (strC (T.take (x + 1)))]
def lTo (fi : FI) (ds : List DV) (env : Tr V) (hp : Mem) (k : KK) : Prop := atV 21 6 [3, 5, 6] [1, 4] fi ds hp λ rc => match pk tsT env, hp.t.get 3, hp.t.get 5 with
 | [some (.ptr 4 0), some (.ptr 5 0), some (.ssl 3 0 m 64), some v3, some v4], some c3, some (.cells [.nils] ty 1) => match int64 v3, int64 v4 with
  | some c, some i => ∃ T : List (List UInt8), (i = 0 /\ c = m /\ ty = 24 /\ c3 = rowsC T /\ m = T.length /\ 1 <= m /\ m <= 1024 /\ all64 T) /\
    k (.exit 0) [] (ofE (tsT.zip (leT m m))) ⟨7, ofM ([5, 6].zip [sC m, strC T] ++ [1, 4].zip rc), hp.ro⟩
  | _, _ => False
 | _, _, _ => False
theorem rowsT_snoc {T : List (List UInt8)} {x : Nat} (h : x < T.length) : rowsT (T.take (x + 1)) = rowsT (T.take x) ++ [[.sstr (T.getD x [])]] := by
 unfold rowsT
 rw [List.take_add_one, List.getElem?_eq_getElem h, List.getD_eq_getElem?_getD, List.getElem?_eq_getElem h, List.map_append]
 rfl
theorem to_ok {gv gf gl} : ∀ fi ds env hp k, lTo fi ds env hp k -> TaskOk Tryd.prog ⟨gv, gf, gl⟩ (.code fi (.loop (lp Tryd.prog 19 0)) ds env hp k) := by
 intro fi ds env hp k h
 obtain ⟨rfl, rfl, hn, hlk, rc, hrc, h⟩ := zxo h
 split at h
 ·rename_i m v3 v4 c3 ty hT g3 g5
  split at h
  ·rename_i c i q3 q4
   obtain ⟨T, ⟨rfl, rfl, rfl, rfl, rfl, hm1, hm2, h64⟩, hk⟩ := h
   obtain ⟨n', ht, hro⟩ := hp
   dsimp only at hn hlk hrc hk g3 g5
   subst hn
   refine zxm tsT [3, 5, 6] [3, 5, 6, 7, 8, 9, 10] [1, 4] rc 7 (λ x : Nat => leT T.length x) (lmT T) (λ x => x <= T.length) (λ x => T.length - x) 0 (Nat.zero_le _) rfl rfl rfl (Nat.le_succ 6) hlk rfl rfl (λ x => rfl) (λ x => by cases x <;> rfl) ?_ ⟨⟨_, g3, zqd _⟩, ⟨_, g5, zqd _⟩, trivial⟩ hrc ?_
   ·rw [hT]
    exact ⟨zqa _, zqa _, zqa _, zql q3, zql q4, trivial⟩
   ·intro x hx
    have hx : x <= T.length := hx
    have e1 : 0 + (x : Int).toNat = x := by omega
    refine zqP (gf' := []) (gl' := []) ?_
    refine go_sound (G := nilG) qmix qNG zqx (zqV rfl) (zxl rfl) 300 _ ?_
    have row : x < T.length -> rowV ((T.map rowB).getD (0 + (x : Int).toNat) []) sh64 0 = byR (T.getD x []) := λ h => by
     rw [e1, getD_map h, row_norm (h64 _ (List.getElem_mem h)), List.getD_eq_getElem?_getD, List.getElem?_eq_getElem h]; rfl
    cases x with
    | zero =>
     have h0 : 0 < T.length := by omega
     have hrow := row h0
     refine ⟨trivial, λ h => ?_, λ h => ?_⟩
     ·refine ⟨⟨by decide, by omega⟩, (by show 0 + ((0 : Nat) : Int).toNat < (T.map rowB).length; rw [List.length_map, e1]; exact h0), ?_, ⟨by decide, by decide⟩, ?_⟩
      ·show ∀ v ∈ rowV ((T.map rowB).getD (0 + ((0 : Nat) : Int).toNat) []) sh64 0, isB v
       rw [hrow]; exact byR_isB
      ·refine ⟨1, [3, 5, 9], (by show 1 <= T.length; omega), (by omega : T.length - 1 < T.length - 0), (by show 7 <= 10; decide), rfl, ⟨zqa _, zqa _, zqa _, zqa _, ⟨rfl, rfl⟩, trivial⟩, ⟨_, rfl, zqd _⟩, ⟨_, rfl, ⟨rfl, rfl, ⟨⟨rfl, rfl, rfl, rfl⟩, trivial⟩⟩⟩, ⟨_, rfl, ?_⟩, trivial⟩
       show chle (.cells [.sstr ((rowV ((T.map rowB).getD (0 + ((0 : Nat) : Int).toNat) []) sh64 0).map byB)] _ 1) (.rows (rowsT (T.take (0 + 1))) _ _)
       rw [hrow, byB_byR, rowsT_snoc h0]
       refine ⟨rfl, rfl, λ r hr => ?_, zjK _⟩
       rw [List.mem_singleton.1 (show r ∈ [[V.sstr (T.getD 0 [])]] from hr)]
       exact ⟨_, [], rfl, ⟨_, .inl rfl⟩, rfl⟩
     ·have h : ¬ ((0 : Nat) : Int) < T.length := of_decide_eq_false h
      omega
    | succ x =>
     have hlz : (rowsT (T.take (x + 1))).length = x + 1 := by unfold rowsT; rw [List.length_map, List.length_take]; omega
     refine ⟨trivial, λ h => ?_, λ h => ?_⟩
     ·have h : ((x + 1 : Nat) : Int) < T.length := of_decide_eq_true h
      have hx' : x + 1 < T.length := by omega
      have hrow := row hx'
      have c5 : I64 (((x + 1 : Nat) : Int) + 1) := by unfold I64; omega
      refine ⟨⟨by omega, h⟩, (by show 0 + ((x + 1 : Nat) : Int).toNat < (T.map rowB).length; rw [List.length_map, e1]; exact hx'), ?_, ⟨⟨by omega, (by show x + 1 <= (rowsT (T.take (x + 1))).length; omega)⟩, trivial, (by show (x + 1 + 1) * 16 <= 140737488355328; omega), by omega⟩, c5, ?_⟩
      ·show ∀ v ∈ rowV ((T.map rowB).getD (0 + ((x + 1 : Nat) : Int).toNat) []) sh64 0, isB v
       rw [hrow]; exact byR_isB
      ·refine ⟨x + 2, [3, 5, 9], (by show x + 2 <= T.length; omega), (by omega : T.length - (x + 2) < T.length - (x + 1)), (by show 7 <= 10; decide), rfl, ⟨zqa _, zqa _, zqa _, zqa _, ⟨rfl, by push_cast; omega⟩, trivial⟩, ⟨_, rfl, zqd _⟩, ⟨_, rfl, zqd _⟩, ⟨_, rfl, ?_⟩, trivial⟩
       show chle (.rows ((rowsT (T.take (x + 1))).take (x + 1) ++ [[.sstr ((rowV ((T.map rowB).getD (0 + ((x + 1 : Nat) : Int).toNat) []) sh64 0).map byB)]]) _ _) (.rows (rowsT (T.take (x + 1 + 1))) _ _)
       rw [hrow, byB_byR, rowsT_snoc (x := x + 1) hx', List.take_of_length_le (Nat.le_of_eq hlz)]
       exact zqd _
     ·have h : ¬ ((x + 1 : Nat) : Int) < T.length := of_decide_eq_false h
      have e : T.length = x + 1 := by omega
      have et : T.take (x + 1) = T := List.take_of_length_le (by omega)
      rw [e] at hk
      refine ⟨leT (x + 1) (x + 1 : Nat), [5, 6], [sC (x + 1), strC T], Nat.le_refl 7, rfl, rfl, ⟨zqa _, zqa _, ?_, ⟨rfl, by rw [e]⟩, zqa _, trivial⟩, ⟨⟨_, rfl, zqd _⟩, ⟨_, rfl, ?_⟩, trivial⟩, hk⟩
      ·show vle (.ssl 3 0 T.length 64) (.ssl 3 0 (x + 1) 64)
       rw [e]; exact zqa _
      ·rw [et]; exact zqd _
  ·exact h.elim
 ·exact h.elim
end
end Go.Proofs.YteajbfgkllmjhaaDoor
set_option maxRecDepth 100000
set_option maxHeartbeats 4000000
namespace Go.Proofs.YteajbfgkllmjhaaDoor
open Go Go.Z Go.Q
open Go.Y hiding KE KK KR go Task go_sound
noncomputable section
variable [Ext]
theorem last_same {X L : List (List V)} : ∀ {i : Nat}, (∀ j, j < i -> X.getD j [] = L.getD j []) -> lastF X i = lastF L i
 | 0, _ => rfl
 | i + 1, h => by
  have e : eW X i = eW L i := by unfold eW; rw [h i (Nat.lt_succ_self i)]
  simp only [lastF, e, last_same (i := i) λ j hj => h j (by omega)]
theorem cr_same {S X L Q : List (List V)} {b : Nat} : ∀ {i : Nat}, (∀ j, j < i -> X.getD j [] = L.getD j []) -> crT S X Q b i = crT S L Q b i
 | 0, _ => rfl
 | i + 1, h => by
  have e : eW X i = eW L i := by unfold eW; rw [h i (Nat.lt_succ_self i)]
  have e2 : eD X i = eD L i := by unfold eD; rw [h i (Nat.lt_succ_self i)]
  simp only [crT, e, e2, cr_same (i := i) λ j hj => h j (by omega)]
theorem cut_len {L : List (List V)} {n : Int} (h0 : 0 <= n) (h1 : n <= (L.length : Int)) : ((L.take n.toNat).drop (Int.toNat 0)).length = n.toNat := by
 rw [show Int.toNat 0 = 0 from rfl, List.drop_zero, List.length_take]; omega
theorem cut_get {L : List (List V)} {n : Int} {j : Nat} (h : j < n.toNat) : ((L.take n.toNat).drop (Int.toNat 0)).getD j [] = L.getD j [] := by
 rw [show Int.toNat 0 = 0 from rfl, List.drop_zero, List.getD_eq_getElem?_getD, List.getElem?_take_of_lt h, <- List.getD_eq_getElem?_getD]
def goodC (S L : List (List V)) (n : Int) : Prop := rightS S /\ okL S.length L /\ 0 <= n /\ n <= (L.length : Int)
open Classical in
theorem zjr {S L Q : List (List V)} {n : Int} (h : goodC S L n) : outF S L n Q = crT S L Q (lastF L n.toNat) n.toNat /\ errF S L n = 0 := ⟨if_pos h, if_pos h⟩
open Classical in
theorem zjG {S L Q : List (List V)} {n : Int} (h : ¬ goodC S L n) : outF S L n Q = [] /\ errF S L n = 1 := ⟨if_neg h, if_neg h⟩
def crashV (id : Nat) (S L : List (List V)) (n : Int) (Q : List (List V)) : V := .tup [.agg [.ssl id 0 (outF S L n Q).length 1], .sint .i64 (errF S L n)]
def crashC (S L : List (List V)) (n : Int) (Q : List (List V)) : Chunk := .rowsO (rowsT (outF S L n Q)) [.str] 9
def kCr (S L : List (List V)) (n : Int) (Q : List (List V)) : E -> List (Option Chunk) -> Option Chunk -> Prop := λ e cs nc => cs = [] /\ e = .ret (crashV 0 S L n Q) /\ nc = some (crashC S L n Q)
noncomputable abbrev GCr : GQ := ⟨⟨.nil, [], []⟩, [], [(36005, lp Tryd.prog 18 0, lMd), (139005, lp Tryd.prog 6 0, lEv), (139015, lp Tryd.prog 6 1, lLa), (139021, lp Tryd.prog 6 2, lWr), (21003, lp Tryd.prog 19 0, lTo)]⟩
def okQ (Q : List (List V)) : Prop := ∀ j, j < Q.length -> 0 <= pB Q j /\ pB Q j <= 255
theorem zxN {S L Q : List (List V)} {n : Int} {m : Nat} (hm : Nat.blt 1 m = true) {c : Option Chunk} (h : ¬ goodC S L n) : cNn [] [1, 6] 0 [] (kCr S L n Q) (.ret (.tup [.agg [.nils], .int .i64 1])) m [some nilD, c] := by
 refine .inr ⟨.ret (crashV 0 S L n Q), [], 1, nilD, crashC S L n Q, ?_, rfl, trivial, rfl, rfl, rfl, hm, rfl, .inl ?_, rfl, rfl, rfl, rfl⟩
 ·show dle (.tup [.agg [.nils], _]) (.tup [.agg [.ssl _ 0 (outF S L n Q).length 1], .sint .i64 (errF S L n)])
  rw [(zjG (Q := Q) h).1, (zjG (Q := Q) h).2]
  exact ⟨⟨rfl, trivial⟩, ⟨rfl, rfl⟩, trivial⟩
 ·rw [(zjG (Q := Q) h).1]; rfl
theorem crash_run (S L : List (List V)) (n : Int) (Q : List (List V)) (hL : L.length <= 100) (hQ : okQ Q) : TaskOk Tryd.prog GCr (.call 6 [.agg [.xs S [.str]], .xs L shE, .sint .i64 n, .xs Q shB] ⟨0, ofMo ([].zip []), []⟩ (cutA ([] ++ [1, 6]) (cNn [] ([] ++ [1, 6]) 0 (shp []) (kCr S L n Q)))) := by
 refine go_sound (G := GCr) qmix qNG zqx (zqV rfl) (ls_all ⟨md_ok, ev_ok, la_ok, wr_ok, to_ok, trivial⟩) 200 _ ?_
 refine ⟨trivial, trivial, λ h1 => ?_, λ h2 => ⟨trivial, trivial, λ h3 => ?_, λ h4 => ?_⟩⟩
 ·have h1 : (S.length : Int) < 8 := of_decide_eq_true h1
  exact zxN rfl (λ hh => by have := hh.1.1; omega)
 ·have h3 : (1024 : Int) < S.length := of_decide_eq_true h3
  exact zxN rfl (λ hh => by have := hh.1.1; omega)
 ·have h2 : ¬ (S.length : Int) < 8 := of_decide_eq_false h2
  have h4 : ¬ (1024 : Int) < S.length := of_decide_eq_false h4
  refine ⟨trivial, rfl, ⟨rfl, rfl, by omega, by omega⟩, λ h5 w i => ?_, λ h6 => ⟨trivial, rfl, ⟨rfl, rfl, rfl, rfl, hL⟩, λ h7 i => ?_, λ h8 => ⟨trivial, λ h9 => ?_, λ h10 => ⟨trivial, trivial, λ h11 => ?_, λ h12 => ?_⟩⟩⟩⟩
  ·exact zxN rfl (λ hh => h5 hh.1.2)
  ·exact zxN rfl (λ hh => h7 hh.2.1)
  ·have h9 : n < 0 := of_decide_eq_true h9
   exact zxN rfl (λ hh => by have := hh.2.2; omega)
  ·have h11 : (L.length : Int) < n := of_decide_eq_true h11
   exact zxN rfl (λ hh => by have := hh.2.2; omega)
  ·have h10 : ¬ n < 0 := of_decide_eq_false h10
   have h12 : ¬ (L.length : Int) < n := of_decide_eq_false h12
   have hg : goodC S L n := ⟨⟨⟨by omega, by omega⟩, h6⟩, h8, by omega, by omega⟩
   have hcl := cut_len (L := L) (n := n) (by omega) (by omega)
   have hX : okL S.length ((L.take n.toNat).drop (Int.toNat 0)) := λ j hj => by
    have hj' : j < n.toNat := by rw [<- hcl]; exact hj
    have := h8 j (by omega)
    unfold okE eW eD at this ⊢
    rw [cut_get hj']; exact this
   obtain ⟨k1, k2⟩ := cr_64 (Q := Q) (b := lastF ((L.take n.toNat).drop (Int.toNat 0)) ((L.take n.toNat).drop (Int.toNat 0)).length) h6 hX ((L.take n.toNat).drop (Int.toNat 0)).length (Nat.le_refl _)
   have hb : lastF ((L.take n.toNat).drop (Int.toNat 0)) ((L.take n.toNat).drop (Int.toNat 0)).length <= ((L.take n.toNat).drop (Int.toNat 0)).length := by
    generalize (L.take n.toNat).drop (Int.toNat 0) = X
    have key : ∀ i, lastF X i <= i := λ i => by
     induction i with
     | zero => exact Nat.le_refl 0
     | succ i ih =>
      simp only [lastF]
      split <;> omega
    exact key _
   have hT : crT S ((L.take n.toNat).drop (Int.toNat 0)) Q (lastF ((L.take n.toNat).drop (Int.toNat 0)) ((L.take n.toNat).drop (Int.toNat 0)).length) ((L.take n.toNat).drop (Int.toNat 0)).length = outF S L n Q := by
    rw [(zjr (Q := Q) hg).1, hcl, cr_same (λ j hj => cut_get hj), last_same (λ j hj => cut_get hj)]
   refine ⟨⟨Int.le_refl 0, by omega, by omega⟩, trivial, rfl, ⟨rfl, rfl, rfl, by rw [hcl]; omega⟩, ⟨Int.le_refl 0, by omega, by omega⟩, trivial, rfl, S, _, ⟨rfl, rfl, by rw [hcl]; omega, rfl, by omega, rfl, rfl, h6, hX, hQ⟩, ?_⟩
   refine ⟨trivial, rfl, _, ⟨rfl, rfl, rfl, rfl, k2.symm, by omega, by omega, k1⟩, ?_⟩
   refine .inr ⟨.ret (crashV 0 S L n Q), [], 6, strC (outF S L n Q), crashC S L n Q, ?_, rfl, trivial, rfl, rfl, rfl, rfl, ?_, ⟨rfl, rfl, rfl⟩, rfl, rfl, rfl, rfl⟩
   ·show dle (.tup [.agg [.ssl 6 0 S.length 1], _]) (.tup [.agg [.ssl _ 0 (outF S L n Q).length 1], .sint .i64 (errF S L n)])
    rw [(zjr (Q := Q) hg).2, <- hT, k2]
    exact ⟨⟨rfl, trivial⟩, ⟨rfl, rfl⟩, trivial⟩
   ·rw [<- hT]; rfl
end
end Go.Proofs.YteajbfgkllmjhaaDoor
