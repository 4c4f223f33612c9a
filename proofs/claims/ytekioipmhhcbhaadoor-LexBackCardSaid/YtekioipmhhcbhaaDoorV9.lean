/- Lines and columns: what lex.Where, lex.Offset and those of the reference compute, each run once by the machine over open terms. -/
import Derived.Test.YtekioipmhhcbhaaDoorM9
import Derived.Test.YtekioipmhhcbhaaDoorKp
import Derived.Test.YtekioipmhhcbhaaDoorKm
import Derived.Test.YtekioipmhhcbhaaDoorKk
import Derived.Test.YtekioipmhhcbhaaDoorV4
import Derived.Test.YtekioipmhhcbhaaDoorV8
set_option linter.unusedVariables false
set_option linter.unusedSimpArgs false
set_option linter.unusedSectionVars false
namespace Go.Proofs.YtekioipmhhcbhaaDoor
open Go Go.Z Go.Q Go.W6
open Go.Y hiding KE KK KR go Task go_sound
noncomputable section
end
end Go.Proofs.YtekioipmhhcbhaaDoor
namespace Go.Proofs.YtekioipmhhcbhaaDoor
open Go Go.Z Go.Q Go.W6
open Go.Y hiding KE KK KR go Task go_sound
noncomputable section
end
end Go.Proofs.YtekioipmhhcbhaaDoor
namespace Go.Proofs.YtekioipmhhcbhaaDoor
open Go Go.Z Go.Q Go.W6
open Go.Y hiding KE KK KR go Task go_sound
noncomputable section
structure I12 where
 a : Nat
 n : Nat
structure I14 where
 n : Nat
 first : Nat
 i : Nat
end
end Go.Proofs.YtekioipmhhcbhaaDoor
namespace Go.Proofs.YtekioipmhhcbhaaDoor
open Go Go.Z Go.Q Go.W6
open Go.Y hiding KE KK KR go Task go_sound
noncomputable section
end
end Go.Proofs.YtekioipmhhcbhaaDoor
namespace Go.Proofs.YtekioipmhhcbhaaDoor
open Go Go.Z Go.Q Go.W6
open Go.Y hiding KE KK KR go Task go_sound
noncomputable section
end
end Go.Proofs.YtekioipmhhcbhaaDoor
set_option maxRecDepth 100000
set_option maxHeartbeats 4000000
namespace Go.Proofs.YtekioipmhhcbhaaDoor
open Go Go.Z Go.Q Go.W6
open Go.Y hiding KE KK KR go Task go_sound
noncomputable section
variable [Ext]
abbrev lkJ : List Nat := [0, 1, 2, 3, 4, 5, 6, 7, 8, 9]
theorem sp_coks (ty : Nat) (xs : List (List V)) : ∀ i, coks2 (okI [0, 1, 2] 2) 2 [0, 1, 2] [some (spC ty), some (tokC xs), txC xs i] = true
 | 0 => by kernel_rfl
 | i + 1 => by kernel_rfl
theorem take_getD {xs : List (List V)} {i : Nat} (h : i < xs.length) : xs.take (i + 1) = xs.take i ++ [xs.getD i []] := by
 rw [List.take_succ_eq_append_getElem h, List.getD_eq_getElem?_getD, List.getElem?_eq_getElem h]; rfl
theorem zvV {xs : List (List V)} {i : Nat} (h : i < xs.length) : xs.getD i [] ∈ xs := by
 rw [List.getD_eq_getElem?_getD, List.getElem?_eq_getElem h]; exact List.getElem_mem h
theorem zyg {kn vs gf gl} (hX : MaxOk) : ∀ fi ds env hp k, lSpJ fi ds env hp k -> TaskOk Tryd.prog ⟨⟨varG 0, kn, vs⟩, gf, gl⟩ (.code fi (.loop (lp Tryd.prog 23 0)) ds env hp k) := by
 intro fi ds env hp k h
 unfold lSpJ at h
 split at h
 ·rename_i g1 g2 g3 g4
  split at h
  ·rename_i n v2 v3 m v5 v6 l ty sz xs sh ty' hT hC
   split at h
   ·rename_i z j i q2 q3 q5 q6
    obtain ⟨⟨rfl, rfl, rfl, rfl, rfl, hc, rfl, rfl, hR⟩, hk1, hk2⟩ := h
    obtain ⟨n', ht, hro⟩ := hp
    obtain ⟨nt, ro⟩ := fi
    dsimp only at g1 g2 g3 g4 hC hk1 hk2
    have g1 := beq_tt g1
    have g3 := beq_tt g3
    subst g1 g2 g3 g4
    rw [hc] at hC
    have hC0 : ht.get 0 = some (spC ty) := (List.cons.inj hC).1
    have hC1 : ht.get 1 = some (tokC xs) := (List.cons.inj (List.cons.inj hC).2).1
    refine loop_fw ts0J [0, 1, 2] lkJ [] [] [(0, 0, 0)] 3 (λ i : Nat => leSJ xs.length 0 (txV i) i) (λ i => [some (spC ty), some (tokC xs), txC xs i]) (λ i => i <= xs.length /\ ∀ j, j < i -> (spR (xs.getD j [])).2 = 0) (λ i => xs.length - i) 0 ⟨Nat.zero_le _, λ j hj => absurd hj (Nat.not_lt_zero j)⟩ rfl rfl rfl (Nat.le_succ 2) (λ l hl => .inr hl) (λ l hl => by rw [List.mem_singleton.1 hl]; exact Nat.zero_lt_two) rfl rfl (λ i => by cases i <;> rfl) (λ i => sp_coks ty xs i) ?_ ⟨⟨_, hC0, zqb _⟩, ⟨_, hC1, zqb _⟩, trivial⟩ rfl ?_
    ·rw [hT]
     exact ⟨zqa _, zqT q2, zqr q3, zqa _, zqa _, zqr q5, zqr q6, trivial⟩
    ·rintro i ⟨hi, hall⟩
     have e0 : (0 : Nat) + (i : Int).toNat = i := by omega
     have bad : i < xs.length -> (spR (xs.getD i [])).2 ≠ 0 -> spErr xs = (spR (xs.getD i [])).2 := λ h1 h2 => spErr_at h1 hall h2
     have fin : i = xs.length -> spErr xs = 0 := λ h1 => spErr_all λ r hr => by
      obtain ⟨j, hj, rfl⟩ := List.getElem_of_mem hr
      have := hall j (by omega)
      rwa [List.getD_eq_getElem?_getD, List.getElem?_eq_getElem hj] at this
     refine zvA (kn' := []) (vs' := []) (gf' := [(37, sSpell)]) (gl' := []) ?_
     refine go_sound (G := ⟨⟨varG 0, [], []⟩, [(37, sSpell)], []⟩) qmix qNG zqf (fs_all (by exact ⟨spell_ok hX, trivial⟩)) (zqz rfl) 200 _ ?_
     have hlen : i < xs.length -> (tS (xs.getD i [])).length <= 20000 := λ h1 => by have := hR.2 _ (zvV h1); omega
     have hL := hR.1
     cases i with
     | zero =>
      refine ⟨trivial, λ h1 => ?_, λ h4 => ?_⟩
      ·have h1 : ((0 : Nat) : Int) < xs.length := of_decide_eq_true h1
       have hlt : 0 < xs.length := by omega
       refine ⟨⟨Int.natCast_nonneg 0, h1⟩, hlt, ⟨hlen hlt, rfl⟩, trivial, λ h2 => ?_, λ h3 => ⟨(by decide : I64 (((0 : Nat) : Int) + 1)), ?_⟩⟩
       ·have h2 : ¬ (spR (xs.getD 0 [])).2 = 0 := nT h2
        have := hk2 (by rw [bad hlt h2]; exact h2) .nils ((0 : Nat) : Int)
        rw [bad hlt h2] at this
        exact ⟨leSJ xs.length (spR (xs.getD 0 [])).2 .nils ((0 : Nat) : Int), [0, 1], [spC ty, tokC xs], Nat.le_of_ble_eq_true rfl, rfl, rfl, ⟨zqa _, rfl, zqa _, zqa _, zqa _, zqa _, zqa _, trivial⟩, ⟨⟨_, rfl, zqb _⟩, ⟨_, rfl, zqb _⟩, trivial⟩, this⟩
       ·have h3 : (spR (xs.getD 0 [])).2 = 0 := nF h3
        have et : (xs.take 1).map wR = [[V.sstr (spR (xs.getD 0 [])).1]] := by rw [take_getD hlt]; rfl
        refine ⟨1, [0, 1, 5], ⟨hlt, λ j hj => by rw [Nat.lt_one_iff.1 hj]; exact h3⟩, (by omega : xs.length - 1 < xs.length - 0), Nat.le_of_ble_eq_true rfl, rfl, ⟨zqa _, zqa _, zqa _, ⟨rfl, rfl, rfl, rfl⟩, zqa _, zqa _, ⟨rfl, rfl⟩, trivial⟩, ⟨_, rfl, zqb _⟩, ⟨_, rfl, zqb _⟩, ⟨_, rfl, ?_⟩, trivial⟩
        show chle (.cells [V.sstr (spR (xs.getD 0 [])).1] 9 1) (.rows ((xs.take 1).map wR) [.str] 9)
        rw [et]
        exact ⟨rfl, rfl, λ r hr => by rw [List.mem_singleton.1 hr]; exact ⟨_, [], rfl, ⟨_, .inl rfl⟩, rfl⟩, zqo _⟩
      ·have h4 : ¬ ((0 : Nat) : Int) < xs.length := of_decide_eq_false h4
       have e : xs.length = 0 := by omega
       have := hk1 (fin e.symm)
       rw [e] at this
       refine ⟨leSJ 0 0 .nils ((0 : Nat) : Int), [0, 1], [spC ty, tokC xs], Nat.le_of_ble_eq_true rfl, rfl, rfl, ?_, ⟨⟨_, rfl, zqb _⟩, ⟨_, rfl, zqb _⟩, trivial⟩, this⟩
       rw [e]
       exact ⟨zqa _, zqa _, zqa _, zqa _, zqa _, zqa _, zqa _, trivial⟩
     | succ i =>
      refine ⟨trivial, λ h1 => ?_, λ h4 => ?_⟩
      ·have h1 : ((i + 1 : Nat) : Int) < xs.length := of_decide_eq_true h1
       have hlt : i + 1 < xs.length := by omega
       have wl : ((xs.take (i + 1)).map wR).length = i + 1 := by rw [List.length_map, List.length_take]; omega
       refine ⟨⟨Int.natCast_nonneg _, h1⟩, (by rw [e0]; exact hlt : 0 + ((i + 1 : Nat) : Int).toNat < xs.length), ⟨(by rw [e0]; exact hlen hlt : (vS ((xs.getD (0 + ((i + 1 : Nat) : Int).toNat) []).getD (0 + 1) .und)).length <= 20000), rfl⟩, trivial, λ h2 => ?_, λ h3 => ⟨⟨⟨Nat.succ_pos _, (by rw [wl]; exact Nat.le_refl _ : i + 1 <= ((xs.take (i + 1)).map wR).length)⟩, trivial, (by omega : (i + 1 + 1) * 16 <= 140737488355328), Nat.succ_pos _⟩, (by unfold I64; omega : I64 (((i + 1 : Nat) : Int) + 1)), ?_⟩⟩
       ·have h2 : ¬ (spR (xs.getD (0 + ((i + 1 : Nat) : Int).toNat) [])).2 = 0 := nT h2
        rw [e0] at h2
        have := hk2 (by rw [bad hlt h2]; exact h2) (.ssl 2 0 (i + 1) 1) ((i + 1 : Nat) : Int)
        rw [bad hlt h2] at this
        refine ⟨leSJ xs.length (spR (xs.getD (i + 1) [])).2 (.ssl 2 0 (i + 1) 1) ((i + 1 : Nat) : Int), [0, 1], [spC ty, tokC xs], Nat.le_of_ble_eq_true rfl, rfl, rfl, ⟨zqa _, rfl, ?_, zqa _, zqa _, zqa _, zqa _, trivial⟩, ⟨⟨_, rfl, zqb _⟩, ⟨_, rfl, zqb _⟩, trivial⟩, this⟩
        show vle (.sint .i64 (spR (xs.getD (0 + ((i + 1 : Nat) : Int).toNat) [])).2) (.sint .i64 (spR (xs.getD (i + 1) [])).2)
        rw [e0]; exact zqa _
       ·have h3 : (spR (xs.getD (0 + ((i + 1 : Nat) : Int).toNat) [])).2 = 0 := nF h3
        rw [e0] at h3
        have et : (xs.take (i + 1 + 1)).map wR = (xs.take (i + 1)).map wR ++ [[V.sstr (spR (xs.getD (i + 1) [])).1]] := by rw [take_getD hlt, List.map_append]; rfl
        refine ⟨i + 1 + 1, [0, 1, 5], ⟨hlt, λ j hj => ?_⟩, (by omega : xs.length - (i + 1 + 1) < xs.length - (i + 1)), Nat.le_of_ble_eq_true rfl, rfl, ⟨zqa _, zqa _, zqa _, zqa _, zqa _, zqa _, ⟨rfl, by push_cast; rfl⟩, trivial⟩, ⟨_, rfl, zqb _⟩, ⟨_, rfl, zqb _⟩, ⟨_, rfl, ?_⟩, trivial⟩
        ·rcases Nat.lt_succ_iff_lt_or_eq.1 hj with hj | rfl
         ·exact hall j hj
         ·exact h3
        ·show chle (.rows (((xs.take (i + 1)).map wR).take (i + 1) ++ [[V.sstr (spR (xs.getD (0 + ((i + 1 : Nat) : Int).toNat) [])).1]]) [.str] 9) (.rows ((xs.take (i + 1 + 1)).map wR) [.str] 9)
         rw [et, e0, List.take_of_length_le (by rw [wl]; exact Nat.le_refl _)]
         exact zqb _
      ·have h4 : ¬ ((i + 1 : Nat) : Int) < xs.length := of_decide_eq_false h4
       have e : xs.length = i + 1 := by omega
       have := hk1 (fin e.symm)
       rw [e] at this
       refine ⟨leSJ (i + 1) 0 (.ssl 2 0 (i + 1) 1) ((i + 1 : Nat) : Int), [0, 1, 2], [spC ty, tokC xs, .rows ((xs.take (i + 1)).map wR) [.str] 9], Nat.le_of_ble_eq_true rfl, rfl, rfl, ?_, ⟨⟨_, rfl, zqb _⟩, ⟨_, rfl, zqb _⟩, ⟨_, rfl, zqb _⟩, trivial⟩, this⟩
       rw [e]
       exact ⟨zqa _, zqa _, zqa _, zqa _, zqa _, zqa _, zqa _, trivial⟩
   ·exact h.elim
  ·exact h.elim
 ·exact h.elim
end
end Go.Proofs.YtekioipmhhcbhaaDoor
set_option maxRecDepth 100000
set_option maxHeartbeats 8000000
namespace Go.Proofs.YtekioipmhhcbhaaDoor
open Go Go.Z Go.Q Go.W6
open Go.Y hiding KE KK KR go Task go_sound
noncomputable section
variable [Ext]
theorem zkA {st : JS} {t : KT} (h : st.1 = [] \/ fitsF st.2 t = true) : txt (stepJ st t).1 = txt st.1 ++ spW t /\ (stepJ st t).2 = lastN (st.2 ++ [t]) := by
 unfold stepJ
 rw [if_neg]
 ·exact ⟨by rw [zxs]; simp [txt], rfl⟩
 ·rintro ⟨h1, h2⟩
  rcases h with h | h
  ·exact h1 h
  ·rw [h] at h2; cases h2
theorem zvN {st : JS} {t : KT} (h1 : st.1 ≠ []) (h2 : fitsF st.2 t = false) : txt (stepJ st t).1 = txt st.1 ++ [32] ++ spW t /\ (stepJ st t).2 = [t] := by
 unfold stepJ
 rw [if_pos ⟨h1, h2⟩]
 exact ⟨by rw [zxs]; simp [txt], rfl⟩
def sJ (xs : List (List V)) (i : Nat) : List UInt8 := vS (((xs.map wR).getD (0 + (i : Int).toNat) []).getD 0 .und)
abbrev rJ (xs : List (List V)) (i : Nat) : List V := xs.getD (0 + (i : Int).toNat) []
theorem rJ_eq (xs : List (List V)) (i : Nat) : rJ xs i = xs.getD i [] := by
 unfold rJ; rw [Int.toNat_natCast, Nat.zero_add]
theorem sJ_eq {xs : List (List V)} {i : Nat} (h : i < xs.length) : sJ xs i = (spR (xs.getD i [])).1 := by
 unfold sJ
 rw [Int.toNat_natCast, Nat.zero_add, List.getD_eq_getElem?_getD (l := xs.map wR), List.getElem?_map, List.getElem?_eq_getElem h, List.getD_eq_getElem?_getD (l := xs), List.getElem?_eq_getElem h]
 rfl
abbrev lk19 : List Nat := [0, 1, 2, 3, 4, 5, 6, 7, 8, 9, 10, 11, 12, 13, 14, 15, 16, 17, 18, 19]
abbrev idJ : List Nat := [0, 1, 2, 3, 4, 5]
abbrev RXJ (hro : List Lk) (k : KK) (ty : Nat) (xs : List (List V)) (x : XJ) : O -> List (Option V) -> Nat -> List (Option Chunk) -> Prop :=
 rMv hro ts1J idJ lk19 [] [] (leX xs.length) (lmX ty xs) 4 6 (InvX xs) (muX xs.length) k x
variable {hro : List Lk} {k : KK} {ty : Nat} {xs : List (List V)}
theorem leafN {x : XJ} {x' : SJ} (hI : InvS xs x') (hmu : muX xs.length (.s x') < muX xs.length x) (m q4 q5 : Nat) {V5 : V} {C5 : Chunk} {nb : Nat} {tl buf : List UInt8} {cs : List (Option Chunk)} {i' : Int} (hi : i' = (x'.i : Nat)) (hnb : nb = (bufB x').length) (htl : tl = tailB x') (hbuf : buf = bufB x') (hm : 6 <= m) (ha : actsOk 4 m idJ [0, 1, 2, 3, q4, q5] = true)
  (h0 : lookC lk19 cs 0 = some (spC ty)) (h1 : lookC lk19 cs 1 = some (tokC xs)) (h2 : lookC lk19 cs 2 = some (.rows (xs.map wR) [.str] 9)) (h3 : lookC lk19 cs 3 = some (joC [.ptr 3 0, .ssl q4 0 nb 1, V5, .sstr tl])) (h4 : lookC lk19 cs q4 = some (.byt buf 5)) (h5 : lookC lk19 cs q5 = some C5)
  (hv5 : vle V5 (renV (renF idJ [0, 1, 2, 3, q4, q5]) (lastV x'.f))) (hc5 : chle C5 (renC (renF idJ [0, 1, 2, 3, q4, q5]) (lastC x'))) (hF : renF idJ [0, 1, 2, 3, q4, q5] 1 = 1 /\ renF idJ [0, 1, 2, 3, q4, q5] 2 = 2 /\ renF idJ [0, 1, 2, 3, q4, q5] 3 = 3 /\ renF idJ [0, 1, 2, 3, q4, q5] 4 = q4) (hS : renC (renF idJ [0, 1, 2, 3, q4, q5]) (spC ty) = spC ty) :
  RXJ hro k ty xs x .normal [some (.sstr []), some (.sint .i64 0), some (.ssl 2 0 xs.length 1), some (.ptr 3 0), some (.ssl 1 0 xs.length 6), some (.sint .i64 (xs.length : Nat)), some (.sint .i64 i')] m cs := by
 subst hi hnb htl hbuf
 obtain ⟨f1, f2, f3, f4⟩ := hF
 refine ⟨.s x', [0, 1, 2, 3, q4, q5], hI, hmu, hm, ha, ⟨zqa _, zqa _, ?_, ?_, ?_, zqa _, zqa _, trivial⟩, ⟨_, h0, by rw [hS]; exact zqb _⟩, ⟨_, h1, zqb _⟩, ⟨_, h2, zqb _⟩, ⟨_, h3, rfl, rfl, ?_, ?_, hv5, zqa _, trivial⟩, ⟨_, h4, zqb _⟩, ⟨_, h5, hc5⟩, trivial⟩
 ·show vle _ (.ssl (renF idJ [0, 1, 2, 3, q4, q5] 2) 0 xs.length 1)
  rw [f2]; exact zqa _
 ·show vle _ (.ptr (renF idJ [0, 1, 2, 3, q4, q5] 3) 0)
  rw [f3]; exact zqa _
 ·show vle _ (.ssl (renF idJ [0, 1, 2, 3, q4, q5] 1) 0 xs.length 6)
  rw [f1]; exact zqa _
 ·show vle _ (.ptr (renF idJ [0, 1, 2, 3, q4, q5] 3) 0)
  rw [f3]; exact zqa _
 ·show vle _ (.ssl (renF idJ [0, 1, 2, 3, q4, q5] 4) 0 (bufB x').length 1)
  rw [f4]; exact zqa _
theorem leafR {x : XJ} (hk : ∀ (i : Int) (m : Nat), k .ret [] (ofE (ts1J.zip (leJ xs.length 3 (.ssl 2 0 xs.length 1) i))) ⟨m, ofM ([0, 1].zip [spC ty, tokC xs]), hro⟩) (m : Nat) {cs : List (Option Chunk)} {i : Int} (hm : 6 <= m) (hb : below m [0, 1] = true) (h0 : lookC lk19 cs 0 = some (spC ty)) (h1 : lookC lk19 cs 1 = some (tokC xs)) :
  RXJ hro k ty xs x .ret [some (.str []), some (.int .i64 3), some (.ssl 2 0 xs.length 1), some (.ptr 3 0), some (.ssl 1 0 xs.length 6), some (.sint .i64 (xs.length : Nat)), some (.sint .i64 i)] m cs :=
 ⟨leJ xs.length 3 (.ssl 2 0 xs.length 1) i, [0, 1], [spC ty, tokC xs], hm, rfl, hb, ⟨rfl, ⟨rfl, rfl⟩, zqa _, zqa _, zqa _, zqa _, zqa _, trivial⟩, ⟨⟨_, h0, zqb _⟩, ⟨_, h1, zqb _⟩, trivial⟩, hk i m⟩
structure RoundJ (xs : List (List V)) (x : SJ) : Prop where
 inv : InvS xs x
 rows : RowsOk xs
 ok : ∀ r ∈ xs, (spR r).2 = 0
theorem rj_tok {x : SJ} (h : RoundJ xs x) {r : List V} (hr : r ∈ xs) : kI r = ((kt r).1 : Nat) /\ (spR r).1 = spW (kt r) /\ TokS (kt r) :=
 row_tokS (by have := h.rows.2 r hr; omega) (h.ok r hr)
theorem rj_tail {x : SJ} (h : RoundJ xs x) : (tailB x).length <= 12006 := by
 have e := h.inv.2.2.2.1
 unfold tailB
 rw [e]
 have := cat_len (l := (rowsJ x).map kt) λ t ht => by
  obtain ⟨r, hr, rfl⟩ := List.mem_map.1 ht
  exact h.rows.2 r (h.inv.2.2.2.2.1 r hr)
 rw [List.length_map] at this
 have := rowsJ_len x
 omega
theorem rj_s {x : SJ} (h : RoundJ xs x) (hi : x.i < xs.length) : sJ xs x.i = spW (kt (xs.getD x.i [])) /\ (sJ xs x.i).length <= 4002 /\ 0 < (sJ xs x.i).length := by
 have hm := zvV hi
 have t := rj_tok h hm
 rw [sJ_eq hi, t.2.1]
 exact ⟨rfl, spw_len (h.rows.2 _ hm), t.2.2.1⟩
theorem rj_fit {x : SJ} (h : RoundJ xs x) (hi : x.i < xs.length) : fitsF x.st.2 (kt (xs.getD x.i [])) = (decide ((scanF (tailB x ++ sJ xs x.i)).2.2 = 0) && sameG ((scanF (tailB x ++ sJ xs x.i)).1.map (rowTok (tailB x ++ sJ xs x.i))) ((rowsJ x).map rV ++ [rV (rJ xs x.i)])) := by
 have hm := zvV hi
 have e1 : cat (x.st.2 ++ [kt (xs.getD x.i [])]) = tailB x ++ sJ xs x.i := by
  rw [cat_app, (rj_s h hi).1]; simp [cat, tailB]
 have e2 : ((rowsJ x).map rV ++ [rV (rJ xs x.i)]).map kt = x.st.2 ++ [kt (xs.getD x.i [])] := by
  rw [rJ_eq, List.map_append, List.map_map, h.inv.2.2.2.1]
  rfl
 rw [sameG_kt, e2]
 ·unfold fitsF
  rw [e1, Bool.eq_iff_iff]
  simp only [decide_eq_true_eq, Bool.and_eq_true]
 ·intro r hr
  rcases List.mem_append.1 hr with hr | hr
  ·obtain ⟨r', hr', rfl⟩ := List.mem_map.1 hr
   exact (rj_tok h (h.inv.2.2.2.2.1 r' hr')).1
  ·rw [List.mem_singleton.1 hr, rJ_eq]
   exact (rj_tok h hm).1
theorem rj_ne {x : SJ} (h : RoundJ xs x) : x.st.1 ≠ [] := λ h0 => by
 have h2 : 0 < (txt x.st.1).length := h.inv.2.1
 rw [h0] at h2; cases h2
theorem rj_long {x : SJ} (h : RoundJ xs x) (hi : x.i < xs.length) (hl : 20000 < (txt (stepJ x.st (kt (xs.getD x.i []))).1).length) : runJ (xs.map kt) ([], []) = ([], 3) := by
 have h6 := h.inv.2.2.2.2.2
 have ed : (xs.drop x.i).map kt = kt (xs.getD x.i []) :: (xs.drop (x.i + 1)).map kt := by
  rw [List.drop_eq_getElem_cons hi, List.map_cons, List.getD_eq_getElem?_getD, List.getElem?_eq_getElem hi]; rfl
 rw [<- h6, ed, zwx hl]
theorem byte_32 {v : V} (h : v ∈ [V.int IntKind.u8 (32 : Int)]) : ∃ n : Int, 0 <= n /\ n <= 255 /\ (v = .int .u8 n \/ v = .sint .u8 n) := ⟨32, by decide, by decide, .inl (List.mem_singleton.1 h)⟩
abbrev GJ : GQ := ⟨⟨varG 0, [], []⟩, [(16, sScan), (18, sSameG), (37, sSpell)], []⟩
abbrev TJ (hro : List Lk) (k : KK) (ty : Nat) (xs : List (List V)) (x : XJ) : Prop := TaskOk Tryd.prog GJ (.code ⟨56, none⟩ (lp Tryd.prog 23 1) [] (ofE (ts1J.zip (leX xs.length x))) ⟨6, ofMo (idJ.zip (lmX ty xs x)), [wh 0]⟩ (cutV ts1J lk19 (RXJ hro k ty xs x)))
theorem gj_fs (hX : MaxOk) : FsOk Tryd.prog GJ := fs_all (by exact ⟨scan_ok, sameGs_ok, spell_ok hX, trivial⟩)
theorem r_jz (ty : Nat) (xs : List (List V)) (N : O -> List (Option V) -> Nat -> List (Option Chunk) -> Prop) : Go.Q.go Tryd.prog ⟨⟨varG 0, [], []⟩, [(16, sScan), (18, sSameG), (37, sSpell)], []⟩ 300 (.code ⟨56, none⟩ (lp Tryd.prog 23 1) [] (ofE (ts1J.zip (leX xs.length .z))) ⟨6, ofMo ([0, 1, 2, 3, 4, 5].zip (lmX ty xs .z)), [wh 0]⟩ (cutV ts1J [0, 1, 2, 3, 4, 5, 6, 7, 8, 9, 10, 11, 12, 13, 14, 15, 16, 17, 18, 19] N)) =
 (True /\ (decide ((0 : Int) < (xs.length : Int)) = true -> ((0 : Int) <= (0 : Int) /\ 0 < (xs.length : Int)) /\ 0 < xs.length /\ ((0 : Int) <= (0 : Int) /\ 0 < (xs.length : Int)) /\ 0 < (List.map wR xs).length /\ (True /\ True /\ (0 + (vS (((List.map wR xs).getD (0 + Int.toNat 0) []).getD 0 V.und)).length) * 1 <= 140737488355328 /\ (0 : Nat) < (0 : Nat) + (vS (((List.map wR xs).getD ((0 : Nat) + Int.toNat (0 : Int)) []).getD (0 : Nat) V.und)).length) /\ True /\ 0 + (vS (((List.map wR xs).getD (0 + Int.toNat 0) []).getD 0 V.und)).length <= 9223372036854775807 /\ True /\ True /\ (decide (20000 < (↑(0 + (vS (((List.map wR xs).getD (0 + Int.toNat 0) []).getD 0 V.und)).length) : Int)) = true -> N O.ret [some (.str []), some (.int .i64 3), some (.ssl 2 0 xs.length 1), some (.ptr 3 0), some (.ssl 1 0 xs.length 6), some (.sint .i64 (xs.length : Int)), some (.sint .i64 0)] 11 [some (.cells spaceV ty 1), some (.rowsO xs shTok 34), some (.rows (List.map wR xs) [Sh.str] 9), some (.cells [.ptr 3 0, .ssl 8 0 (0 + (vS (((List.map wR xs).getD (0 + Int.toNat 0) []).getD 0 .und)).length) 1, .sl 10 0 0 1 none, .sstr ([] ++ vS (((List.map wR xs).getD (0 + Int.toNat 0) []).getD 0 .und))] 74 4), none, none, some (.cells (rowV (xs.getD (0 + Int.toNat 0) []) shTok 0) 34 6), some (.cells (rowV (xs.getD (0 + Int.toNat 0) []) shTok 0) 34 6), some (.byt ([] ++ vS (((List.map wR xs).getD (0 + Int.toNat 0) []).getD 0 .und)) 5), some (.cells (rowV (xs.getD (0 + Int.toNat 0) []) shTok 0) 34 6), some (.cells (rowV (xs.getD (0 + Int.toNat 0) []) shTok 0) 34 6), none, none, none, none, none, none, none, none, none]) /\ (decide ((20000 : Int) < (↑((0 : Nat) + (vS (((List.map wR xs).getD ((0 : Nat) + Int.toNat (0 : Int)) []).getD (0 : Nat) V.und)).length) : Int)) = false -> ((-9223372036854775808 : Int) <= (1 : Int) /\ (1 : Int) <= (9223372036854775807 : Int)) /\ N O.normal [some (.sstr []), some (.sint .i64 0), some (.ssl 2 0 xs.length 1), some (.ptr 3 0), some (.ssl 1 0 xs.length 6), some (.sint .i64 (xs.length : Int)), some (.sint .i64 (1))] 11 [some (.cells spaceV ty 1), some (.rowsO xs shTok 34), some (.rows (List.map wR xs) [Sh.str] 9), some (.cells [.ptr 3 0, .ssl 8 0 (0 + (vS (((List.map wR xs).getD (0 + Int.toNat 0) []).getD 0 .und)).length) 1, .sl 10 0 0 1 none, .sstr ([] ++ vS (((List.map wR xs).getD (0 + Int.toNat 0) []).getD 0 .und))] 74 4), none, none, some (.cells (rowV (xs.getD (0 + Int.toNat 0) []) shTok 0) 34 6), some (.cells (rowV (xs.getD (0 + Int.toNat 0) []) shTok 0) 34 6), some (.byt ([] ++ vS (((List.map wR xs).getD (0 + Int.toNat 0) []).getD 0 .und)) 5), some (.cells (rowV (xs.getD (0 + Int.toNat 0) []) shTok 0) 34 6), some (.cells (rowV (xs.getD (0 + Int.toNat 0) []) shTok 0) 34 6), none, none, none, none, none, none, none, none, none])) /\ (decide (0 < (xs.length : Int)) = false -> N (O.exit 2) [some (.sstr []), some (.sint .i64 0), some (.ssl 2 0 xs.length 1), some (.ptr 3 0), some (.ssl 1 0 xs.length 6), some (.sint .i64 (xs.length : Int)), some (.sint .i64 0)] 6 [some (.cells spaceV ty 1), some (.rowsO xs shTok 34), some (.rows (List.map wR xs) [Sh.str] 9), some (.cells [.nilp, .nils, .nils, .str []] 74 4), none, none, none, none, none, none, none, none, none, none, none, none, none, none, none, none])) := by kernel_rfl
theorem round_z (hX : MaxOk) (hn : 0 < xs.length) (hR : RowsOk xs) (hok : ∀ r ∈ xs, (spR r).2 = 0) (hk2 : runJ (xs.map kt) ([], []) = ([], 3) -> ∀ (i : Int) (m : Nat), k .ret [] (ofE (ts1J.zip (leJ xs.length 3 (.ssl 2 0 xs.length 1) i))) ⟨m, ofM ([0, 1].zip [spC ty, tokC xs]), hro⟩) : TJ hro k ty xs .z := by
 refine go_sound qmix qNG zqf (gj_fs hX) (zqz rfl) 300 _ (Eq.mpr (r_jz ty xs _) ?_)
 have hm : xs.getD 0 [] ∈ xs := zvV hn
 have t := row_tokS (r := xs.getD 0 []) (by have := hR.2 _ hm; omega) (hok _ hm)
 have eS : sJ xs 0 = spW (kt (xs.getD 0 [])) := by rw [sJ_eq hn, t.2.1]
 have lS : (sJ xs 0).length <= 4002 := by rw [eS]; exact spw_len (hR.2 _ hm)
 have pS : 0 < (sJ xs 0).length := by rw [eS]; exact t.2.2.1
 have hL := hR.1
 have sf := zkA (st := ([], [])) (t := kt (xs.getD 0 [])) (.inl rfl)
 have eb : txt (stepJ ([], []) (kt (xs.getD 0 []))).1 = sJ xs 0 := by rw [sf.1, eS]; rfl
 have hl : ¬ (20000 : Int) < ((0 + (sJ xs 0).length : Nat) : Int) := by omega
 refine ⟨trivial, λ h1 => ⟨⟨(by decide : (0 : Int) <= 0), (by omega : (0 : Int) < xs.length)⟩, hn, ⟨(by decide : (0 : Int) <= 0), (by omega : (0 : Int) < xs.length)⟩, (by rw [List.length_map]; exact hn : 0 < (xs.map wR).length), ⟨trivial, trivial, (by omega : (0 + (sJ xs 0).length) * 1 <= 140737488355328), (by omega : 0 < 0 + (sJ xs 0).length)⟩, trivial, (by omega : 0 + (sJ xs 0).length <= 9223372036854775807), trivial, trivial, λ h2 => absurd (of_decide_eq_true h2) hl, λ h3 => ⟨(by decide : I64 ((0 : Int) + 1)), ?_⟩⟩, λ h4 => absurd (by omega : (0 : Int) < xs.length) (of_decide_eq_false h4)⟩
 have hI := inv_one hn t.2.2 (by rw [eb]; omega) [] [] []
 refine leafN (x := .z) hI (by show xs.length - 1 < xs.length + 1; omega) 11 8 10 rfl ?_ ?_ ?_ (by decide) rfl rfl rfl rfl rfl rfl rfl (zqa _) (zqb _) ⟨rfl, rfl, rfl, rfl⟩ rfl
 ·show 0 + (sJ xs 0).length = (txt (stepJ ([], []) (kt (xs.getD 0 []))).1).length
  rw [eb, Nat.zero_add]
 ·show [] ++ sJ xs 0 = cat (stepJ ([], []) (kt (xs.getD 0 []))).2
  rw [sf.2, eS]; simp [cat, lastN]
 ·show [] ++ sJ xs 0 = txt (stepJ ([], []) (kt (xs.getD 0 []))).1
  rw [eb]; rfl
end
end Go.Proofs.YtekioipmhhcbhaaDoor
