/- Chapter 8: another node at a path. -/
import Derived.Test.YtiilaimcmkdfjaaGreatDoorC1
import Derived.Test.YtiilaimcmkdfjaaGreatDoorM9
set_option linter.unusedVariables false
set_option linter.unusedSectionVars false
set_option linter.unusedSimpArgs false
set_option maxRecDepth 100000
set_option maxHeartbeats 4000000
namespace Go.Proofs.YtiilaimcmkdfjaaGreatDoor
open Go Go.Z Go.Q
open Go.Y hiding KE KK KR go Task go_sound
noncomputable section
def putF : Nd -> List Int -> Nd -> Option Nd
 | x, [], y => some y
 | x, p :: l, y => if 0 <= p /\ p < x.ks.length then match putF (x.ks.getD p.toNat .zero) l y with
   | some z => some (.mk x.kd x.tx x.nn x.ln (x.ks.set p.toNat z))
   | none => none
  else none
def putR (x : Nd) (l : List Int) (y : Nd) : Nd × Int := match putF x l y with
 | some z => (z, 0)
 | none => (.zero, 5)
def p0 (P : List (List V)) : Int := vI ((P.getD 0 []).getD 0 .und)
theorem zkU {x y : Nd} {P : List (List V)} (h : P.length ≠ 0) (hp : ¬ (0 <= p0 P /\ p0 P < x.ks.length)) : putR x (pI P) y = (.zero, 5) := by
 cases P with
 | nil => exact absurd rfl h
 | cons r P => unfold putR; rw [show pI (r :: P) = p0 (r :: P) :: pI P from rfl, putF, if_neg hp]
theorem put_step {x y : Nd} {P : List (List V)} (h : P.length ≠ 0) (hp : 0 <= p0 P /\ p0 P < x.ks.length) : putR x (pI P) y = match putR (x.ks.getD (p0 P).toNat .zero) (pI (P.drop 1)) y with
  | (z, r) => if r = 0 then (.mk x.kd x.tx x.nn x.ln (x.ks.set (p0 P).toNat z), 0) else (.zero, 5) := by
 cases P with
 | nil => exact absurd rfl h
 | cons r P =>
  unfold putR
  rw [show pI (r :: P) = p0 (r :: P) :: pI P from rfl, putF, if_pos hp, show (r :: P).drop 1 = P from rfl]
  cases putF (x.ks.getD (p0 (r :: P)).toNat .zero) (pI P) y <;> rfl
theorem rows_set : ∀ (l : List Nd) (i : Nat) (z : Nd), (rows l).set i z.row = rows (l.set i z)
 | [], i, z => rfl
 | x :: l, 0, z => rfl
 | x :: l, i + 1, z => by simp only [rows, List.set_cons_succ, rows_set l i z]
theorem frz_self {t : Tr Chunk} (x : Nd) : frz t x.v x.v := by
 obtain ⟨k, tx, n, l, ks⟩ := x
 simp only [Nd.v, Nd.row, frz, frzs]
 exact ⟨⟨⟨rfl, rfl⟩, rfl⟩, ⟨rfl, rfl⟩, ⟨⟨rfl, rfl⟩, rfl⟩, ⟨⟨rfl, rfl⟩, rfl⟩, ⟨rfl, rfl⟩, trivial⟩
theorem zjx {t : Tr Chunk} : frz t (.agg zeroL) Nd.zero.v := by
 simp only [Nd.v, Nd.zero, Nd.row, rows, frz, frzs]
 exact ⟨⟨⟨rfl, rfl⟩, rfl⟩, ⟨rfl, rfl⟩, ⟨⟨rfl, rfl⟩, rfl⟩, ⟨⟨rfl, rfl⟩, rfl⟩, trivial, trivial⟩
theorem frz_nd {t : Tr Chunk} {k n l : Int} {tx : List UInt8} {kids : V} {ks : List Nd} (h : frz t kids (.xs (rows ks) nodeSh)) : frz t (.agg [.sint .i64 k, .sstr tx, .sint .i64 n, .sint .i64 l, kids]) (Nd.mk k tx n l ks).v := by
 unfold Nd.v Nd.row
 simp only [frz, frzs]
 exact ⟨⟨⟨rfl, rfl⟩, rfl⟩, ⟨rfl, rfl⟩, ⟨⟨rfl, rfl⟩, rfl⟩, ⟨⟨rfl, rfl⟩, rfl⟩, h, trivial⟩
theorem zxL {t : Tr Chunk} {a b : V} {x : Nd} {c : Int} (h : frz t a x.v) (hb : b = .int .i64 c \/ b = .sint .i64 c) : frz t (.tup [a, b]) (.tup [x.v, .sint .i64 c]) := by
 simp only [frz, frzs]
 rcases hb with rfl | rfl <;> exact ⟨h, ⟨⟨rfl, rfl⟩, rfl⟩, trivial⟩
theorem frz_kids {t : Tr Chunk} {id len : Nat} {ks : List Nd} {L : List (List V)} (hg : t.get id = some (.rows L nodeSh 24)) (hL : L = rows ks) (hl : len = ks.length) : frz t (.ssl id 0 len 5) (.xs (rows ks) nodeSh) := by
 subst hL hl
 simp only [frz]
 exact ⟨_, rows ks, 24, hg, ⟨rfl, rfl, rfl⟩, rfl, rfl, by rw [List.drop_zero, <- zqc, List.take_length], zqc ks⟩
def sPut (N : Nat) (args : List V) (hp : Mem) (k : KE) : Prop := ∃ x P y, args = [Nd.v x, .xs P [.int .i64], Nd.v y] /\ P.length < N /\ P.length <= 1000 /\ x.size <= 1000000 /\ k (.ret (.tup [(putR x (pI P) y).1.w, .sint .i64 (putR x (pI P) y).2])) hp
theorem put_run {N : Nat} (IH : ∀ gv gf gl args hp k, sPut N args hp k -> TaskOk Tryz.prog ⟨gv, gf, gl⟩ (.call 9 args hp k)) (x : Nd) (P : List (List V)) (y : Nd) (hN : P.length < N + 1) (hP : P.length <= 1000) (hM : x.size <= 1000000) :
  TaskOk Tryz.prog ⟨⟨.nil, [], []⟩, [(9, sPut N)], []⟩ (.call 9 [x.v, .xs P [.int .i64], y.v] nomem λ e hp1 => ∃ v R, e = .ret v /\ frz hp1.t v R /\ R = .tup [(putR x (pI P) y).1.v, .sint .i64 (putR x (pI P) y).2]) := by
 obtain ⟨kd, t, n, l, ks⟩ := x
 have hs : sizes ks <= 1000000 := by simp only [Nd.size] at hM; omega
 have hlen := zxa ks
 have ey := v_eta y
 rw [<- ey]
 refine goFn_ok (λ t => go_sound qmix qNG zqh (fs_all (by exact ⟨IH _ _ _, trivial⟩)) (zqN rfl) 200 t) qNG ?_
 refine ⟨trivial, trivial, λ h1 => ?_, λ h2 => ?_⟩
 ·have h1 : (P.length : Int) = 0 := of_decide_eq_true h1
  obtain rfl : P = [] := List.eq_nil_of_length_eq_zero (by omega)
  exact ⟨_, _, rfl, zxL (x := y) (c := 0) (by rw [<- v_eta y]; rw [v_eta y]; exact frz_self y) (.inl rfl), rfl⟩
 ·have h2 : ¬ (P.length : Int) = 0 := of_decide_eq_false h2
  have hne : P.length ≠ 0 := by omega
  refine ⟨⟨by omega, by omega⟩, (by omega : 0 < P.length), trivial, λ h3 => ?_, λ h4 => ⟨trivial, trivial, λ h5 => ?_, λ h6 => ?_⟩⟩
  ·have h3 : p0 P < 0 := of_decide_eq_true h3
   rw [zkU hne (λ h => by omega)]
   exact ⟨_, _, rfl, zxL zjx (.inl rfl), rfl⟩
  ·have h5 : ((rows ks).length : Int) <= p0 P := of_decide_eq_true h5
   rw [zqc] at h5
   rw [zkU hne (λ h => by have := h.2; change _ < (ks.length : Int) at this; omega)]
   exact ⟨_, _, rfl, zxL zjx (.inl rfl), rfl⟩
  ·have h4 : ¬ p0 P < 0 := of_decide_eq_false h4
   have h6 : ¬ ((rows ks).length : Int) <= p0 P := of_decide_eq_false h6
   rw [zqc] at h6
   have hk : (p0 P).toNat < ks.length := by omega
   have sz := zxy hk
   have hst : putR (.mk kd t n l ks) (pI P) y = match putR (ks.getD (p0 P).toNat .zero) (pI (P.drop 1)) y with
     | (z, r) => if r = 0 then (Nd.mk kd t n l (ks.set (p0 P).toNat z), 0) else (.zero, 5) := put_step hne ⟨by omega, by show p0 P < (ks.length : Int); omega⟩
   generalize hz : putR (ks.getD (p0 P).toNat .zero) (pI (P.drop 1)) y = zr at hst
   obtain ⟨z, r⟩ := zr
   dsimp only at hst
   refine ⟨⟨(by omega : 0 <= p0 P), by show p0 P < ((rows ks).length : Int); rw [zqc]; omega⟩, (by show (p0 P).toNat < (rows ks).length; rw [zqc]; exact hk), ⟨by omega, by omega, by omega⟩, ks.getD (p0 P).toNat .zero, P.drop 1, y, ?_, by rw [List.length_drop]; omega, by rw [List.length_drop]; omega, by omega, ?_⟩
   ·show [V.agg (rowV ((rows ks).getD (p0 P).toNat []) nodeSh 0), V.xs (List.drop 1 (List.take P.length P)) [Sh.int .i64], _] = _
    rw [zqY hk, List.take_length]
    rw [show V.agg _ = y.v from ey]
   ·rw [hz]
    refine ⟨trivial, λ h7 => ?_, λ h8 => ?_⟩
    ·have h7 : ¬ r = 0 := nT h7
     rw [hst, if_neg h7]
     have hr : r = 5 := by
      have := congrArg Prod.snd hz
      unfold putR at this
      split at this
      ·exact absurd this.symm h7
      ·exact this.symm
     subst hr
     exact ⟨_, _, rfl, zxL zjx (.inr rfl), rfl⟩
    ·have h8 : r = 0 := nF h8
     subst h8
     rw [hst, if_pos rfl]
     have hr : 0 < (rows ks).length := by rw [zqc]; omega
     refine ⟨hr, ⟨trivial, ?_, ?_⟩, ⟨(by omega : 0 <= p0 P), ?_⟩, ⟨?_, trivial⟩, _, _, rfl, zxL (x := .mk kd t n l (ks.set (p0 P).toNat z)) (frz_nd (frz_kids (L := (rows ks).set (0 + (p0 P).toNat) z.row) ?_ ?_ ?_)) (.inl rfl), rfl⟩
     ·show (0 + (rows ks).length) * 64 <= 140737488355328
      rw [zqc]; omega
     ·show 0 < 0 + (rows ks).length
      omega
     ·show p0 P < ((0 + (rows ks).length : Nat) : Int)
      rw [zqc]; omega
     ·show 0 + (p0 P).toNat < (rows ks).length
      rw [zqc]; omega
     ·cases z; rfl
     ·rw [Nat.zero_add, rows_set]
     ·show 0 + (rows ks).length = _
      rw [zqc, List.length_set]; omega
theorem put_ok : ∀ (N : Nat) gv gf gl args hp k, sPut N args hp k -> TaskOk Tryz.prog ⟨gv, gf, gl⟩ (.call 9 args hp k)
 | 0, gv, gf, gl, args, hp, k, ⟨x, P, y, e, hN, hP, hM, hk⟩ => absurd hN (Nat.not_lt_zero _)
 | N + 1, gv, gf, gl, args, hp, k, ⟨x, P, y, e, hN, hP, hM, hk⟩ => by
  subst e
  exact call_fz (put_run (put_ok N) x P y hN hP hM) rfl (zxp _) (by cases x; cases y; rfl) λ R hR => by
   subst hR
   rw [<- w_eta]
   exact hk
end
end Go.Proofs.YtiilaimcmkdfjaaGreatDoor
set_option maxRecDepth 100000
set_option maxHeartbeats 4000000
namespace Go.Proofs.YtiilaimcmkdfjaaGreatDoor
open Go Go.Z Go.Q
open Go.Y hiding KE KK KR go Task go_sound
noncomputable section
def rgOf : Code -> Option (Array Tmp × Code × Code)
 | .rangeFunc _ ps a b => some (ps, a, b)
 | .seq a b => match rgOf a with | some x => some x | none => rgOf b
 | .block _ c => rgOf c
 | .scope c => rgOf c
 | .cond _ a b => match rgOf a with | some x => some x | none => rgOf b
 | _ => none
def rgFn (P : Program) (f : Nat) : Option (Array Tmp × Code × Code) := match P.funcs[f]? with
 | some fn => match fn.body with
  | some c => rgOf c
  | none => none
 | none => none
def loopS : Chunk := match rgFn Tryz.prog 11 with
 | some (ps, a, b) => .loop .ready none (ofE [(3, .ptr 1 0)]) 11 ps a b 4
 | none => .defr
abbrev dumC : Chunk := .rowsO [] [] 0
abbrev MS (m : Int) : List (Nat × Chunk) := [(0, dumC), (1, .cells [.sint .i64 m] 3 1), (2, dumC), (3, dumC), (4, .defr), (5, loopS), (6, .cells [.yld 5] 79 1), (7, .cells [.fn (.func 67) [] [.ptr 6 0, .ptr 7 0]] 79 1)]
abbrev tsV : List Nat := [1, 2, 3, 6, 15, 16, 17]
def leV (d : Int) (ks : List Nd) (i : Int) : List V := [.sint .i64 d, .ptr 6 0, .ptr 7 0, .bool false, .xs (rows ks) nodeSh, .sint .i64 ks.length, .sint .i64 i]
def sVis (N : Nat) (args : List V) (hp : Mem) (k : KE) : Prop := ∃ (x : Nd) (dv : V) (d m : Int), args = [Nd.v x, dv, .ptr 6 0, .ptr 7 0] /\ int64 dv = some d /\ 0 <= d /\ d + x.size <= 1000000 /\ x.size < N /\ 0 <= m /\ m + x.size <= 1000000 /\ 8 <= hp.n /\ hp.ro = [] /\ zkI hp.t 8 = true /\ okM 8 hp.t (MS m) /\
 k (.ret (.bool true)) ⟨hp.n, putM hp.t (MS (m + x.size)), hp.ro⟩
theorem sizes_app : ∀ a b : List Nd, sizes (a ++ b) = sizes a + sizes b
 | [], b => by simp [sizes]
 | x :: a, b => by simp only [List.cons_append, sizes, sizes_app a b]; omega
theorem sizes_take {l : List Nd} {i : Nat} (h : i < l.length) : sizes (l.take (i + 1)) = sizes (l.take i) + (l.getD i .zero).size := by
 rw [zqL .zero h, sizes_app]; simp [sizes]
theorem sizes_le (l : List Nd) (i : Nat) : sizes (l.take i) <= sizes l := by
 have := sizes_app (l.take i) (l.drop i)
 rw [List.take_append_drop] at this
 omega
abbrev idsV : List Nat := [0, 1, 2, 3, 4, 5, 6, 7]
def lmV (b : Int) : List Chunk := [dumC, .cells [.sint .i64 b] 3 1, dumC, dumC, .defr, loopS, .cells [.yld 5] 79 1, .cells [.fn (.func 67) [] [.ptr 6 0, .ptr 7 0]] 79 1]
def lmO (b : Int) : List (Option Chunk) := [some dumC, some (.cells [.sint .i64 b] 3 1), some dumC, some dumC, some .defr, some loopS, some (.cells [.yld 5] 79 1), some (.cells [.fn (.func 67) [] [.ptr 6 0, .ptr 7 0]] 79 1)]
def lVis (N : Nat) (fi : FI) (ds : List DV) (env : Tr V) (hp : Mem) (k : KK) : Prop := atV 28 9 idsV [] fi ds hp λ _ => match pk tsV env with
 | [some dv, some (.ptr 6 0), some (.ptr 7 0), some (.bool false), some (.xs L sh), some lv, some iv] => ∃ (d m : Int) (ks : List Nd), L = rows ks /\ sh = nodeSh /\ int64 dv = some d /\ int64 lv = some (ks.length : Int) /\ int64 iv = some 0 /\ 0 <= d /\ d + sizes ks < 1000000 /\ 0 <= m /\ m + sizes ks <= 1000000 /\ sizes ks < N /\ okM 8 hp.t (MS m) /\
   ∀ i, k (.exit 0) [] (ofE (tsV.zip (leV d ks i))) ⟨9, ofM (idsV.zip (lmV (m + sizes ks)) ++ [].zip []), hp.ro⟩
 | _ => False
theorem visL_ok {N : Nat} (IH : ∀ gv gf gl args hp k, sVis N args hp k -> TaskOk Tryz.prog ⟨gv, gf, gl⟩ (.call 67 args hp k)) {gv gf gl} : ∀ fi ds env hp k, lVis N fi ds env hp k -> TaskOk Tryz.prog ⟨gv, gf, gl⟩ (.code fi (.loop (lp Tryz.prog 67 0)) ds env hp k) := by
 intro fi ds env hp k h
 obtain ⟨rfl, rfl, hn, hlk, rc, hrc, h⟩ := zxD h
 split at h
 ·rename_i dv L sh lv iv hT
  obtain ⟨d, m, ks, rfl, rfl, q1, q2, q3, hd0, hd1, hm0, hm1, hN, hm, hk⟩ := h
  obtain ⟨n', ht, hro⟩ := hp
  dsimp only at hn hlk hk hm
  subst hn
  have hlen := zxa ks
  obtain ⟨⟨_, _, _, f0⟩, ⟨_, _, _, f1⟩, ⟨_, _, _, f2⟩, ⟨_, _, _, f3⟩, ⟨_, _, _, f4⟩, ⟨_, _, _, f5⟩, ⟨_, _, _, f6⟩, ⟨_, _, _, f7⟩, _⟩ := hm
  refine zxA tsV idsV idsV [] [] 9 (λ x : Nat => leV d ks x) (λ x => lmO (m + sizes (ks.take x))) (λ x => x <= ks.length) (λ x => ks.length - x) 0 (Nat.zero_le _) rfl rfl rfl (Nat.le_refl 9) hlk rfl rfl (λ x => rfl) (λ x => rfl) ?_ ⟨f0, ?_, f2, f3, f4, f5, f6, f7, trivial⟩ rfl ?_
  ·rw [hT]
   exact ⟨zqq q1, zqa _, zqa _, zqa _, zqa _, zqq q2, zqq q3, trivial⟩
  ·rw [show m + sizes (ks.take 0) = m by simp [sizes]]; exact f1
  ·intro x hx
   refine zqT (gf' := [(67, sVis N)]) (gl' := []) ?_
   refine go_sound qmix qNG zqh (fs_all (by exact ⟨IH _ _ _, trivial⟩)) (zqN rfl) 200 _ ?_
   refine ⟨trivial, λ h1 => ?_, λ h2 => ?_⟩
   ·have h1 : (x : Int) < ks.length := of_decide_eq_true h1
    have hlt : x < ks.length := by omega
    have sz := zxy hlt
    have e1 := sizes_take hlt
    have e2 := sizes_le ks (x + 1)
    have c1 : I64 (d + 1) := by unfold I64; omega
    have c2 : I64 ((x : Int) + 1) := by unfold I64; omega
    refine ⟨⟨by omega, by rw [zqc]; exact h1⟩, (by rw [zqc]; exact hlt), c1, ks.getD x .zero, _, d + 1, m + sizes (ks.take x), congrArg (λ v => [v, _, _, _]) (zqY hlt), rfl, by omega, by omega, by omega, by omega, by omega, (by show 8 <= 10; decide), rfl, rfl, ?_, c2, ?_⟩
    ·exact ⟨⟨rfl, rfl, rfl, _, rfl, zqb _⟩, ⟨rfl, rfl, rfl, _, rfl, zqb _⟩, ⟨rfl, rfl, rfl, _, rfl, zqb _⟩, ⟨rfl, rfl, rfl, _, rfl, zqb _⟩, ⟨rfl, rfl, rfl, _, rfl, zqb _⟩, ⟨rfl, rfl, rfl, _, rfl, zqb _⟩, ⟨rfl, rfl, rfl, _, rfl, zqb _⟩, ⟨rfl, rfl, rfl, _, rfl, zqb _⟩, trivial⟩
    ·refine ⟨x + 1, idsV, (by show x + 1 <= _; omega), (by omega : ks.length - (x + 1) < ks.length - x), (by show 9 <= 10; decide), rfl, ⟨zqa _, zqa _, zqa _, zqa _, zqa _, zqa _, ⟨rfl, by push_cast; rfl⟩, trivial⟩, ⟨_, rfl, zqb _⟩, ⟨_, rfl, rfl, rfl, ⟨rfl, by rw [e1]; push_cast; omega⟩, trivial⟩, ⟨_, rfl, zqb _⟩, ⟨_, rfl, zqb _⟩, ⟨_, rfl, zqb _⟩, ⟨_, rfl, zqb _⟩, ⟨_, rfl, zqb _⟩, ⟨_, rfl, zqb _⟩, trivial⟩
   ·have h2 : ¬ (x : Int) < ks.length := of_decide_eq_false h2
    obtain rfl : x = ks.length := by have hx : x <= ks.length := hx; omega
    have hk := hk ks.length
    rw [show m + (sizes ks : Int) = m + sizes (ks.take ks.length) by rw [List.take_length]] at hk
    exact ⟨leV d ks ks.length, idsV, lmV (m + sizes (ks.take ks.length)), Nat.le_refl 9, rfl, rfl, ⟨zqa _, zqa _, zqa _, zqa _, zqa _, zqa _, zqa _, trivial⟩, ⟨⟨_, rfl, zqb _⟩, ⟨_, rfl, zqb _⟩, ⟨_, rfl, zqb _⟩, ⟨_, rfl, zqb _⟩, ⟨_, rfl, zqb _⟩, ⟨_, rfl, zqb _⟩, ⟨_, rfl, zqb _⟩, ⟨_, rfl, zqb _⟩, trivial⟩, hk⟩
 ·exact h.elim
theorem vis_run {N : Nat} (IH : ∀ gv gf gl args hp k, sVis N args hp k -> TaskOk Tryz.prog ⟨gv, gf, gl⟩ (.call 67 args hp k)) (x : Nd) (d m : Int) (hd : 0 <= d) (hd1 : d + x.size <= 1000000) (hm : 0 <= m) (hm1 : m + x.size <= 1000000) (hN : x.size < N + 1) :
  TaskOk Tryz.prog ⟨⟨.nil, [], []⟩, [], [(28004, lp Tryz.prog 67 0, lVis N)]⟩ (.call 67 [x.v, .sint .i64 d, .ptr 6 0, .ptr 7 0] ⟨8, ofM (MS m), []⟩ (cutL 8 (MS m) λ v l' => v = .bool true /\ l' = MS (m + x.size))) := by
 obtain ⟨kd, t, n, l, ks⟩ := x
 simp only [Nd.size] at hd1 hm1 hN
 have c1 : I64 (m + 1) := by unfold I64; omega
 refine go_sound qmix qNG zqh (zxl rfl) (ls_one rfl (visL_ok IH)) 200 _ ?_
 refine ⟨c1, trivial, rfl, d, m + 1, ks, rfl, rfl, rfl, ?_, rfl, hd, by omega, by omega, by omega, by omega, ?_, λ i => ?_⟩
 ·show some ((rows ks).length : Int) = _
  rw [zqc]
 ·exact ⟨⟨rfl, rfl, rfl, _, rfl, zqb _⟩, ⟨rfl, rfl, rfl, _, rfl, zqb _⟩, ⟨rfl, rfl, rfl, _, rfl, zqb _⟩, ⟨rfl, rfl, rfl, _, rfl, zqb _⟩, ⟨rfl, rfl, rfl, _, rfl, zqb _⟩, ⟨rfl, rfl, rfl, _, rfl, zqb _⟩, ⟨rfl, rfl, rfl, _, rfl, zqb _⟩, ⟨rfl, rfl, rfl, _, rfl, zqb _⟩, trivial⟩
 ·refine ⟨.bool true, MS (m + (Nd.mk kd t n l ks).size), rfl, rfl, rfl, ?_, rfl, rfl⟩
  exact ⟨⟨rfl, rfl, rfl, _, rfl, zqb _⟩, ⟨rfl, rfl, rfl, _, rfl, rfl, rfl, ⟨rfl, by simp only [Nd.size]; push_cast; omega⟩, trivial⟩, ⟨rfl, rfl, rfl, _, rfl, zqb _⟩, ⟨rfl, rfl, rfl, _, rfl, zqb _⟩, ⟨rfl, rfl, rfl, _, rfl, zqb _⟩, ⟨rfl, rfl, rfl, _, rfl, zqb _⟩, ⟨rfl, rfl, rfl, _, rfl, zqb _⟩, ⟨rfl, rfl, rfl, _, rfl, zqb _⟩, trivial⟩
theorem vis_ok : ∀ (N : Nat) gv gf gl args hp k, sVis N args hp k -> TaskOk Tryz.prog ⟨gv, gf, gl⟩ (.call 67 args hp k)
 | 0, gv, gf, gl, args, hp, k, ⟨x, dv, d, m, e, q, hd, hd1, hN, _⟩ => absurd hN (Nat.not_lt_zero _)
 | N + 1, gv, gf, gl, args, hp, k, ⟨x, dv, d, m, e, q, hd, hd1, hN, hm0, hm1, hn, hro, hin, hm, hk⟩ => by
  subst e
  exact call_lo 8 (MS m) _ (vis_run (vis_ok N) x d m hd hd1 hm0 hm1 hN) rfl ⟨zqa _, zqq q, zqa _, zqa _, trivial⟩ (by cases x; rfl) hn hro hm hin λ v l' _ ⟨e1, e2⟩ => by
   subst e1 e2
   exact hk
theorem trSub_one {env : Tr V} {t0 : Nat} {v0 : V} (hs : small t0 = true) (h : env.get t0 = some v0) : trSub env (ofE [(t0, v0)]) := λ t v e => by
 rw [ofE, Tr.get_set _ _ _ _ _ (zqz hs)] at e
 by_cases ht : t = t0
 ·rw [if_pos ht] at e; cases e; rw [ht]; exact h
 ·rw [if_neg ht] at e; rw [ofE, Tr.get_nil] at e; cases e
theorem loop_le {env : Tr V} (h : env.get 3 = some (.ptr 1 0)) {c : Chunk} (hc : c = match rgFn Tryz.prog 11 with
 | some (ps, a, b) => .loop .ready none env 11 ps a b 4
 | none => .defr) : chle c loopS := by
 subst hc
 unfold loopS
 cases rgFn Tryz.prog 11 with
 | none => exact zqb _
 | some p => exact ⟨⟨rfl, rfl, rfl, rfl, rfl, rfl, rfl⟩, trSub_one rfl h⟩
def sSiz (args : List V) (hp : Mem) (k : KE) : Prop := ∃ x, args = [Nd.v x] /\ x.size <= 900000 /\ k (.ret (.sint .i64 x.size)) hp
theorem siz_run (x : Nd) (h : x.size <= 900000) : TaskOk Tryz.prog ⟨⟨.nil, [], []⟩, [(67, sVis (x.size + 1))], []⟩ (.call 11 [x.v] nomem λ e _ => retV (.sint .i64 x.size) e) := by
 refine go_sound qmix qNG zqh (fs_all (by exact ⟨vis_ok _ _ _ _, trivial⟩)) (zqN rfl) 200 _ ?_
 obtain ⟨kd, t, n, l, ks⟩ := x
 have ez : (0 : Int) + (Nd.mk kd t n l ks).size = (Nd.mk kd t n l ks).size := by omega
 refine ⟨.mk kd t n l ks, _, 1, 0, rfl, rfl, by omega, by omega, Nat.lt_succ_self _, by omega, by omega, Nat.le_refl 8, rfl, rfl, ?_, ?_⟩
 ·exact ⟨⟨rfl, rfl, rfl, _, rfl, .inl rfl⟩, ⟨rfl, rfl, rfl, _, rfl, rfl, rfl, ⟨rfl, rfl⟩, trivial⟩, ⟨rfl, rfl, rfl, _, rfl, .inl rfl⟩, ⟨rfl, rfl, rfl, _, rfl, .inl rfl⟩, ⟨rfl, rfl, rfl, _, rfl, zqb _⟩, ⟨rfl, rfl, rfl, _, rfl, loop_le rfl rfl⟩, ⟨rfl, rfl, rfl, _, rfl, zqb _⟩, ⟨rfl, rfl, rfl, _, rfl, zqb _⟩, trivial⟩
 ·exact ⟨rfl, ez⟩
theorem siz_ok {gv gf gl} : ∀ args hp k, sSiz args hp k -> TaskOk Tryz.prog ⟨gv, gf, gl⟩ (.call 11 args hp k) := by
 rintro args hp k ⟨x, rfl, hx, hk⟩
 exact zxJ (siz_run x hx) rfl (by cases x; rfl) rfl hk
end
end Go.Proofs.YtiilaimcmkdfjaaGreatDoor
