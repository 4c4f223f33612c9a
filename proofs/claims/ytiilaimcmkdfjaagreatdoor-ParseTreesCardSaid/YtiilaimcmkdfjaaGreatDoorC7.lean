/- Chapter 8: the reference's Put: its loop. -/
import Derived.Test.YtiilaimcmkdfjaaGreatDoorC2
import Derived.Test.YtiilaimcmkdfjaaGreatDoorC4
import Derived.Test.YtiilaimcmkdfjaaGreatDoorC6
set_option linter.unusedVariables false
set_option linter.unusedSectionVars false
set_option linter.unusedSimpArgs false
set_option maxRecDepth 100000
set_option maxHeartbeats 4000000
namespace Go.Proofs.YtiilaimcmkdfjaaGreatDoor
open Go Go.Z Go.Q
open Go.Y hiding KE KK KR go Task go_sound
noncomputable section
theorem rows_app2 : ∀ (l m : List Nd), rows (l ++ m) = rows l ++ rows m
 | [], m => rfl
 | x :: l, m => by simp only [List.cons_append, rows, rows_app2 l m]
theorem set_get {l : List Nd} {p i : Nat} (z : Nd) (h : i < l.length) : (l.set p z).getD i .zero = if i = p then z else l.getD i .zero := by
 rw [List.getD_eq_getElem?_getD, List.getElem?_set]
 by_cases e : i = p
 ·subst e; rw [if_pos rfl, if_pos h, if_pos rfl]; rfl
 ·rw [if_neg (Ne.symm e), if_neg e, List.getD_eq_getElem?_getD]
theorem set_take {l : List Nd} {p i : Nat} (z : Nd) (h : i < l.length) : rows ((l.set p z).take (i + 1)) = rows ((l.set p z).take i) ++ [(if i = p then z else l.getD i .zero).row] := by
 rw [zqL .zero (by rw [List.length_set]; exact h), rows_app2, set_get z h]; rfl
theorem row_shN (x : Nd) : shR nodeSh x.row := by
 obtain ⟨k, t, n, l, ks⟩ := x
 exact ⟨_, _, rfl, ⟨_, .inl rfl⟩, _, _, rfl, ⟨_, .inl rfl⟩, _, _, rfl, ⟨_, .inl rfl⟩, _, _, rfl, ⟨_, .inl rfl⟩, _, _, rfl, ⟨_, rfl⟩, rfl⟩
theorem row_eta (x : Nd) : [V.sint .i64 x.kd, .sstr x.tx, .sint .i64 x.nn, .sint .i64 x.ln, .xs (rows x.ks) nodeSh] = x.row := by cases x; rfl
theorem ld_rowL {ks : List Nd} {i : Nat} (h : i < ks.length) : rowV ((rows ks).getD i []) nodeSh 0 = (ks.getD i .zero).row := by
 have := zqY h
 exact V.agg.inj this
abbrev tsP : List Nat := [1, 3, 6, 8, 10, 11]
def outP : Nat -> V
 | 0 => .nils
 | x + 1 => .ssl 4 0 (x + 1) 5
def outQ (S : List Nd) : Nat -> Option Chunk
 | 0 => none
 | x + 1 => some (.rows (rows (S.take (x + 1))) nodeSh 24)
def leP (w : V) (P : List (List V)) (i : Int) : List V := [.xs P [.int .i64], .ptr 0 0, .ptr 2 0, .ptr 3 0, w, .sint .i64 i]
def lRPt (fi : FI) (ds : List DV) (env : Tr V) (hp : Mem) (k : KK) : Prop := atV 75 4 [0, 3, 4] [2] fi ds hp λ rc => match pk tsP env, hp.t.get 0, hp.t.get 3 with
 | [some (.xs P [.int .i64]), some (.ptr 0 0), some (.ptr 2 0), some (.ptr 3 0), some .nils, some iv], some c0, some c3 => ∃ x z, chle c0 (boxX x) /\ chle c3 (boxX z) /\ int64 iv = some 0 /\ 0 < P.length /\ 0 <= p0 P /\ p0 P < x.ks.length /\ x.ks.length <= 1000000 /\
   k (.exit 0) [] (ofE (tsP.zip (leP (.ssl 4 0 x.ks.length 5) P x.ks.length))) ⟨5, ofM ([0, 3, 4].zip [boxX x, boxX z, .rows (rows (x.ks.set (p0 P).toNat z)) nodeSh 24] ++ [2].zip rc), hp.ro⟩
 | _, _, _ => False
theorem rpt_loop {gv gf gl} : ∀ fi ds env hp k, lRPt fi ds env hp k -> TaskOk Tryz.prog ⟨gv, gf, gl⟩ (.code fi (.loop (lp Tryz.prog 13 0)) ds env hp k) := by
 intro fi ds env hp k h
 obtain ⟨rfl, rfl, hn, hlk, rc, hrc, h⟩ := zxD h
 split at h
 ·rename_i P iv c0 c3 hT g0 g3
  obtain ⟨y, z, hc0, hc3, q3, hP, hp0, hp1, hl, hk⟩ := h
  obtain ⟨n', ht, hro⟩ := hp
  dsimp only at hn hlk hrc hk g0 g3
  subst hn
  have e0 : ∀ {i : Nat}, (i : Int) = p0 P ↔ i = (p0 P).toNat := λ {i} => by omega
  refine zxA tsP [0, 3, 4] [0, 3, 4, 5, 6] [2] rc 5 (λ x : Nat => leP (outP x) P x) (λ x => [some (boxX y), some (boxX z), outQ (y.ks.set (p0 P).toNat z) x]) (λ x => x <= y.ks.length) (λ x => y.ks.length - x) 0 (Nat.zero_le _) rfl rfl rfl (Nat.le_succ 4) hlk rfl rfl (λ x => by cases x <;> rfl) (λ x => by cases x <;> rfl) ?_ ⟨⟨_, g0, hc0⟩, ⟨_, g3, hc3⟩, trivial⟩ hrc ?_
  ·rw [hT]
   exact ⟨zqa _, zqa _, zqa _, zqa _, zqa _, zqq q3, trivial⟩
  ·intro x hx
   refine zqT (gf' := []) (gl' := []) ?_
   refine go_sound (G := nilG) qmix qNG zqh (zxl rfl) (zqN rfl) 200 _ ?_
   cases x with
   | zero =>
    refine ⟨trivial, trivial, λ h1 => ?_, λ h4 => ?_⟩
    ·have hlt : 0 < y.ks.length := by omega
     have st := set_take (p := (p0 P).toNat) z hlt
     have fin : ∀ w : Nd, (if 0 = (p0 P).toNat then z else y.ks.getD 0 .zero) = w -> ∀ l : List V, l = w.row -> chle (.cells l 24 5) (.rows (rows ((y.ks.set (p0 P).toNat z).take (0 + 1))) nodeSh 24) := λ w hw l hl => by
      rw [st, hw, hl]
      refine ⟨rfl, rfl, λ r hr => ?_, ?_⟩
      ·have hr : r = w.row := by simpa [rows] using hr
       rw [hr]; exact row_shN w
      ·simp only [List.take_zero, rows, List.nil_append, List.flatten_cons, List.flatten_nil, List.append_nil]
       exact zxp _
     refine ⟨⟨by omega, by omega⟩, hP, trivial, λ h2 => ?_, λ h3 => ?_⟩
     ·have h2 : ((0 : Nat) : Int) = p0 P := of_decide_eq_true h2
      refine ⟨⟨by decide, by decide⟩, 1, [0, 3, 6], hlt, (by omega : y.ks.length - 1 < y.ks.length - 0), (by show 5 <= 7; decide), rfl, ⟨zqa _, zqa _, zqa _, zqa _, ⟨rfl, rfl, rfl, rfl⟩, ⟨rfl, rfl⟩, trivial⟩, ⟨_, rfl, zqb _⟩, ⟨_, rfl, zqb _⟩, ⟨_, rfl, fin z (if_pos (e0.1 h2)) _ (row_eta z)⟩, trivial⟩
     ·have h3 : ¬ ((0 : Nat) : Int) = p0 P := of_decide_eq_false h3
      refine ⟨⟨by omega, by rw [zqc]; omega⟩, (by rw [zqc]; exact hlt), ⟨by decide, by decide⟩, 1, [0, 3, 6], hlt, (by omega : y.ks.length - 1 < y.ks.length - 0), (by show 5 <= 7; decide), rfl, ⟨zqa _, zqa _, zqa _, zqa _, ⟨rfl, rfl, rfl, rfl⟩, ⟨rfl, rfl⟩, trivial⟩, ⟨_, rfl, zqb _⟩, ⟨_, rfl, zqb _⟩, ⟨_, rfl, fin (y.ks.getD 0 .zero) (if_neg λ e => h3 (e0.2 e)) _ (ld_rowL hlt)⟩, trivial⟩
    ·have h4 : ¬ ((0 : Nat) : Int) < (rows y.ks).length := of_decide_eq_false h4
     rw [zqc] at h4
     omega
   | succ x =>
    have hx : x + 1 <= y.ks.length := hx
    have hR : (rows ((y.ks.set (p0 P).toNat z).take (x + 1))).length = x + 1 := by rw [zqc, List.length_take, List.length_set]; omega
    refine ⟨trivial, trivial, λ h1 => ?_, λ h4 => ?_⟩
    ·have h1 : ((x + 1 : Nat) : Int) < (rows y.ks).length := of_decide_eq_true h1
     rw [zqc] at h1
     have hlt : x + 1 < y.ks.length := by omega
     have st := set_take (p := (p0 P).toNat) z hlt
     have c5 : I64 (((x + 1 : Nat) : Int) + 1) := by unfold I64; omega
     have fin : ∀ w : Nd, (if x + 1 = (p0 P).toNat then z else y.ks.getD (x + 1) .zero) = w -> ∀ l : List V, l = w.row -> chle (.rows ((rows ((y.ks.set (p0 P).toNat z).take (x + 1))).take (x + 1) ++ [l]) nodeSh 24) (.rows (rows ((y.ks.set (p0 P).toNat z).take (x + 1 + 1))) nodeSh 24) := λ w hw l hl => by
      rw [st, hw, hl, List.take_of_length_le (by rw [hR]; exact Nat.le_refl _)]
      exact zqb _
     refine ⟨⟨by omega, by omega⟩, hP, trivial, λ h2 => ?_, λ h3 => ?_⟩
     ·have h2 : ((x + 1 : Nat) : Int) = p0 P := of_decide_eq_true h2
      refine ⟨⟨⟨by omega, Nat.le_of_eq hR.symm⟩, trivial, by show (x + 1 + 1) * 64 <= 140737488355328; omega, by omega⟩, c5, x + 1 + 1, [0, 3, 6], (by show x + 1 + 1 <= _; omega), (by omega : y.ks.length - (x + 1 + 1) < y.ks.length - (x + 1)), (by show 5 <= 7; decide), rfl, ⟨zqa _, zqa _, zqa _, zqa _, zqa _, ⟨rfl, by push_cast; rfl⟩, trivial⟩, ⟨_, rfl, zqb _⟩, ⟨_, rfl, zqb _⟩, ⟨_, rfl, fin z (if_pos (e0.1 h2)) _ (row_eta z)⟩, trivial⟩
     ·have h3 : ¬ ((x + 1 : Nat) : Int) = p0 P := of_decide_eq_false h3
      refine ⟨⟨by omega, by rw [zqc]; exact h1⟩, (by rw [zqc]; exact hlt), ⟨⟨by omega, Nat.le_of_eq hR.symm⟩, trivial, by show (x + 1 + 1) * 64 <= 140737488355328; omega, by omega⟩, c5, x + 1 + 1, [0, 3, 6], (by show x + 1 + 1 <= _; omega), (by omega : y.ks.length - (x + 1 + 1) < y.ks.length - (x + 1)), (by show 5 <= 7; decide), rfl, ⟨zqa _, zqa _, zqa _, zqa _, zqa _, ⟨rfl, by push_cast; rfl⟩, trivial⟩, ⟨_, rfl, zqb _⟩, ⟨_, rfl, zqb _⟩, ⟨_, rfl, fin (y.ks.getD (x + 1) .zero) (if_neg λ e => h3 (e0.2 e)) _ (ld_rowL hlt)⟩, trivial⟩
    ·have h4 : ¬ ((x + 1 : Nat) : Int) < (rows y.ks).length := of_decide_eq_false h4
     rw [zqc] at h4
     obtain he : y.ks.length = x + 1 := by omega
     rw [he] at hk
     have hS : (y.ks.set (p0 P).toNat z).take (x + 1) = y.ks.set (p0 P).toNat z := List.take_of_length_le (by rw [List.length_set]; omega)
     rw [<- hS] at hk
     exact ⟨leP (.ssl 4 0 (x + 1) 5) P (x + 1 : Nat), [0, 3, 4], [boxX y, boxX z, .rows (rows ((y.ks.set (p0 P).toNat z).take (x + 1))) nodeSh 24], Nat.le_refl 5, rfl, rfl, ⟨zqa _, zqa _, zqa _, zqa _, zqa _, zqa _, trivial⟩, ⟨⟨_, rfl, zqb _⟩, ⟨_, rfl, zqb _⟩, ⟨_, rfl, zqb _⟩, trivial⟩, hk⟩
 ·exact h.elim
end
end Go.Proofs.YtiilaimcmkdfjaaGreatDoor
set_option maxRecDepth 100000
set_option maxHeartbeats 4000000
namespace Go.Proofs.YtiilaimcmkdfjaaGreatDoor
open Go Go.Z Go.Q
open Go.Y hiding KE KK KR go Task go_sound
noncomputable section
def sRPt (N : Nat) (args : List V) (hp : Mem) (k : KE) : Prop := ∃ x P y, args = [Nd.v x, .xs P [.int .i64], Nd.v y] /\ P.length < N /\ P.length <= 1000 /\ x.size <= 1000000 /\ k (.ret (.tup [(putR x (pI P) y).1.w, .sint .i64 (putR x (pI P) y).2])) hp
theorem rpt_run {N : Nat} (IH : ∀ gv gf gl args hp k, sRPt N args hp k -> TaskOk Tryz.prog ⟨gv, gf, gl⟩ (.call 13 args hp k)) (x : Nd) (P : List (List V)) (y : Nd) (hN : P.length < N + 1) (hP : P.length <= 1000) (hM : x.size <= 1000000) :
  TaskOk Tryz.prog ⟨⟨.nil, [], []⟩, [(13, sRPt N)], [(75010, lp Tryz.prog 13 0, lRPt)]⟩ (.call 13 [x.v, .xs P [.int .i64], y.v] nomem λ e hp1 => ∃ v R, e = .ret v /\ frz hp1.t v R /\ R = .tup [(putR x (pI P) y).1.v, .sint .i64 (putR x (pI P) y).2]) := by
 obtain ⟨kd, t, n, l, ks⟩ := x
 have hs : sizes ks <= 1000000 := by simp only [Nd.size] at hM; omega
 have hlen := zxa ks
 have ey := v_eta y
 rw [<- ey]
 refine goFn_ok (λ t => go_sound qmix qNG zqh (fs_all (by exact ⟨IH _ _ _, trivial⟩)) (ls_one rfl rpt_loop) 200 t) qNG ?_
 refine ⟨trivial, trivial, λ h1 => ?_, λ h2 => ?_⟩
 ·have h1 : (P.length : Int) = 0 := of_decide_eq_true h1
  obtain rfl : P = [] := List.eq_nil_of_length_eq_zero (by omega)
  exact ⟨_, _, rfl, zxL (x := y) (c := 0) (by rw [<- v_eta y]; rw [v_eta y]; exact frz_self y) (.inl rfl), rfl⟩
 ·have h2 : ¬ (P.length : Int) = 0 := of_decide_eq_false h2
  have hne : P.length ≠ 0 := by omega
  refine ⟨⟨by omega, by omega⟩, (by omega : 0 < P.length), trivial, λ h3 => ?_, λ h4 => ⟨⟨by omega, by omega⟩, (by omega : 0 < P.length), trivial, trivial, λ h5 => ?_, λ h6 => ?_⟩⟩
  ·have h3 : p0 P < 0 := of_decide_eq_true h3
   rw [zkU hne (λ h => by omega)]
   exact ⟨_, _, rfl, zxL zjx (.inl rfl), rfl⟩
  ·have h5 : ((rows ks).length : Int) <= p0 P := of_decide_eq_true h5
   rw [zqc] at h5
   rw [zkU hne (λ h => by have := h.2; change _ < (ks.length : Int) at this; omega)]
   exact ⟨_, _, rfl, zxL zjx (.inl rfl), rfl⟩
  ·have h4 : ¬ p0 P < 0 := of_decide_eq_false h4
   have h6 : ¬ ((rows ks).length : Int) <= p0 P := of_decide_eq_false h6
   rw [zqc] at h6
   have hk : (p0 P).toNat < ks.length := by omega
   have sz := zxy hk
   have hst : putR (.mk kd t n l ks) (pI P) y = match putR (ks.getD (p0 P).toNat .zero) (pI (P.drop 1)) y with
     | (z, r) => if r = 0 then (Nd.mk kd t n l (ks.set (p0 P).toNat z), 0) else (.zero, 5) := put_step hne ⟨by omega, by show p0 P < (ks.length : Int); omega⟩
   generalize hz : putR (ks.getD (p0 P).toNat .zero) (pI (P.drop 1)) y = zr at hst
   obtain ⟨z, r⟩ := zr
   dsimp only at hst
   refine ⟨⟨by omega, by omega⟩, (by omega : 0 < P.length), ⟨(by omega : 0 <= p0 P), by show p0 P < ((rows ks).length : Int); rw [zqc]; omega⟩, (by show (p0 P).toNat < (rows ks).length; rw [zqc]; exact hk), ⟨by omega, by omega, by omega⟩, ks.getD (p0 P).toNat .zero, P.drop 1, y, ?_, by rw [List.length_drop]; omega, by rw [List.length_drop]; omega, by omega, ?_⟩
   ·show [V.agg (rowV ((rows ks).getD (p0 P).toNat []) nodeSh 0), V.xs (List.drop 1 (List.take P.length P)) [Sh.int .i64], _] = _
    rw [zqY hk, List.take_length]
    rw [show V.agg _ = y.v from ey]
   ·rw [hz]
    refine ⟨trivial, λ h7 => ?_, λ h8 => ?_⟩
    ·have h7 : ¬ r = 0 := nT h7
     rw [hst, if_neg h7]
     have hr : r = 5 := by
      have := congrArg Prod.snd hz
      unfold putR at this
      split at this
      ·exact absurd this.symm h7
      ·exact this.symm
     subst hr
     exact ⟨_, _, rfl, zxL zjx (.inr rfl), rfl⟩
    ·have h8 : r = 0 := nF h8
     subst h8
     rw [hst, if_pos rfl]
     refine ⟨rfl, .mk kd t n l ks, z, zqb _, zqb _, rfl, by omega, by omega, by show p0 P < (ks.length : Int); omega, by show ks.length <= _; omega, _, _, rfl, zxL (x := .mk kd t n l (ks.set (p0 P).toNat z)) (frz_nd (frz_kids (L := rows (ks.set (p0 P).toNat z)) rfl rfl ?_)) (.inl rfl), rfl⟩
     show ks.length = _
     rw [List.length_set]
theorem rpt_ok : ∀ (N : Nat) gv gf gl args hp k, sRPt N args hp k -> TaskOk Tryz.prog ⟨gv, gf, gl⟩ (.call 13 args hp k)
 | 0, gv, gf, gl, args, hp, k, ⟨x, P, y, e, hN, hP, hM, hk⟩ => absurd hN (Nat.not_lt_zero _)
 | N + 1, gv, gf, gl, args, hp, k, ⟨x, P, y, e, hN, hP, hM, hk⟩ => by
  subst e
  exact call_fz (rpt_run (rpt_ok N) x P y hN hP hM) rfl (zxp _) (by cases x; cases y; rfl) λ R hR => by
   subst hR
   rw [<- w_eta]
   exact hk
end
end Go.Proofs.YtiilaimcmkdfjaaGreatDoor
set_option maxRecDepth 100000
set_option maxHeartbeats 4000000
namespace Go.Proofs.YtiilaimcmkdfjaaGreatDoor
open Go Go.Z Go.Q
open Go.Y hiding KE KK KR go Task go_sound
noncomputable section
abbrev fsT : List (Nat × (List V -> Mem -> KE -> Prop)) := [(6, sAwk), (7, sLig), (8, sAt), (12, sRAt), (9, sPut 1001), (13, sRPt 1001), (11, sSiz), (14, sRSz 1000001), (15, sDep), (16, sRDp 1000001), (17, sSme 1000001), (18, sRSm 1000001), (10, sSam 1000001)]
theorem size_pos (x : Nd) : 1 <= x.size := by rw [size_eta]; omega
theorem at_size (n : Nd) (l : List Int) : (atR n l).1.size <= n.size := by
 unfold atR
 cases h : atF n l with
 | none => have := size_pos n; exact this
 | some o =>
  obtain ⟨m, _, _, _, g⟩ := put_law .zero h
  have := size_pos m
  have e : Nd.zero.size = 1 := rfl
  show o.size <= _
  omega
theorem put_size (n x : Nd) (l : List Int) : (putR n l x).1.size <= n.size + x.size := by
 unfold putR
 cases h : atF n l with
 | none => rw [put_no x h]; have := size_pos n; show 1 <= _; omega
 | some o =>
  obtain ⟨m, g1, _, _, g⟩ := put_law x h
  rw [g1]
  show m.size <= _
  omega
theorem trees_run (n x : Nd) (P : List (List V)) (ty : Nat) : TaskOk Tryz.prog ⟨⟨varG 0, [], []⟩, fsT, []⟩ (.call 4 [n.w, x.w, .xs P [.int .i64]] (varM spaceV ty) λ e _ => e = .ret (.bool true)) := by
 refine go_sound qmix qNG zqh (fs_all (by exact ⟨awk_ok, lig_ok, at_ok, rat_ok, put_ok _ _ _ _, rpt_ok _ _ _ _, siz_ok, rsz_ok _ _ _ _, dep_ok, rdp_ok _ _ _ _, sme_ok _ _ _ _, rsm_ok _ _ _ _, sam_ok _ _ _ _, trivial⟩)) (zqN rfl) 200 _ ?_
 refine ⟨rfl, n, congrArg (λ v => [v]) (w_eta n), trivial, λ h1 => rfl, λ h2 => ⟨x, congrArg (λ v => [v]) (w_eta x), trivial, λ h3 => rfl, λ h4 => ⟨trivial, trivial, λ h5 => rfl, λ h6 => ?_⟩⟩⟩
 have h6 : ¬ (400 : Int) < P.length := of_decide_eq_false h6
 have ln := light_size (x := n) (by simpa using h2)
 have lx := light_size (x := x) (by simpa using h4)
 have w1 : ∀ a : Nd, ([a.w, V.xs P [.int .i64]] : List V) = [a.v, .xs P [.int .i64]] := λ a => by rw [w_eta]
 have w2 : ∀ a b : Nd, ([a.w, V.xs P [.int .i64], b.w] : List V) = [a.v, .xs P [.int .i64], b.v] := λ a b => by rw [w_eta, w_eta]
 have w3 : ∀ a b : Nd, ([a.w, b.w] : List V) = [a.v, b.v] := λ a b => by rw [w_eta, w_eta]
 have w4 : ∀ a : Nd, ([a.w] : List V) = [a.v] := λ a => by rw [w_eta]
 have ho := at_size n (pI P)
 have hm := put_size n x (pI P)
 refine ⟨n, P, w1 n, by omega, n, P, w1 n, by omega, n, P, x, w2 n x, by omega, by omega, by omega, n, P, x, w2 n x, by omega, by omega, by omega, n, w4 n, by omega, n, w4 n, by omega, by omega, trivial, λ h7 => ⟨n, w4 n, by omega, n, w4 n, by omega, by omega, trivial, λ h8 => ⟨n, x, w3 n x, by omega, by omega, n, x, w3 n x, by omega, by omega, trivial, λ h9 => ⟨n, n, w3 n n, by omega, by omega, λ h10 => ⟨(atR n (pI P)).1, (atR n (pI P)).1, w3 _ _, by omega, by omega, λ h11 => ⟨trivial, λ h12 => ⟨(putR n (pI P) x).1, (putR n (pI P) x).1, w3 _ _, by omega, by omega, λ h13 => ⟨trivial, λ h14 => rfl, λ h15 => ?_⟩, λ h16 => ?_⟩, λ h17 => ?_⟩, λ h18 => ?_⟩, λ h19 => ?_⟩, λ h20 => ?_⟩, λ h21 => ?_⟩, λ h22 => ?_⟩
 ·exact absurd rfl (of_decide_eq_false h15)
 ·exact absurd rfl (not_dec h16)
 ·exact absurd rfl (of_decide_eq_false h17)
 ·exact absurd rfl (not_dec h18)
 ·exact absurd rfl (not_dec h19)
 ·simp at h20
 ·exact absurd rfl (of_decide_eq_false h21)
 ·exact absurd rfl (of_decide_eq_false h22)
end
end Go.Proofs.YtiilaimcmkdfjaaGreatDoor
