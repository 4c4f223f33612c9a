/- Chapter 8: trees as values; how many nodes a tree has, up to some more than 6000. -/
import Derived.Test.YtiilaimcmkdfjaaGreatDoorM9
import Derived.Test.YtiilaimcmkdfjaaGreatDoorProg
set_option linter.unusedVariables false
set_option linter.unusedSectionVars false
set_option linter.unusedSimpArgs false
set_option maxRecDepth 100000
set_option maxHeartbeats 4000000
namespace Go.Proofs.YtiilaimcmkdfjaaGreatDoor
open Go Go.Z Go.Q
open Go.Y hiding KE KK KR go Task go_sound
noncomputable section
theorem qmix : Tryz.prog.follows .mixedOrders = true := by kernel_rfl
theorem qNG0 : (Tryz.prog.funcs.all λ fn => !(fn.name == "runtime.NumGoroutine")) = true := by kernel_rfl
theorem qNG : ∀ (f : Nat) (fn : Func), Tryz.prog.funcs[f]? = some fn -> (fn.name == "runtime.NumGoroutine") = false := by
 intro f fn hf
 have h1 := Array.all_eq_true.1 qNG0 f (Array.getElem?_eq_some_iff.1 hf).1
 rw [(Array.getElem?_eq_some_iff.1 hf).2] at h1
 simpa using h1
inductive Nd where
 | mk (k : Int) (t : List UInt8) (n l : Int) (ks : List Nd)
mutual
def Nd.row : Nd -> List V
 | .mk k t n l ks => [.sint .i64 k, .sstr t, .sint .i64 n, .sint .i64 l, .xs (rows ks) nodeSh]
def rows : List Nd -> List (List V)
 | [] => []
 | x :: l => x.row :: rows l
end
mutual
def Nd.size : Nd -> Nat
 | .mk k t n l ks => sizes ks + 1
def sizes : List Nd -> Nat
 | [] => 0
 | x :: l => x.size + sizes l
end
def Nd.ks : Nd -> List Nd
 | .mk k t n l ks => ks
def Nd.zero : Nd := .mk 0 [] 0 0 []
def Nd.v (x : Nd) : V := .agg x.row
theorem zqc : ∀ l : List Nd, (rows l).length = l.length
 | [] => rfl
 | x :: l => by simp [rows, zqc l]
theorem rows_getD : ∀ (l : List Nd) (i : Nat), i < l.length -> (rows l).getD i [] = (l.getD i .zero).row
 | [], i, h => absurd h (Nat.not_lt_zero i)
 | x :: l, 0, h => rfl
 | x :: l, i + 1, h => by
  have := rows_getD l i (by simpa using h)
  simpa [rows] using this
theorem zxy : ∀ {l : List Nd} {i : Nat}, i < l.length -> (l.getD i .zero).size <= sizes l
 | [], i, h => absurd h (Nat.not_lt_zero i)
 | x :: l, 0, h => by simp [sizes]
 | x :: l, i + 1, h => by
  have := zxy (l := l) (i := i) (by simpa using h)
  simp only [List.getD_cons_succ, sizes]; omega
theorem ld_row (x : Nd) : V.agg [.sint .i64 (vI (x.row.getD 0 .und)), .sstr (vS (x.row.getD 1 .und)), .sint .i64 (vI (x.row.getD 2 .und)), .sint .i64 (vI (x.row.getD 3 .und)), .xs (vX (x.row.getD 4 .und)) nodeSh] = x.v := by
 cases x; rfl
abbrev boxN (k : Int) (t : List UInt8) (n l : Int) (ks : List Nd) : Chunk := .cells [.sint .i64 k, .sstr t, .sint .i64 n, .sint .i64 l, .xs (rows ks) nodeSh] 24 5
theorem zqY {ks : List Nd} {i : Nat} (h : i < ks.length) : V.agg (rowV ((rows ks).getD i []) nodeSh 0) = (ks.getD i .zero).v := by
 rw [rows_getD ks i h]; exact ld_row _
def cntS (f : Nd -> Int) (m : Int) (y : Nd) : Int := if 6000 < m then m else m + f y
def cntF : Nat -> Nd -> Int
 | 0, _ => 6001
 | c + 1, x => x.ks.foldl (cntS (cntF c)) 1
theorem cnt_fold {f : Nd -> Int} {B : Int} (hB : 0 <= B) (hf : ∀ y, 1 <= f y /\ f y <= B) : ∀ (l : List Nd) {m : Int}, 1 <= m -> m <= 6000 + B -> 1 <= l.foldl (cntS f) m /\ l.foldl (cntS f) m <= 6000 + B
 | [], m, h1, h2 => ⟨h1, h2⟩
 | y :: l, m, h1, h2 => by
  refine cnt_fold hB hf l ?_ ?_ <;> unfold cntS <;> have := hf y <;> split <;> omega
theorem zkG : ∀ (c : Nat) (x : Nd), 1 <= cntF c x /\ cntF c x <= 6001 + 6000 * c
 | 0, x => ⟨by simp only [cntF]; omega, by simp only [cntF]; omega⟩
 | c + 1, x => by
  have := cnt_fold (B := 6001 + 6000 * c) (by omega) (λ y => zkG c y) x.ks (m := 1) (by omega) (by omega)
  simp only [cntF]
  exact ⟨this.1, by have := this.2; push_cast; omega⟩
theorem zvb {f : Nd -> Int} : ∀ (l : List Nd) {m : Int}, 6000 < m -> l.foldl (cntS f) m = m
 | [], m, h => rfl
 | y :: l, m, h => by
  rw [List.foldl_cons, show cntS f m y = m from if_pos h]
  exact zvb l h
def cntT (c : Nat) (ks : List Nd) (i : Nat) : Int := (ks.take i).foldl (cntS (cntF c)) 1
theorem cntT_all {c : Nat} {ks : List Nd} {i : Nat} (h : ks.length <= i \/ 6000 < cntT c ks i) : cntT c ks i = ks.foldl (cntS (cntF c)) 1 := by
 rcases h with h | h
 ·unfold cntT; rw [List.take_of_length_le h]
 ·have : ks.foldl (cntS (cntF c)) 1 = (ks.drop i).foldl (cntS (cntF c)) (cntT c ks i) := by
   unfold cntT; rw [<- List.foldl_append, List.take_append_drop]
  rw [this, zvb _ h]
theorem zqL {α : Type} (d : α) {l : List α} {i : Nat} (h : i < l.length) : l.take (i + 1) = l.take i ++ [l.getD i d] := by
 rw [List.take_add_one, List.getElem?_eq_getElem h, List.getD_eq_getElem?_getD, List.getElem?_eq_getElem h]; rfl
theorem cntT_succ {c : Nat} {ks : List Nd} {i : Nat} (h : i < ks.length) (hm : cntT c ks i <= 6000) : cntT c ks (i + 1) = cntT c ks i + cntF c (ks.getD i .zero) := by
 unfold cntT at hm ⊢
 rw [zqL .zero h, List.foldl_append]
 show cntS _ _ _ = _
 exact if_neg (by omega)
abbrev tsC : List Nat := [1, 2, 5, 6]
def leC (d m i : Int) : List V := [.sint .i64 d, .ptr 0 0, .sint .i64 m, .sint .i64 i]
def sCnt (N : Nat) (args : List V) (hp : Mem) (k : KE) : Prop := ∃ x dv d, args = [Nd.v x, dv] /\ int64 dv = some d /\ -1 <= d /\ d <= 300 /\ x.size < N /\ k (.ret (.sint .i64 (cntF (d + 1).toNat x))) hp
def lCnt (N : Nat) (fi : FI) (ds : List DV) (env : Tr V) (hp : Mem) (k : KK) : Prop := atV 31 1 [0] [] fi ds hp λ _ => match pk tsC env, hp.t.get 0 with
 | [some dv, some (.ptr 0 0), some mv, some iv], some ch => ∃ kd t n l ks d, ch = boxN kd t n l ks /\ int64 dv = some d /\ int64 mv = some 1 /\ int64 iv = some 0 /\ 0 <= d /\ d <= 300 /\ sizes ks < N /\
   ∀ i, k (.exit 0) [] (ofE (tsC.zip (leC d (ks.foldl (cntS (cntF d.toNat)) 1) i))) ⟨1, ofM ([0].zip [boxN kd t n l ks] ++ [].zip []), hp.ro⟩
 | _, _ => False
theorem cntL_ok {N : Nat} (IH : ∀ gv gf gl args hp k, sCnt N args hp k -> TaskOk Tryz.prog ⟨gv, gf, gl⟩ (.call 34 args hp k)) {gv gf gl} : ∀ fi ds env hp k, lCnt N fi ds env hp k -> TaskOk Tryz.prog ⟨gv, gf, gl⟩ (.code fi (.loop (lp Tryz.prog 34 0)) ds env hp k) := by
 intro fi ds env hp k h
 obtain ⟨rfl, rfl, hn, hlk, rc, hrc, h⟩ := zxD h
 split at h
 ·rename_i dv mv iv ch hT g0
  obtain ⟨kd, t, n, l, ks, d, rfl, q1, q2, q3, hd0, hd1, hN, hk⟩ := h
  obtain ⟨n', ht, hro⟩ := hp
  dsimp only at hn hlk hk g0
  subst hn
  have bd := λ y => zkG d.toNat y
  refine zxA tsC [0] [0] [] [] 1 (λ x : Nat => leC d (cntT d.toNat ks x) x) (λ _ => [some (boxN kd t n l ks)]) (λ x => x <= ks.length /\ (x : Int) + 1 <= cntT d.toNat ks x /\ cntT d.toNat ks x <= 3000000) (λ x => ks.length - x) 0 ⟨Nat.zero_le _, by show (0 : Int) + 1 <= 1; omega, by show (1 : Int) <= 3000000; omega⟩ rfl rfl rfl (Nat.le_refl 1) hlk rfl rfl (λ x => rfl) (λ x => rfl) ?_ ⟨⟨_, g0, zqb _⟩, trivial⟩ rfl ?_
  ·rw [hT]
   exact ⟨zqq q1, zqa _, zqq q2, zqq q3, trivial⟩
  ·rintro x ⟨hx, hm, hm2⟩
   have out : ∀ v, cntT d.toNat ks x = ks.foldl (cntS (cntF d.toNat)) 1 -> k (.exit 0) [] (ofE (tsC.zip (leC d (cntT d.toNat ks x) v))) ⟨1, ofM ([0].zip [boxN kd t n l ks] ++ [].zip []), hro⟩ := λ v e => by rw [e]; exact hk v
   refine zqT (gf' := [(34, sCnt N)]) (gl' := []) ?_
   refine go_sound qmix qNG zqh (fs_all (by exact ⟨IH _ _ _, trivial⟩)) (zqN rfl) 200 _ ?_
   refine ⟨trivial, trivial, λ h1 => ⟨trivial, λ h2 => ?_, λ h3 => ?_⟩, λ h4 => ?_⟩
   ·have h1 : (x : Int) < (rows ks).length := of_decide_eq_true h1
    have h2 : cntT d.toNat ks x <= 6000 := of_decide_eq_true h2
    rw [zqc] at h1
    have hlt : x < ks.length := by omega
    have b := bd (ks.getD x .zero)
    have sz := zxy hlt
    have e := cntT_succ (c := d.toNat) hlt h2
    have ed : (d - 1 + 1).toNat = d.toNat := by congr 1; omega
    have b2 : cntF d.toNat (ks.getD x .zero) <= 2000000 := by have := b.2; omega
    have c1 : I64 (d - 1) := by unfold I64; omega
    have c2 : I64 (cntT d.toNat ks x + cntF d.toNat (ks.getD x .zero)) := by unfold I64; omega
    have c3 : I64 ((x : Int) + 1) := by unfold I64; omega
    refine ⟨⟨by omega, by rw [zqc]; exact h1⟩, (by rw [zqc]; exact hlt), c1, ks.getD x .zero, _, d - 1, congrArg (λ v => [v, _]) (zqY hlt), rfl, by omega, by omega, by omega, ?_⟩
    rw [ed]
    refine ⟨c2, c3, x + 1, [0], ⟨by omega, by rw [e]; push_cast; omega, by rw [e]; omega⟩, (by omega : ks.length - (x + 1) < ks.length - x), Nat.le_refl 1, rfl, ⟨zqa _, zqa _, ⟨rfl, e.symm⟩, ⟨rfl, by push_cast; rfl⟩, trivial⟩, ⟨_, rfl, zqb _⟩, trivial⟩
   ·have h3 : ¬ cntT d.toNat ks x <= 6000 := of_decide_eq_false h3
    exact ⟨leC d (cntT d.toNat ks x) x, [0], [boxN kd t n l ks], Nat.le_refl 1, rfl, rfl, ⟨zqa _, zqa _, zqa _, zqa _, trivial⟩, ⟨⟨_, rfl, zqb _⟩, trivial⟩, out _ (cntT_all (.inr (by omega)))⟩
   ·have h4 : ¬ (x : Int) < (rows ks).length := of_decide_eq_false h4
    rw [zqc] at h4
    exact ⟨leC d (cntT d.toNat ks x) x, [0], [boxN kd t n l ks], Nat.le_refl 1, rfl, rfl, ⟨zqa _, zqa _, zqa _, zqa _, trivial⟩, ⟨⟨_, rfl, zqb _⟩, trivial⟩, out _ (cntT_all (.inl (by omega)))⟩
 ·exact h.elim
theorem cnt_run {N : Nat} (IH : ∀ gv gf gl args hp k, sCnt N args hp k -> TaskOk Tryz.prog ⟨gv, gf, gl⟩ (.call 34 args hp k)) (x : Nd) (d : Int) (h0 : -1 <= d) (h1 : d <= 300) (hN : x.size < N + 1) :
  TaskOk Tryz.prog ⟨⟨.nil, [], []⟩, [], [(31005, lp Tryz.prog 34 0, lCnt N)]⟩ (.call 34 [x.v, .sint .i64 d] nomem λ e _ => retV (.sint .i64 (cntF (d + 1).toNat x)) e) := by
 obtain ⟨kd, t, n, l, ks⟩ := x
 have hs : sizes ks < N := by simp only [Nd.size] at hN; omega
 refine go_sound qmix qNG zqh (zxl rfl) (ls_one rfl (cntL_ok IH)) 200 _ ?_
 refine ⟨trivial, λ g1 => ?_, λ g2 => ⟨rfl, kd, t, n, l, ks, d, rfl, rfl, rfl, rfl, ?_, h1, hs, λ i => ?_⟩⟩
 ·have g1 : d < 0 := of_decide_eq_true g1
  obtain rfl : d = -1 := by omega
  exact ⟨rfl, rfl⟩
 ·have g2 : ¬ d < 0 := of_decide_eq_false g2
  omega
 ·have g2 : ¬ d < 0 := of_decide_eq_false g2
  refine ⟨rfl, ?_⟩
  rw [show (d + 1).toNat = d.toNat + 1 by omega]
  rfl
theorem cnt_ok : ∀ (N : Nat) gv gf gl args hp k, sCnt N args hp k -> TaskOk Tryz.prog ⟨gv, gf, gl⟩ (.call 34 args hp k)
 | 0, gv, gf, gl, args, hp, k, ⟨x, dv, d, e, q, h0, h1, hN, hk⟩ => absurd hN (Nat.not_lt_zero _)
 | N + 1, gv, gf, gl, args, hp, k, ⟨x, dv, d, e, q, h0, h1, hN, hk⟩ => by
  subst e
  exact sum_of1v (cnt_run (cnt_ok N) x d h0 h1 hN) rfl ⟨zqa _, zqq q, trivial⟩ (by cases x; rfl) rfl hk
def lightN (x : Nd) : Bool := decide (cntF 301 x <= 6000)
def sLig (args : List V) (hp : Mem) (k : KE) : Prop := ∃ x, args = [Nd.v x] /\ k (.ret (.sbool (lightN x))) hp
theorem lig_run (x : Nd) : TaskOk Tryz.prog ⟨⟨.nil, [], []⟩, [(34, sCnt (x.size + 1))], []⟩ (.call 7 [x.v] nomem λ e _ => retV (.sbool (lightN x)) e) := by
 refine go_sound qmix qNG zqh (fs_all (by exact ⟨cnt_ok _ _ _ _, trivial⟩)) (zqN rfl) 200 _ ?_
 obtain ⟨kd, t, n, l, ks⟩ := x
 refine ⟨.mk kd t n l ks, _, 300, rfl, rfl, by omega, by omega, Nat.lt_succ_self _, trivial, λ h1 => ?_, λ h2 => ?_⟩
 ·exact (show decide (cntF 301 (.mk kd t n l ks) <= 6000) = true from h1).symm
 ·exact (show decide (cntF 301 (.mk kd t n l ks) <= 6000) = false from h2).symm
theorem lig_ok {gv gf gl} : ∀ args hp k, sLig args hp k -> TaskOk Tryz.prog ⟨gv, gf, gl⟩ (.call 7 args hp k) := by
 rintro args hp k ⟨x, rfl, hk⟩
 exact zxJ (lig_run x) rfl (by cases x; rfl) rfl hk
end
end Go.Proofs.YtiilaimcmkdfjaaGreatDoor
set_option maxRecDepth 100000
set_option maxHeartbeats 4000000
namespace Go.Proofs.YtiilaimcmkdfjaaGreatDoor
open Go Go.Z Go.Q
open Go.Y hiding KE KK KR go Task go_sound
noncomputable section
open Classical in
def dec (p : Prop) : Bool := decide p
open Classical in
theorem dec_t {p : Prop} (h : p) : dec p = true := decide_eq_true h
open Classical in
theorem dec_f {p : Prop} (h : ¬ p) : dec p = false := decide_eq_false h
open Classical in
theorem of_dec {p : Prop} (h : dec p = true) : p := of_decide_eq_true h
open Classical in
theorem not_dec {p : Prop} (h : dec p = false) : ¬ p := of_decide_eq_false h
theorem nT {p : Prop} [Decidable p] (h : (!decide p) = true) : ¬ p := by simpa using h
theorem nF {p : Prop} [Decidable p] (h : (!decide p) = false) : p := by simpa using h
theorem nDT {p : Prop} (h : (!dec p) = true) : ¬ p := λ hp => by rw [dec_t hp] at h; cases h
theorem nDF {p : Prop} (h : (!dec p) = false) : p := Classical.byContradiction λ hp => by rw [dec_f hp] at h; cases h
theorem nds_ext {a b : List Nd} (h : a.length = b.length) (he : ∀ j, j < a.length -> a.getD j .zero = b.getD j .zero) : a = b := by
 refine List.ext_getElem h λ j h1 h2 => ?_
 have := he j h1
 rwa [List.getD_eq_getElem?_getD, List.getD_eq_getElem?_getD, List.getElem?_eq_getElem h1, List.getElem?_eq_getElem h2] at this
theorem zxa : ∀ l : List Nd, l.length <= sizes l
 | [] => Nat.le_refl 0
 | .mk k t n l' ks :: l => by
  have := zxa l
  simp only [List.length_cons, sizes, Nd.size]; omega
abbrev tsS : List Nat := [2, 3, 4, 5]
def leS (i : Int) : List V := [.ptr 0 0, .ptr 1 0, .bool false, .sint .i64 i]
def sSam (N : Nat) (args : List V) (hp : Mem) (k : KE) : Prop := ∃ x y, args = [Nd.v x, Nd.v y] /\ x.size < N /\ x.size <= 1000000 /\ k (.ret (.sbool (dec (x = y)))) hp
def lSam (N : Nat) (fi : FI) (ds : List DV) (env : Tr V) (hp : Mem) (k : KK) : Prop := atV 60 2 [0, 1] [] fi ds hp λ _ => match pk tsS env, hp.t.get 0, hp.t.get 1 with
 | [some (.ptr 0 0), some (.ptr 1 0), some (.bool false), some iv], some c0, some c1 => ∃ ka ta na la xs kb tb nb lb bs, c0 = boxN ka ta na la xs /\ c1 = boxN kb tb nb lb bs /\ int64 iv = some 0 /\ xs.length = bs.length /\ sizes xs < N /\ sizes xs <= 1000000 /\
   (xs ≠ bs -> ∀ i, k .ret [] (ofE (tsS.zip (leS i))) ⟨2, ofM ([0, 1].zip [boxN ka ta na la xs, boxN kb tb nb lb bs] ++ [].zip []), hp.ro⟩) /\
   (xs = bs -> ∀ i, k (.exit 0) [] (ofE (tsS.zip (leS i))) ⟨2, ofM ([0, 1].zip [boxN ka ta na la xs, boxN kb tb nb lb bs] ++ [].zip []), hp.ro⟩)
 | _, _, _ => False
theorem samL_ok {N : Nat} (IH : ∀ gv gf gl args hp k, sSam N args hp k -> TaskOk Tryz.prog ⟨gv, gf, gl⟩ (.call 10 args hp k)) {gv gf gl} : ∀ fi ds env hp k, lSam N fi ds env hp k -> TaskOk Tryz.prog ⟨gv, gf, gl⟩ (.code fi (.loop (lp Tryz.prog 10 0)) ds env hp k) := by
 intro fi ds env hp k h
 obtain ⟨rfl, rfl, hn, hlk, rc, hrc, h⟩ := zxD h
 split at h
 ·rename_i iv c0 c1 hT g0 g1
  obtain ⟨ka, ta, na, la, xs, kb, tb, nb, lb, bs, rfl, rfl, q1, hl, hN, hM, hk1, hk2⟩ := h
  obtain ⟨n', ht, hro⟩ := hp
  dsimp only at hn hlk hk1 hk2 g0 g1
  subst hn
  have hlen := zxa xs
  refine zxA tsS [0, 1] [0, 1] [] [] 2 (λ x : Nat => leS x) (λ _ => [some (boxN ka ta na la xs), some (boxN kb tb nb lb bs)]) (λ x => x <= xs.length /\ ∀ j, j < x -> xs.getD j .zero = bs.getD j .zero) (λ x => xs.length - x) 0 ⟨Nat.zero_le _, λ j hj => absurd hj (Nat.not_lt_zero j)⟩ rfl rfl rfl (Nat.le_refl 2) hlk rfl rfl (λ x => rfl) (λ x => rfl) ?_ ⟨⟨_, g0, zqb _⟩, ⟨_, g1, zqb _⟩, trivial⟩ rfl ?_
  ·rw [hT]
   exact ⟨zqa _, zqa _, zqa _, zqq q1, trivial⟩
  ·rintro x ⟨hx, hall⟩
   refine zqT (gf' := [(10, sSam N)]) (gl' := []) ?_
   refine go_sound qmix qNG zqh (fs_all (by exact ⟨IH _ _ _, trivial⟩)) (zqN rfl) 200 _ ?_
   refine ⟨trivial, trivial, λ h1 => ?_, λ h4 => ?_⟩
   ·have h1 : (x : Int) < (rows xs).length := of_decide_eq_true h1
    rw [zqc] at h1
    have hlt : x < xs.length := by omega
    have hlt2 : x < bs.length := by omega
    have sz := zxy hlt
    have c3 : I64 ((x : Int) + 1) := by unfold I64; omega
    refine ⟨⟨by omega, by rw [zqc]; exact h1⟩, (by rw [zqc]; exact hlt), ⟨by omega, by rw [zqc]; omega⟩, (by rw [zqc]; exact hlt2), xs.getD x .zero, bs.getD x .zero, ?_, by omega, by omega, trivial, λ h2 => ?_, λ h3 => ⟨c3, ?_⟩⟩
    ·show [V.agg (rowV ((rows xs).getD x []) nodeSh 0), V.agg (rowV ((rows bs).getD x []) nodeSh 0)] = _
     rw [zqY hlt, zqY hlt2]
    ·exact ⟨leS x, [0, 1], [boxN ka ta na la xs, boxN kb tb nb lb bs], Nat.le_refl 2, rfl, rfl, ⟨zqa _, zqa _, zqa _, zqa _, trivial⟩, ⟨⟨_, rfl, zqb _⟩, ⟨_, rfl, zqb _⟩, trivial⟩, hk1 (λ e => nDT h2 (by rw [e])) x⟩
    ·have e := nDF h3
     refine ⟨x + 1, [0, 1], ⟨by omega, λ j hj => ?_⟩, (by omega : xs.length - (x + 1) < xs.length - x), Nat.le_refl 2, rfl, ⟨zqa _, zqa _, zqa _, ⟨rfl, by push_cast; rfl⟩, trivial⟩, ⟨_, rfl, zqb _⟩, ⟨_, rfl, zqb _⟩, trivial⟩
     rcases Nat.lt_or_ge j x with hj' | hj'
     ·exact hall j hj'
     ·obtain rfl : j = x := by omega
      exact e
   ·have h4 : ¬ (x : Int) < (rows xs).length := of_decide_eq_false h4
    rw [zqc] at h4
    exact ⟨leS x, [0, 1], [boxN ka ta na la xs, boxN kb tb nb lb bs], Nat.le_refl 2, rfl, rfl, ⟨zqa _, zqa _, zqa _, zqa _, trivial⟩, ⟨⟨_, rfl, zqb _⟩, ⟨_, rfl, zqb _⟩, trivial⟩, hk2 (nds_ext hl λ j hj => hall j (by omega)) x⟩
 ·exact h.elim
theorem sam_run {N : Nat} (IH : ∀ gv gf gl args hp k, sSam N args hp k -> TaskOk Tryz.prog ⟨gv, gf, gl⟩ (.call 10 args hp k)) (x y : Nd) (hN : x.size < N + 1) (hM : x.size <= 1000000) :
  TaskOk Tryz.prog ⟨⟨.nil, [], []⟩, [], [(60004, lp Tryz.prog 10 0, lSam N)]⟩ (.call 10 [x.v, y.v] nomem λ e _ => retV (.sbool (dec (x = y))) e) := by
 obtain ⟨ka, ta, na, la, xs⟩ := x
 obtain ⟨kb, tb, nb, lb, bs⟩ := y
 have hs : sizes xs < N := by simp only [Nd.size] at hN; omega
 have hs2 : sizes xs <= 1000000 := by simp only [Nd.size] at hM; omega
 refine go_sound qmix qNG zqh (zxl rfl) (ls_one rfl (samL_ok IH)) 200 _ ?_
 refine ⟨trivial, λ h1 => ?_, λ h2 => ⟨trivial, λ h3 => ?_, λ h4 => ⟨trivial, λ h5 => ?_, λ h6 => ⟨trivial, λ h7 => ?_, λ h8 => ⟨trivial, trivial, trivial, λ h9 => ?_, λ h10 => ⟨rfl, ka, ta, na, la, xs, kb, tb, nb, lb, bs, rfl, rfl, rfl, ?_, hs, hs2, λ hne i => ?_, λ he i => ?_⟩⟩⟩⟩⟩⟩
 ·show false = _
  exact (dec_f λ e => by cases e; exact nT h1 rfl).symm
 ·show false = _
  exact (dec_f λ e => by cases e; exact nT h3 rfl).symm
 ·show false = _
  exact (dec_f λ e => by cases e; exact nT h5 rfl).symm
 ·show false = _
  exact (dec_f λ e => by cases e; exact nT h7 rfl).symm
 ·have h9 : ¬ ((rows xs).length : Int) = (rows bs).length := nT h9
  show false = _
  exact (dec_f λ e => by cases e; exact h9 rfl).symm
 ·have h10 : ((rows xs).length : Int) = (rows bs).length := nF h10
  rw [zqc, zqc] at h10
  omega
 ·show false = _
  exact (dec_f λ e => by cases e; exact hne rfl).symm
 ·subst he
  have h2 : ka = kb := nF h2
  have h4 : ta = tb := nF h4
  have h6 : na = nb := nF h6
  have h8 : la = lb := nF h8
  subst h2; subst h4; subst h6; subst h8
  show true = _
  exact (dec_t rfl).symm
theorem sam_ok : ∀ (N : Nat) gv gf gl args hp k, sSam N args hp k -> TaskOk Tryz.prog ⟨gv, gf, gl⟩ (.call 10 args hp k)
 | 0, gv, gf, gl, args, hp, k, ⟨x, y, e, hN, hM, hk⟩ => absurd hN (Nat.not_lt_zero _)
 | N + 1, gv, gf, gl, args, hp, k, ⟨x, y, e, hN, hM, hk⟩ => by
  subst e
  exact zxJ (sam_run (sam_ok N) x y hN hM) rfl (by cases x; cases y; rfl) rfl hk
end
end Go.Proofs.YtiilaimcmkdfjaaGreatDoor
set_option maxRecDepth 100000
set_option maxHeartbeats 4000000
namespace Go.Proofs.YtiilaimcmkdfjaaGreatDoor
open Go Go.Z Go.Q
open Go.Y hiding KE KK KR go Task go_sound
noncomputable section
def Nd.kd : Nd -> Int
 | .mk k t n l ks => k
def Nd.tx : Nd -> List UInt8
 | .mk k t n l ks => t
def Nd.nn : Nd -> Int
 | .mk k t n l ks => n
def Nd.ln : Nd -> Int
 | .mk k t n l ks => l
abbrev boxX (x : Nd) : Chunk := .cells [.sint .i64 x.kd, .sstr x.tx, .sint .i64 x.nn, .sint .i64 x.ln, .xs (rows x.ks) nodeSh] 24 5
theorem chle_box {l : List V} {y : Nd} (h : V.agg l = y.v) : chle (.cells l 24 5) (boxX y) := by
 cases y; cases h; exact zqb _
theorem v_eta (x : Nd) : V.agg [.sint .i64 x.kd, .sstr x.tx, .sint .i64 x.nn, .sint .i64 x.ln, .xs (rows x.ks) nodeSh] = x.v := by cases x; rfl
def Nd.w (x : Nd) : V := .agg [.sint .i64 x.kd, .sstr x.tx, .sint .i64 x.nn, .sint .i64 x.ln, .xs (rows x.ks) nodeSh]
theorem w_eta (x : Nd) : x.w = x.v := v_eta x
abbrev zeroL : List V := [.int .i64 0, .str [], .int .i64 0, .int .i64 0, .nils]
def ndle (a : V) (x : Nd) : Prop := a = x.v \/ (a = .agg zeroL /\ x = .zero)
theorem Nd.vX_ok {ρ : Rho} {X : Hp} (hX : Hp.le ρ.x X) {x : Nd} {u : Value} (h : R ρ x.v u) : R (norhoX X) x.v u := by
 exact Go.Y.R.mono ⟨λ id x e => (by rw [zjN (Nat.zero_le _)] at e; cases e), hX⟩ (vin_ok (n := 0) (by cases x; rfl) h)
theorem ndle_ok {ρ : Rho} {X : Hp} (hX : Hp.le ρ.x X) {a : V} {x : Nd} {u : Value} (h : ndle a x) (hv : R ρ a u) : R (norhoX X) x.v u := by
 rcases h with rfl | ⟨rfl, rfl⟩
 ·exact Nd.vX_ok hX hv
 ·obtain ⟨us, ⟨a1, b1, h1, ⟨a2, b2, h2, ⟨a3, b3, h3, ⟨a4, b4, h4, ⟨a5, b5, h5, h6, rfl⟩, rfl⟩, rfl⟩, rfl⟩, rfl⟩, rfl⟩ := hv
  cases h6
  exact ⟨_, ⟨a1, _, h1, ⟨a2, _, h2, ⟨a3, _, h3, ⟨a4, _, h4, ⟨a5, _, ⟨none, 0, [], h5, Nat.le_refl 0, rfl, λ r hr => (by cases hr), .inl rfl⟩, rfl, rfl⟩, rfl⟩, rfl⟩, rfl⟩, rfl⟩, rfl⟩
def retN (x : Nd) (c : Int) : E -> Prop := λ e => match e with
 | .ret (.tup [a, b]) => ndle a x /\ vle b (.sint .i64 c)
 | _ => False
theorem sum_nd {P : Program} {G0 G : GQ} {f : Nat} {args args0 : List V} {hp : Mem} {k : KE} {x : Nd} {c : Int} (h : TaskOk P G0 (.call f args0 nomem λ e _ => retN x c e)) (hg : G0.g.t = .nil) (hle : vles args args0) (ha : vins 0 args0 = true) (hk : k (.ret (.tup [x.v, .sint .i64 c])) hp) : TaskOk P G (.call f args hp k) := by
 refine sum_gen h hg hle ha λ e hp1 hk' => ⟨.tup [x.v, .sint .i64 c], λ ρ W X2 en hH hen hX _ => ?_, hk⟩
 unfold retN at hk'
 split at hk'
 ·cases en with
  | returned u =>
   obtain ⟨us, ⟨a1, b1, h1, ⟨a2, b2, h2, h3, rfl⟩, rfl⟩, rfl⟩ := hen
   cases h3
   have e2 : a2 = .int .i64 c := vle_ok hk'.2 h2
   exact ⟨_, ⟨a1, _, ndle_ok hX hk'.1 h1, ⟨a2, _, e2, rfl, rfl⟩, rfl⟩, rfl⟩
  | panicked ch => exact hen.elim
  | outgrown => exact hen.elim
 ·exact hk'.elim
def stepN (x : Nd) (p : Int) : Option Nd := if 0 <= p /\ p < x.ks.length then some (x.ks.getD p.toNat .zero) else none
def atF : Nd -> List Int -> Option Nd
 | x, [] => some x
 | x, p :: l => match stepN x p with
  | some y => atF y l
  | none => none
def pI (P : List (List V)) : List Int := P.map λ r => vI (r.getD 0 .und)
theorem atF_app : ∀ (l : List Int) {x y : Nd} (m : List Int), atF x l = some y -> atF x (l ++ m) = atF y m
 | [], x, y, m, h => by cases h; rfl
 | p :: l, x, y, m, h => by
  simp only [atF, List.cons_append] at h ⊢
  split at h
  ·exact atF_app l m h
  ·cases h
theorem atF_none : ∀ (l : List Int) {x y : Nd} {p : Int} (m : List Int), atF x l = some y -> stepN y p = none -> atF x (l ++ p :: m) = none := λ l x y p m h hs => by
 rw [atF_app l _ h]; simp only [atF, hs]
theorem zxO (P : List (List V)) : (pI P).length = P.length := by simp [pI]
theorem pI_getD {P : List (List V)} {i : Nat} (h : i < P.length) : (pI P).getD i 0 = vI ((P.getD i []).getD 0 .und) := by
 simp [pI, List.getD_eq_getElem?_getD, List.getElem?_eq_getElem h]
def atR (x : Nd) (l : List Int) : Nd × Int := match atF x l with
 | some y => (y, 0)
 | none => (.zero, 5)
abbrev tsA : List Nat := [2, 4, 5, 8, 9, 10]
def leA (c : Int) (P : List (List V)) (i : Int) : List V := [.ptr 0 0, .ptr 1 0, .int .i64 c, .xs P [.int .i64], .sint .i64 P.length, .sint .i64 i]
abbrev zeroC : Chunk := .cells zeroL 24 5
def lAt (fi : FI) (ds : List DV) (env : Tr V) (hp : Mem) (k : KK) : Prop := atV 31 2 [0, 1] [] fi ds hp λ _ => match pk tsA env, hp.t.get 0, hp.t.get 1 with
 | [some (.ptr 0 0), some (.ptr 1 0), some cv, some (.xs P [.int .i64]), some lv, some iv], some c0, some c1 => ∃ x, chle c0 (boxX x) /\ c1 = zeroC /\ cv = .int .i64 0 /\ int64 lv = some P.length /\ int64 iv = some 0 /\ P.length <= 1000 /\
   (atF x (pI P) = none -> ∀ y i, k .ret [] (ofE (tsA.zip (leA 5 P i))) ⟨2, ofM ([0, 1].zip [boxX y, zeroC] ++ [].zip []), hp.ro⟩) /\
   (∀ y, atF x (pI P) = some y -> k (.exit 0) [] (ofE (tsA.zip (leA 0 P P.length))) ⟨2, ofM ([0, 1].zip [boxX y, zeroC] ++ [].zip []), hp.ro⟩)
 | _, _, _ => False
theorem at_loop {gv gf gl} : ∀ fi ds env hp k, lAt fi ds env hp k -> TaskOk Tryz.prog ⟨gv, gf, gl⟩ (.code fi (.loop (lp Tryz.prog 8 0)) ds env hp k) := by
 intro fi ds env hp k h
 obtain ⟨rfl, rfl, hn, hlk, rc, hrc, h⟩ := zxD h
 split at h
 ·rename_i cv P lv iv c0 c1 hT g0 g1
  obtain ⟨x0, hc0, rfl, rfl, q1, q2, hP, hk1, hk2⟩ := h
  obtain ⟨n', ht, hro⟩ := hp
  dsimp only at hn hlk hk1 hk2 g0 g1
  subst hn
  refine zxA tsA [0, 1] [0, 1] [] [] 2 (λ x : Nat × Nd => leA 0 P x.1) (λ x => [some (boxX x.2), some zeroC]) (λ x => x.1 <= P.length /\ atF x0 ((pI P).take x.1) = some x.2) (λ x => P.length - x.1) (0, x0) ⟨Nat.zero_le _, rfl⟩ rfl rfl rfl (Nat.le_refl 2) hlk rfl rfl (λ x => rfl) (λ x => rfl) ?_ ⟨⟨_, g0, hc0⟩, ⟨_, g1, zqb _⟩, trivial⟩ rfl ?_
  ·rw [hT]
   exact ⟨zqa _, zqa _, zqa _, zqa _, zqq q1, zqq q2, trivial⟩
  ·rintro ⟨x, y⟩ ⟨hx, hat⟩
   dsimp only at hx hat
   refine zqT (gf' := []) (gl' := []) ?_
   refine go_sound qmix qNG zqh (zxl rfl) (zqN rfl) 200 _ ?_
   have bad : x < P.length -> stepN y ((pI P).getD x 0) = none -> atF x0 (pI P) = none := λ hlt hs => by
    have h1 : x < (pI P).length := by rw [zxO]; exact hlt
    rw [<- List.take_append_drop x (pI P), List.drop_eq_getElem_cons h1]
    refine atF_none _ _ hat ?_
    rwa [List.getD_eq_getElem?_getD, List.getElem?_eq_getElem h1] at hs
   have good : x < P.length -> ∀ z, stepN y ((pI P).getD x 0) = some z -> atF x0 ((pI P).take (x + 1)) = some z := λ hlt z hs => by
    have h1 : x < (pI P).length := by rw [zxO]; exact hlt
    rw [zqL 0 h1, atF_app _ _ hat]
    simp only [atF, hs]
   refine ⟨trivial, λ h1 => ?_, λ h6 => ?_⟩
   ·have h1 : (x : Int) < P.length := of_decide_eq_true h1
    have hlt : x < P.length := by omega
    have c3 : I64 ((x : Int) + 1) := by unfold I64; omega
    have ep := pI_getD hlt
    refine ⟨⟨by omega, h1⟩, hlt, trivial, λ h2 => ?_, λ h3 => ⟨trivial, trivial, λ h4 => ?_, λ h5 => ?_⟩⟩
    ·have h2 : vI ((P.getD x []).getD 0 .und) < 0 := of_decide_eq_true h2
     refine ⟨leA 5 P x, [0, 1], [boxX y, zeroC], Nat.le_refl 2, rfl, rfl, ⟨zqa _, zqa _, zqa _, zqa _, zqa _, zqa _, trivial⟩, ⟨⟨_, rfl, zqb _⟩, ⟨_, rfl, zqb _⟩, trivial⟩, hk1 (bad hlt ?_) y x⟩
     rw [ep]; exact if_neg (by omega)
    ·have h4 : ((rows y.ks).length : Int) <= vI ((P.getD x []).getD 0 .und) := of_decide_eq_true h4
     rw [zqc] at h4
     refine ⟨leA 5 P x, [0, 1], [boxX y, zeroC], Nat.le_refl 2, rfl, rfl, ⟨zqa _, zqa _, zqa _, zqa _, zqa _, zqa _, trivial⟩, ⟨⟨_, rfl, zqb _⟩, ⟨_, rfl, zqb _⟩, trivial⟩, hk1 (bad hlt ?_) y x⟩
     rw [ep]; exact if_neg (by omega)
    ·have h3 : ¬ vI ((P.getD x []).getD 0 .und) < 0 := of_decide_eq_false h3
     have h5 : ¬ ((rows y.ks).length : Int) <= vI ((P.getD x []).getD 0 .und) := of_decide_eq_false h5
     rw [zqc] at h5
     have hk : (vI ((P.getD x []).getD 0 .und)).toNat < y.ks.length := by omega
     refine ⟨⟨by show 0 <= vI ((P.getD x []).getD 0 .und); omega, by show vI ((P.getD x []).getD 0 .und) < ((rows y.ks).length : Int); rw [zqc]; omega⟩, (by show _ < (rows y.ks).length; rw [zqc]; exact hk), c3, (x + 1, y.ks.getD (vI ((P.getD x []).getD 0 .und)).toNat .zero), [0, 1], ⟨by show x + 1 <= _; omega, good hlt _ ?_⟩, (by omega : P.length - (x + 1) < P.length - x), Nat.le_refl 2, rfl, ⟨zqa _, zqa _, zqa _, zqa _, zqa _, ⟨rfl, by push_cast; rfl⟩, trivial⟩, ⟨_, rfl, chle_box (zqY hk)⟩, ⟨_, rfl, zqb _⟩, trivial⟩
     rw [ep]; exact if_pos (by omega)
   ·have h6 : ¬ (x : Int) < P.length := of_decide_eq_false h6
    obtain rfl : x = P.length := by omega
    refine ⟨leA 0 P P.length, [0, 1], [boxX y, zeroC], Nat.le_refl 2, rfl, rfl, ⟨zqa _, zqa _, zqa _, zqa _, zqa _, zqa _, trivial⟩, ⟨⟨_, rfl, zqb _⟩, ⟨_, rfl, zqb _⟩, trivial⟩, hk2 y ?_⟩
    rw [<- hat, List.take_of_length_le (by rw [zxO]; exact Nat.le_refl _)]
 ·exact h.elim
theorem at_run (x : Nd) (P : List (List V)) (hP : P.length <= 1000) : TaskOk Tryz.prog ⟨⟨.nil, [], []⟩, [], [(31002, lp Tryz.prog 8 0, lAt)]⟩ (.call 8 [x.v, .xs P [.int .i64]] nomem λ e _ => retN (atR x (pI P)).1 (atR x (pI P)).2 e) := by
 obtain ⟨kd, t, n, l, ks⟩ := x
 refine go_sound qmix qNG zqh (zxl rfl) (ls_one rfl at_loop) 200 _ ?_
 refine ⟨trivial, rfl, .mk kd t n l ks, zqb _, rfl, rfl, rfl, rfl, hP, λ h y i => ?_, λ y h => ?_⟩
 ·unfold atR; rw [h]
  exact ⟨.inr ⟨rfl, rfl⟩, rfl, rfl⟩
 ·unfold atR; rw [h]
  exact ⟨.inl (v_eta y), rfl, rfl⟩
def sAt (args : List V) (hp : Mem) (k : KE) : Prop := ∃ x P, args = [Nd.v x, .xs P [.int .i64]] /\ P.length <= 1000 /\ k (.ret (.tup [(atR x (pI P)).1.w, .sint .i64 (atR x (pI P)).2])) hp
theorem at_ok {gv gf gl} : ∀ args hp k, sAt args hp k -> TaskOk Tryz.prog ⟨gv, gf, gl⟩ (.call 8 args hp k) := by
 rintro args hp k ⟨x, P, rfl, hP, hk⟩
 exact sum_nd (at_run x P hP) rfl (zxp _) (by cases x; rfl) (by rw [<- w_eta]; exact hk)
end
end Go.Proofs.YtiilaimcmkdfjaaGreatDoor
