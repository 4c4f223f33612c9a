/- Chapter 8: the reference's Same. -/
import Derived.Test.YtiilaimcmkdfjaaGreatDoorC1
import Derived.Test.YtiilaimcmkdfjaaGreatDoorC4
set_option linter.unusedVariables false
set_option linter.unusedSectionVars false
set_option linter.unusedSimpArgs false
set_option maxRecDepth 100000
set_option maxHeartbeats 4000000
namespace Go.Proofs.YtiilaimcmkdfjaaGreatDoor
open Go Go.Z Go.Q
open Go.Y hiding KE KK KR go Task go_sound
noncomputable section
mutual
/-- a tree without its lines -/
def er : Nd -> Nd
 | .mk k t n l ks => .mk k t n 0 (ers ks)
def ers : List Nd -> List Nd
 | [] => []
 | x :: l => er x :: ers l
end
theorem zxd : ∀ l : List Nd, (ers l).length = l.length
 | [] => rfl
 | x :: l => by simp [ers, zxd l]
theorem zki : ∀ (l : List Nd) (i : Nat), i < l.length -> (ers l).getD i .zero = er (l.getD i .zero)
 | [], i, h => absurd h (Nat.not_lt_zero i)
 | x :: l, 0, h => rfl
 | x :: l, i + 1, h => by
  have := zki l i (by simpa using h)
  simpa [ers] using this
theorem ers_get {a b : List Nd} {i : Nat} (e : ers a = ers b) (h : i < a.length) (h2 : i < b.length) : er (a.getD i .zero) = er (b.getD i .zero) := by
 rw [<- zki a i h, <- zki b i h2, e]
theorem ers_ext {a b : List Nd} (h : a.length = b.length) (he : ∀ j, j < a.length -> er (a.getD j .zero) = er (b.getD j .zero)) : ers a = ers b :=
 nds_ext (by rw [zxd, zxd, h]) λ j hj => by
  rw [zxd] at hj
  rw [zki a j hj, zki b j (by omega)]
  exact he j hj
def sRSm (N : Nat) (args : List V) (hp : Mem) (k : KE) : Prop := ∃ x y, args = [Nd.v x, Nd.v y] /\ x.size < N /\ x.size <= 1000000 /\ k (.ret (.sbool (dec (er x = er y)))) hp
def lRSm (N : Nat) (fi : FI) (ds : List DV) (env : Tr V) (hp : Mem) (k : KK) : Prop := atV 53 2 [0, 1] [] fi ds hp λ _ => match pk tsS env, hp.t.get 0, hp.t.get 1 with
 | [some (.ptr 0 0), some (.ptr 1 0), some (.bool false), some iv], some c0, some c1 => ∃ ka ta na la xs kb tb nb lb bs, c0 = boxN ka ta na la xs /\ c1 = boxN kb tb nb lb bs /\ int64 iv = some 0 /\ xs.length = bs.length /\ sizes xs < N /\ sizes xs <= 1000000 /\
   (ers xs ≠ ers bs -> ∀ i, k .ret [] (ofE (tsS.zip (leS i))) ⟨2, ofM ([0, 1].zip [boxN ka ta na la xs, boxN kb tb nb lb bs] ++ [].zip []), hp.ro⟩) /\
   (ers xs = ers bs -> ∀ i, k (.exit 0) [] (ofE (tsS.zip (leS i))) ⟨2, ofM ([0, 1].zip [boxN ka ta na la xs, boxN kb tb nb lb bs] ++ [].zip []), hp.ro⟩)
 | _, _, _ => False
theorem rsmL_ok {N : Nat} (IH : ∀ gv gf gl args hp k, sRSm N args hp k -> TaskOk Tryz.prog ⟨gv, gf, gl⟩ (.call 18 args hp k)) {gv gf gl} : ∀ fi ds env hp k, lRSm N fi ds env hp k -> TaskOk Tryz.prog ⟨gv, gf, gl⟩ (.code fi (.loop (lp Tryz.prog 18 0)) ds env hp k) := by
 intro fi ds env hp k h
 obtain ⟨rfl, rfl, hn, hlk, rc, hrc, h⟩ := zxD h
 split at h
 ·rename_i iv c0 c1 hT g0 g1
  obtain ⟨ka, ta, na, la, xs, kb, tb, nb, lb, bs, rfl, rfl, q1, hl, hN, hM, hk1, hk2⟩ := h
  obtain ⟨n', ht, hro⟩ := hp
  dsimp only at hn hlk hk1 hk2 g0 g1
  subst hn
  have hlen := zxa xs
  refine zxA tsS [0, 1] [0, 1] [] [] 2 (λ x : Nat => leS x) (λ _ => [some (boxN ka ta na la xs), some (boxN kb tb nb lb bs)]) (λ x => x <= xs.length /\ ∀ j, j < x -> er (xs.getD j .zero) = er (bs.getD j .zero)) (λ x => xs.length - x) 0 ⟨Nat.zero_le _, λ j hj => absurd hj (Nat.not_lt_zero j)⟩ rfl rfl rfl (Nat.le_refl 2) hlk rfl rfl (λ x => rfl) (λ x => rfl) ?_ ⟨⟨_, g0, zqb _⟩, ⟨_, g1, zqb _⟩, trivial⟩ rfl ?_
  ·rw [hT]
   exact ⟨zqa _, zqa _, zqa _, zqq q1, trivial⟩
  ·rintro x ⟨hx, hall⟩
   refine zqT (gf' := [(18, sRSm N)]) (gl' := []) ?_
   refine go_sound qmix qNG zqh (fs_all (by exact ⟨IH _ _ _, trivial⟩)) (zqN rfl) 200 _ ?_
   refine ⟨trivial, trivial, λ h1 => ?_, λ h4 => ?_⟩
   ·have h1 : (x : Int) < (rows xs).length := of_decide_eq_true h1
    rw [zqc] at h1
    have hlt : x < xs.length := by omega
    have hlt2 : x < bs.length := by omega
    have sz := zxy hlt
    have c3 : I64 ((x : Int) + 1) := by unfold I64; omega
    refine ⟨⟨by omega, by rw [zqc]; exact h1⟩, (by rw [zqc]; exact hlt), ⟨by omega, by rw [zqc]; omega⟩, (by rw [zqc]; exact hlt2), xs.getD x .zero, bs.getD x .zero, ?_, by omega, by omega, trivial, λ h2 => ?_, λ h3 => ⟨c3, ?_⟩⟩
    ·show [V.agg (rowV ((rows xs).getD x []) nodeSh 0), V.agg (rowV ((rows bs).getD x []) nodeSh 0)] = _
     rw [zqY hlt, zqY hlt2]
    ·exact ⟨leS x, [0, 1], [boxN ka ta na la xs, boxN kb tb nb lb bs], Nat.le_refl 2, rfl, rfl, ⟨zqa _, zqa _, zqa _, zqa _, trivial⟩, ⟨⟨_, rfl, zqb _⟩, ⟨_, rfl, zqb _⟩, trivial⟩, hk1 (λ e => nDT h2 (ers_get e hlt hlt2)) x⟩
    ·have e := nDF h3
     refine ⟨x + 1, [0, 1], ⟨by omega, λ j hj => ?_⟩, (by omega : xs.length - (x + 1) < xs.length - x), Nat.le_refl 2, rfl, ⟨zqa _, zqa _, zqa _, ⟨rfl, by push_cast; rfl⟩, trivial⟩, ⟨_, rfl, zqb _⟩, ⟨_, rfl, zqb _⟩, trivial⟩
     rcases Nat.lt_or_ge j x with hj' | hj'
     ·exact hall j hj'
     ·obtain rfl : j = x := by omega
      exact e
   ·have h4 : ¬ (x : Int) < (rows xs).length := of_decide_eq_false h4
    rw [zqc] at h4
    exact ⟨leS x, [0, 1], [boxN ka ta na la xs, boxN kb tb nb lb bs], Nat.le_refl 2, rfl, rfl, ⟨zqa _, zqa _, zqa _, zqa _, trivial⟩, ⟨⟨_, rfl, zqb _⟩, ⟨_, rfl, zqb _⟩, trivial⟩, hk2 (ers_ext hl λ j hj => hall j (by omega)) x⟩
 ·exact h.elim
theorem rsm_run {N : Nat} (IH : ∀ gv gf gl args hp k, sRSm N args hp k -> TaskOk Tryz.prog ⟨gv, gf, gl⟩ (.call 18 args hp k)) (x y : Nd) (hN : x.size < N + 1) (hM : x.size <= 1000000) :
  TaskOk Tryz.prog ⟨⟨.nil, [], []⟩, [], [(53004, lp Tryz.prog 18 0, lRSm N)]⟩ (.call 18 [x.v, y.v] nomem λ e _ => retV (.sbool (dec (er x = er y))) e) := by
 obtain ⟨ka, ta, na, la, xs⟩ := x
 obtain ⟨kb, tb, nb, lb, bs⟩ := y
 have hs : sizes xs < N := by simp only [Nd.size] at hN; omega
 have hs2 : sizes xs <= 1000000 := by simp only [Nd.size] at hM; omega
 refine go_sound qmix qNG zqh (zxl rfl) (ls_one rfl (rsmL_ok IH)) 200 _ ?_
 refine ⟨trivial, λ h1 => ?_, λ h2 => ⟨trivial, λ h3 => ?_, λ h4 => ⟨trivial, λ h5 => ?_, λ h6 => ⟨trivial, trivial, trivial, λ h9 => ?_, λ h10 => ⟨rfl, ka, ta, na, la, xs, kb, tb, nb, lb, bs, rfl, rfl, rfl, ?_, hs, hs2, λ hne i => ?_, λ he i => ?_⟩⟩⟩⟩⟩
 ·show false = _
  exact (dec_f λ e => by simp only [er, Nd.mk.injEq] at e; exact nT h1 e.1).symm
 ·show false = _
  exact (dec_f λ e => by simp only [er, Nd.mk.injEq] at e; exact nT h3 e.2.1).symm
 ·show false = _
  exact (dec_f λ e => by simp only [er, Nd.mk.injEq] at e; exact nT h5 e.2.2.1).symm
 ·have h9 : ¬ ((rows xs).length : Int) = (rows bs).length := nT h9
  show false = _
  exact (dec_f λ e => by
   simp only [er, Nd.mk.injEq] at e
   have := congrArg List.length e.2.2.2.2
   rw [zxd, zxd] at this
   rw [zqc, zqc] at h9
   omega).symm
 ·have h10 : ((rows xs).length : Int) = (rows bs).length := nF h10
  rw [zqc, zqc] at h10
  omega
 ·show false = _
  exact (dec_f λ e => by simp only [er, Nd.mk.injEq] at e; exact hne e.2.2.2.2).symm
 ·have h2 : ka = kb := nF h2
  have h4 : ta = tb := nF h4
  have h6 : na = nb := nF h6
  subst h2; subst h4; subst h6
  show true = _
  exact (dec_t (by simp only [er, Nd.mk.injEq]; exact ⟨trivial, trivial, trivial, trivial, he⟩)).symm
theorem rsm_ok : ∀ (N : Nat) gv gf gl args hp k, sRSm N args hp k -> TaskOk Tryz.prog ⟨gv, gf, gl⟩ (.call 18 args hp k)
 | 0, gv, gf, gl, args, hp, k, ⟨x, y, e, hN, hM, hk⟩ => absurd hN (Nat.not_lt_zero _)
 | N + 1, gv, gf, gl, args, hp, k, ⟨x, y, e, hN, hM, hk⟩ => by
  subst e
  exact zxJ (rsm_run (rsm_ok N) x y hN hM) rfl (by cases x; cases y; rfl) rfl hk
end
end Go.Proofs.YtiilaimcmkdfjaaGreatDoor
set_option maxRecDepth 100000
set_option maxHeartbeats 4000000
namespace Go.Proofs.YtiilaimcmkdfjaaGreatDoor
open Go Go.Z Go.Q
open Go.Y hiding KE KK KR go Task go_sound
noncomputable section
abbrev tsE : List Nat := [1, 2, 6, 15, 16, 17]
def leE (xs bs : List Nd) (i : Int) : List V := [.xs (rows bs) nodeSh, .fn (.func 17) [] [], .bool false, .xs (rows xs) nodeSh, .sint .i64 xs.length, .sint .i64 i]
def sSme (N : Nat) (args : List V) (hp : Mem) (k : KE) : Prop := ∃ x y, args = [Nd.v x, Nd.v y] /\ x.size < N /\ x.size <= 1000000 /\ k (.ret (.sbool (dec (er x = er y)))) hp
def sEqf (N : Nat) (args : List V) (hp : Mem) (k : KE) : Prop := ∃ xs bs, args = [.xs (rows xs) nodeSh, .xs (rows bs) nodeSh, .fn (.func 17) [] []] /\ sizes xs < N /\ sizes xs <= 1000000 /\ k (.ret (.sbool (dec (ers xs = ers bs)))) hp
def lEqf (N : Nat) (fi : FI) (ds : List DV) (env : Tr V) (hp : Mem) (k : KK) : Prop := atV 32 0 [] [] fi ds hp λ _ => match pk tsE env with
 | [some (.xs L2 sh2), some f, some (.bool false), some (.xs L1 sh1), some lv, some iv] => ∃ xs bs, L1 = rows xs /\ sh1 = nodeSh /\ L2 = rows bs /\ sh2 = nodeSh /\ f = .fn (.func 17) [] [] /\ int64 lv = some (xs.length : Int) /\ int64 iv = some 0 /\ xs.length = bs.length /\ sizes xs < N /\ sizes xs <= 1000000 /\
   (ers xs ≠ ers bs -> ∀ i n, k .ret [] (ofE (tsE.zip (leE xs bs i))) ⟨n, ofM ([].zip [] ++ [].zip []), hp.ro⟩) /\
   (ers xs = ers bs -> ∀ i, k (.exit 0) [] (ofE (tsE.zip (leE xs bs i))) ⟨0, ofM ([].zip [] ++ [].zip []), hp.ro⟩)
 | _ => False
theorem eqfL_ok {N : Nat} (IH : ∀ gv gf gl args hp k, sSme N args hp k -> TaskOk Tryz.prog ⟨gv, gf, gl⟩ (.call 17 args hp k)) {gv gf gl} : ∀ fi ds env hp k, lEqf N fi ds env hp k -> TaskOk Tryz.prog ⟨gv, gf, gl⟩ (.code fi (.loop (lp Tryz.prog 37 0)) ds env hp k) := by
 intro fi ds env hp k h
 obtain ⟨rfl, rfl, hn, hlk, rc, hrc, h⟩ := zxD h
 split at h
 ·rename_i L2 sh2 f L1 sh1 lv iv hT
  obtain ⟨xs, bs, rfl, rfl, rfl, rfl, rfl, q1, q2, hl, hN, hM, hk1, hk2⟩ := h
  obtain ⟨n', ht, hro⟩ := hp
  dsimp only at hn hlk hk1 hk2
  subst hn
  have hlen := zxa xs
  refine zxA tsE [] [] [] [] 0 (λ x : Nat => leE xs bs x) (λ _ => []) (λ x => x <= xs.length /\ ∀ j, j < x -> er (xs.getD j .zero) = er (bs.getD j .zero)) (λ x => xs.length - x) 0 ⟨Nat.zero_le _, λ j hj => absurd hj (Nat.not_lt_zero j)⟩ rfl rfl rfl (Nat.le_refl 0) hlk rfl rfl (λ x => rfl) (λ x => rfl) ?_ trivial rfl ?_
  ·rw [hT]
   exact ⟨zqa _, zqa _, zqa _, zqa _, zqq q1, zqq q2, trivial⟩
  ·rintro x ⟨hx, hall⟩
   refine zqT (gf' := [(17, sSme N)]) (gl' := []) ?_
   refine go_sound qmix qNG zqh (fs_all (by exact ⟨IH _ _ _, trivial⟩)) (zqN rfl) 200 _ ?_
   refine ⟨trivial, λ h1 => ?_, λ h4 => ?_⟩
   ·have h1 : (x : Int) < xs.length := of_decide_eq_true h1
    have hlt : x < xs.length := by omega
    have hlt2 : x < bs.length := by omega
    have sz := zxy hlt
    have c3 : I64 ((x : Int) + 1) := by unfold I64; omega
    refine ⟨⟨by omega, by rw [zqc]; exact h1⟩, (by rw [zqc]; exact hlt), ⟨by omega, by rw [zqc]; omega⟩, (by rw [zqc]; exact hlt2), xs.getD x .zero, bs.getD x .zero, ?_, by omega, by omega, trivial, λ h2 => ?_, λ h3 => ⟨c3, ?_⟩⟩
    ·show [V.agg (rowV ((rows xs).getD x []) nodeSh 0), V.agg (rowV ((rows bs).getD x []) nodeSh 0)] = _
     rw [zqY hlt, zqY hlt2]
    ·exact ⟨leE xs bs x, [], [], Nat.zero_le _, rfl, rfl, ⟨zqa _, zqa _, zqa _, zqa _, zqa _, zqa _, trivial⟩, trivial, hk1 (λ e => nDT h2 (ers_get e hlt hlt2)) x _⟩
    ·have e := nDF h3
     refine ⟨x + 1, [], ⟨by omega, λ j hj => ?_⟩, (by omega : xs.length - (x + 1) < xs.length - x), Nat.zero_le _, rfl, ⟨zqa _, zqa _, zqa _, zqa _, zqa _, ⟨rfl, by push_cast; rfl⟩, trivial⟩, trivial⟩
     rcases Nat.lt_or_ge j x with hj' | hj'
     ·exact hall j hj'
     ·obtain rfl : j = x := by omega
      exact e
   ·have h4 : ¬ (x : Int) < xs.length := of_decide_eq_false h4
    exact ⟨leE xs bs x, [], [], Nat.zero_le _, rfl, rfl, ⟨zqa _, zqa _, zqa _, zqa _, zqa _, zqa _, trivial⟩, trivial, hk2 (ers_ext hl λ j hj => hall j (by omega)) x⟩
 ·exact h.elim
theorem eqf_run {N : Nat} (IH : ∀ gv gf gl args hp k, sSme N args hp k -> TaskOk Tryz.prog ⟨gv, gf, gl⟩ (.call 17 args hp k)) (xs bs : List Nd) (hN : sizes xs < N) (hM : sizes xs <= 1000000) :
  TaskOk Tryz.prog ⟨⟨.nil, [], []⟩, [], [(32004, lp Tryz.prog 37 0, lEqf N)]⟩ (.call 37 [.xs (rows xs) nodeSh, .xs (rows bs) nodeSh, .fn (.func 17) [] []] nomem λ e _ => retV (.sbool (dec (ers xs = ers bs))) e) := by
 refine go_sound qmix qNG zqh (zxl rfl) (ls_one rfl (eqfL_ok IH)) 200 _ ?_
 refine ⟨trivial, trivial, trivial, λ h1 => ?_, λ h2 => ⟨trivial, rfl, xs, bs, rfl, rfl, rfl, rfl, rfl, ?_, rfl, ?_, hN, hM, λ hne i n => ?_, λ he i => ?_⟩⟩
 ·have h1 : ¬ ((rows xs).length : Int) = (rows bs).length := nT h1
  show false = _
  exact (dec_f λ e => by
   have := congrArg List.length e
   rw [zxd, zxd] at this
   rw [zqc, zqc] at h1
   omega).symm
 ·show some ((rows xs).length : Int) = _
  rw [zqc]
 ·have h2 : ((rows xs).length : Int) = (rows bs).length := nF h2
  rw [zqc, zqc] at h2
  omega
 ·show false = _
  exact (dec_f hne).symm
 ·show true = _
  exact (dec_t he).symm
theorem eqf_ok {N : Nat} (IH : ∀ gv gf gl args hp k, sSme N args hp k -> TaskOk Tryz.prog ⟨gv, gf, gl⟩ (.call 17 args hp k)) {gv gf gl} : ∀ args hp k, sEqf N args hp k -> TaskOk Tryz.prog ⟨gv, gf, gl⟩ (.call 37 args hp k) := by
 rintro args hp k ⟨xs, bs, rfl, hN, hM, hk⟩
 exact zxJ (eqf_run IH xs bs hN hM) rfl rfl rfl hk
theorem sme_run {N : Nat} (IH : ∀ gv gf gl args hp k, sSme N args hp k -> TaskOk Tryz.prog ⟨gv, gf, gl⟩ (.call 17 args hp k)) (x y : Nd) (hN : x.size < N + 1) (hM : x.size <= 1000000) :
  TaskOk Tryz.prog ⟨⟨.nil, [], []⟩, [(37, sEqf N)], []⟩ (.call 17 [x.v, y.v] nomem λ e _ => retV (.sbool (dec (er x = er y))) e) := by
 obtain ⟨ka, ta, na, la, xs⟩ := x
 obtain ⟨kb, tb, nb, lb, bs⟩ := y
 have hs : sizes xs < N := by simp only [Nd.size] at hN; omega
 have hs2 : sizes xs <= 1000000 := by simp only [Nd.size] at hM; omega
 refine go_sound qmix qNG zqh (fs_all (by exact ⟨eqf_ok IH, trivial⟩)) (zqN rfl) 200 _ ?_
 refine ⟨trivial, λ h1 => ⟨trivial, λ h2 => ⟨trivial, λ h3 => ⟨xs, bs, rfl, hs, hs2, λ h4 => ?_, λ h5 => ?_⟩, λ h6 => ?_⟩, λ h7 => ?_⟩, λ h8 => ?_⟩
 ·have h1 : ka = kb := of_decide_eq_true h1
  have h2 : ta = tb := of_decide_eq_true h2
  have h3 : na = nb := of_decide_eq_true h3
  have h4 : ers xs = ers bs := of_dec h4
  subst h1; subst h2; subst h3
  show true = _
  exact (dec_t (by simp only [er, Nd.mk.injEq]; exact ⟨trivial, trivial, trivial, trivial, h4⟩)).symm
 ·show false = _
  exact (dec_f λ e => by simp only [er, Nd.mk.injEq] at e; exact not_dec h5 e.2.2.2.2).symm
 ·show false = _
  exact (dec_f λ e => by simp only [er, Nd.mk.injEq] at e; exact of_decide_eq_false h6 e.2.2.1).symm
 ·show false = _
  exact (dec_f λ e => by simp only [er, Nd.mk.injEq] at e; exact of_decide_eq_false h7 e.2.1).symm
 ·show false = _
  exact (dec_f λ e => by simp only [er, Nd.mk.injEq] at e; exact of_decide_eq_false h8 e.1).symm
theorem sme_ok : ∀ (N : Nat) gv gf gl args hp k, sSme N args hp k -> TaskOk Tryz.prog ⟨gv, gf, gl⟩ (.call 17 args hp k)
 | 0, gv, gf, gl, args, hp, k, ⟨x, y, e, hN, hM, hk⟩ => absurd hN (Nat.not_lt_zero _)
 | N + 1, gv, gf, gl, args, hp, k, ⟨x, y, e, hN, hM, hk⟩ => by
  subst e
  exact zxJ (sme_run (sme_ok N) x y hN hM) rfl (by cases x; cases y; rfl) rfl hk
end
end Go.Proofs.YtiilaimcmkdfjaaGreatDoor
set_option maxRecDepth 100000
set_option maxHeartbeats 4000000
namespace Go.Proofs.YtiilaimcmkdfjaaGreatDoor
open Go Go.Z Go.Q
open Go.Y hiding KE KK KR go Task go_sound
noncomputable section
mutual
def Nd.depth : Nd -> Nat
 | .mk k t n l ks => depths ks + 1
def depths : List Nd -> Nat
 | [] => 0
 | x :: l => max x.depth (depths l)
end
theorem depths_app : ∀ a b : List Nd, depths (a ++ b) = max (depths a) (depths b)
 | [], b => by simp [depths]
 | x :: a, b => by simp only [List.cons_append, depths, depths_app a b]; omega
theorem depths_take {l : List Nd} {i : Nat} (h : i < l.length) : depths (l.take (i + 1)) = max (depths (l.take i)) (l.getD i .zero).depth := by
 rw [zqL .zero h, depths_app]; simp [depths]
mutual
theorem depth_le : ∀ x : Nd, x.depth <= x.size
 | .mk k t n l ks => by simp only [Nd.depth, Nd.size]; have := zkl ks; omega
theorem zkl : ∀ l : List Nd, depths l <= sizes l
 | [] => Nat.le_refl 0
 | x :: l => by
  have := depth_le x
  have := zkl l
  simp only [depths, sizes]; omega
end
def sRDp (N : Nat) (args : List V) (hp : Mem) (k : KE) : Prop := ∃ x, args = [Nd.v x] /\ x.size < N /\ x.size <= 900000 /\ k (.ret (.sint .i64 x.depth)) hp
def lRDp (N : Nat) (fi : FI) (ds : List DV) (env : Tr V) (hp : Mem) (k : KK) : Prop := atV 22 1 [0] [] fi ds hp λ _ => match pk tsR env, hp.t.get 0 with
 | [some (.ptr 0 0), some mv, some iv], some ch => ∃ kd t n l ks, ch = boxN kd t n l ks /\ int64 mv = some 0 /\ int64 iv = some 0 /\ sizes ks < N /\ sizes ks <= 900000 /\
   k (.exit 0) [] (ofE (tsR.zip (leR (depths ks) ks.length))) ⟨1, ofM ([0].zip [boxN kd t n l ks] ++ [].zip []), hp.ro⟩
 | _, _ => False
theorem rdpL_ok {N : Nat} (IH : ∀ gv gf gl args hp k, sRDp N args hp k -> TaskOk Tryz.prog ⟨gv, gf, gl⟩ (.call 16 args hp k)) {gv gf gl} : ∀ fi ds env hp k, lRDp N fi ds env hp k -> TaskOk Tryz.prog ⟨gv, gf, gl⟩ (.code fi (.loop (lp Tryz.prog 16 0)) ds env hp k) := by
 intro fi ds env hp k h
 obtain ⟨rfl, rfl, hn, hlk, rc, hrc, h⟩ := zxD h
 split at h
 ·rename_i mv iv ch hT g0
  obtain ⟨kd, t, n, l, ks, rfl, q2, q3, hN, hM, hk⟩ := h
  obtain ⟨n', ht, hro⟩ := hp
  dsimp only at hn hlk hk g0
  subst hn
  have hlen := zxa ks
  refine zxA tsR [0] [0] [] [] 1 (λ x : Nat => leR (depths (ks.take x)) x) (λ _ => [some (boxN kd t n l ks)]) (λ x => x <= ks.length) (λ x => ks.length - x) 0 (Nat.zero_le _) rfl rfl rfl (Nat.le_refl 1) hlk rfl rfl (λ x => rfl) (λ x => rfl) ?_ ⟨⟨_, g0, zqb _⟩, trivial⟩ rfl ?_
  ·rw [hT]
   exact ⟨zqa _, zqq q2, zqq q3, trivial⟩
  ·intro x hx
   refine zqT (gf' := [(16, sRDp N)]) (gl' := []) ?_
   refine go_sound qmix qNG zqh (fs_all (by exact ⟨IH _ _ _, trivial⟩)) (zqN rfl) 200 _ ?_
   refine ⟨trivial, trivial, λ h1 => ?_, λ h4 => ?_⟩
   ·have h1 : (x : Int) < (rows ks).length := of_decide_eq_true h1
    rw [zqc] at h1
    have hlt : x < ks.length := by omega
    have sz := zxy hlt
    have e1 := depths_take hlt
    have c3 : I64 ((x : Int) + 1) := by unfold I64; omega
    exact ⟨⟨by omega, by rw [zqc]; exact h1⟩, (by rw [zqc]; exact hlt), ks.getD x .zero, congrArg (λ v => [v]) (zqY hlt), by omega, by omega, trivial, c3, x + 1, [0], (by show x + 1 <= _; omega), (by omega : ks.length - (x + 1) < ks.length - x), Nat.le_refl 1, rfl, ⟨zqa _, ⟨rfl, by rw [e1]; omega⟩, ⟨rfl, by push_cast; rfl⟩, trivial⟩, ⟨_, rfl, zqb _⟩, trivial⟩
   ·have h4 : ¬ (x : Int) < (rows ks).length := of_decide_eq_false h4
    rw [zqc] at h4
    obtain rfl : x = ks.length := by have hx : x <= ks.length := hx; omega
    rw [show (depths ks : Int) = depths (ks.take ks.length) by rw [List.take_length]] at hk
    exact ⟨leR (depths (ks.take ks.length)) ks.length, [0], [boxN kd t n l ks], Nat.le_refl 1, rfl, rfl, ⟨zqa _, zqa _, zqa _, trivial⟩, ⟨⟨_, rfl, zqb _⟩, trivial⟩, hk⟩
 ·exact h.elim
theorem rdp_run {N : Nat} (IH : ∀ gv gf gl args hp k, sRDp N args hp k -> TaskOk Tryz.prog ⟨gv, gf, gl⟩ (.call 16 args hp k)) (x : Nd) (hN : x.size < N + 1) (hM : x.size <= 900000) :
  TaskOk Tryz.prog ⟨⟨.nil, [], []⟩, [], [(22003, lp Tryz.prog 16 0, lRDp N)]⟩ (.call 16 [x.v] nomem λ e _ => retV (.sint .i64 x.depth) e) := by
 obtain ⟨kd, t, n, l, ks⟩ := x
 simp only [Nd.size] at hN hM
 refine go_sound qmix qNG zqh (zxl rfl) (ls_one rfl (rdpL_ok IH)) 200 _ ?_
 have hd := zkl ks
 have c1 : I64 ((depths ks : Int) + 1) := by unfold I64; omega
 exact ⟨rfl, kd, t, n, l, ks, rfl, rfl, rfl, by omega, by omega, c1, rfl, by simp only [Nd.depth]; push_cast; omega⟩
theorem rdp_ok : ∀ (N : Nat) gv gf gl args hp k, sRDp N args hp k -> TaskOk Tryz.prog ⟨gv, gf, gl⟩ (.call 16 args hp k)
 | 0, gv, gf, gl, args, hp, k, ⟨x, e, hN, hM, hk⟩ => absurd hN (Nat.not_lt_zero _)
 | N + 1, gv, gf, gl, args, hp, k, ⟨x, e, hN, hM, hk⟩ => by
  subst e
  exact zxJ (rdp_run (rdp_ok N) x hN hM) rfl (by cases x; rfl) rfl hk
def loopD : Chunk := match rgFn Tryz.prog 15 with
 | some (ps, a, b) => .loop .ready none (ofE [(3, .ptr 1 0)]) 14 ps a b 4
 | none => .defr
abbrev MD (m : Int) : List (Nat × Chunk) := [(0, dumC), (1, .cells [.sint .i64 m] 3 1), (2, dumC), (3, dumC), (4, .defr), (5, loopD), (6, .cells [.yld 5] 79 1), (7, .cells [.fn (.func 67) [] [.ptr 6 0, .ptr 7 0]] 79 1)]
def sDis (N : Nat) (args : List V) (hp : Mem) (k : KE) : Prop := ∃ (x : Nd) (dv : V) (d m : Int), args = [Nd.v x, dv, .ptr 6 0, .ptr 7 0] /\ int64 dv = some d /\ 0 <= d /\ d + x.size <= 1000000 /\ x.size < N /\ 0 <= m /\ m <= 1000000 /\ 8 <= hp.n /\ hp.ro = [] /\ zkI hp.t 8 = true /\ okM 8 hp.t (MD m) /\
 k (.ret (.bool true)) ⟨hp.n, putM hp.t (MD (max m (d + x.depth - 1))), hp.ro⟩
def lmD (b : Int) : List Chunk := [dumC, .cells [.sint .i64 b] 3 1, dumC, dumC, .defr, loopD, .cells [.yld 5] 79 1, .cells [.fn (.func 67) [] [.ptr 6 0, .ptr 7 0]] 79 1]
def lmE (b : Int) : List (Option Chunk) := [some dumC, some (.cells [.sint .i64 b] 3 1), some dumC, some dumC, some .defr, some loopD, some (.cells [.yld 5] 79 1), some (.cells [.fn (.func 67) [] [.ptr 6 0, .ptr 7 0]] 79 1)]
def lDis (N : Nat) (fi : FI) (ds : List DV) (env : Tr V) (hp : Mem) (k : KK) : Prop := atV 28 9 idsV [] fi ds hp λ _ => match pk tsV env with
 | [some dv, some (.ptr 6 0), some (.ptr 7 0), some (.bool false), some (.xs L sh), some lv, some iv] => ∃ (d m : Int) (ks : List Nd), L = rows ks /\ sh = nodeSh /\ int64 dv = some d /\ int64 lv = some (ks.length : Int) /\ int64 iv = some 0 /\ 0 <= d /\ d + sizes ks < 1000000 /\ d <= m /\ m <= 1000000 /\ sizes ks < N /\ okM 8 hp.t (MD m) /\
   ∀ i, k (.exit 0) [] (ofE (tsV.zip (leV d ks i))) ⟨9, ofM (idsV.zip (lmD (max m (d + depths ks))) ++ [].zip []), hp.ro⟩
 | _ => False
theorem disL_ok {N : Nat} (IH : ∀ gv gf gl args hp k, sDis N args hp k -> TaskOk Tryz.prog ⟨gv, gf, gl⟩ (.call 67 args hp k)) {gv gf gl} : ∀ fi ds env hp k, lDis N fi ds env hp k -> TaskOk Tryz.prog ⟨gv, gf, gl⟩ (.code fi (.loop (lp Tryz.prog 67 0)) ds env hp k) := by
 intro fi ds env hp k h
 obtain ⟨rfl, rfl, hn, hlk, rc, hrc, h⟩ := zxD h
 split at h
 ·rename_i dv L sh lv iv hT
  obtain ⟨d, m, ks, rfl, rfl, q1, q2, q3, hd0, hd1, hm0, hm1, hN, hm, hk⟩ := h
  obtain ⟨n', ht, hro⟩ := hp
  dsimp only at hn hlk hk hm
  subst hn
  have hlen := zxa ks
  obtain ⟨⟨_, _, _, f0⟩, ⟨_, _, _, f1⟩, ⟨_, _, _, f2⟩, ⟨_, _, _, f3⟩, ⟨_, _, _, f4⟩, ⟨_, _, _, f5⟩, ⟨_, _, _, f6⟩, ⟨_, _, _, f7⟩, _⟩ := hm
  refine zxA tsV idsV idsV [] [] 9 (λ x : Nat => leV d ks x) (λ x => lmE (max m (d + depths (ks.take x)))) (λ x => x <= ks.length) (λ x => ks.length - x) 0 (Nat.zero_le _) rfl rfl rfl (Nat.le_refl 9) hlk rfl rfl (λ x => rfl) (λ x => rfl) ?_ ⟨f0, ?_, f2, f3, f4, f5, f6, f7, trivial⟩ rfl ?_
  ·rw [hT]
   exact ⟨zqq q1, zqa _, zqa _, zqa _, zqa _, zqq q2, zqq q3, trivial⟩
  ·rw [show max m (d + depths (ks.take 0)) = m by simp only [List.take_zero, depths]; omega]; exact f1
  ·intro x hx
   refine zqT (gf' := [(67, sDis N)]) (gl' := []) ?_
   refine go_sound qmix qNG zqh (fs_all (by exact ⟨IH _ _ _, trivial⟩)) (zqN rfl) 200 _ ?_
   refine ⟨trivial, λ h1 => ?_, λ h2 => ?_⟩
   ·have h1 : (x : Int) < ks.length := of_decide_eq_true h1
    have hlt : x < ks.length := by omega
    have sz := zxy hlt
    have e1 := depths_take hlt
    have e2 := zkl (ks.take x)
    have e3 := sizes_le ks x
    have e4 := depth_le (ks.getD x .zero)
    have c1 : I64 (d + 1) := by unfold I64; omega
    have c2 : I64 ((x : Int) + 1) := by unfold I64; omega
    refine ⟨⟨by omega, by rw [zqc]; exact h1⟩, (by rw [zqc]; exact hlt), c1, ks.getD x .zero, _, d + 1, max m (d + depths (ks.take x)), congrArg (λ v => [v, _, _, _]) (zqY hlt), rfl, by omega, by omega, by omega, by omega, by omega, (by show 8 <= 10; decide), rfl, rfl, ?_, c2, ?_⟩
    ·exact ⟨⟨rfl, rfl, rfl, _, rfl, zqb _⟩, ⟨rfl, rfl, rfl, _, rfl, zqb _⟩, ⟨rfl, rfl, rfl, _, rfl, zqb _⟩, ⟨rfl, rfl, rfl, _, rfl, zqb _⟩, ⟨rfl, rfl, rfl, _, rfl, zqb _⟩, ⟨rfl, rfl, rfl, _, rfl, zqb _⟩, ⟨rfl, rfl, rfl, _, rfl, zqb _⟩, ⟨rfl, rfl, rfl, _, rfl, zqb _⟩, trivial⟩
    ·refine ⟨x + 1, idsV, (by show x + 1 <= _; omega), (by omega : ks.length - (x + 1) < ks.length - x), (by show 9 <= 10; decide), rfl, ⟨zqa _, zqa _, zqa _, zqa _, zqa _, zqa _, ⟨rfl, by push_cast; rfl⟩, trivial⟩, ⟨_, rfl, zqb _⟩, ⟨_, rfl, rfl, rfl, ⟨rfl, by rw [e1]; omega⟩, trivial⟩, ⟨_, rfl, zqb _⟩, ⟨_, rfl, zqb _⟩, ⟨_, rfl, zqb _⟩, ⟨_, rfl, zqb _⟩, ⟨_, rfl, zqb _⟩, ⟨_, rfl, zqb _⟩, trivial⟩
   ·have h2 : ¬ (x : Int) < ks.length := of_decide_eq_false h2
    obtain rfl : x = ks.length := by have hx : x <= ks.length := hx; omega
    have hk := hk ks.length
    rw [show max m (d + (depths ks : Int)) = max m (d + depths (ks.take ks.length)) by rw [List.take_length]] at hk
    exact ⟨leV d ks ks.length, idsV, lmD (max m (d + depths (ks.take ks.length))), Nat.le_refl 9, rfl, rfl, ⟨zqa _, zqa _, zqa _, zqa _, zqa _, zqa _, zqa _, trivial⟩, ⟨⟨_, rfl, zqb _⟩, ⟨_, rfl, zqb _⟩, ⟨_, rfl, zqb _⟩, ⟨_, rfl, zqb _⟩, ⟨_, rfl, zqb _⟩, ⟨_, rfl, zqb _⟩, ⟨_, rfl, zqb _⟩, ⟨_, rfl, zqb _⟩, trivial⟩, hk⟩
 ·exact h.elim
theorem dis_run {N : Nat} (IH : ∀ gv gf gl args hp k, sDis N args hp k -> TaskOk Tryz.prog ⟨gv, gf, gl⟩ (.call 67 args hp k)) (x : Nd) (d m : Int) (hd : 0 <= d) (hd1 : d + x.size <= 1000000) (hm : 0 <= m) (hm1 : m <= 1000000) (hN : x.size < N + 1) :
  TaskOk Tryz.prog ⟨⟨.nil, [], []⟩, [], [(28004, lp Tryz.prog 67 0, lDis N)]⟩ (.call 67 [x.v, .sint .i64 d, .ptr 6 0, .ptr 7 0] ⟨8, ofM (MD m), []⟩ (cutL 8 (MD m) λ v l' => v = .bool true /\ l' = MD (max m (d + x.depth - 1)))) := by
 obtain ⟨kd, t, n, l, ks⟩ := x
 simp only [Nd.size] at hd1 hN
 refine go_sound qmix qNG zqh (zxl rfl) (ls_one rfl (disL_ok IH)) 200 _ ?_
 refine ⟨trivial, trivial, rfl, d, max m d, ks, rfl, rfl, rfl, ?_, rfl, hd, by omega, by omega, by omega, by omega, ?_, λ i => ?_⟩
 ·show some ((rows ks).length : Int) = _
  rw [zqc]
 ·exact ⟨⟨rfl, rfl, rfl, _, rfl, zqb _⟩, ⟨rfl, rfl, rfl, _, rfl, zqb _⟩, ⟨rfl, rfl, rfl, _, rfl, zqb _⟩, ⟨rfl, rfl, rfl, _, rfl, zqb _⟩, ⟨rfl, rfl, rfl, _, rfl, zqb _⟩, ⟨rfl, rfl, rfl, _, rfl, zqb _⟩, ⟨rfl, rfl, rfl, _, rfl, zqb _⟩, ⟨rfl, rfl, rfl, _, rfl, zqb _⟩, trivial⟩
 ·refine ⟨.bool true, MD (max m (d + (Nd.mk kd t n l ks).depth - 1)), rfl, rfl, rfl, ?_, rfl, rfl⟩
  exact ⟨⟨rfl, rfl, rfl, _, rfl, zqb _⟩, ⟨rfl, rfl, rfl, _, rfl, rfl, rfl, ⟨rfl, by simp only [Nd.depth]; push_cast; omega⟩, trivial⟩, ⟨rfl, rfl, rfl, _, rfl, zqb _⟩, ⟨rfl, rfl, rfl, _, rfl, zqb _⟩, ⟨rfl, rfl, rfl, _, rfl, zqb _⟩, ⟨rfl, rfl, rfl, _, rfl, zqb _⟩, ⟨rfl, rfl, rfl, _, rfl, zqb _⟩, ⟨rfl, rfl, rfl, _, rfl, zqb _⟩, trivial⟩
theorem dis_ok : ∀ (N : Nat) gv gf gl args hp k, sDis N args hp k -> TaskOk Tryz.prog ⟨gv, gf, gl⟩ (.call 67 args hp k)
 | 0, gv, gf, gl, args, hp, k, ⟨x, dv, d, m, e, q, hd, hd1, hN, _⟩ => absurd hN (Nat.not_lt_zero _)
 | N + 1, gv, gf, gl, args, hp, k, ⟨x, dv, d, m, e, q, hd, hd1, hN, hm0, hm1, hn, hro, hin, hm, hk⟩ => by
  subst e
  exact call_lo 8 (MD m) _ (dis_run (dis_ok N) x d m hd hd1 hm0 hm1 hN) rfl ⟨zqa _, zqq q, zqa _, zqa _, trivial⟩ (by cases x; rfl) hn hro hm hin λ v l' _ ⟨e1, e2⟩ => by
   subst e1 e2
   exact hk
theorem loopD_le {env : Tr V} (h : env.get 3 = some (.ptr 1 0)) {c : Chunk} (hc : c = match rgFn Tryz.prog 15 with
 | some (ps, a, b) => .loop .ready none env 14 ps a b 4
 | none => .defr) : chle c loopD := by
 subst hc
 unfold loopD
 cases rgFn Tryz.prog 15 with
 | none => exact zqb _
 | some p => exact ⟨⟨rfl, rfl, rfl, rfl, rfl, rfl, rfl⟩, trSub_one rfl h⟩
def sDep (args : List V) (hp : Mem) (k : KE) : Prop := ∃ x, args = [Nd.v x] /\ x.size <= 900000 /\ k (.ret (.sint .i64 x.depth)) hp
theorem dep_run (x : Nd) (h : x.size <= 900000) : TaskOk Tryz.prog ⟨⟨.nil, [], []⟩, [(67, sDis (x.size + 1))], []⟩ (.call 15 [x.v] nomem λ e _ => retV (.sint .i64 x.depth) e) := by
 refine go_sound qmix qNG zqh (fs_all (by exact ⟨dis_ok _ _ _ _, trivial⟩)) (zqN rfl) 200 _ ?_
 obtain ⟨kd, t, n, l, ks⟩ := x
 have ez : max (0 : Int) (1 + (Nd.mk kd t n l ks).depth - 1) = (Nd.mk kd t n l ks).depth := by omega
 refine ⟨.mk kd t n l ks, _, 1, 0, rfl, rfl, by omega, by omega, Nat.lt_succ_self _, by omega, by omega, Nat.le_refl 8, rfl, rfl, ?_, ?_⟩
 ·exact ⟨⟨rfl, rfl, rfl, _, rfl, .inl rfl⟩, ⟨rfl, rfl, rfl, _, rfl, rfl, rfl, ⟨rfl, rfl⟩, trivial⟩, ⟨rfl, rfl, rfl, _, rfl, .inl rfl⟩, ⟨rfl, rfl, rfl, _, rfl, .inl rfl⟩, ⟨rfl, rfl, rfl, _, rfl, zqb _⟩, ⟨rfl, rfl, rfl, _, rfl, loopD_le rfl rfl⟩, ⟨rfl, rfl, rfl, _, rfl, zqb _⟩, ⟨rfl, rfl, rfl, _, rfl, zqb _⟩, trivial⟩
 ·exact ⟨rfl, ez⟩
theorem dep_ok {gv gf gl} : ∀ args hp k, sDep args hp k -> TaskOk Tryz.prog ⟨gv, gf, gl⟩ (.call 15 args hp k) := by
 rintro args hp k ⟨x, rfl, hx, hk⟩
 exact zxJ (dep_run x hx) rfl (by cases x; rfl) rfl hk
end
end Go.Proofs.YtiilaimcmkdfjaaGreatDoor
