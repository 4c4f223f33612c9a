/- ParsePuts: the law's run. -/
import Derived.Test.YtiilaimcmkdfjaaGreatDoorC2
import Derived.Test.YtiilaimcmkdfjaaGreatDoorC3
import Derived.Test.YtiilaimcmkdfjaaGreatDoorC1
set_option linter.unusedVariables false
set_option linter.unusedSectionVars false
set_option linter.unusedSimpArgs false
set_option maxRecDepth 100000
set_option maxHeartbeats 4000000
namespace Go.Proofs.YtiilaimcmkdfjaaGreatDoor
open Go Go.Z Go.Q
open Go.Y hiding KE KK KR go Task go_sound
noncomputable section
def sAwk (args : List V) (hp : Mem) (k : KE) : Prop := match args with
 | [] => hasV hp (k (.ret (.bool true)) hp)
 | _ => False
theorem awk_ok {gf gl kn vs} : ∀ args hp k, sAwk args hp k -> TaskOk Tryz.prog ⟨⟨varG 0, kn, vs⟩, gf, gl⟩ (.call 6 args hp k) := by
 intro args hp k h
 unfold sAwk at h
 split at h
 ·obtain ⟨⟨ty, hm⟩, g⟩ := zkX h
  exact call_qv rfl rfl (by kernel_rfl) rfl rfl awake_q rfl hm g
 ·exact h.elim
theorem nd_eta (n : Nd) : n = .mk n.kd n.tx n.nn n.ln n.ks := by cases n; rfl
theorem size_eta (n : Nd) : n.size = sizes n.ks + 1 := by cases n; rfl
theorem sizes_set : ∀ {l : List Nd} {i : Nat} (z : Nd), i < l.length -> sizes (l.set i z) + (l.getD i .zero).size = sizes l + z.size
 | [], i, z, h => absurd h (Nat.not_lt_zero i)
 | x :: l, 0, z, h => by simp only [List.set_cons_zero, sizes, List.getD_cons_zero]; omega
 | x :: l, i + 1, z, h => by
  have := sizes_set (l := l) (i := i) z (by simpa using h)
  simp only [List.set_cons_succ, sizes, List.getD_cons_succ]; omega
theorem getD_set (l : List Nd) (i : Nat) (z : Nd) (h : i < l.length) : (l.set i z).getD i .zero = z := by
 rw [List.getD_eq_getElem?_getD, List.getElem?_set_self h]; rfl
theorem set_back (l : List Nd) (i : Nat) (z : Nd) (h : i < l.length) : (l.set i z).set i (l.getD i .zero) = l := by
 rw [List.set_set, List.getD_eq_getElem?_getD, List.getElem?_eq_getElem h]
 exact List.set_getElem_self h
theorem put_no : ∀ {l : List Int} {n : Nd} (x : Nd), atF n l = none -> putF n l x = none
 | [], n, x, h => by cases h
 | p :: l, n, x, h => by
  simp only [atF, stepN] at h
  simp only [putF]
  by_cases hp : 0 <= p /\ p < n.ks.length
  ·rw [if_pos hp] at h ⊢
   rw [put_no x h]
  ·rw [if_neg hp]
theorem put_law : ∀ {l : List Int} {n o : Nd} (x : Nd), atF n l = some o -> ∃ m, putF n l x = some m /\ putF m l o = some n /\ atF m l = some x /\ m.size + o.size = n.size + x.size
 | [], n, o, x, h => by
  cases h
  exact ⟨x, rfl, rfl, rfl, by omega⟩
 | p :: l, n, o, x, h => by
  simp only [atF, stepN] at h
  by_cases hp : 0 <= p /\ p < n.ks.length
  ·rw [if_pos hp] at h
   obtain ⟨m, h1, h2, h3, h4⟩ := put_law x h
   have hk : p.toNat < n.ks.length := by omega
   have hl : 0 <= p /\ p < ((n.ks.set p.toNat m).length : Int) := by rw [List.length_set]; exact hp
   refine ⟨.mk n.kd n.tx n.nn n.ln (n.ks.set p.toNat m), ?_, ?_, ?_, ?_⟩
   ·simp only [putF]; rw [if_pos hp, h1]
   ·rw [putF]
    show (if 0 <= p /\ p < ((n.ks.set p.toNat m).length : Int) then (match putF ((n.ks.set p.toNat m).getD p.toNat .zero) l o with
     | some z => some (Nd.mk n.kd n.tx n.nn n.ln ((n.ks.set p.toNat m).set p.toNat z))
     | none => none) else none) = _
    rw [if_pos hl, getD_set _ _ _ hk, h2]
    show some (Nd.mk n.kd n.tx n.nn n.ln ((n.ks.set p.toNat m).set p.toNat (n.ks.getD p.toNat .zero))) = _
    rw [set_back _ _ _ hk, <- nd_eta]
   ·rw [atF]
    show (match (if 0 <= p /\ p < ((n.ks.set p.toNat m).length : Int) then some ((n.ks.set p.toNat m).getD p.toNat .zero) else none) with
     | some y => atF y l
     | none => none) = _
    rw [if_pos hl, getD_set _ _ _ hk]
    exact h3
   ·have := sizes_set m hk
    rw [size_eta n]
    simp only [Nd.size]
    omega
  ·rw [if_neg hp] at h; cases h
theorem fold_size {f : Nd -> Int} (h1 : ∀ y, 1 <= f y) (hf : ∀ y, f y <= 6000 -> (y.size : Int) <= f y) : ∀ (l : List Nd) {m : Int}, 0 <= m -> l.foldl (cntS f) m <= 6000 -> m + sizes l <= l.foldl (cntS f) m
 | [], m, hm, h => by simp [sizes]
 | y :: l, m, hm, h => by
  rw [List.foldl_cons] at h ⊢
  have e1 : m <= 6000 := by
   rcases Int.lt_or_le 6000 m with hh | hh
   ·rw [show cntS f m y = m from if_pos hh, zvb l hh] at h; omega
   ·exact hh
  have e2 : cntS f m y = m + f y := if_neg (by omega)
  rw [e2] at h ⊢
  have e3 : m + f y <= 6000 := by
   rcases Int.lt_or_le 6000 (m + f y) with hh | hh
   ·rw [zvb l hh] at h; omega
   ·exact hh
  have := h1 y
  have g := fold_size h1 hf l (m := m + f y) (by omega) h
  have := hf y (by omega)
  simp only [sizes]; push_cast; omega
theorem cnt_size : ∀ (c : Nat) (x : Nd), cntF c x <= 6000 -> (x.size : Int) <= cntF c x
 | 0, x, h => by simp only [cntF] at h; omega
 | c + 1, x, h => by
  simp only [cntF] at h ⊢
  have := fold_size (λ y => (zkG c y).1) (λ y => cnt_size c y) x.ks (m := 1) (by omega) h
  rw [size_eta x]; push_cast; omega
theorem light_size {x : Nd} (h : lightN x = true) : x.size <= 6000 := by
 have h1 : cntF 301 x <= 6000 := of_decide_eq_true h
 have := cnt_size 301 x h1
 omega
end
end Go.Proofs.YtiilaimcmkdfjaaGreatDoor
set_option maxRecDepth 100000
set_option maxHeartbeats 4000000
namespace Go.Proofs.YtiilaimcmkdfjaaGreatDoor
open Go Go.Z Go.Q
open Go.Y hiding KE KK KR go Task go_sound
noncomputable section
abbrev tsR : List Nat := [1, 3, 4]
def leR (m i : Int) : List V := [.ptr 0 0, .sint .i64 m, .sint .i64 i]
def sRSz (N : Nat) (args : List V) (hp : Mem) (k : KE) : Prop := ∃ x, args = [Nd.v x] /\ x.size < N /\ x.size <= 900000 /\ k (.ret (.sint .i64 x.size)) hp
def lRSz (N : Nat) (fi : FI) (ds : List DV) (env : Tr V) (hp : Mem) (k : KK) : Prop := atV 21 1 [0] [] fi ds hp λ _ => match pk tsR env, hp.t.get 0 with
 | [some (.ptr 0 0), some mv, some iv], some ch => ∃ kd t n l ks, ch = boxN kd t n l ks /\ int64 mv = some 1 /\ int64 iv = some 0 /\ sizes ks < N /\ sizes ks <= 900000 /\
   k (.exit 0) [] (ofE (tsR.zip (leR (1 + sizes ks) ks.length))) ⟨1, ofM ([0].zip [boxN kd t n l ks] ++ [].zip []), hp.ro⟩
 | _, _ => False
theorem rszL_ok {N : Nat} (IH : ∀ gv gf gl args hp k, sRSz N args hp k -> TaskOk Tryz.prog ⟨gv, gf, gl⟩ (.call 14 args hp k)) {gv gf gl} : ∀ fi ds env hp k, lRSz N fi ds env hp k -> TaskOk Tryz.prog ⟨gv, gf, gl⟩ (.code fi (.loop (lp Tryz.prog 14 0)) ds env hp k) := by
 intro fi ds env hp k h
 obtain ⟨rfl, rfl, hn, hlk, rc, hrc, h⟩ := zxD h
 split at h
 ·rename_i mv iv ch hT g0
  obtain ⟨kd, t, n, l, ks, rfl, q2, q3, hN, hM, hk⟩ := h
  obtain ⟨n', ht, hro⟩ := hp
  dsimp only at hn hlk hk g0
  subst hn
  have hlen := zxa ks
  refine zxA tsR [0] [0] [] [] 1 (λ x : Nat => leR (1 + sizes (ks.take x)) x) (λ _ => [some (boxN kd t n l ks)]) (λ x => x <= ks.length) (λ x => ks.length - x) 0 (Nat.zero_le _) rfl rfl rfl (Nat.le_refl 1) hlk rfl rfl (λ x => rfl) (λ x => rfl) ?_ ⟨⟨_, g0, zqb _⟩, trivial⟩ rfl ?_
  ·rw [hT]
   exact ⟨zqa _, zqq q2, zqq q3, trivial⟩
  ·intro x hx
   refine zqT (gf' := [(14, sRSz N)]) (gl' := []) ?_
   refine go_sound qmix qNG zqh (fs_all (by exact ⟨IH _ _ _, trivial⟩)) (zqN rfl) 200 _ ?_
   refine ⟨trivial, trivial, λ h1 => ?_, λ h4 => ?_⟩
   ·have h1 : (x : Int) < (rows ks).length := of_decide_eq_true h1
    rw [zqc] at h1
    have hlt : x < ks.length := by omega
    have sz := zxy hlt
    have e1 := sizes_take hlt
    have e2 := sizes_le ks (x + 1)
    have c2 : I64 ((1 + sizes (ks.take x) : Int) + (ks.getD x .zero).size) := by unfold I64; omega
    have c3 : I64 ((x : Int) + 1) := by unfold I64; omega
    exact ⟨⟨by omega, by rw [zqc]; exact h1⟩, (by rw [zqc]; exact hlt), ks.getD x .zero, congrArg (λ v => [v]) (zqY hlt), by omega, by omega, c2, c3, x + 1, [0], (by show x + 1 <= _; omega), (by omega : ks.length - (x + 1) < ks.length - x), Nat.le_refl 1, rfl, ⟨zqa _, ⟨rfl, by rw [e1]; push_cast; omega⟩, ⟨rfl, by push_cast; rfl⟩, trivial⟩, ⟨_, rfl, zqb _⟩, trivial⟩
   ·have h4 : ¬ (x : Int) < (rows ks).length := of_decide_eq_false h4
    rw [zqc] at h4
    obtain rfl : x = ks.length := by have hx : x <= ks.length := hx; omega
    rw [show (1 + sizes ks : Int) = 1 + sizes (ks.take ks.length) by rw [List.take_length]] at hk
    exact ⟨leR (1 + sizes (ks.take ks.length)) ks.length, [0], [boxN kd t n l ks], Nat.le_refl 1, rfl, rfl, ⟨zqa _, zqa _, zqa _, trivial⟩, ⟨⟨_, rfl, zqb _⟩, trivial⟩, hk⟩
 ·exact h.elim
theorem rsz_run {N : Nat} (IH : ∀ gv gf gl args hp k, sRSz N args hp k -> TaskOk Tryz.prog ⟨gv, gf, gl⟩ (.call 14 args hp k)) (x : Nd) (hN : x.size < N + 1) (hM : x.size <= 900000) :
  TaskOk Tryz.prog ⟨⟨.nil, [], []⟩, [], [(21003, lp Tryz.prog 14 0, lRSz N)]⟩ (.call 14 [x.v] nomem λ e _ => retV (.sint .i64 x.size) e) := by
 obtain ⟨kd, t, n, l, ks⟩ := x
 simp only [Nd.size] at hN hM
 refine go_sound qmix qNG zqh (zxl rfl) (ls_one rfl (rszL_ok IH)) 200 _ ?_
 exact ⟨rfl, kd, t, n, l, ks, rfl, rfl, rfl, by omega, by omega, rfl, by simp only [Nd.size]; push_cast; omega⟩
theorem rsz_ok : ∀ (N : Nat) gv gf gl args hp k, sRSz N args hp k -> TaskOk Tryz.prog ⟨gv, gf, gl⟩ (.call 14 args hp k)
 | 0, gv, gf, gl, args, hp, k, ⟨x, e, hN, hM, hk⟩ => absurd hN (Nat.not_lt_zero _)
 | N + 1, gv, gf, gl, args, hp, k, ⟨x, e, hN, hM, hk⟩ => by
  subst e
  exact zxJ (rsz_run (rsz_ok N) x hN hM) rfl (by cases x; rfl) rfl hk
end
end Go.Proofs.YtiilaimcmkdfjaaGreatDoor
set_option maxRecDepth 100000
set_option maxHeartbeats 4000000
namespace Go.Proofs.YtiilaimcmkdfjaaGreatDoor
open Go Go.Z Go.Q
open Go.Y hiding KE KK KR go Task go_sound
noncomputable section
abbrev tsB : List Nat := [1, 2, 4, 5, 6]
def leB (c : Int) (P : List (List V)) (i : Int) : List V := [.xs P [.int .i64], .ptr 0 0, .ptr 1 0, .int .i64 c, .sint .i64 i]
def lRAt (fi : FI) (ds : List DV) (env : Tr V) (hp : Mem) (k : KK) : Prop := atV 38 2 [0, 1] [] fi ds hp λ _ => match pk tsB env, hp.t.get 0, hp.t.get 1 with
 | [some (.xs P [.int .i64]), some (.ptr 0 0), some (.ptr 1 0), some cv, some iv], some c0, some c1 => ∃ x, chle c0 (boxX x) /\ c1 = zeroC /\ cv = .int .i64 0 /\ int64 iv = some 0 /\ P.length <= 1000 /\
   (atF x (pI P) = none -> ∀ y i, k .ret [] (ofE (tsB.zip (leB 5 P i))) ⟨2, ofM ([0, 1].zip [boxX y, zeroC] ++ [].zip []), hp.ro⟩) /\
   (∀ y, atF x (pI P) = some y -> k (.exit 0) [] (ofE (tsB.zip (leB 0 P P.length))) ⟨2, ofM ([0, 1].zip [boxX y, zeroC] ++ [].zip []), hp.ro⟩)
 | _, _, _ => False
theorem rat_loop {gv gf gl} : ∀ fi ds env hp k, lRAt fi ds env hp k -> TaskOk Tryz.prog ⟨gv, gf, gl⟩ (.code fi (.loop (lp Tryz.prog 12 0)) ds env hp k) := by
 intro fi ds env hp k h
 obtain ⟨rfl, rfl, hn, hlk, rc, hrc, h⟩ := zxD h
 split at h
 ·rename_i P cv iv c0 c1 hT g0 g1
  obtain ⟨x0, hc0, rfl, rfl, q2, hP, hk1, hk2⟩ := h
  obtain ⟨n', ht, hro⟩ := hp
  dsimp only at hn hlk hk1 hk2 g0 g1
  subst hn
  refine zxA tsB [0, 1] [0, 1] [] [] 2 (λ x : Nat × Nd => leB 0 P x.1) (λ x => [some (boxX x.2), some zeroC]) (λ x => x.1 <= P.length /\ atF x0 ((pI P).take x.1) = some x.2) (λ x => P.length - x.1) (0, x0) ⟨Nat.zero_le _, rfl⟩ rfl rfl rfl (Nat.le_refl 2) hlk rfl rfl (λ x => rfl) (λ x => rfl) ?_ ⟨⟨_, g0, hc0⟩, ⟨_, g1, zqb _⟩, trivial⟩ rfl ?_
  ·rw [hT]
   exact ⟨zqa _, zqa _, zqa _, zqa _, zqq q2, trivial⟩
  ·rintro ⟨x, y⟩ ⟨hx, hat⟩
   dsimp only at hx hat
   refine zqT (gf' := []) (gl' := []) ?_
   refine go_sound qmix qNG zqh (zxl rfl) (zqN rfl) 200 _ ?_
   have bad : x < P.length -> stepN y ((pI P).getD x 0) = none -> atF x0 (pI P) = none := λ hlt hs => by
    have h1 : x < (pI P).length := by rw [zxO]; exact hlt
    rw [<- List.take_append_drop x (pI P), List.drop_eq_getElem_cons h1]
    refine atF_none _ _ hat ?_
    rwa [List.getD_eq_getElem?_getD, List.getElem?_eq_getElem h1] at hs
   have good : x < P.length -> ∀ z, stepN y ((pI P).getD x 0) = some z -> atF x0 ((pI P).take (x + 1)) = some z := λ hlt z hs => by
    have h1 : x < (pI P).length := by rw [zxO]; exact hlt
    rw [zqL 0 h1, atF_app _ _ hat]
    simp only [atF, hs]
   refine ⟨trivial, trivial, λ h1 => ?_, λ h6 => ?_⟩
   ·have h1 : (x : Int) < P.length := of_decide_eq_true h1
    have hlt : x < P.length := by omega
    have c3 : I64 ((x : Int) + 1) := by unfold I64; omega
    have ep := pI_getD hlt
    refine ⟨⟨by omega, h1⟩, hlt, trivial, λ h2 => ?_, λ h3 => ⟨⟨by omega, h1⟩, hlt, trivial, trivial, λ h4 => ?_, λ h5 => ?_⟩⟩
    ·have h2 : vI ((P.getD x []).getD 0 .und) < 0 := of_decide_eq_true h2
     refine ⟨leB 5 P x, [0, 1], [boxX y, zeroC], Nat.le_refl 2, rfl, rfl, ⟨zqa _, zqa _, zqa _, zqa _, zqa _, trivial⟩, ⟨⟨_, rfl, zqb _⟩, ⟨_, rfl, zqb _⟩, trivial⟩, hk1 (bad hlt ?_) y x⟩
     rw [ep]; exact if_neg (by omega)
    ·have h4 : ((rows y.ks).length : Int) <= vI ((P.getD x []).getD 0 .und) := of_decide_eq_true h4
     rw [zqc] at h4
     refine ⟨leB 5 P x, [0, 1], [boxX y, zeroC], Nat.le_refl 2, rfl, rfl, ⟨zqa _, zqa _, zqa _, zqa _, zqa _, trivial⟩, ⟨⟨_, rfl, zqb _⟩, ⟨_, rfl, zqb _⟩, trivial⟩, hk1 (bad hlt ?_) y x⟩
     rw [ep]; exact if_neg (by omega)
    ·have h3 : ¬ vI ((P.getD x []).getD 0 .und) < 0 := of_decide_eq_false h3
     have h5 : ¬ ((rows y.ks).length : Int) <= vI ((P.getD x []).getD 0 .und) := of_decide_eq_false h5
     rw [zqc] at h5
     have hk : (vI ((P.getD x []).getD 0 .und)).toNat < y.ks.length := by omega
     refine ⟨⟨by omega, h1⟩, hlt, ⟨by show 0 <= vI ((P.getD x []).getD 0 .und); omega, by show vI ((P.getD x []).getD 0 .und) < ((rows y.ks).length : Int); rw [zqc]; omega⟩, (by show _ < (rows y.ks).length; rw [zqc]; exact hk), c3, (x + 1, y.ks.getD (vI ((P.getD x []).getD 0 .und)).toNat .zero), [0, 1], ⟨by show x + 1 <= _; omega, good hlt _ ?_⟩, (by omega : P.length - (x + 1) < P.length - x), Nat.le_refl 2, rfl, ⟨zqa _, zqa _, zqa _, zqa _, ⟨rfl, by push_cast; rfl⟩, trivial⟩, ⟨_, rfl, chle_box (zqY hk)⟩, ⟨_, rfl, zqb _⟩, trivial⟩
     rw [ep]; exact if_pos (by omega)
   ·have h6 : ¬ (x : Int) < P.length := of_decide_eq_false h6
    obtain rfl : x = P.length := by omega
    refine ⟨leB 0 P P.length, [0, 1], [boxX y, zeroC], Nat.le_refl 2, rfl, rfl, ⟨zqa _, zqa _, zqa _, zqa _, zqa _, trivial⟩, ⟨⟨_, rfl, zqb _⟩, ⟨_, rfl, zqb _⟩, trivial⟩, hk2 y ?_⟩
    rw [<- hat, List.take_of_length_le (by rw [zxO]; exact Nat.le_refl _)]
 ·exact h.elim
theorem rat_run (x : Nd) (P : List (List V)) (hP : P.length <= 1000) : TaskOk Tryz.prog ⟨⟨.nil, [], []⟩, [], [(38002, lp Tryz.prog 12 0, lRAt)]⟩ (.call 12 [x.v, .xs P [.int .i64]] nomem λ e _ => retN (atR x (pI P)).1 (atR x (pI P)).2 e) := by
 obtain ⟨kd, t, n, l, ks⟩ := x
 refine go_sound qmix qNG zqh (zxl rfl) (ls_one rfl rat_loop) 200 _ ?_
 refine ⟨rfl, .mk kd t n l ks, zqb _, rfl, rfl, rfl, hP, λ h y i => ?_, λ y h => ?_⟩
 ·unfold atR; rw [h]
  exact ⟨.inr ⟨rfl, rfl⟩, rfl, rfl⟩
 ·unfold atR; rw [h]
  exact ⟨.inl (v_eta y), rfl, rfl⟩
def sRAt (args : List V) (hp : Mem) (k : KE) : Prop := ∃ x P, args = [Nd.v x, .xs P [.int .i64]] /\ P.length <= 1000 /\ k (.ret (.tup [(atR x (pI P)).1.w, .sint .i64 (atR x (pI P)).2])) hp
theorem rat_ok {gv gf gl} : ∀ args hp k, sRAt args hp k -> TaskOk Tryz.prog ⟨gv, gf, gl⟩ (.call 12 args hp k) := by
 rintro args hp k ⟨x, P, rfl, hP, hk⟩
 exact sum_nd (rat_run x P hP) rfl (zxp _) (by cases x; rfl) (by rw [<- w_eta]; exact hk)
end
end Go.Proofs.YtiilaimcmkdfjaaGreatDoor
