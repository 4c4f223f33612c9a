/- ParsePuts: the law's run. -/
import Derived.Test.YtiilaimcmkdfjaaGreatDoorC2
import Derived.Test.YtiilaimcmkdfjaaGreatDoorC3
set_option linter.unusedVariables false
set_option linter.unusedSectionVars false
set_option linter.unusedSimpArgs false
set_option maxRecDepth 100000
set_option maxHeartbeats 4000000
namespace Go.Proofs.YtiilaimcmkdfjaaGreatDoor
open Go Go.Z Go.Q
open Go.Y hiding KE KK KR go Task go_sound
noncomputable section
def sAwk (args : List V) (hp : Mem) (k : KE) : Prop := match args with
 | [] => hasV hp (k (.ret (.bool true)) hp)
 | _ => False
theorem awk_ok {gf gl kn vs} : ∀ args hp k, sAwk args hp k -> TaskOk Tryz.prog ⟨⟨varG 0, kn, vs⟩, gf, gl⟩ (.call 6 args hp k) := by
 intro args hp k h
 unfold sAwk at h
 split at h
 ·obtain ⟨⟨ty, hm⟩, g⟩ := zkK h
  exact call_qv rfl rfl (by kernel_rfl) rfl rfl awake_q rfl hm g
 ·exact h.elim
theorem nd_eta (n : Nd) : n = .mk n.kd n.tx n.nn n.ln n.ks := by cases n; rfl
theorem size_eta (n : Nd) : n.size = sizes n.ks + 1 := by cases n; rfl
theorem sizes_set : ∀ {l : List Nd} {i : Nat} (z : Nd), i < l.length -> sizes (l.set i z) + (l.getD i .zero).size = sizes l + z.size
 | [], i, z, h => absurd h (Nat.not_lt_zero i)
 | x :: l, 0, z, h => by simp only [List.set_cons_zero, sizes, List.getD_cons_zero]; omega
 | x :: l, i + 1, z, h => by
  have := sizes_set (l := l) (i := i) z (by simpa using h)
  simp only [List.set_cons_succ, sizes, List.getD_cons_succ]; omega
theorem getD_set (l : List Nd) (i : Nat) (z : Nd) (h : i < l.length) : (l.set i z).getD i .zero = z := by
 rw [List.getD_eq_getElem?_getD, List.getElem?_set_self h]; rfl
theorem set_back (l : List Nd) (i : Nat) (z : Nd) (h : i < l.length) : (l.set i z).set i (l.getD i .zero) = l := by
 rw [List.set_set, List.getD_eq_getElem?_getD, List.getElem?_eq_getElem h]
 exact List.set_getElem_self h
theorem put_no : ∀ {l : List Int} {n : Nd} (x : Nd), atF n l = none -> putF n l x = none
 | [], n, x, h => by cases h
 | p :: l, n, x, h => by
  simp only [atF, stepN] at h
  simp only [putF]
  by_cases hp : 0 <= p /\ p < n.ks.length
  ·rw [if_pos hp] at h ⊢
   rw [put_no x h]
  ·rw [if_neg hp]
theorem put_law : ∀ {l : List Int} {n o : Nd} (x : Nd), atF n l = some o -> ∃ m, putF n l x = some m /\ putF m l o = some n /\ atF m l = some x /\ m.size + o.size = n.size + x.size
 | [], n, o, x, h => by
  cases h
  exact ⟨x, rfl, rfl, rfl, by omega⟩
 | p :: l, n, o, x, h => by
  simp only [atF, stepN] at h
  by_cases hp : 0 <= p /\ p < n.ks.length
  ·rw [if_pos hp] at h
   obtain ⟨m, h1, h2, h3, h4⟩ := put_law x h
   have hk : p.toNat < n.ks.length := by omega
   have hl : 0 <= p /\ p < ((n.ks.set p.toNat m).length : Int) := by rw [List.length_set]; exact hp
   refine ⟨.mk n.kd n.tx n.nn n.ln (n.ks.set p.toNat m), ?_, ?_, ?_, ?_⟩
   ·simp only [putF]; rw [if_pos hp, h1]
   ·rw [putF]
    show (if 0 <= p /\ p < ((n.ks.set p.toNat m).length : Int) then (match putF ((n.ks.set p.toNat m).getD p.toNat .zero) l o with
     | some z => some (Nd.mk n.kd n.tx n.nn n.ln ((n.ks.set p.toNat m).set p.toNat z))
     | none => none) else none) = _
    rw [if_pos hl, getD_set _ _ _ hk, h2]
    show some (Nd.mk n.kd n.tx n.nn n.ln ((n.ks.set p.toNat m).set p.toNat (n.ks.getD p.toNat .zero))) = _
    rw [set_back _ _ _ hk, <- nd_eta]
   ·rw [atF]
    show (match (if 0 <= p /\ p < ((n.ks.set p.toNat m).length : Int) then some ((n.ks.set p.toNat m).getD p.toNat .zero) else none) with
     | some y => atF y l
     | none => none) = _
    rw [if_pos hl, getD_set _ _ _ hk]
    exact h3
   ·have := sizes_set m hk
    rw [size_eta n]
    simp only [Nd.size]
    omega
  ·rw [if_neg hp] at h; cases h
theorem fold_size {f : Nd -> Int} (h1 : ∀ y, 1 <= f y) (hf : ∀ y, f y <= 6000 -> (y.size : Int) <= f y) : ∀ (l : List Nd) {m : Int}, 0 <= m -> l.foldl (cntS f) m <= 6000 -> m + sizes l <= l.foldl (cntS f) m
 | [], m, hm, h => by simp [sizes]
 | y :: l, m, hm, h => by
  rw [List.foldl_cons] at h ⊢
  have e1 : m <= 6000 := by
   rcases Int.lt_or_le 6000 m with hh | hh
   ·rw [show cntS f m y = m from if_pos hh, zkO l hh] at h; omega
   ·exact hh
  have e2 : cntS f m y = m + f y := if_neg (by omega)
  rw [e2] at h ⊢
  have e3 : m + f y <= 6000 := by
   rcases Int.lt_or_le 6000 (m + f y) with hh | hh
   ·rw [zkO l hh] at h; omega
   ·exact hh
  have := h1 y
  have g := fold_size h1 hf l (m := m + f y) (by omega) h
  have := hf y (by omega)
  simp only [sizes]; push_cast; omega
theorem cnt_size : ∀ (c : Nat) (x : Nd), cntF c x <= 6000 -> (x.size : Int) <= cntF c x
 | 0, x, h => by simp only [cntF] at h; omega
 | c + 1, x, h => by
  simp only [cntF] at h ⊢
  have := fold_size (λ y => (zkv c y).1) (λ y => cnt_size c y) x.ks (m := 1) (by omega) h
  rw [size_eta x]; push_cast; omega
theorem light_size {x : Nd} (h : lightN x = true) : x.size <= 6000 := by
 have h1 : cntF 301 x <= 6000 := of_decide_eq_true h
 have := cnt_size 301 x h1
 omega
abbrev fsJ : List (Nat × (List V -> Mem -> KE -> Prop)) := [(6, sAwk), (7, sLig), (8, sAt), (9, sPut 1001), (10, sSam 1000001), (11, sSiz)]
theorem putR_some {n m x : Nd} {l : List Int} (h : putF n l x = some m) : putR n l x = (m, 0) := by unfold putR; rw [h]
theorem putR_none {n x : Nd} {l : List Int} (h : putF n l x = none) : putR n l x = (.zero, 5) := by unfold putR; rw [h]
theorem law_run (n x : Nd) (P : List (List V)) (ty : Nat) : TaskOk Tryz.prog ⟨⟨varG 0, [], []⟩, fsJ, []⟩ (.call 3 [n.w, x.w, .xs P [.int .i64]] (varM spaceV ty) λ e _ => e = .ret (.bool true)) := by
 refine go_sound qmix qNG zqv (fs_all (by exact ⟨awk_ok, lig_ok, at_ok, put_ok _ _ _ _, sam_ok _ _ _ _, siz_ok, trivial⟩)) (zxO rfl) 200 _ ?_
 refine ⟨rfl, n, congrArg (λ v => [v]) (w_eta n), trivial, λ h1 => rfl, λ h2 => ⟨x, congrArg (λ v => [v]) (w_eta x), trivial, λ h3 => rfl, λ h4 => ⟨trivial, trivial, λ h5 => rfl, λ h6 => ?_⟩⟩⟩
 have h6 : ¬ (400 : Int) < P.length := of_decide_eq_false h6
 have ln := light_size (x := n) (by simpa using h2)
 have lx := light_size (x := x) (by simpa using h4)
 have w1 : ∀ a : Nd, ([a.w, V.xs P [.int .i64]] : List V) = [a.v, .xs P [.int .i64]] := λ a => by rw [w_eta]
 have w2 : ∀ a b : Nd, ([a.w, V.xs P [.int .i64], b.w] : List V) = [a.v, .xs P [.int .i64], b.v] := λ a b => by rw [w_eta, w_eta]
 have w3 : ∀ a b : Nd, ([a.w, b.w] : List V) = [a.v, b.v] := λ a b => by rw [w_eta, w_eta]
 have w4 : ∀ a : Nd, ([a.w] : List V) = [a.v] := λ a => by rw [w_eta]
 refine ⟨n, P, w1 n, by omega, n, P, x, w2 n x, by omega, by omega, by omega, ?_⟩
 cases hat : atF n (pI P) with
 | none =>
  have ha : atR n (pI P) = (.zero, 5) := by unfold atR; rw [hat]
  rw [ha, putR_none (put_no x hat)]
  refine ⟨trivial, λ h7 => ⟨trivial, λ h8 => ⟨trivial, λ h9 => rfl, λ h10 => ?_⟩, λ h11 => ?_⟩, λ h12 => ?_⟩
  ·exact absurd rfl (of_decide_eq_false h10)
  ·exact absurd rfl (of_decide_eq_false h11)
  ·exact absurd (nF h12) (by decide)
 | some o =>
  have ha : atR n (pI P) = (o, 0) := by unfold atR; rw [hat]
  obtain ⟨m, g1, g2, g3, g4⟩ := put_law x hat
  have hb : atR m (pI P) = (x, 0) := by unfold atR; rw [g3]
  rw [ha, putR_some g1]
  refine ⟨trivial, λ h7 => absurd rfl (nT h7), λ h12 => ⟨m, P, o, w2 m o, by omega, by omega, by omega, ?_⟩⟩
  rw [putR_some g2]
  refine ⟨m, P, w1 m, by omega, ?_⟩
  rw [hb]
  refine ⟨trivial, λ h13 => ⟨trivial, λ h14 => ⟨trivial, λ h15 => ⟨n, n, w3 n n, by omega, by omega, ?_⟩, λ h22 => absurd rfl (of_decide_eq_false h22)⟩, λ h23 => absurd rfl (of_decide_eq_false h23)⟩, λ h24 => absurd rfl (of_decide_eq_false h24)⟩
  refine ⟨λ h16 => ⟨x, x, w3 x x, by omega, by omega, λ h17 => ⟨m, w4 m, by omega, o, w4 o, by omega, ?_, n, w4 n, by omega, x, w4 x, by omega, ?_, trivial, λ h18 => rfl, λ h19 => ?_⟩, λ h20 => ?_⟩, λ h21 => ?_⟩
  ·show I64 _
   unfold I64; omega
  ·show I64 _
   unfold I64; omega
  ·have := of_decide_eq_false h19
   exact absurd (show ((m.size : Int) + o.size) = n.size + x.size by omega) this
  ·exact absurd rfl (not_dec h20)
  ·exact absurd rfl (not_dec h21)
end
end Go.Proofs.YtiilaimcmkdfjaaGreatDoor
