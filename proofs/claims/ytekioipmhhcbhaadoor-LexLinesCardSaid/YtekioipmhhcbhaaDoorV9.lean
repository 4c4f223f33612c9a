/- LexLines: a round of the law's main loop with no bytes yet; the main loop. -/
import Derived.Test.YtekioipmhhcbhaaDoorV8
import Derived.Test.YtekioipmhhcbhaaDoorM9
set_option linter.unusedVariables false
set_option linter.unusedSectionVars false
set_option linter.unusedSimpArgs false
set_option maxRecDepth 100000
set_option maxHeartbeats 8000000
namespace Go.Proofs.YtekioipmhhcbhaaDoor
open Go Go.Z Go.Q Go.W6
open Go.Y hiding KE KK KR go Task go_sound
noncomputable section
variable [Ext]
variable {s note : List UInt8} {l : List Tok} {ns : List Int} {i k a : Nat} {b : List UInt8}
theorem nxtN {hro : List Lk} {rc : List Chunk} {k0 : KK} {hs : List (List V)} {y : List UInt8} {k' : Nat} (hi : i <= s.length) (hP : PL s note l (nsOf hs) ⟨i + 1, k', atF i l a, []⟩) (n : Nat) (cs : List (Option Chunk)) (kk aa ii : Int) (ek : kk = k') (ea : aa = (atF i l a : Nat)) (ei : ii = (i : Int) + 1) (hn : n = 3) (hc1 : lookC [1, 2, 3, 4, 5, 6, 7, 8, 9] cs 1 = some (tokC (l.map (rowTok s)))) :
  RL hro rc k0 s note hs l ⟨i, k, a, y⟩ .normal [some (.sstr s), some (.xs hs [.int .i64]), some (.sstr note), some (.bool true), some (.ssl 1 0 l.length 6), some .nils, some (.sint .i64 kk), some (.sint .i64 aa), some (.sint .i64 ii)] n cs := by
 subst ek ea ei hn
 exact ⟨⟨i + 1, k', atF i l a, []⟩, [1, 2], hP, (by show s.length + 1 - (i + 1) < s.length + 1 - i; omega), Nat.le_refl 3, rfl, ⟨zqa _, zqa _, zqa _, zqa _, zqa _, zqa _, zqa _, zqa _, ⟨rfl, by push_cast; rfl⟩, trivial⟩, ⟨_, hc1, zqd _⟩, trivial⟩
theorem byB_is {v : V} (h : isB v) : vle v (.sint .u8 ((byB v).toNat : Int)) := by
 obtain ⟨n, h0, h1, h⟩ := h
 have : ((UInt8.ofNat n.toNat).toNat : Int) = n := by rw [UInt8.toNat_ofNat']; omega
 rcases h with rfl | rfl
 ·exact ⟨rfl, this.symm⟩
 ·exact ⟨rfl, this.symm⟩
theorem lg0_ok {hro : List Lk} {rc : List Chunk} {k0 : KK} {hs : List (List V)} {y : List UInt8} {k' M0 : Nat} {v : V} {n : Nat} {kk aa ii : Int} {cs : List (Option Chunk)} (hi : i < s.length) (hQ : TL s note l (nsOf hs) i a k' M0 []) (hv : upC (inT (l.drop (atF i l a)) i) i (s.getD i 0) = byB v) (hb : isB v)
  (ek : kk = k') (ea : aa = (atF i l a : Nat)) (ei : ii = (i : Int) + 1) (hn : n = 5) (hc1 : lookC [1, 2, 3, 4, 5, 6, 7, 8, 9] cs 1 = some (tokC (l.map (rowTok s)))) (hc : lookC [1, 2, 3, 4, 5, 6, 7, 8, 9] cs 4 = some (.cells [v] 5 1)) :
  RL hro rc k0 s note hs l ⟨i, k, a, y⟩ .normal [some (.sstr s), some (.xs hs [.int .i64]), some (.sstr note), some (.bool true), some (.ssl 1 0 l.length 6), some (.sl 4 0 0 1 none), some (.sint .i64 kk), some (.sint .i64 aa), some (.sint .i64 ii)] n cs := by
 obtain ⟨q1, q2, q3, q4⟩ := hQ
 subst ek ea ei hn
 have hP := q4 hi
 rw [hv] at hP
 exact ⟨⟨i + 1, k', atF i l a, [byB v]⟩, [1, 4], hP, (by show s.length + 1 - (i + 1) < s.length + 1 - i; omega), (by decide), rfl, ⟨zqa _, zqa _, zqa _, zqa _, zqa _, ⟨rfl, rfl, rfl, rfl⟩, zqa _, zqa _, ⟨rfl, by push_cast; rfl⟩, trivial⟩, ⟨_, hc1, zqd _⟩, ⟨_, hc, ⟨rfl, rfl, byB_is hb, trivial⟩⟩, trivial⟩
theorem round_nil (hro : List Lk) (rc : List Chunk) (k0 : KK) (s note : List UInt8) (hs : List (List V)) (l : List Tok) (hs2 : s.length <= 2000) (hn : note.length <= 100) (hl2 : l.length <= 2000) (i k a : Nat) (hP : PL s note l (nsOf hs) ⟨i, k, a, []⟩)
  (hk0 : ¬ i <= s.length -> RL hro rc k0 s note hs l ⟨i, k, a, []⟩ (.exit 2) [some (.sstr s), some (.xs hs [.int .i64]), some (.sstr note), some (.bool true), some (.ssl 1 0 l.length 6), some .nils, some (.sint .i64 k), some (.sint .i64 a), some (.sint .i64 i)] 3 [some (tokC (l.map (rowTok s))), none, none, none, none, none, none, none, none]) :
  TaskOk Tryd.prog ⟨⟨.nil, [], []⟩, [], [(195018, lp Tryd.prog 5 2, lAt false)]⟩ (.code ⟨195, none⟩ (lp Tryd.prog 5 1) [] (ofE (tsM.zip (leL s note hs l.length ⟨i, k, a, []⟩))) ⟨3, ofMo ([1, 2].zip (lmL (l.map (rowTok s)) ⟨i, k, a, []⟩)), []⟩ (cutM tsM [1, 2, 3, 4, 5, 6, 7, 8, 9] (RL hro rc k0 s note hs l ⟨i, k, a, []⟩))) := by
 refine go_sound qmix qNG zqk (zxf rfl) (ls_one rfl (at_ok false)) 200 _ ?_
 have h2 := hP.2.1
 have h3 := hP.2.2.1
 dsimp only at h2 h3
 have hL : (l.map (rowTok s)).length = l.length := List.length_map ..
 have ea' : ((atR i (l.map (rowTok s)) (a : Int).toNat : Nat) : Int) = (atF i l a : Nat) := by rw [Int.toNat_natCast, atR_F]
 have ba : ∀ {x : Nat}, decide ((x : Int) < l.length) = true -> (0 : Int) <= x /\ (x : Int) < l.length := λ h => ⟨by omega, of_decide_eq_true h⟩
 have ia : ∀ {x : Nat}, decide ((x : Int) < l.length) = true -> 0 + (x : Int).toNat < (l.map (rowTok s)).length := λ h => by have := of_decide_eq_true h; omega
 have ik : i <= s.length -> I64 ((k : Int) + 1) := λ hi => by unfold I64; omega
 have e1 : ([32, 36] : List UInt8).take 2 ++ note = [] ++ insB note 1 := by rw [ins_1]; rfl
 have p2 : True /\ True /\ 2 <= 140737488355328 /\ 0 < 2 := by decide
 have p4 : True /\ True /\ 4 <= 140737488355328 /\ 0 < 4 := by decide
 have q1 : (0 < 2 /\ 2 <= 2) /\ True /\ (2 + note.length) * 1 <= 140737488355328 /\ 0 < 2 + note.length := ⟨by decide, trivial, by omega, by omega⟩
 refine ⟨trivial, trivial, λ h0 => ?_, λ h0 => hk0 (λ h => of_decide_eq_false h0 (Int.ofNat_le.2 h))⟩
 have h0 : (i : Int) <= s.length := of_decide_eq_true h0
 have hi : i <= s.length := by omega
 have ik := ik hi
 have c5 : I64 ((i : Int) + 1) := by unfold I64; omega
 refine ⟨rfl, ⟨rfl, rfl, hL.symm, (by show l.length <= 30000; omega), Int.natCast_nonneg _, (by show ((a : Nat) : Int) <= (l.length : Nat); omega)⟩, trivial, trivial, λ h1 => ?_, λ h1 => ⟨by have h1 : ¬ (i : Int) = s.length := of_decide_eq_false h1; (show (0 : Int) <= i /\ (i : Int) < s.length); omega, trivial, λ h3 => ?_, λ h3 => ?_⟩⟩
 ·have h1 : (i : Int) = s.length := of_decide_eq_true h1
  have no : ∀ {q : Prop}, decide ((i : Int) < s.length) = true -> q := λ h => absurd (of_decide_eq_true h) (by omega)
  have hor : i = s.length \/ (i < s.length /\ (s.getD i 0).toNat = 10) := .inl (by omega)
  have nx : ∀ {k' M0 : Nat} {X0 : List UInt8}, TL s note l (nsOf hs) i a k' M0 X0 -> PL s note l (nsOf hs) ⟨i + 1, k', atF i l a, X0⟩ := λ hQ => hQ.2.2.1 (by omega)
  refine ⟨trivial, trivial, λ g => ?_, λ g => ⟨ik, trivial, trivial, no, λ _ => ⟨c5, ?_⟩⟩⟩
  ·obtain ⟨g1, g2, g3⟩ := k_facts g
   have g4 := m4_rng (vI ((hs.getD (k : Int).toNat []).getD 0 .und))
   refine ⟨g1, g2, by decide, g4.1, by decide, ik, trivial, λ n1 => ⟨p2, q1, trivial, trivial, no, λ _ => ⟨c5, ?_⟩⟩, λ n1 => ⟨trivial, λ n2 => ⟨p4, trivial, trivial, no, λ _ => ⟨c5, ?_⟩⟩, λ n2 => ⟨trivial, λ n3 => ⟨p4, trivial, trivial, no, λ _ => ⟨c5, ?_⟩⟩, λ n3 => ⟨trivial, trivial, no, λ _ => ⟨c5, ?_⟩⟩⟩⟩⟩
   ·have n1 : m4 _ = 1 := of_decide_eq_true n1
    rw [n1] at g3
    exact nxtL (hro := hro) (rc := rc) (k0 := k0) (k := k) (y := []) hi (nx (tl_ins hs2 hn hP hor g3 e1 rfl)) (by simp) _ _ _ (by rw [e1, ins_1]; simp; omega) _ _ _ _ rfl ea' rfl rfl (Nat.le_of_ble_eq_true rfl) rfl rfl ⟨rfl, rfl⟩
   ·have n2 : m4 _ = 2 := of_decide_eq_true n2
    rw [n2] at g3
    exact nxtL (hro := hro) (rc := rc) (k0 := k0) (k := k) (y := []) hi (nx (tl_ins hs2 hn hP hor g3 (X0 := [32, 32, 10, 32]) rfl rfl)) (by simp) _ _ _ rfl _ _ _ _ rfl ea' rfl rfl (Nat.le_of_ble_eq_true rfl) rfl rfl ⟨rfl, rfl⟩
   ·have n3 : m4 _ = 3 := of_decide_eq_true n3
    rw [n3] at g3
    exact nxtL (hro := hro) (rc := rc) (k0 := k0) (k := k) (y := []) hi (nx (tl_ins hs2 hn hP hor g3 (X0 := [32, 10, 10, 36]) rfl rfl)) (by simp) _ _ _ rfl _ _ _ _ rfl ea' rfl rfl (Nat.le_of_ble_eq_true rfl) rfl rfl ⟨rfl, rfl⟩
   ·have n1 : ¬ m4 _ = 1 := of_decide_eq_false n1
    have n2 : ¬ m4 _ = 2 := of_decide_eq_false n2
    have n3 : ¬ m4 _ = 3 := of_decide_eq_false n3
    exact nxtN (hro := hro) (rc := rc) (k0 := k0) (k := k) (y := []) hi (nx (tl_ins hs2 hn hP hor g3 (X0 := []) (by rw [ins_o _ n1 n2 n3]; rfl) rfl)) _ _ _ _ _ rfl ea' rfl rfl rfl
  ·exact nxtN (hro := hro) (rc := rc) (k0 := k0) (k := k) (y := []) hi (nx (tl_ins hs2 hn hP hor (k_none g) (X0 := []) (by rw [ins_o _ (by decide) (by decide) (by decide)]; rfl) rfl)) _ _ _ _ _ rfl ea' rfl rfl rfl
 ·have h1 : ¬ (i : Int) = s.length := of_decide_eq_false h1
  have h3 : ((s.getD (i : Int).toNat 0).toNat : Int) = 10 := of_decide_eq_true h3
  rw [Int.toNat_natCast] at h3
  have hor : i = s.length \/ (i < s.length /\ (s.getD i 0).toNat = 10) := .inr ⟨by omega, by omega⟩
  refine ⟨trivial, trivial, λ g => ?_, λ g => ⟨ik, ?_⟩⟩
  rotate_left
  focus
   have hQ := tl_ins hs2 hn hP hor (k_none g) (X0 := []) (M0 := 0) (by rw [ins_o _ (by decide) (by decide) (by decide)]; rfl) rfl
   have hM0 := trivial
  rotate_left
  obtain ⟨g1, g2, g3⟩ := k_facts g
  have g4 := m4_rng (vI ((hs.getD (k : Int).toNat []).getD 0 .und))
  refine ⟨g1, g2, by decide, g4.1, by decide, ik, trivial, λ n1 => ⟨p2, q1, ?_⟩, λ n1 => ⟨trivial, λ n2 => ⟨p4, ?_⟩, λ n2 => ⟨trivial, λ n3 => ⟨p4, ?_⟩, λ n3 => ?_⟩⟩⟩
  focus
   have n1 : m4 _ = 1 := of_decide_eq_true n1
   rw [n1] at g3
   have hQ := tl_ins hs2 hn hP hor g3 e1 (M0 := 2 + note.length) (by rw [e1, ins_1]; simp; omega)
   have hM0 : 0 < 2 + note.length := by omega
  rotate_left
  focus
   have n2 : m4 _ = 2 := of_decide_eq_true n2
   rw [n2] at g3
   have hQ := tl_ins hs2 hn hP hor g3 (X0 := [32, 32, 10, 32]) (M0 := 4) rfl rfl
   have hM0 : 0 < 4 := by decide
  rotate_left
  focus
   have n3 : m4 _ = 3 := of_decide_eq_true n3
   rw [n3] at g3
   have hQ := tl_ins hs2 hn hP hor g3 (X0 := [32, 10, 10, 36]) (M0 := 4) rfl rfl
   have hM0 : 0 < 4 := by decide
  rotate_left
  focus
   have n1 : ¬ m4 _ = 1 := of_decide_eq_false n1
   have n2 : ¬ m4 _ = 2 := of_decide_eq_false n2
   have n3 : ¬ m4 _ = 3 := of_decide_eq_false n3
   have hQ := tl_ins hs2 hn hP hor g3 (X0 := []) (M0 := 0) (by rw [ins_o _ n1 n2 n3]; rfl) rfl
   have hM0 := trivial
  rotate_left
  all_goals
   have t1 : i < s.length := by omega
   have bi : (0 : Int) <= i /\ (i : Int) < s.length := by omega
   refine ⟨trivial, trivial, λ _ => ⟨bi, trivial, trivial, λ t2 => ⟨ba t2, trivial, ia t2, trivial, λ t3 => ⟨ba t2, trivial, ia t2, trivial, λ t4 => ⟨trivial, λ u1 => ⟨trivial, λ u2 => ⟨by decide, trivial, λ u3 => ⟨trivial, ?_⟩, λ u3 => ?_⟩, λ u2 => ?_⟩, λ u1 => ?_⟩, λ t4 => ⟨ba t2, trivial, ia t2, trivial, λ t5 => ⟨trivial, λ u1 => ⟨trivial, λ u2 => ⟨by decide, trivial, λ u3 => ⟨trivial, ?_⟩, λ u3 => ?_⟩, λ u2 => ?_⟩, λ u1 => ?_⟩, λ t5 => ?_⟩⟩, λ t3 => ?_⟩, λ t2 => ?_⟩, λ t1' => absurd bi.2 (of_decide_eq_false t1')⟩
   ·first | exact ⟨c5, lg0_ok (hro := hro) (rc := rc) (k0 := k0) (k := k) (y := []) t1 hQ (zxE ⟨in_yes (kd := 1) (.inl rfl) (of_decide_eq_true t2) (of_decide_eq_true t3) (of_decide_eq_true t4), of_decide_eq_true u1, of_decide_eq_true u2, of_decide_eq_true u3⟩) (zqQ (List.mem_singleton.2 rfl)) rfl ea' rfl rfl rfl rfl⟩ | exact lg_ok (hro := hro) (rc := rc) (k0 := k0) (k := k) (y := []) hs2 t1 hQ hM0 (zxE ⟨in_yes (kd := 1) (.inl rfl) (of_decide_eq_true t2) (of_decide_eq_true t3) (of_decide_eq_true t4), of_decide_eq_true u1, of_decide_eq_true u2, of_decide_eq_true u3⟩) (λ v hv => zqQ hv) rfl ea' rfl rfl (Nat.le_of_ble_eq_true rfl) rfl rfl ⟨rfl, rfl⟩
   ·first | exact ⟨c5, lg0_ok (hro := hro) (rc := rc) (k0 := k0) (k := k) (y := []) t1 hQ (zqh (.inr (.inr (.inr (of_decide_eq_false u3))))) (zqe (List.mem_singleton.2 rfl)) rfl ea' rfl rfl rfl rfl⟩ | exact lg_ok (hro := hro) (rc := rc) (k0 := k0) (k := k) (y := []) hs2 t1 hQ hM0 (zqh (.inr (.inr (.inr (of_decide_eq_false u3))))) (λ v hv => zqe hv) rfl ea' rfl rfl (Nat.le_of_ble_eq_true rfl) rfl rfl ⟨rfl, rfl⟩
   ·first | exact ⟨c5, lg0_ok (hro := hro) (rc := rc) (k0 := k0) (k := k) (y := []) t1 hQ (zqh (.inr (.inr (.inl (of_decide_eq_false u2))))) (zqe (List.mem_singleton.2 rfl)) rfl ea' rfl rfl rfl rfl⟩ | exact lg_ok (hro := hro) (rc := rc) (k0 := k0) (k := k) (y := []) hs2 t1 hQ hM0 (zqh (.inr (.inr (.inl (of_decide_eq_false u2))))) (λ v hv => zqe hv) rfl ea' rfl rfl (Nat.le_of_ble_eq_true rfl) rfl rfl ⟨rfl, rfl⟩
   ·first | exact ⟨c5, lg0_ok (hro := hro) (rc := rc) (k0 := k0) (k := k) (y := []) t1 hQ (zqh (.inr (.inl (of_decide_eq_false u1)))) (zqe (List.mem_singleton.2 rfl)) rfl ea' rfl rfl rfl rfl⟩ | exact lg_ok (hro := hro) (rc := rc) (k0 := k0) (k := k) (y := []) hs2 t1 hQ hM0 (zqh (.inr (.inl (of_decide_eq_false u1)))) (λ v hv => zqe hv) rfl ea' rfl rfl (Nat.le_of_ble_eq_true rfl) rfl rfl ⟨rfl, rfl⟩
   ·first | exact ⟨c5, lg0_ok (hro := hro) (rc := rc) (k0 := k0) (k := k) (y := []) t1 hQ (zxE ⟨in_yes (kd := 2) (.inr rfl) (of_decide_eq_true t2) (of_decide_eq_true t3) (of_decide_eq_true t5), of_decide_eq_true u1, of_decide_eq_true u2, of_decide_eq_true u3⟩) (zqQ (List.mem_singleton.2 rfl)) rfl ea' rfl rfl rfl rfl⟩ | exact lg_ok (hro := hro) (rc := rc) (k0 := k0) (k := k) (y := []) hs2 t1 hQ hM0 (zxE ⟨in_yes (kd := 2) (.inr rfl) (of_decide_eq_true t2) (of_decide_eq_true t3) (of_decide_eq_true t5), of_decide_eq_true u1, of_decide_eq_true u2, of_decide_eq_true u3⟩) (λ v hv => zqQ hv) rfl ea' rfl rfl (Nat.le_of_ble_eq_true rfl) rfl rfl ⟨rfl, rfl⟩
   ·first | exact ⟨c5, lg0_ok (hro := hro) (rc := rc) (k0 := k0) (k := k) (y := []) t1 hQ (zqh (.inr (.inr (.inr (of_decide_eq_false u3))))) (zqe (List.mem_singleton.2 rfl)) rfl ea' rfl rfl rfl rfl⟩ | exact lg_ok (hro := hro) (rc := rc) (k0 := k0) (k := k) (y := []) hs2 t1 hQ hM0 (zqh (.inr (.inr (.inr (of_decide_eq_false u3))))) (λ v hv => zqe hv) rfl ea' rfl rfl (Nat.le_of_ble_eq_true rfl) rfl rfl ⟨rfl, rfl⟩
   ·first | exact ⟨c5, lg0_ok (hro := hro) (rc := rc) (k0 := k0) (k := k) (y := []) t1 hQ (zqh (.inr (.inr (.inl (of_decide_eq_false u2))))) (zqe (List.mem_singleton.2 rfl)) rfl ea' rfl rfl rfl rfl⟩ | exact lg_ok (hro := hro) (rc := rc) (k0 := k0) (k := k) (y := []) hs2 t1 hQ hM0 (zqh (.inr (.inr (.inl (of_decide_eq_false u2))))) (λ v hv => zqe hv) rfl ea' rfl rfl (Nat.le_of_ble_eq_true rfl) rfl rfl ⟨rfl, rfl⟩
   ·first | exact ⟨c5, lg0_ok (hro := hro) (rc := rc) (k0 := k0) (k := k) (y := []) t1 hQ (zqh (.inr (.inl (of_decide_eq_false u1)))) (zqe (List.mem_singleton.2 rfl)) rfl ea' rfl rfl rfl rfl⟩ | exact lg_ok (hro := hro) (rc := rc) (k0 := k0) (k := k) (y := []) hs2 t1 hQ hM0 (zqh (.inr (.inl (of_decide_eq_false u1)))) (λ v hv => zqe hv) rfl ea' rfl rfl (Nat.le_of_ble_eq_true rfl) rfl rfl ⟨rfl, rfl⟩
   ·first | exact ⟨c5, lg0_ok (hro := hro) (rc := rc) (k0 := k0) (k := k) (y := []) t1 hQ (zqh (.inl (in_not λ _ _ => ⟨of_decide_eq_false t4, of_decide_eq_false t5⟩))) (zqe (List.mem_singleton.2 rfl)) rfl ea' rfl rfl rfl rfl⟩ | exact lg_ok (hro := hro) (rc := rc) (k0 := k0) (k := k) (y := []) hs2 t1 hQ hM0 (zqh (.inl (in_not λ _ _ => ⟨of_decide_eq_false t4, of_decide_eq_false t5⟩))) (λ v hv => zqe hv) rfl ea' rfl rfl (Nat.le_of_ble_eq_true rfl) rfl rfl ⟨rfl, rfl⟩
   ·first | exact ⟨c5, lg0_ok (hro := hro) (rc := rc) (k0 := k0) (k := k) (y := []) t1 hQ (zqh (.inl (in_not λ _ h => absurd h (of_decide_eq_false t3)))) (zqe (List.mem_singleton.2 rfl)) rfl ea' rfl rfl rfl rfl⟩ | exact lg_ok (hro := hro) (rc := rc) (k0 := k0) (k := k) (y := []) hs2 t1 hQ hM0 (zqh (.inl (in_not λ _ h => absurd h (of_decide_eq_false t3)))) (λ v hv => zqe hv) rfl ea' rfl rfl (Nat.le_of_ble_eq_true rfl) rfl rfl ⟨rfl, rfl⟩
   ·first | exact ⟨c5, lg0_ok (hro := hro) (rc := rc) (k0 := k0) (k := k) (y := []) t1 hQ (zqh (.inl (in_not λ h _ => absurd h (of_decide_eq_false t2)))) (zqe (List.mem_singleton.2 rfl)) rfl ea' rfl rfl rfl rfl⟩ | exact lg_ok (hro := hro) (rc := rc) (k0 := k0) (k := k) (y := []) hs2 t1 hQ hM0 (zqh (.inl (in_not λ h _ => absurd h (of_decide_eq_false t2)))) (λ v hv => zqe hv) rfl ea' rfl rfl (Nat.le_of_ble_eq_true rfl) rfl rfl ⟨rfl, rfl⟩
 ·have h1 : ¬ (i : Int) = s.length := of_decide_eq_false h1
  have h3 : ¬ ((s.getD (i : Int).toNat 0).toNat : Int) = 10 := of_decide_eq_false h3
  rw [Int.toNat_natCast] at h3
  have hQ := tl_byte (k := k) hs2 hP (by omega) (by omega) (M0 := 0) rfl
  have hM0 := trivial
  all_goals
   have t1 : i < s.length := by omega
   have bi : (0 : Int) <= i /\ (i : Int) < s.length := by omega
   refine ⟨trivial, trivial, λ _ => ⟨bi, trivial, trivial, λ t2 => ⟨ba t2, trivial, ia t2, trivial, λ t3 => ⟨ba t2, trivial, ia t2, trivial, λ t4 => ⟨trivial, λ u1 => ⟨trivial, λ u2 => ⟨by decide, trivial, λ u3 => ⟨trivial, ?_⟩, λ u3 => ?_⟩, λ u2 => ?_⟩, λ u1 => ?_⟩, λ t4 => ⟨ba t2, trivial, ia t2, trivial, λ t5 => ⟨trivial, λ u1 => ⟨trivial, λ u2 => ⟨by decide, trivial, λ u3 => ⟨trivial, ?_⟩, λ u3 => ?_⟩, λ u2 => ?_⟩, λ u1 => ?_⟩, λ t5 => ?_⟩⟩, λ t3 => ?_⟩, λ t2 => ?_⟩, λ t1' => absurd bi.2 (of_decide_eq_false t1')⟩
   ·first | exact ⟨c5, lg0_ok (hro := hro) (rc := rc) (k0 := k0) (k := k) (y := []) t1 hQ (zxE ⟨in_yes (kd := 1) (.inl rfl) (of_decide_eq_true t2) (of_decide_eq_true t3) (of_decide_eq_true t4), of_decide_eq_true u1, of_decide_eq_true u2, of_decide_eq_true u3⟩) (zqQ (List.mem_singleton.2 rfl)) rfl ea' rfl rfl rfl rfl⟩ | exact lg_ok (hro := hro) (rc := rc) (k0 := k0) (k := k) (y := []) hs2 t1 hQ hM0 (zxE ⟨in_yes (kd := 1) (.inl rfl) (of_decide_eq_true t2) (of_decide_eq_true t3) (of_decide_eq_true t4), of_decide_eq_true u1, of_decide_eq_true u2, of_decide_eq_true u3⟩) (λ v hv => zqQ hv) rfl ea' rfl rfl (Nat.le_of_ble_eq_true rfl) rfl rfl ⟨rfl, rfl⟩
   ·first | exact ⟨c5, lg0_ok (hro := hro) (rc := rc) (k0 := k0) (k := k) (y := []) t1 hQ (zqh (.inr (.inr (.inr (of_decide_eq_false u3))))) (zqe (List.mem_singleton.2 rfl)) rfl ea' rfl rfl rfl rfl⟩ | exact lg_ok (hro := hro) (rc := rc) (k0 := k0) (k := k) (y := []) hs2 t1 hQ hM0 (zqh (.inr (.inr (.inr (of_decide_eq_false u3))))) (λ v hv => zqe hv) rfl ea' rfl rfl (Nat.le_of_ble_eq_true rfl) rfl rfl ⟨rfl, rfl⟩
   ·first | exact ⟨c5, lg0_ok (hro := hro) (rc := rc) (k0 := k0) (k := k) (y := []) t1 hQ (zqh (.inr (.inr (.inl (of_decide_eq_false u2))))) (zqe (List.mem_singleton.2 rfl)) rfl ea' rfl rfl rfl rfl⟩ | exact lg_ok (hro := hro) (rc := rc) (k0 := k0) (k := k) (y := []) hs2 t1 hQ hM0 (zqh (.inr (.inr (.inl (of_decide_eq_false u2))))) (λ v hv => zqe hv) rfl ea' rfl rfl (Nat.le_of_ble_eq_true rfl) rfl rfl ⟨rfl, rfl⟩
   ·first | exact ⟨c5, lg0_ok (hro := hro) (rc := rc) (k0 := k0) (k := k) (y := []) t1 hQ (zqh (.inr (.inl (of_decide_eq_false u1)))) (zqe (List.mem_singleton.2 rfl)) rfl ea' rfl rfl rfl rfl⟩ | exact lg_ok (hro := hro) (rc := rc) (k0 := k0) (k := k) (y := []) hs2 t1 hQ hM0 (zqh (.inr (.inl (of_decide_eq_false u1)))) (λ v hv => zqe hv) rfl ea' rfl rfl (Nat.le_of_ble_eq_true rfl) rfl rfl ⟨rfl, rfl⟩
   ·first | exact ⟨c5, lg0_ok (hro := hro) (rc := rc) (k0 := k0) (k := k) (y := []) t1 hQ (zxE ⟨in_yes (kd := 2) (.inr rfl) (of_decide_eq_true t2) (of_decide_eq_true t3) (of_decide_eq_true t5), of_decide_eq_true u1, of_decide_eq_true u2, of_decide_eq_true u3⟩) (zqQ (List.mem_singleton.2 rfl)) rfl ea' rfl rfl rfl rfl⟩ | exact lg_ok (hro := hro) (rc := rc) (k0 := k0) (k := k) (y := []) hs2 t1 hQ hM0 (zxE ⟨in_yes (kd := 2) (.inr rfl) (of_decide_eq_true t2) (of_decide_eq_true t3) (of_decide_eq_true t5), of_decide_eq_true u1, of_decide_eq_true u2, of_decide_eq_true u3⟩) (λ v hv => zqQ hv) rfl ea' rfl rfl (Nat.le_of_ble_eq_true rfl) rfl rfl ⟨rfl, rfl⟩
   ·first | exact ⟨c5, lg0_ok (hro := hro) (rc := rc) (k0 := k0) (k := k) (y := []) t1 hQ (zqh (.inr (.inr (.inr (of_decide_eq_false u3))))) (zqe (List.mem_singleton.2 rfl)) rfl ea' rfl rfl rfl rfl⟩ | exact lg_ok (hro := hro) (rc := rc) (k0 := k0) (k := k) (y := []) hs2 t1 hQ hM0 (zqh (.inr (.inr (.inr (of_decide_eq_false u3))))) (λ v hv => zqe hv) rfl ea' rfl rfl (Nat.le_of_ble_eq_true rfl) rfl rfl ⟨rfl, rfl⟩
   ·first | exact ⟨c5, lg0_ok (hro := hro) (rc := rc) (k0 := k0) (k := k) (y := []) t1 hQ (zqh (.inr (.inr (.inl (of_decide_eq_false u2))))) (zqe (List.mem_singleton.2 rfl)) rfl ea' rfl rfl rfl rfl⟩ | exact lg_ok (hro := hro) (rc := rc) (k0 := k0) (k := k) (y := []) hs2 t1 hQ hM0 (zqh (.inr (.inr (.inl (of_decide_eq_false u2))))) (λ v hv => zqe hv) rfl ea' rfl rfl (Nat.le_of_ble_eq_true rfl) rfl rfl ⟨rfl, rfl⟩
   ·first | exact ⟨c5, lg0_ok (hro := hro) (rc := rc) (k0 := k0) (k := k) (y := []) t1 hQ (zqh (.inr (.inl (of_decide_eq_false u1)))) (zqe (List.mem_singleton.2 rfl)) rfl ea' rfl rfl rfl rfl⟩ | exact lg_ok (hro := hro) (rc := rc) (k0 := k0) (k := k) (y := []) hs2 t1 hQ hM0 (zqh (.inr (.inl (of_decide_eq_false u1)))) (λ v hv => zqe hv) rfl ea' rfl rfl (Nat.le_of_ble_eq_true rfl) rfl rfl ⟨rfl, rfl⟩
   ·first | exact ⟨c5, lg0_ok (hro := hro) (rc := rc) (k0 := k0) (k := k) (y := []) t1 hQ (zqh (.inl (in_not λ _ _ => ⟨of_decide_eq_false t4, of_decide_eq_false t5⟩))) (zqe (List.mem_singleton.2 rfl)) rfl ea' rfl rfl rfl rfl⟩ | exact lg_ok (hro := hro) (rc := rc) (k0 := k0) (k := k) (y := []) hs2 t1 hQ hM0 (zqh (.inl (in_not λ _ _ => ⟨of_decide_eq_false t4, of_decide_eq_false t5⟩))) (λ v hv => zqe hv) rfl ea' rfl rfl (Nat.le_of_ble_eq_true rfl) rfl rfl ⟨rfl, rfl⟩
   ·first | exact ⟨c5, lg0_ok (hro := hro) (rc := rc) (k0 := k0) (k := k) (y := []) t1 hQ (zqh (.inl (in_not λ _ h => absurd h (of_decide_eq_false t3)))) (zqe (List.mem_singleton.2 rfl)) rfl ea' rfl rfl rfl rfl⟩ | exact lg_ok (hro := hro) (rc := rc) (k0 := k0) (k := k) (y := []) hs2 t1 hQ hM0 (zqh (.inl (in_not λ _ h => absurd h (of_decide_eq_false t3)))) (λ v hv => zqe hv) rfl ea' rfl rfl (Nat.le_of_ble_eq_true rfl) rfl rfl ⟨rfl, rfl⟩
   ·first | exact ⟨c5, lg0_ok (hro := hro) (rc := rc) (k0 := k0) (k := k) (y := []) t1 hQ (zqh (.inl (in_not λ h _ => absurd h (of_decide_eq_false t2)))) (zqe (List.mem_singleton.2 rfl)) rfl ea' rfl rfl rfl rfl⟩ | exact lg_ok (hro := hro) (rc := rc) (k0 := k0) (k := k) (y := []) hs2 t1 hQ hM0 (zqh (.inl (in_not λ h _ => absurd h (of_decide_eq_false t2)))) (λ v hv => zqe hv) rfl ea' rfl rfl (Nat.le_of_ble_eq_true rfl) rfl rfl ⟨rfl, rfl⟩
end
end Go.Proofs.YtekioipmhhcbhaaDoor
set_option maxRecDepth 100000
set_option maxHeartbeats 4000000
namespace Go.Proofs.YtekioipmhhcbhaaDoor
open Go Go.Z Go.Q Go.W6
open Go.Y hiding KE KK KR go Task go_sound
noncomputable section
variable [Ext]
theorem main_ok {gv gf gl} : ∀ fi ds env hp k, lMain fi ds env hp k -> TaskOk Tryd.prog ⟨gv, gf, gl⟩ (.code fi (.loop (lp Tryd.prog 5 1)) ds env hp k) := by
 intro fi ds env hp k h
 obtain ⟨rfl, rfl, hn, hlk, rc, hrc, h⟩ := atV_inv h
 split at h
 ·rename_i v0 hs v2 n v6 v7 v8 xs sh1 t0 hT g0
  split at h
  ·rename_i s note z a i q0 q2 q6 q7 q8
   obtain ⟨⟨rfl, rfl, rfl, rfl, rfl, rfl, hn1, hs2, hno⟩, l, rfl, hk⟩ := h
   obtain ⟨n', ht, hro⟩ := hp
   dsimp only at hn hlk hrc hk g0
   subst hn
   have hL : (l.map (rowTok s)).length = l.length := List.length_map ..
   rw [hL] at hn1 hk hT
   refine zvf tsM [1, 2] [1, 2, 3, 4, 5, 6, 7, 8, 9] [0] rc 3 (leL s note hs l.length) (lmL (l.map (rowTok s))) (PL s note l (nsOf hs)) (λ x => s.length + 1 - x.i) ⟨0, 0, 0, []⟩ (pl_zero s note l (nsOf hs)) rfl rfl rfl (Nat.le_succ 2) hlk rfl rfl (λ x => by rcases x with ⟨i, k, a, _ | ⟨y, b⟩⟩ <;> rfl) (λ x => by rcases x with ⟨i, k, a, _ | ⟨y, b⟩⟩ <;> rfl) ?_ ⟨⟨_, g0, zqd _⟩, trivial⟩ hrc ?_
   ·rw [hT]
    exact ⟨zxy q0, zqa _, zxy q2, zqa _, zqa _, zqa _, zqG q6, zqG q7, zqG q8, trivial⟩
   ·rintro ⟨i, k1, a, b⟩ hP
    have hout : ¬ i <= s.length -> b = outF note s 0 l (nsOf hs) := λ h => hP.2.2.2.2.2 (by have := hP.1; dsimp only at this ⊢; omega)
    cases b with
    | nil =>
     refine zxQ (gf' := []) (gl' := [(195018, lp Tryd.prog 5 2, lAt false)]) (round_nil hro rc k s note hs l hs2 hno hn1 i k1 a hP λ h => ?_)
     have := hk k1 a i
     rw [<- hout h] at this
     exact ⟨leM s note hs [.int .i64] l.length .nils k1 a i, [1], [tokC (l.map (rowTok s))], Nat.le_refl 3, rfl, rfl, ⟨zqa _, zqa _, zqa _, zqa _, zqa _, zqa _, zqa _, zqa _, zqa _, trivial⟩, ⟨⟨_, rfl, zqd _⟩, trivial⟩, this⟩
    | cons y b =>
     refine zxQ (gf' := []) (gl' := [(195018, lp Tryd.prog 5 2, lAt true)]) (round_cons hro rc k s note hs l hs2 hno hn1 i k1 a y b hP λ h => ?_)
     have := hk k1 a i
     rw [<- hout h] at this
     exact ⟨leM s note hs [.int .i64] l.length (.ssl 2 0 (b.length + 1) 1) k1 a i, [1, 2], [tokC (l.map (rowTok s)), .byt (y :: b) 5], Nat.le_refl 3, rfl, rfl, ⟨zqa _, zqa _, zqa _, zqa _, zqa _, zqa _, zqa _, zqa _, zqa _, trivial⟩, ⟨⟨_, rfl, zqd _⟩, ⟨_, rfl, zqd _⟩, trivial⟩, this⟩
  ·exact h.elim
 ·exact h.elim
end
end Go.Proofs.YtekioipmhhcbhaaDoor
set_option maxRecDepth 100000
set_option maxHeartbeats 4000000
namespace Go.Proofs.YtekioipmhhcbhaaDoor
open Go Go.Z Go.Q Go.W6
open Go.Y hiding KE KK KR go Task go_sound
noncomputable section
variable [Ext]
abbrev GLn : GQ := ⟨⟨varG 0, kn9, [(0, spaceV)]⟩, [(16, sScan), (18, sSameL)], [(195005, lp Tryd.prog 5 0, lNt), (195016, lp Tryd.prog 5 1, lMain)]⟩
theorem scan_le (s : List UInt8) : (scanF s).1.length <= s.length := by
 rcases Nat.lt_or_ge 20000 s.length with h | h
 ·unfold scanF; rw [if_pos h]; exact Nat.zero_le _
 ·rcases zjt h with ⟨x, _, h2, h3, _⟩ | ⟨p, e, _, h2, _⟩
  ·rw [h2]; exact h3
  ·rw [h2]; exact Nat.zero_le _
theorem ln_run (s note : List UInt8) (hs : List (List V)) (ty : Nat) : TaskOk Tryd.prog GLn (.call 5 [.sstr s, .xs hs [.int .i64], .sstr note] (varM spaceV ty) λ e _ => e = .ret (.bool true)) := by
 have hf : FsOk Tryd.prog GLn := fs_all (by exact ⟨scan_ok, sameL_ok, trivial⟩)
 have hl : LsOk Tryd.prog GLn := ls_all (by exact ⟨nt_ok, main_ok, trivial⟩)
 refine go_sound (G := GLn) qmix qNG known9 hf hl 400 _ ?_
 have ye : ∀ {p : Prop} [Decidable p] {q : Prop}, p -> decide p = false -> q := λ hp h => absurd hp (of_decide_eq_false h)
 refine ⟨trivial, trivial, λ h1 => ⟨trivial, trivial, λ _ => rfl, λ h2 => ⟨rfl, ⟨rfl, ?_⟩, λ _ _ => rfl, λ h3 => ⟨rfl, trivial, λ _ => rfl, λ h4 => ⟨rfl, ?_⟩⟩⟩⟩, λ _ => rfl⟩
 all_goals
  have h1 : (s.length : Int) <= 2000 := of_decide_eq_true h1
  have h2 : ¬ (100 : Int) < note.length := of_decide_eq_false h2
 ·omega
 have h4 : ((scanF s).2.2 : Int) = 0 := nF h4
 have lx := scan_le s
 have lxx : (scanF s).1.length = ((scanF s).1.map (rowTok s)).length := (List.length_map ..).symm
 refine ⟨⟨rfl, rfl, rfl, rfl, rfl, lxx, (by omega : (scanF s).1.length <= 2000), (by omega : s.length <= 2000), (by omega : note.length <= 100)⟩, (scanF s).1, rfl, λ z a i => ?_⟩
 have hlaw := lines_law (s := s) (note := note) (ns := nsOf hs) (by omega) h3 (by omega)
 generalize outF note s 0 (scanF s).1 (nsOf hs) = O at hlaw
 cases O with
 | nil =>
  obtain ⟨m1, m2⟩ := hlaw (Nat.zero_le _)
  obtain ⟨r1, r2⟩ := same_rows (s := s) (s' := []) m2.symm
  exact ⟨rfl, trivial, λ _ => ⟨⟨rfl, rfl, rfl, rfl, lxx, (List.length_map ..).symm, r1, (by omega : (scanF s).1.length <= 30000), r2⟩, rfl⟩, λ h => by cases h⟩
 | cons y b =>
  refine ⟨trivial, trivial, λ _ => rfl, λ h5 => ?_⟩
  have h5 : ¬ (20000 : Int) < (b.length + 1 : Nat) := of_decide_eq_false h5
  obtain ⟨m1, m2⟩ := hlaw (by simp; omega)
  obtain ⟨r1, r2⟩ := same_rows (s := s) (s' := y :: b) m2.symm
  have et : List.take (b.length + 1) (List.drop 0 (y :: b)) = y :: b := List.take_length (l := y :: b)
  refine ⟨⟨by omega, by simp⟩, rfl, trivial, λ _ => ?_, λ h => ?_⟩
  ·refine ⟨⟨rfl, rfl, rfl, rfl, lxx, (List.length_map ..).symm, ?_, (by omega : (scanF s).1.length <= 30000), ?_⟩, rfl⟩
   ·rw [et]; exact r1
   ·rw [et]; exact r2
  ·have h : ¬ ((scanF (List.take (b.length + 1) (List.drop 0 (y :: b)))).2.2 : Int) = 0 := of_decide_eq_false h
   rw [et] at h
   omega
end
end Go.Proofs.YtekioipmhhcbhaaDoor
