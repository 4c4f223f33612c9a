/- StoreCrashes: the law's run. -/
import Derived.Test.YteajbfgkllmjhaaDoorC3
import Derived.Test.YteajbfgkllmjhaaDoorKc
import Derived.Test.YteajbfgkllmjhaaDoorM9
set_option linter.unusedVariables false
set_option linter.unusedSectionVars false
set_option linter.unusedSimpArgs false
set_option maxRecDepth 100000
set_option maxHeartbeats 4000000
namespace Go.Proofs.YteajbfgkllmjhaaDoor
open Go Go.Z Go.Q
open Go.Y hiding KE KK KR go Task go_sound
noncomputable section
abbrev knS : List (Nat × List V × KRes) := [(5, [], .val (.bool true))]
variable [Ext]
theorem knownX : KnOk Tryd.prog ⟨.nil, knS, []⟩ := known_true sanity_fn
abbrev tsQ : List Nat := [1, 2, 3, 4, 8, 9]
def leQ (L : List (List V)) (n : Int) (Q : List (List V)) (b : Bool) (i : Int) : List V := [.xs L shE, .sint .i64 n, .xs Q shB, .ptr 0 0, .bool b, .sint .i64 i]
def lLw (fi : FI) (ds : List DV) (env : Tr V) (hp : Mem) (k : KK) : Prop := atV 67 1 [] [0] fi ds hp λ rc => match pk tsQ env with
 | [some (.xs L [.int .i64, .str]), some v1, some (.xs Q [.int .u8]), some (.ptr 0 0), some (.bool false), some v5] => match int64 v1, int64 v5 with
  | some n, some i => (i = 0 /\ L.length <= 100) /\
    (∀ i, k .ret [] (ofE (tsQ.zip (leQ L n Q true i))) ⟨1, ofM ([].zip [] ++ [0].zip rc), hp.ro⟩) /\
    k (.exit 0) [] (ofE (tsQ.zip (leQ L n Q false L.length))) ⟨1, ofM ([].zip [] ++ [0].zip rc), hp.ro⟩
  | _, _ => False
 | _ => False
theorem lw_ok {kn vs gf gl} : ∀ fi ds env hp k, lLw fi ds env hp k -> TaskOk Tryd.prog ⟨⟨.nil, kn, vs⟩, gf, gl⟩ (.code fi (.loop (lp Tryd.prog 3 0)) ds env hp k) := by
 intro fi ds env hp k h
 obtain ⟨rfl, rfl, hn, hlk, rc, hrc, h⟩ := zxo h
 split at h
 ·rename_i L v1 Q v5 hT
  split at h
  ·rename_i n i q1 q5
   obtain ⟨⟨rfl, hl⟩, hk1, hk2⟩ := h
   obtain ⟨n', ht, hro⟩ := hp
   dsimp only at hn hlk hrc hk1 hk2
   subst hn
   refine zxm tsQ [] [] [0] rc 1 (λ x : Nat => leQ L n Q false x) (λ _ => []) (λ x => x <= L.length) (λ x => L.length - x) 0 (Nat.zero_le _) rfl rfl rfl (Nat.le_refl 1) hlk rfl rfl (λ x => rfl) (λ x => rfl) ?_ trivial hrc ?_
   ·rw [hT]
    exact ⟨zqa _, zql q1, zqa _, zqa _, zqa _, zql q5, trivial⟩
   ·intro x hx
    have hx : x <= L.length := hx
    refine code_sameG (kn' := knS) (vs' := []) (gf' := []) (gl' := []) ?_
    refine go_sound (G := ⟨⟨.nil, knS, []⟩, [], []⟩) qmix qNG knownX (zqV rfl) (zxl rfl) 200 _ ?_
    refine ⟨trivial, trivial, λ h => ?_, λ h => ?_⟩
    ·have h : (x : Int) < L.length := of_decide_eq_true h
     have c5 : I64 ((x : Int) + 1) := by unfold I64; omega
     refine ⟨⟨by omega, h⟩, trivial, by omega, trivial, trivial, λ g => ?_, λ g => ⟨c5, ?_⟩⟩
     ·exact ⟨leQ L n Q true x, [], [], Nat.le_refl 1, rfl, rfl, ⟨zqa _, zqa _, zqa _, zqa _, zqa _, zqa _, trivial⟩, trivial, hk1 x⟩
     ·exact ⟨x + 1, [], (by show x + 1 <= L.length; omega), (by omega : L.length - (x + 1) < L.length - x), Nat.le_refl 1, rfl, ⟨zqa _, zqa _, zqa _, zqa _, zqa _, ⟨rfl, by push_cast; rfl⟩, trivial⟩, trivial⟩
    ·have h : ¬ (x : Int) < L.length := of_decide_eq_false h
     obtain rfl : x = L.length := by omega
     exact ⟨leQ L n Q false L.length, [], [], Nat.le_refl 1, rfl, rfl, ⟨zqa _, zqa _, zqa _, zqa _, zqa _, zqa _, trivial⟩, trivial, hk2⟩
  ·exact h.elim
 ·exact h.elim
abbrev osC (T : List (List UInt8)) : Chunk := .rowsO (rowsT T) [.str] 9
abbrev dkC (p m : Nat) : Chunk := .cells [.ssl p 0 m 1] 24 1
abbrev tsD : List Nat := [2, 3, 4, 5]
def leD (i : Int) : List V := [.ptr 5 0, .ptr 6 0, .bool false, .sint .i64 i]
def lSd (fi : FI) (ds : List DV) (env : Tr V) (hp : Mem) (k : KK) : Prop := atV 31 7 [1, 3, 5, 6] [] fi ds hp λ _ => match pk tsD env, pk [1, 3, 5, 6] hp.t with
 | [some (.ptr 5 0), some (.ptr 6 0), some (.bool false), some v3], [some c1, some c3, some c5, some c6] => match int64 v3 with
  | some i => ∃ T : List (List UInt8), (i = 0 /\ c1 = osC T /\ c3 = osC T /\ c5 = dkC 1 T.length /\ c6 = dkC 3 T.length /\ T.length <= 1024) /\
    k (.exit 0) [] (ofE (tsD.zip (leD T.length))) ⟨7, ofM ([].zip [] ++ [].zip []), hp.ro⟩
  | _ => False
 | _, _ => False
theorem sd_ok {gv gf gl} : ∀ fi ds env hp k, lSd fi ds env hp k -> TaskOk Tryd.prog ⟨gv, gf, gl⟩ (.code fi (.loop (lp Tryd.prog 8 0)) ds env hp k) := by
 intro fi ds env hp k h
 obtain ⟨rfl, rfl, hn, hlk, rc, hrc, h⟩ := zxo h
 split at h
 ·rename_i v3 c1 c3 c5 c6 hT hM
  split at h
  ·rename_i i q3
   obtain ⟨T, ⟨rfl, rfl, rfl, rfl, rfl, hl⟩, hk⟩ := h
   obtain ⟨n', ht, hro⟩ := hp
   dsimp only at hn hlk hk hM
   subst hn
   refine zxm tsD [1, 3, 5, 6] [1, 3, 5, 6] [] [] 7 (λ x : Nat => leD x) (λ _ => [some (osC T), some (osC T), some (dkC 1 T.length), some (dkC 3 T.length)]) (λ x => x <= T.length) (λ x => T.length - x) 0 (Nat.zero_le _) rfl rfl rfl (Nat.le_refl 7) hlk rfl rfl (λ x => rfl) (λ x => rfl) ?_ (fitE_of (l := [osC T, osC T, dkC 1 T.length, dkC 3 T.length]) hM) rfl ?_
   ·rw [hT]
    exact ⟨zqa _, zqa _, zqa _, zql q3, trivial⟩
   ·intro x hx
    have hx : x <= T.length := hx
    have hr : (rowsT T).length = T.length := by unfold rowsT; rw [List.length_map]
    refine zqP (gf' := []) (gl' := []) ?_
    refine go_sound (G := nilG) qmix qNG zqx (zqV rfl) (zxl rfl) 300 _ ?_
    refine ⟨trivial, trivial, λ h => ?_, λ h => ?_⟩
    ·have h : (x : Int) < T.length := of_decide_eq_true h
     have c5 : I64 ((x : Int) + 1) := by unfold I64; omega
     have c1 : (0 : Int) <= (x : Int) /\ (x : Int) < (T.length : Nat) := ⟨by omega, h⟩
     have c2 : 0 + (x : Int).toNat < (rowsT T).length := by omega
     refine ⟨c1, c2, c1, c2, trivial, λ g => absurd rfl (nT g), λ g => ⟨c5, ?_⟩⟩
     exact ⟨x + 1, [1, 3, 5, 6], (by show x + 1 <= T.length; omega), (by omega : T.length - (x + 1) < T.length - x), Nat.le_refl 7, rfl, ⟨zqa _, zqa _, zqa _, ⟨rfl, by push_cast; rfl⟩, trivial⟩, ⟨_, rfl, zqd _⟩, ⟨_, rfl, zqd _⟩, ⟨_, rfl, zqd _⟩, ⟨_, rfl, zqd _⟩, trivial⟩
    ·have h : ¬ (x : Int) < T.length := of_decide_eq_false h
     obtain rfl : x = T.length := by omega
     exact ⟨leD T.length, [], [], Nat.le_refl 7, rfl, rfl, ⟨zqa _, zqa _, zqa _, zqa _, trivial⟩, trivial, hk⟩
  ·exact h.elim
 ·exact h.elim
end
end Go.Proofs.YteajbfgkllmjhaaDoor
set_option maxRecDepth 100000
set_option maxHeartbeats 4000000
namespace Go.Proofs.YteajbfgkllmjhaaDoor
open Go Go.Z Go.Q
open Go.Y hiding KE KK KR go Task go_sound
noncomputable section
variable [Ext]
noncomputable abbrev GLw : GQ := ⟨⟨.nil, knS, []⟩, [(4, sLight), (6, sCrash crashV), (7, sCrash crashRV)], [(67004, lp Tryd.prog 3 0, lLw), (31004, lp Tryd.prog 8 0, lSd)]⟩
theorem out_len {S L Q : List (List V)} {n : Int} : (outF S L n Q).length <= 1024 := by
 by_cases h : goodC S L n
 ·rw [(zjr (Q := Q) h).1, (cr_64 (Q := Q) (b := lastF L n.toNat) h.1.2 h.2.1 n.toNat (by have := h.2.2; omega)).2]
  exact h.1.1.2
 ·rw [(zjG (Q := Q) h).1]; exact Nat.zero_le _
theorem law_run (S L : List (List V)) (n : Int) (Q : List (List V)) (hQ : okQ Q) (hN : S = rowsT (T0 S)) : TaskOk Tryd.prog GLw (.call 3 [.agg [.xs S [.str]], .xs L shE, .sint .i64 n, .xs Q shB] nomem λ e _ => e = .ret (.bool true)) := by
 refine go_sound (G := GLw) qmix qNG knownX (fs_all ⟨light_ok, crash_ok, crashR_ok, trivial⟩) (ls_all ⟨lw_ok, sd_ok, trivial⟩) 200 _ ?_
 refine ⟨trivial, λ h1 => rfl, λ h2 => ⟨trivial, trivial, λ h3 => rfl, λ h4 => ⟨trivial, trivial, λ h5 => rfl, λ h6 => ?_⟩⟩⟩
 have h4 : ¬ (100 : Int) < L.length := of_decide_eq_false h4
 have hl : L.length <= 100 := by omega
 refine ⟨rfl, ⟨rfl, hl⟩, λ i => rfl, ⟨hl, hQ, hN⟩, ⟨hl, hQ, hN⟩, trivial, λ h7 => ⟨trivial, trivial, trivial, λ h8 => absurd rfl (nT h8), λ h9 => ⟨rfl, outF S L n Q, ⟨rfl, rfl, rfl, rfl, rfl, out_len⟩, rfl⟩⟩, λ h10 => absurd rfl (of_decide_eq_false h10)⟩
theorem norm_strs : ∀ {S : List (List V)}, (∀ r ∈ S, shR [.str] r) -> okXLL S -> S = rowsT (T0 S)
 | [], _, _ => rfl
 | r :: S, h, hk => by
  obtain ⟨v, r', rfl, ⟨s, hv⟩, h2⟩ := h r List.mem_cons_self
  have h2 : r' = [] := h2
  subst h2
  have ih := norm_strs (λ q hq => h q (List.mem_cons_of_mem _ hq)) hk.2
  rcases hv with rfl | rfl
  ·show _ :: S = [.sstr s] :: rowsT (T0 S)
   rw [<- ih]
  ·exact hk.1.1.elim
theorem plan_ok {Q : List (List V)} (h : ∀ r ∈ Q, shR [.int .u8] r) (hk : okXLL Q) : okQ Q := λ j hj => by
 have hr := h Q[j] (List.getElem_mem hj)
 have hx := okXLL_get hk hj
 rw [show Q.getD j [] = Q[j] by rw [List.getD_eq_getElem?_getD, List.getElem?_eq_getElem hj]; rfl] at hx
 unfold pB
 rw [show Q.getD j [] = Q[j] by rw [List.getD_eq_getElem?_getD, List.getElem?_eq_getElem hj]; rfl]
 obtain ⟨v, r', e, ⟨n, hv⟩, _⟩ := hr
 rw [e] at hx ⊢
 rcases hv with rfl | rfl
 ·have h1 : IntKind.u8.min <= n /\ n <= IntKind.u8.max := hx.1
  exact ⟨h1.1, h1.2⟩
 ·exact hx.1.elim
theorem law_fn {v0 v1 v3 : Value} {n : Int} {S L Q : List (List V)} (hQ : okQ Q) (hN : S = rowsT (T0 S)) (h0 : R norho (.agg [.xs S [.str]]) v0) (h1 : RX (.xs L shE) v1) (h3 : RX (.xs Q shB) v3) :
  Z.Fn Tryd.prog 3 [v0, v1, .int .i64 n, v3] [extSP] λ e H' => e = .returned (.bool true) /\ ∀ x, sep H' x -> sep [extSP] x :=
 (fn_of (law_run S L n Q hQ hN) rfl (.cons h0 (.cons (RX_R h1) (.cons rfl (.cons (RX_R h3) .nil)))) (Post := λ en => en = .returned (.bool true)) (λ e hp en ρ hen hk => by
  subst hk
  cases en with
  | returned u => exact congrArg _ (show u = .bool true from hen)
  | panicked ch => exact hen.elim
  | outgrown => exact hen.elim)).2
end
end Go.Proofs.YteajbfgkllmjhaaDoor
