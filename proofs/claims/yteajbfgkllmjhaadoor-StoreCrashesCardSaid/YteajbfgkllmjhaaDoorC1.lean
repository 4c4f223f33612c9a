/- StoreCrashes: what a crash comes to; the functions that only look at their arguments. -/
import Derived.Test.YteajbfgkllmjhaaDoorM9
import Derived.Test.YteajbfgkllmjhaaDoorProg
set_option linter.unusedVariables false
set_option linter.unusedSectionVars false
set_option linter.unusedSimpArgs false
set_option maxRecDepth 100000
set_option maxHeartbeats 4000000
namespace Go.Proofs.YteajbfgkllmjhaaDoor
open Go Go.Z Go.Q
open Go.Y hiding KE KK KR go Task go_sound
noncomputable section
theorem qmix : Tryd.prog.follows .mixedOrders = true := by kernel_rfl
theorem qNG0 : (Tryd.prog.funcs.all λ fn => !(fn.name == "runtime.NumGoroutine")) = true := by kernel_rfl
theorem qNG : ∀ (f : Nat) (fn : Func), Tryd.prog.funcs[f]? = some fn -> (fn.name == "runtime.NumGoroutine") = false := by
 intro f fn hf
 have h1 := Array.all_eq_true.1 qNG0 f (Array.getElem?_eq_some_iff.1 hf).1
 rw [(Array.getElem?_eq_some_iff.1 hf).2] at h1
 simpa using h1
variable [Ext]
def sS (S : List (List V)) (i : Nat) : List UInt8 := vS ((S.getD i []).getD 0 .und)
def eW (L : List (List V)) (i : Nat) : Int := vI ((L.getD i []).getD 0 .und)
def eD (L : List (List V)) (i : Nat) : List UInt8 := vS ((L.getD i []).getD 1 .und)
def pB (Q : List (List V)) (i : Nat) : Int := vI ((Q.getD i []).getD 0 .und)
def shortS (S : List (List V)) : Prop := ∀ i, i < S.length -> (sS S i).length <= 100
def fullS (S : List (List V)) : Prop := ∀ i, i < S.length -> (sS S i).length = 64
def rightS (S : List (List V)) : Prop := (8 <= S.length /\ S.length <= 1024) /\ fullS S
def okE (m : Nat) (L : List (List V)) (i : Nat) : Prop := (0 <= eW L i /\ eW L i < m /\ (eD L i).length = 64) \/ (eW L i = -1 /\ eD L i = [])
def okL (m : Nat) (L : List (List V)) : Prop := ∀ i, i < L.length -> okE m L i
def lastF (L : List (List V)) : Nat -> Nat
 | 0 => 0
 | i + 1 => if eW L i = -1 then i + 1 else lastF L i
def manyF (Q : List (List V)) (b i : Nat) : Nat := if b <= i /\ i - b < Q.length /\ pB Q (i - b) ≠ 255 then (pB Q (i - b)).toNat % 65 else 64
def T0 (S : List (List V)) : List (List UInt8) := S.map λ r => vS (r.getD 0 .und)
def stepT (T : List (List UInt8)) (w : Nat) (d : List UInt8) (m : Nat) : List (List UInt8) := T.set w (d.take m ++ (T.getD w []).drop m)
def crT (S L Q : List (List V)) (b : Nat) : Nat -> List (List UInt8)
 | 0 => T0 S
 | i + 1 => if eW L i = -1 then crT S L Q b i else stepT (crT S L Q b i) (eW L i).toNat (eD L i) (manyF Q b i)
open Classical in
def outF (S L : List (List V)) (n : Int) (Q : List (List V)) : List (List UInt8) := if rightS S /\ okL S.length L /\ 0 <= n /\ n <= (L.length : Int) then crT S L Q (lastF L n.toNat) n.toNat else []
open Classical in
def errF (S L : List (List V)) (n : Int) : Int := if rightS S /\ okL S.length L /\ 0 <= n /\ n <= (L.length : Int) then 0 else 1
def rowsT (T : List (List UInt8)) : List (List V) := T.map λ t => [V.sstr t]
abbrev boxS (S : List (List V)) : Chunk := .cells [.xs S [.str]] 24 1
abbrev tsL : List Nat := [1, 2, 3]
def leL (b : Bool) (i : Int) : List V := [.ptr 0 0, .bool b, .sint .i64 i]
def lLt (fi : FI) (ds : List DV) (env : Tr V) (hp : Mem) (k : KK) : Prop := atV 22 1 [0] [] fi ds hp λ _ => match pk tsL env, hp.t.get 0 with
 | [some (.ptr 0 0), some (.bool false), some v], some (.cells [.xs S [.str]] ty 1) => match int64 v with
  | some i => (i = 0 /\ ty = 24 /\ S.length <= 1100) /\
    (¬ shortS S -> ∀ i, k .ret [] (ofE (tsL.zip (leL false i))) ⟨1, ofM ([0].zip [boxS S] ++ [].zip []), hp.ro⟩) /\
    (shortS S -> k (.exit 0) [] (ofE (tsL.zip (leL false S.length))) ⟨1, ofM ([0].zip [boxS S] ++ [].zip []), hp.ro⟩)
  | none => False
 | _, _ => False
theorem lt_ok {gv gf gl} : ∀ fi ds env hp k, lLt fi ds env hp k -> TaskOk Tryd.prog ⟨gv, gf, gl⟩ (.code fi (.loop (lp Tryd.prog 4 0)) ds env hp k) := by
 intro fi ds env hp k h
 obtain ⟨rfl, rfl, hn, hlk, rc, hrc, h⟩ := zxo h
 split at h
 ·rename_i v S ty hT g0
  split at h
  ·rename_i i q3
   obtain ⟨⟨rfl, rfl, hl⟩, hk1, hk2⟩ := h
   obtain ⟨n', ht, hro⟩ := hp
   dsimp only at hn hlk hk1 hk2 g0
   subst hn
   refine zxm tsL [0] [0] [] [] 1 (λ x : Nat => leL false x) (λ _ => [some (boxS S)]) (λ x => x <= S.length /\ ∀ j, j < x -> (sS S j).length <= 100) (λ x => S.length - x) 0 ⟨Nat.zero_le _, λ j hj => absurd hj (Nat.not_lt_zero j)⟩ rfl rfl rfl (Nat.le_refl 1) hlk rfl rfl (λ x => rfl) (λ x => rfl) ?_ ⟨⟨_, g0, zqd _⟩, trivial⟩ rfl ?_
   ·rw [hT]
    exact ⟨zqa _, zqa _, zql q3, trivial⟩
   ·rintro x ⟨hx, hall⟩
    refine zqP (gf' := []) (gl' := []) ?_
    refine go_sound (G := nilG) qmix qNG zqx (zqV rfl) (zxl rfl) 200 _ ?_
    refine ⟨trivial, trivial, λ h => ?_, λ h => ?_⟩
    ·have h : (x : Int) < S.length := of_decide_eq_true h
     have e1 : (x : Int).toNat = x := by omega
     have c5 : I64 ((x : Int) + 1) := by unfold I64; omega
     refine ⟨⟨by omega, h⟩, by omega, trivial, trivial, λ g => ?_, λ g => ⟨c5, ?_⟩⟩
     ·have g : (100 : Int) < (sS S (x : Int).toNat).length := of_decide_eq_true g
      rw [e1] at g
      exact ⟨leL false x, [0], [boxS S], Nat.le_refl 1, rfl, rfl, ⟨zqa _, zqa _, zqa _, trivial⟩, ⟨⟨_, rfl, zqd _⟩, trivial⟩, hk1 (λ hh => by have := hh x (by omega); omega) x⟩
     ·have g : ¬ (100 : Int) < (sS S (x : Int).toNat).length := of_decide_eq_false g
      rw [e1] at g
      refine ⟨x + 1, [0], ⟨by omega, λ j hj => ?_⟩, (by omega : S.length - (x + 1) < S.length - x), Nat.le_refl 1, rfl, ⟨zqa _, zqa _, ⟨rfl, by push_cast; rfl⟩, trivial⟩, ⟨_, rfl, zqd _⟩, trivial⟩
      rcases Nat.lt_or_ge j x with hj' | hj'
      ·exact hall j hj'
      ·obtain rfl : j = x := by omega
       omega
    ·have h : ¬ (x : Int) < S.length := of_decide_eq_false h
     obtain rfl : x = S.length := by omega
     exact ⟨leL false S.length, [0], [boxS S], Nat.le_refl 1, rfl, rfl, ⟨zqa _, zqa _, zqa _, trivial⟩, ⟨⟨_, rfl, zqd _⟩, trivial⟩, hk2 hall⟩
  ·exact h.elim
 ·exact h.elim
open Classical in
def dec (p : Prop) : Bool := decide p
open Classical in
theorem dec_t {p : Prop} (h : p) : dec p = true := decide_eq_true h
open Classical in
theorem dec_f {p : Prop} (h : ¬ p) : dec p = false := decide_eq_false h
def lightB (S : List (List V)) : Bool := dec (S.length <= 1100 /\ shortS S)
def sLight (args : List V) (hp : Mem) (k : KE) : Prop := match args with
 | [.agg [.xs S [.str]]] => k (.ret (.sbool (lightB S))) hp
 | _ => False
theorem light_run (S : List (List V)) : TaskOk Tryd.prog ⟨⟨.nil, [], []⟩, [], [(22004, lp Tryd.prog 4 0, lLt)]⟩ (.call 4 [.agg [.xs S [.str]]] nomem λ e _ => retV (.sbool (lightB S)) e) := by
 refine go_sound qmix qNG zqx (zqV rfl) (ls_one rfl lt_ok) 200 _ ?_
 refine ⟨trivial, trivial, λ h => ?_, λ h => ⟨rfl, ⟨rfl, rfl, ?_⟩, λ g i => ?_, λ g => ?_⟩⟩
 ·have h : (1100 : Int) < S.length := of_decide_eq_true h
  show false = _
  exact (dec_f (by omega)).symm
 ·have h : ¬ (1100 : Int) < S.length := of_decide_eq_false h
  omega
 ·show false = _
  exact (dec_f λ hh => g hh.2).symm
 ·have h : ¬ (1100 : Int) < S.length := of_decide_eq_false h
  show true = _
  exact (dec_t ⟨by omega, g⟩).symm
theorem light_ok {gv gf gl} : ∀ args hp k, sLight args hp k -> TaskOk Tryd.prog ⟨gv, gf, gl⟩ (.call 4 args hp k) := by
 intro args hp k h
 unfold sLight at h
 split at h
 ·exact sum_of1 (light_run _) rfl rfl rfl h
 ·exact h.elim
def lRi (fi : FI) (ds : List DV) (env : Tr V) (hp : Mem) (k : KK) : Prop := atV 26 1 [0] [] fi ds hp λ _ => match pk [1, 2, 3, 4] env, hp.t.get 0 with
 | [some (.ptr 0 0), some (.bool false), some v0, some v], some (.cells [.xs S [.str]] ty 1) => match int64 v0, int64 v with
  | some n, some i => (i = 0 /\ ty = 24 /\ S.length <= 1024 /\ n = S.length) /\
    (¬ fullS S -> ∀ i, k .ret [] (ofE ([1, 2, 3, 4].zip [.ptr 0 0, .bool false, .sint .i64 n, .sint .i64 i])) ⟨1, ofM ([0].zip [boxS S] ++ [].zip []), hp.ro⟩) /\
    (fullS S -> k (.exit 0) [] (ofE ([1, 2, 3, 4].zip [.ptr 0 0, .bool false, .sint .i64 n, .sint .i64 S.length])) ⟨1, ofM ([0].zip [boxS S] ++ [].zip []), hp.ro⟩)
  | _, _ => False
 | _, _ => False
theorem ri_ok {gv gf gl} : ∀ fi ds env hp k, lRi fi ds env hp k -> TaskOk Tryd.prog ⟨gv, gf, gl⟩ (.code fi (.loop (lp Tryd.prog 20 0)) ds env hp k) := by
 intro fi ds env hp k h
 obtain ⟨rfl, rfl, hn, hlk, rc, hrc, h⟩ := zxo h
 split at h
 ·rename_i v0 v S ty hT g0
  split at h
  ·rename_i n i q2 q3
   obtain ⟨⟨rfl, rfl, hl, rfl⟩, hk1, hk2⟩ := h
   obtain ⟨n', ht, hro⟩ := hp
   dsimp only at hn hlk hk1 hk2 g0
   subst hn
   refine zxm [1, 2, 3, 4] [0] [0] [] [] 1 (λ x : Nat => [.ptr 0 0, .bool false, .sint .i64 S.length, .sint .i64 x]) (λ _ => [some (boxS S)]) (λ x => x <= S.length /\ ∀ j, j < x -> (sS S j).length = 64) (λ x => S.length - x) 0 ⟨Nat.zero_le _, λ j hj => absurd hj (Nat.not_lt_zero j)⟩ rfl rfl rfl (Nat.le_refl 1) hlk rfl rfl (λ x => rfl) (λ x => rfl) ?_ ⟨⟨_, g0, zqd _⟩, trivial⟩ rfl ?_
   ·rw [hT]
    exact ⟨zqa _, zqa _, zql q2, zql q3, trivial⟩
   ·rintro x ⟨hx, hall⟩
    refine zqP (gf' := []) (gl' := []) ?_
    refine go_sound (G := nilG) qmix qNG zqx (zqV rfl) (zxl rfl) 200 _ ?_
    refine ⟨trivial, λ h => ?_, λ h => ?_⟩
    ·have h : (x : Int) < S.length := of_decide_eq_true h
     have e1 : (x : Int).toNat = x := by omega
     have c5 : I64 ((x : Int) + 1) := by unfold I64; omega
     refine ⟨⟨by omega, h⟩, by omega, trivial, trivial, λ g => ?_, λ g => ⟨c5, ?_⟩⟩
     ·have g : ¬ ((sS S (x : Int).toNat).length : Int) = 64 := nT g
      rw [e1] at g
      exact ⟨[.ptr 0 0, .bool false, .sint .i64 S.length, .sint .i64 x], [0], [boxS S], Nat.le_refl 1, rfl, rfl, ⟨zqa _, zqa _, zqa _, zqa _, trivial⟩, ⟨⟨_, rfl, zqd _⟩, trivial⟩, hk1 (λ hh => by have := hh x (by omega); omega) x⟩
     ·have g : ((sS S (x : Int).toNat).length : Int) = 64 := nF g
      rw [e1] at g
      refine ⟨x + 1, [0], ⟨by omega, λ j hj => ?_⟩, (by omega : S.length - (x + 1) < S.length - x), Nat.le_refl 1, rfl, ⟨zqa _, zqa _, zqa _, ⟨rfl, by push_cast; rfl⟩, trivial⟩, ⟨_, rfl, zqd _⟩, trivial⟩
      rcases Nat.lt_or_ge j x with hj' | hj'
      ·exact hall j hj'
      ·obtain rfl : j = x := by omega
       omega
    ·have h : ¬ (x : Int) < S.length := of_decide_eq_false h
     obtain rfl : x = S.length := by omega
     exact ⟨[.ptr 0 0, .bool false, .sint .i64 S.length, .sint .i64 S.length], [0], [boxS S], Nat.le_refl 1, rfl, rfl, ⟨zqa _, zqa _, zqa _, zqa _, trivial⟩, ⟨⟨_, rfl, zqd _⟩, trivial⟩, hk2 hall⟩
  ·exact h.elim
 ·exact h.elim
def rightB (S : List (List V)) : Bool := dec (rightS S)
def sRight (args : List V) (hp : Mem) (k : KE) : Prop := match args with
 | [.agg [.xs S [.str]]] => k (.ret (.sbool (rightB S))) hp
 | _ => False
theorem right_run (S : List (List V)) : TaskOk Tryd.prog ⟨⟨.nil, [], []⟩, [], [(26005, lp Tryd.prog 20 0, lRi)]⟩ (.call 20 [.agg [.xs S [.str]]] nomem λ e _ => retV (.sbool (rightB S)) e) := by
 refine go_sound qmix qNG zqx (zqV rfl) (ls_one rfl ri_ok) 200 _ ?_
 have no : ¬ rightS S -> vle (.bool false) (.sbool (rightB S)) := λ h => by
  show false = _
  exact (dec_f h).symm
 refine ⟨trivial, trivial, λ h => ?_, λ h => ⟨trivial, λ h2 => ?_, λ h2 => ⟨rfl, ⟨rfl, rfl, ?_, rfl⟩, λ g i => ?_, λ g => ?_⟩⟩⟩
 ·have h : (S.length : Int) < 8 := of_decide_eq_true h
  exact no λ hh => by have := hh.1; omega
 ·have h2 : (1024 : Int) < S.length := of_decide_eq_true h2
  exact no λ hh => by have := hh.1; omega
 ·have h2 : ¬ (1024 : Int) < S.length := of_decide_eq_false h2
  omega
 ·exact no λ hh => g hh.2
 ·have h : ¬ (S.length : Int) < 8 := of_decide_eq_false h
  have h2 : ¬ (1024 : Int) < S.length := of_decide_eq_false h2
  exact (dec_t ⟨by omega, g⟩).symm
theorem right_ok {gv gf gl} : ∀ args hp k, sRight args hp k -> TaskOk Tryd.prog ⟨gv, gf, gl⟩ (.call 20 args hp k) := by
 intro args hp k h
 unfold sRight at h
 split at h
 ·exact sum_of1 (right_run _) rfl rfl rfl h
 ·exact h.elim
end
end Go.Proofs.YteajbfgkllmjhaaDoor
set_option maxRecDepth 100000
set_option maxHeartbeats 4000000
namespace Go.Proofs.YteajbfgkllmjhaaDoor
open Go Go.Z Go.Q
open Go.Y hiding KE KK KR go Task go_sound
noncomputable section
variable [Ext]
def sh64 : List Sh := [.int .u8, .int .u8, .int .u8, .int .u8, .int .u8, .int .u8, .int .u8, .int .u8, .int .u8, .int .u8, .int .u8, .int .u8, .int .u8, .int .u8, .int .u8, .int .u8, .int .u8, .int .u8, .int .u8, .int .u8, .int .u8, .int .u8, .int .u8, .int .u8, .int .u8, .int .u8, .int .u8, .int .u8, .int .u8, .int .u8, .int .u8, .int .u8, .int .u8, .int .u8, .int .u8, .int .u8, .int .u8, .int .u8, .int .u8, .int .u8, .int .u8, .int .u8, .int .u8, .int .u8, .int .u8, .int .u8, .int .u8, .int .u8, .int .u8, .int .u8, .int .u8, .int .u8, .int .u8, .int .u8, .int .u8, .int .u8, .int .u8, .int .u8, .int .u8, .int .u8, .int .u8, .int .u8, .int .u8, .int .u8]
def rowB (t : List UInt8) : List V := arrF t 64 0
abbrev rowsC (T : List (List UInt8)) : Chunk := .rows (T.map rowB) sh64 57
theorem sh64_all : allU8 sh64 = true := rfl
theorem arrF_len (t : List UInt8) : ∀ n j, (arrF t n j).length = n
 | 0, _ => rfl
 | n + 1, j => by simp only [arrF, List.length_cons, arrF_len t n]
theorem arrF_mem (t : List UInt8) : ∀ n j v, v ∈ arrF t n j -> ∃ c : UInt8, v = .sint .u8 (c.toNat : Int)
 | 0, _, v, h => by cases h
 | n + 1, j, v, h => by
  rcases List.mem_cons.1 h with rfl | h
  ·exact ⟨_, rfl⟩
  ·exact arrF_mem t n (j + 1) v h
theorem rowB_sh (t : List UInt8) : shR sh64 (rowB t) := (zkj sh64_all).2 ⟨by rw [rowB, arrF_len]; rfl, λ v hv => by
 obtain ⟨c, rfl⟩ := arrF_mem t 64 0 v hv
 exact ⟨_, .inl rfl⟩⟩
theorem T0_len (S : List (List V)) : (T0 S).length = S.length := by unfold T0; rw [List.length_map]
theorem T0_take {S : List (List V)} {x : Nat} (h : x < S.length) : ((T0 S).take (x + 1)).map rowB = ((T0 S).take x).map rowB ++ [rowB (sS S x)] := by
 unfold T0 sS
 rw [List.take_add_one, List.getElem?_map, List.getElem?_eq_getElem h, List.getD_eq_getElem?_getD (l := S), List.getElem?_eq_getElem h]
 simp
abbrev tsM : List Nat := [2, 3, 4, 18, 19, 20]
def outV : Nat -> V
 | 0 => .nils
 | x + 1 => .ssl 3 0 (x + 1) 64
def outC (S : List (List V)) : Nat -> Option Chunk
 | 0 => none
 | x + 1 => some (rowsC ((T0 S).take (x + 1)))
def leM (w : V) (S : List (List V)) (n i : Int) : List V := [.nils, .bool false, w, .xs S [.str], .sint .i64 n, .sint .i64 i]
def lMd (fi : FI) (ds : List DV) (env : Tr V) (hp : Mem) (k : KK) : Prop := atV 36 3 [3] [1] fi ds hp λ rc => match pk tsM env with
 | [some .nils, some (.bool false), some .nils, some (.xs S [.str]), some v2, some v3] => match int64 v2, int64 v3 with
  | some n, some i => (i = 0 /\ n = S.length /\ 8 <= S.length /\ S.length <= 1024) /\
    (¬ fullS S -> ∀ (w : V) (i : Int), k .ret [] (ofE (tsM.zip (leM w S n i))) ⟨4, ofM ([].zip [] ++ [1].zip rc), hp.ro⟩) /\
    (fullS S -> k (.exit 0) [] (ofE (tsM.zip (leM (.ssl 3 0 S.length 64) S n n))) ⟨4, ofM ([3].zip [rowsC (T0 S)] ++ [1].zip rc), hp.ro⟩)
  | _, _ => False
 | _ => False
theorem md_ok {gv gf gl} : ∀ fi ds env hp k, lMd fi ds env hp k -> TaskOk Tryd.prog ⟨gv, gf, gl⟩ (.code fi (.loop (lp Tryd.prog 18 0)) ds env hp k) := by
 intro fi ds env hp k h
 obtain ⟨rfl, rfl, hn, hlk, rc, hrc, h⟩ := zxo h
 split at h
 ·rename_i S v2 v3 hT
  split at h
  ·rename_i n i q2 q3
   obtain ⟨⟨rfl, rfl, hl8, hl⟩, hk1, hk2⟩ := h
   obtain ⟨n', ht, hro⟩ := hp
   dsimp only at hn hlk hrc hk1 hk2
   subst hn
   refine zxm tsM [3] [3, 4, 5, 6, 7, 8] [1] rc 4 (λ x : Nat => leM (outV x) S S.length x) (λ x => [outC S x]) (λ x => x <= S.length /\ ∀ j, j < x -> (sS S j).length = 64) (λ x => S.length - x) 0 ⟨Nat.zero_le _, λ j hj => absurd hj (Nat.not_lt_zero j)⟩ rfl rfl rfl (Nat.le_succ 3) hlk rfl rfl (λ x => by cases x <;> rfl) (λ x => by cases x <;> rfl) ?_ trivial hrc ?_
   ·rw [hT]
    exact ⟨zqa _, zqa _, zqa _, zqa _, zql q2, zql q3, trivial⟩
   ·rintro x ⟨hx, hall⟩
    have nxt : x < S.length -> (sS S x).length = 64 -> ∀ j, j < x + 1 -> (sS S j).length = 64 := λ h1 h2 j hj => by
     rcases Nat.lt_or_ge j x with hj' | hj'
     ·exact hall j hj'
     ·obtain rfl : j = x := by omega
      exact h2
    have e1 : (x : Int).toNat = x := by omega
    refine zqP (gf' := []) (gl' := []) ?_
    refine go_sound (G := nilG) qmix qNG zqx (zqV rfl) (zxl rfl) 200 _ ?_
    cases x with
    | zero =>
     refine ⟨trivial, λ h => ?_, λ h => ?_⟩
     ·refine ⟨⟨by omega, by omega⟩, by omega, trivial, trivial, λ g => ?_, λ g => ?_⟩
      ·have g : ¬ ((sS S ((0 : Nat) : Int).toNat).length : Int) = 64 := nT g
       exact ⟨leM .nils S S.length (0 : Nat), [], [], Nat.le_refl 4, rfl, rfl, ⟨zqa _, zqa _, zqa _, zqa _, zqa _, zqa _, trivial⟩, trivial, hk1 (λ hh => by have := hh 0 (by omega); rw [e1] at g; omega) _ _⟩
      ·have g : ((sS S ((0 : Nat) : Int).toNat).length : Int) = 64 := nF g
       rw [e1] at g
       have g' : (sS S 0).length = 64 := by omega
       refine ⟨λ _ => ⟨trivial, ⟨?_, ?_⟩, ⟨?_, ?_⟩, ⟨by decide, by decide⟩, ?_⟩, λ h5 => ⟨trivial, ?_⟩⟩
       ·exact Nat.le_of_eq g'.symm
       ·exact Nat.lt_of_lt_of_le (by decide) (Nat.le_of_eq g'.symm)
       ·exact Nat.le_of_eq g'.symm
       ·exact Nat.lt_of_lt_of_le (by decide) (Nat.le_of_eq g'.symm)
       ·refine ⟨1, [6], ⟨by omega, nxt (by omega) g'⟩, (by omega : S.length - 1 < S.length - 0), (by show 4 <= 7; decide), rfl, ⟨zqa _, zqa _, ⟨rfl, rfl, rfl, rfl⟩, zqa _, zqa _, ⟨rfl, rfl⟩, trivial⟩, ⟨_, rfl, ?_⟩, trivial⟩
        show chle _ (rowsC ((T0 S).take (0 + 1)))
        unfold rowsC
        rw [T0_take (by omega)]
        refine ⟨rfl, rfl, λ r hr => ?_, zjK _⟩
        rw [List.mem_singleton.1 hr]; exact rowB_sh _
       ·have h5 : ¬ 0 < (sS S ((0 : Nat) : Int).toNat).length := of_decide_eq_false h5
        rw [e1] at h5; omega
     ·have h : ¬ ((0 : Nat) : Int) < S.length := of_decide_eq_false h
      omega
    | succ x =>
     refine ⟨trivial, λ h => ?_, λ h => ?_⟩
     ·have h : ((x + 1 : Nat) : Int) < S.length := of_decide_eq_true h
      have c5 : I64 (((x + 1 : Nat) : Int) + 1) := by unfold I64; omega
      refine ⟨⟨by omega, h⟩, by omega, trivial, trivial, λ g => ?_, λ g => ?_⟩
      ·have g : ¬ ((sS S ((x + 1 : Nat) : Int).toNat).length : Int) = 64 := nT g
       exact ⟨leM (.ssl 3 0 (x + 1) 64) S S.length (x + 1 : Nat), [], [], Nat.le_refl 4, rfl, rfl, ⟨zqa _, zqa _, zqa _, zqa _, zqa _, zqa _, trivial⟩, trivial, hk1 (λ hh => by have := hh (x + 1) (by omega); rw [e1] at g; omega) _ _⟩
      ·have g : ((sS S ((x + 1 : Nat) : Int).toNat).length : Int) = 64 := nF g
       rw [e1] at g
       have g' : (sS S (x + 1)).length = 64 := by omega
       have g2 : (sS S ((x + 1 : Nat) : Int).toNat).length = 64 := by rw [e1]; exact g'
       have hlen : (((T0 S).take (x + 1)).map rowB).length = x + 1 := by rw [List.length_map, List.length_take, T0_len]; omega
       refine ⟨λ _ => ⟨trivial, ⟨?_, ?_⟩, ⟨?_, ?_⟩, ⟨⟨by omega, ?_⟩, trivial, (by show (x + 1 + 1) * 64 <= 140737488355328; omega), by omega⟩, c5, ?_⟩, λ h5 => ⟨trivial, ?_⟩⟩
       ·exact Nat.le_of_eq g2.symm
       ·exact Nat.lt_of_lt_of_le (by decide) (Nat.le_of_eq g2.symm)
       ·exact Nat.le_of_eq g2.symm
       ·exact Nat.lt_of_lt_of_le (by decide) (Nat.le_of_eq g2.symm)
       ·exact Nat.le_of_eq hlen.symm
       ·refine ⟨x + 2, [6], ⟨by omega, nxt (by omega) g'⟩, (by omega : S.length - (x + 2) < S.length - (x + 1)), (by show 4 <= 7; decide), rfl, ⟨zqa _, zqa _, zqa _, zqa _, zqa _, ⟨rfl, by push_cast; omega⟩, trivial⟩, ⟨_, rfl, ?_⟩, trivial⟩
        show chle (.rows ((((T0 S).take (x + 1)).map rowB).take (x + 1) ++ [rowB (sS S ((x + 1 : Nat) : Int).toNat)]) sh64 _) (rowsC ((T0 S).take (x + 1 + 1)))
        rw [e1, List.take_of_length_le (Nat.le_of_eq hlen)]
        unfold rowsC
        rw [T0_take (x := x + 1) (by omega)]
        exact zqd _
       ·have h5 : ¬ 0 < (sS S ((x + 1 : Nat) : Int).toNat).length := of_decide_eq_false h5
        omega
     ·have h : ¬ ((x + 1 : Nat) : Int) < S.length := of_decide_eq_false h
      have e : S.length = x + 1 := by omega
      have et : (T0 S).take (x + 1) = T0 S := List.take_of_length_le (by rw [T0_len]; omega)
      have hf : fullS S := λ j hj => hall j (by omega)
      have hk := hk2 hf
      rw [e] at hk
      refine ⟨leM (.ssl 3 0 (x + 1) 64) S (x + 1 : Nat) (x + 1 : Nat), [3], [rowsC (T0 S)], Nat.le_refl 4, rfl, rfl, ⟨zqa _, zqa _, zqa _, zqa _, ⟨rfl, by rw [e]⟩, zqa _, trivial⟩, ⟨⟨_, rfl, ?_⟩, trivial⟩, hk⟩
      rw [et]
      exact zqd _
  ·exact h.elim
 ·exact h.elim
end
end Go.Proofs.YteajbfgkllmjhaaDoor
set_option maxRecDepth 100000
set_option maxHeartbeats 4000000
namespace Go.Proofs.YteajbfgkllmjhaaDoor
open Go Go.Z Go.Q
open Go.Y hiding KE KK KR go Task go_sound
noncomputable section
variable [Ext]
abbrev shE : List Sh := [.int .i64, .str]
abbrev shB : List Sh := [.int .u8]
abbrev nilD : Chunk := .cells [.nils] 24 1
abbrev tsE : List Nat := [1, 2, 3, 8, 10, 30, 31, 32]
def leE (L : List (List V)) (n : Int) (Q : List (List V)) (m : Nat) (i : Int) : List V := [.xs L shE, .sint .i64 n, .xs Q shB, .ptr 1 0, .ssl 3 0 m 64, .xs L shE, .sint .i64 L.length, .sint .i64 i]
def lEv (fi : FI) (ds : List DV) (env : Tr V) (hp : Mem) (k : KK) : Prop := atV 139 4 [1] [3] fi ds hp λ rc => match pk (9 :: tsE) env, hp.t.get 1 with
 | [some (.int .i64 (.ofNat 0)), some (.xs L [.int .i64, .str]), some v1, some (.xs Q [.int .u8]), some (.ptr 1 0), some (.ssl 3 0 m 64), some (.xs L2 [.int .i64, .str]), some v6, some v7], some (.cells [.nils] ty 1) => match int64 v1, int64 v6, int64 v7 with
  | some n, some c, some i => (i = 0 /\ c = L.length /\ L2 = L /\ ty = 24 /\ L.length <= 100) /\
    (¬ okL m L -> ∀ i, k .ret [] (ofE ((9 :: tsE).zip (.int .i64 1 :: leE L n Q m i))) ⟨5, ofM ([1].zip [nilD] ++ [3].zip rc), hp.ro⟩) /\
    (okL m L -> k (.exit 0) [] (ofE ((9 :: tsE).zip (.int .i64 0 :: leE L n Q m L.length))) ⟨4, ofM ([1].zip [nilD] ++ [3].zip rc), hp.ro⟩)
  | _, _, _ => False
 | _, _ => False
theorem ev_ok {gv gf gl} : ∀ fi ds env hp k, lEv fi ds env hp k -> TaskOk Tryd.prog ⟨gv, gf, gl⟩ (.code fi (.loop (lp Tryd.prog 6 0)) ds env hp k) := by
 intro fi ds env hp k h
 obtain ⟨rfl, rfl, hn, hlk, rc, hrc, h⟩ := zxo h
 split at h
 ·rename_i L v1 Q m L2 v6 v7 ty hT g0
  split at h
  ·rename_i n c i q1 q6 q7
   obtain ⟨⟨rfl, rfl, rfl, rfl, hl⟩, hk1, hk2⟩ := h
   obtain ⟨n', ht, hro⟩ := hp
   dsimp only at hn hlk hrc hk1 hk2 g0
   subst hn
   refine zxm (9 :: tsE) [1] [1] [3] rc 4 (λ x : Nat => .int .i64 0 :: leE L2 n Q m x) (λ _ => [some nilD]) (λ x => x <= L2.length /\ ∀ j, j < x -> okE m L2 j) (λ x => L2.length - x) 0 ⟨Nat.zero_le _, λ j hj => absurd hj (Nat.not_lt_zero j)⟩ rfl rfl rfl (Nat.le_refl 4) hlk rfl rfl (λ x => rfl) (λ x => rfl) ?_ ⟨⟨_, g0, zqd _⟩, trivial⟩ hrc ?_
   ·rw [hT]
    exact ⟨zqa _, zqa _, zql q1, zqa _, zqa _, zqa _, zqa _, zql q6, zql q7, trivial⟩
   ·rintro x ⟨hx, hall⟩
    have e1 : (x : Int).toNat = x := by omega
    refine zqP (gf' := []) (gl' := []) ?_
    refine go_sound (G := nilG) qmix qNG zqx (zqV rfl) (zxl rfl) 200 _ ?_
    have ret : x < L2.length -> ¬ okE m L2 x -> rMv hro (9 :: tsE) [1] [1] [3] rc (λ x : Nat => .int .i64 0 :: leE L2 n Q m x) (λ _ => [some nilD]) 4 4 (λ x => x <= L2.length /\ ∀ j, j < x -> okE m L2 j) (λ x => L2.length - x) k x .ret
      ((.int .i64 1 :: leE L2 n Q m x).map some) 5 [some nilD] := λ h1 h2 =>
     ⟨.int .i64 1 :: leE L2 n Q m x, [1], [nilD], by decide, rfl, rfl, ⟨zqa _, zqa _, zqa _, zqa _, zqa _, zqa _, zqa _, zqa _, zqa _, trivial⟩, ⟨⟨_, rfl, zqd _⟩, trivial⟩, hk1 (λ hh => h2 (hh x h1)) x⟩
    have nxt : x < L2.length -> okE m L2 x -> rMv hro (9 :: tsE) [1] [1] [3] rc (λ x : Nat => .int .i64 0 :: leE L2 n Q m x) (λ _ => [some nilD]) 4 4 (λ x => x <= L2.length /\ ∀ j, j < x -> okE m L2 j) (λ x => L2.length - x) k x .normal
      ((.int .i64 0 :: leE L2 n Q m ((x : Int) + 1)).map some) 5 [some nilD] := λ h1 h2 => by
     refine ⟨x + 1, [1], ⟨by omega, λ j hj => ?_⟩, (by omega : L2.length - (x + 1) < L2.length - x), by decide, rfl, ⟨zqa _, zqa _, zqa _, zqa _, zqa _, zqa _, zqa _, zqa _, ⟨rfl, by push_cast; rfl⟩, trivial⟩, ⟨_, rfl, zqd _⟩, trivial⟩
     rcases Nat.lt_or_ge j x with hj' | hj'
     ·exact hall j hj'
     ·obtain rfl : j = x := by omega
      exact h2
    refine ⟨trivial, λ h => ?_, λ h => ?_⟩
    ·have h : (x : Int) < L2.length := of_decide_eq_true h
     have hx' : x < L2.length := by omega
     have c5 : I64 ((x : Int) + 1) := by unfold I64; omega
     -- the way on where it is no write
     have rest : ∀ {p1 p2 : Bool}, (p1 = (!decide (eW L2 (x : Int).toNat = -1))) -> (p2 = (!decide (eD L2 (x : Int).toNat = []))) -> ¬ (0 <= eW L2 x /\ eW L2 x < m /\ (eD L2 x).length = 64) -> (p1 = true -> ¬ okE m L2 x) /\ (p1 = false -> p2 = true -> ¬ okE m L2 x) /\ (p1 = false -> p2 = false -> okE m L2 x) := by
      intro p1 p2 e2 e3 hw
      rw [e1] at e2 e3
      subst e2 e3
      refine ⟨λ g hh => ?_, λ g g2 hh => ?_, λ g g2 => .inr ⟨nF g, nF g2⟩⟩
      ·rcases hh with hh | hh
       ·exact hw hh
       ·exact nT g hh.1
      ·rcases hh with hh | hh
       ·exact hw hh
       ·exact nT g2 hh.2
     refine ⟨⟨by omega, h⟩, by omega, trivial, λ h2 => ⟨trivial, trivial, λ h3 => ⟨trivial, trivial, λ h4 => ⟨c5, ?_⟩, λ h5 => ⟨trivial, λ h6 => ?_, λ h7 => ⟨trivial, λ h8 => ?_, λ h9 => ⟨c5, ?_⟩⟩⟩⟩, λ h10 => ⟨trivial, λ h11 => ?_, λ h12 => ⟨trivial, λ h13 => ?_, λ h14 => ⟨c5, ?_⟩⟩⟩⟩, λ h15 => ⟨trivial, λ h16 => ?_, λ h17 => ⟨trivial, λ h18 => ?_, λ h19 => ⟨c5, ?_⟩⟩⟩⟩
     ·have h2 : 0 <= eW L2 (x : Int).toNat := of_decide_eq_true h2
      have h3 : eW L2 (x : Int).toNat < m := of_decide_eq_true h3
      have h4 : ((eD L2 (x : Int).toNat).length : Int) = 64 := of_decide_eq_true h4
      rw [e1] at h2 h3 h4
      exact nxt hx' (.inl ⟨h2, h3, by omega⟩)
     ·have h5 : ¬ ((eD L2 (x : Int).toNat).length : Int) = 64 := of_decide_eq_false h5
      rw [e1] at h5
      exact ret hx' ((rest rfl rfl (λ hh => h5 (by omega))).1 h6)
     ·have h5 : ¬ ((eD L2 (x : Int).toNat).length : Int) = 64 := of_decide_eq_false h5
      rw [e1] at h5
      exact ret hx' ((rest rfl rfl (λ hh => h5 (by omega))).2.1 h7 h8)
     ·have h5 : ¬ ((eD L2 (x : Int).toNat).length : Int) = 64 := of_decide_eq_false h5
      rw [e1] at h5
      exact nxt hx' ((rest rfl rfl (λ hh => h5 (by omega))).2.2 h7 h9)
     ·have h10 : ¬ eW L2 (x : Int).toNat < m := of_decide_eq_false h10
      rw [e1] at h10
      exact ret hx' ((rest rfl rfl (λ hh => h10 (by omega))).1 h11)
     ·have h10 : ¬ eW L2 (x : Int).toNat < m := of_decide_eq_false h10
      rw [e1] at h10
      exact ret hx' ((rest rfl rfl (λ hh => h10 (by omega))).2.1 h12 h13)
     ·have h10 : ¬ eW L2 (x : Int).toNat < m := of_decide_eq_false h10
      rw [e1] at h10
      exact nxt hx' ((rest rfl rfl (λ hh => h10 (by omega))).2.2 h12 h14)
     ·have h15 : ¬ 0 <= eW L2 (x : Int).toNat := of_decide_eq_false h15
      rw [e1] at h15
      exact ret hx' ((rest rfl rfl (λ hh => h15 (by omega))).1 h16)
     ·have h15 : ¬ 0 <= eW L2 (x : Int).toNat := of_decide_eq_false h15
      rw [e1] at h15
      exact ret hx' ((rest rfl rfl (λ hh => h15 (by omega))).2.1 h17 h18)
     ·have h15 : ¬ 0 <= eW L2 (x : Int).toNat := of_decide_eq_false h15
      rw [e1] at h15
      exact nxt hx' ((rest rfl rfl (λ hh => h15 (by omega))).2.2 h17 h19)
    ·have h : ¬ (x : Int) < L2.length := of_decide_eq_false h
     obtain rfl : x = L2.length := by omega
     exact ⟨.int .i64 0 :: leE L2 n Q m L2.length, [1], [nilD], Nat.le_refl 4, rfl, rfl, ⟨zqa _, zqa _, zqa _, zqa _, zqa _, zqa _, zqa _, zqa _, zqa _, trivial⟩, ⟨⟨_, rfl, zqd _⟩, trivial⟩, hk2 hall⟩
  ·exact h.elim
 ·exact h.elim
abbrev tsW : List Nat := [1, 2, 3, 8, 10, 15, 77, 78, 79]
def leW (L : List (List V)) (n : Int) (Q : List (List V)) (m : Nat) (X : List (List V)) (w i : Int) : List V := [.xs L shE, .sint .i64 n, .xs Q shB, .ptr 1 0, .ssl 3 0 m 64, .sint .i64 w, .xs X shE, .sint .i64 X.length, .sint .i64 i]
def lLa (fi : FI) (ds : List DV) (env : Tr V) (hp : Mem) (k : KK) : Prop := atV 139 4 [] [1, 3] fi ds hp λ rc => match pk tsW env with
 | [some (.xs L [.int .i64, .str]), some v1, some (.xs Q [.int .u8]), some (.ptr 1 0), some (.ssl 3 0 m 64), some v5, some (.xs X [.int .i64, .str]), some v7, some v8] => match int64 v1, int64 v5, int64 v7, int64 v8 with
  | some n, some w, some c, some i => (i = 0 /\ w = -1 /\ c = X.length /\ X.length <= 100) /\
    k (.exit 2) [] (ofE (tsW.zip (leW L n Q m X ((lastF X X.length : Nat) - 1) X.length))) ⟨4, ofM ([].zip [] ++ [1, 3].zip rc), hp.ro⟩
  | _, _, _, _ => False
 | _ => False
theorem la_ok {gv gf gl} : ∀ fi ds env hp k, lLa fi ds env hp k -> TaskOk Tryd.prog ⟨gv, gf, gl⟩ (.code fi (.loop (lp Tryd.prog 6 1)) ds env hp k) := by
 intro fi ds env hp k h
 obtain ⟨rfl, rfl, hn, hlk, rc, hrc, h⟩ := zxo h
 split at h
 ·rename_i L v1 Q m v5 X v7 v8 hT
  split at h
  ·rename_i n w c i q1 q5 q7 q8
   obtain ⟨⟨rfl, rfl, rfl, hl⟩, hk⟩ := h
   obtain ⟨n', ht, hro⟩ := hp
   dsimp only at hn hlk hrc hk
   subst hn
   refine zxm tsW [] [] [1, 3] rc 4 (λ x : Nat => leW L n Q m X ((lastF X x : Nat) - 1) x) (λ _ => []) (λ x => x <= X.length) (λ x => X.length - x) 0 (Nat.zero_le _) rfl rfl rfl (Nat.le_refl 4) hlk rfl rfl (λ x => rfl) (λ x => rfl) ?_ trivial hrc ?_
   ·rw [hT]
    exact ⟨zqa _, zql q1, zqa _, zqa _, zqa _, zql q5, zqa _, zql q7, zql q8, trivial⟩
   ·intro x hx
    have hx : x <= X.length := hx
    have e1 : (x : Int).toNat = x := by omega
    refine zqP (gf' := []) (gl' := []) ?_
    refine go_sound (G := nilG) qmix qNG zqx (zqV rfl) (zxl rfl) 200 _ ?_
    refine ⟨trivial, λ h => ?_, λ h => ?_⟩
    ·have h : (x : Int) < X.length := of_decide_eq_true h
     have c5 : I64 ((x : Int) + 1) := by unfold I64; omega
     refine ⟨⟨by omega, h⟩, by omega, trivial, λ g => ⟨c5, ?_⟩, λ g => ⟨c5, ?_⟩⟩
     ·have g : eW X (x : Int).toNat = -1 := of_decide_eq_true g
      rw [e1] at g
      refine ⟨x + 1, [], (by show x + 1 <= X.length; omega), (by omega : X.length - (x + 1) < X.length - x), (by show 4 <= 5; decide), rfl, ⟨zqa _, zqa _, zqa _, zqa _, zqa _, ⟨rfl, ?_⟩, zqa _, zqa _, ⟨rfl, by push_cast; rfl⟩, trivial⟩, trivial⟩
      show (x : Int) = ((lastF X (x + 1) : Nat) : Int) - 1
      simp only [lastF, if_pos g]
      omega
     ·have g : ¬ eW X (x : Int).toNat = -1 := of_decide_eq_false g
      rw [e1] at g
      refine ⟨x + 1, [], (by show x + 1 <= X.length; omega), (by omega : X.length - (x + 1) < X.length - x), (by show 4 <= 5; decide), rfl, ⟨zqa _, zqa _, zqa _, zqa _, zqa _, ⟨rfl, ?_⟩, zqa _, zqa _, ⟨rfl, by push_cast; rfl⟩, trivial⟩, trivial⟩
      show ((lastF X x : Nat) : Int) - 1 = ((lastF X (x + 1) : Nat) : Int) - 1
      simp only [lastF, if_neg g]
    ·have h : ¬ (x : Int) < X.length := of_decide_eq_false h
     obtain rfl : x = X.length := by omega
     exact ⟨leW L n Q m X ((lastF X X.length : Nat) - 1) X.length, [], [], Nat.le_refl 4, rfl, rfl, ⟨zqa _, zqa _, zqa _, zqa _, zqa _, zqa _, zqa _, zqa _, zqa _, trivial⟩, trivial, hk⟩
  ·exact h.elim
 ·exact h.elim
theorem byR_arr {t : List UInt8} (h : t.length = 64) : rowB t = byR t := by
 unfold rowB byR
 refine List.ext_getElem? λ i => ?_
 have key : ∀ n j i, i < n -> (arrF t n j)[i]? = some (.sint .u8 ((t.getD (j + i) 0).toNat : Int)) := by
  intro n
  induction n with
  | zero => intro j i hi; omega
  | succ n ih =>
   intro j i hi
   cases i with
   | zero => rfl
   | succ i =>
    rw [arrF, List.getElem?_cons_succ, ih (j + 1) i (by omega)]
    congr 5; omega
 rcases Nat.lt_or_ge i 64 with hi | hi
 ·rw [key 64 0 i hi, List.getElem?_map, List.getElem?_eq_getElem (by omega), List.getD_eq_getElem?_getD, Nat.zero_add, List.getElem?_eq_getElem (by omega)]
  rfl
 ·rw [List.getElem?_eq_none (by rw [arrF_len]; omega), List.getElem?_eq_none (by rw [List.length_map]; omega)]
theorem over_row {t d : List UInt8} {k : Nat} (ht : t.length = 64) (hd : d.length = 64) (hk : k <= 64) : overR (rowB t) d k = rowB (d.take k ++ t.drop k) := by
 have hl : (d.take k ++ t.drop k).length = 64 := by rw [List.length_append, List.length_take, List.length_drop]; omega
 rw [byR_arr hl, byR_arr ht]
 have hm : Nat.min d.length k = k := by rw [hd]; exact Nat.min_eq_right hk
 unfold overR byR
 rw [hm, List.map_append, List.map_drop]
def all64 (T : List (List UInt8)) : Prop := ∀ t ∈ T, t.length = 64
theorem step_64 {T : List (List UInt8)} {w : Nat} {d : List UInt8} {k : Nat} (hT : all64 T) (hw : w < T.length) (hd : d.length = 64) (hk : k <= 64) : all64 (stepT T w d k) /\ (stepT T w d k).length = T.length := by
 unfold stepT
 refine ⟨λ t ht => ?_, by rw [List.length_set]⟩
 rcases List.mem_or_eq_of_mem_set ht with ht | rfl
 ·exact hT t ht
 ·have hg : (T.getD w []).length = 64 := by
   rw [List.getD_eq_getElem?_getD, List.getElem?_eq_getElem hw]
   exact hT _ (List.getElem_mem hw)
  rw [List.length_append, List.length_take, List.length_drop]; omega
theorem many_le {Q : List (List V)} {b i : Nat} : manyF Q b i <= 64 := by
 unfold manyF
 split
 ·have := Nat.mod_lt (pB Q (i - b)).toNat (show 0 < 65 by decide)
  omega
 ·exact Nat.le_refl _
theorem cr_64 {S X Q : List (List V)} {b : Nat} (hS : fullS S) (hX : okL S.length X) : ∀ x, x <= X.length -> all64 (crT S X Q b x) /\ (crT S X Q b x).length = S.length
 | 0, _ => ⟨λ t ht => by
   obtain ⟨r, hr, rfl⟩ := List.mem_map.1 (show t ∈ T0 S from ht)
   obtain ⟨i, hi, rfl⟩ := List.mem_iff_getElem.1 hr
   have := hS i hi
   unfold sS at this
   rw [show S.getD i [] = S[i] by rw [List.getD_eq_getElem?_getD, List.getElem?_eq_getElem hi]; rfl] at this
   exact this, T0_len S⟩
 | x + 1, h => by
  obtain ⟨h1, h2⟩ := cr_64 hS hX x (by omega)
  have hx := hX x (by omega)
  simp only [crT]
  split
  ·exact ⟨h1, h2⟩
  ·rename_i hne
   rcases hx with hx | hx
   ·have := step_64 (k := manyF Q b x) h1 (w := (eW X x).toNat) (by rw [h2]; omega) hx.2.2 many_le
    exact ⟨this.1, by rw [this.2, h2]⟩
   ·exact absurd hx.1 hne
theorem row_set {T : List (List UInt8)} {w : Nat} {d : List UInt8} {k : Nat} (hT : all64 T) (hw : w < T.length) (hd : d.length = 64) (hk : k <= 64) : (T.map rowB).set w (overR ((T.map rowB).getD w []) d k) = (stepT T w d k).map rowB := by
 have hg : (T.map rowB).getD w [] = rowB (T.getD w []) := by
  rw [getD_map hw, List.getD_eq_getElem?_getD, List.getElem?_eq_getElem hw]; rfl
 have h64 : (T.getD w []).length = 64 := by
  rw [List.getD_eq_getElem?_getD, List.getElem?_eq_getElem hw]
  exact hT _ (List.getElem_mem hw)
 rw [hg, over_row h64 hd hk]
 unfold stepT
 rw [List.map_set]
end
end Go.Proofs.YteajbfgkllmjhaaDoor
