/- lex.Keys, lex.Signs: their contracts. -/
import Derived.Test.YtekioipmhhcbhaaGreatDoorKn
import Derived.Test.YtekioipmhhcbhaaGreatDoorKk
set_option linter.unusedVariables false
set_option linter.unusedSectionVars false
set_option linter.unusedSimpArgs false
set_option maxRecDepth 100000
namespace Go.Proofs.YtekioipmhhcbhaaGreatDoor
open Go Go.Z Go.Q Go.W6
open Go.Y hiding KE KK KR go Task go_sound
noncomputable section
variable [Ext]
def rowsL (L : List (List UInt8)) : List (List V) := L.map λ w => [.str w]
theorem zkS : ∀ L : List (List UInt8), (rowsL L).flatten = L.map V.str
 | [] => rfl
 | w :: L => by show _ :: (rowsL L).flatten = _; rw [zkS L]; rfl
theorem rowsL_sh {L : List (List UInt8)} : ∀ r ∈ rowsL L, shR [.str] r := by
 intro r hr
 obtain ⟨w, _, rfl⟩ := List.mem_map.1 hr
 exact ⟨.str w, [], rfl, ⟨w, .inr rfl⟩, rfl⟩
def kL (L : List (List UInt8)) (n ty : Nat) : E -> List (Option Chunk) -> Option Chunk -> Prop := λ e cs nc => cs = [some (spC ty)] /\ e = .ret (.ssl 1 0 n 1) /\ nc = some (.rows (rowsL L) [.str] 9)
theorem cN_list {L : List (List UInt8)} {n m ty : Nat} (hm : Nat.blt 1 m = true) : cNn [0] [0, 1] 1 [true] (kL L n ty) (.ret (.sl 1 0 0 n none)) m [some (spC ty), some (.cells (L.map V.str) 9 1)] := by
 have h1 : ele (.ret (.sl 1 0 0 n none)) (renE (renF ([0] ++ [1]) ([0] ++ [1])) (.ret (.ssl 1 0 n 1))) := ⟨rfl, rfl, rfl, rfl⟩
 have h2 : fitX [some (spC ty)] [some (spC ty)] := ⟨zqc _, trivial⟩
 have h3 : coks3 (inI [0]) [some (spC ty)] = true := by simp only [coks3, cloC, cok, zxB]
 have h4 : chle (.cells (L.map V.str) 9 1) (.rows (rowsL L) [.str] 9) := ⟨rfl, rfl, rowsL_sh, by rw [zkS]; exact zqq _⟩
 have h5 : kL L n ty (.ret (.ssl 1 0 n 1)) [some (spC ty)] (some (.rows (rowsL L) [.str] 9)) := ⟨rfl, rfl, rfl⟩
 have h6 : nw (.rows (rowsL L) [.str] 9) = true := rfl
 have h7 : eok (inI ([0] ++ [1])) (.ret (.ssl 1 0 n 1)) = true := rfl
 have h8 : lookC [0, 1] [some (spC ty), some (.cells (L.map V.str) 9 1)] 1 = some (.cells (L.map V.str) 9 1) := rfl
 have h9 : shp [some (spC ty)] = [true] := rfl
 exact .inr ⟨.ret (.ssl 1 0 n 1), [some (spC ty)], 1, .cells (L.map V.str) 9 1, .rows (rowsL L) [.str] 9, h1, h7, h2, h9, h3, rfl, hm, h8, h4, h6, h5⟩
theorem keys_run (ty : Nat) : TaskOk Tryz.prog ⟨⟨varG 0, [], [(0, spaceV)]⟩, [], []⟩ (.call 16 [] ⟨1, ofMo ([0].zip [some (spC ty)]), [wh 0]⟩ (cutA [0, 1] (cNn [0] [0, 1] 1 [true] (kL keysR 77 ty)))) := by
 refine go_sound (G := ⟨⟨varG 0, [], [(0, spaceV)]⟩, [], []⟩) qmix qNG zqb (zqt rfl) (zql rfl) 2000 _ ?_
 rw [x_keys]
 exact cN_list rfl
theorem signs_run2 (ty : Nat) : TaskOk Tryz.prog ⟨⟨varG 0, [], [(0, spaceV)]⟩, [], []⟩ (.call 18 [] ⟨1, ofMo ([0].zip [some (spC ty)]), [wh 0]⟩ (cutA [0, 1] (cNn [0] [0, 1] 1 [true] (kL signsR 28 ty)))) := by
 refine go_sound (G := ⟨⟨varG 0, [], [(0, spaceV)]⟩, [], []⟩) qmix qNG zqb (zqt rfl) (zql rfl) 2000 _ ?_
 rw [x_signs]
 exact cN_list rfl
def sList (L : List (List UInt8)) (n : Nat) (args : List V) (hp : Mem) (k : KE) : Prop := match args, roOk hp.ro, hp.t.get 0, small hp.n, Nat.blt 0 hp.n with
 | [], true, some (.cells l ty sz), true, true => Chunk.cells l ty sz = spC ty /\ k (.ret (.ssl hp.n 0 n 1)) ⟨hp.n + 1, Tr.set 20 (Tr.set 20 hp.t 0 (some (spC ty))) hp.n (some (.rows (rowsL L) [.str] 9)), hp.ro⟩
 | _, _, _, _, _ => False
theorem list_ok {L : List (List UInt8)} {n f : Nat} {kn vs gf gl} (hr : ∀ ty, TaskOk Tryz.prog ⟨⟨varG 0, [], [(0, spaceV)]⟩, [], []⟩ (.call f [] ⟨1, ofMo ([0].zip [some (spC ty)]), [wh 0]⟩ (cutA [0, 1] (cNn [0] [0, 1] 1 [true] (kL L n ty))))) :
  ∀ args hp k, sList L n args hp k -> TaskOk Tryz.prog ⟨⟨varG 0, kn, vs⟩, gf, gl⟩ (.call f args hp k) := by
 intro args hp k h
 unfold sList at h
 split at h
 ·rename_i l ty sz hro hg hsm hpos
  obtain ⟨hc, hk⟩ := h
  refine call_nw 1 [0] [1] [0] [some (spC ty)] [wh 0] (kL L n ty) (hr ty) ?_ ?_ (args0 := []) trivial rfl rfl rfl ?_ rfl rfl ?_ ?_ (roOk_lk hro) ?_ hsm ?_ ?_
  ·intro g id e
   have e : (varG 0).get g = some id := e
   obtain ⟨rfl, rfl⟩ := varG_get e
   exact ⟨rfl, rfl⟩
  ·intro l hl; rw [List.mem_singleton.1 hl]; exact Nat.zero_lt_one
  ·show below hp.n [0] = true
   simp only [below, hpos]; rfl
  ·show coks3 (inI [0]) [some (spC ty)] = true
   simp only [coks3, cloC, cok, zxB]
  ·refine ⟨⟨_, hg, ?_⟩, trivial⟩
   rw [hc]
   exact zqc _
  ·intro ρ W hH i hi
   rw [List.mem_singleton.1 hi]
   obtain ⟨b, o, _, h2⟩ := hH.rel 0 _ hg
   obtain ⟨c, h3⟩ := h2.at
   exact ⟨_, h3⟩
  ·rintro e cs' ⟨_, _, h⟩; cases h
  ·rintro e cs' ch ⟨rfl, rfl, h⟩
   cases h
   exact hk
 ·exact h.elim
theorem x_rkeys (N : E -> Nat -> List (Option Chunk) -> Prop) : Go.Q.go Tryz.prog ⟨⟨.nil, [], []⟩, [], []⟩ 100 (.call 17 [] nomem (cutA [0] N)) =
 N (.ret (.sl 0 0 0 77 none)) 1 [some (.cells (keysR.map V.str) 9 1)] := by kernel_rfl
theorem x_rsigns (N : E -> Nat -> List (Option Chunk) -> Prop) : Go.Q.go Tryz.prog ⟨⟨.nil, [], []⟩, [], []⟩ 100 (.call 19 [] nomem (cutA [0] N)) =
 N (.ret (.sl 0 0 0 28 none)) 1 [some (.cells (signsR.map V.str) 9 1)] := by kernel_rfl
def kLR (L : List (List UInt8)) (n : Nat) : E -> List (Option Chunk) -> Option Chunk -> Prop := λ e cs nc => cs = [] /\ e = .ret (.ssl 0 0 n 1) /\ nc = some (.rows (rowsL L) [.str] 9)
theorem cN_listR {L : List (List UInt8)} {n : Nat} : cNn [] [0] 0 [] (kLR L n) (.ret (.sl 0 0 0 n none)) 1 [some (.cells (L.map V.str) 9 1)] :=
 .inr ⟨.ret (.ssl 0 0 n 1), [], 0, _, .rows (rowsL L) [.str] 9, ⟨rfl, rfl, rfl, rfl⟩, rfl, trivial, rfl, rfl, rfl, rfl, rfl, ⟨rfl, rfl, rowsL_sh, by rw [zkS]; exact zqq _⟩, rfl, rfl, rfl, rfl⟩
theorem rkeys_run : TaskOk Tryz.prog ⟨⟨.nil, [], []⟩, [], []⟩ (.call 17 [] nomem (cutA [0] (cNn [] [0] 0 [] (kLR keysR 77)))) := by
 refine go_sound (G := nilG) qmix qNG zqb (zqt rfl) (zql rfl) 100 _ ?_
 rw [show nilG = ⟨⟨.nil, [], []⟩, [], []⟩ from rfl, x_rkeys]
 exact cN_listR
theorem rsigns_run : TaskOk Tryz.prog ⟨⟨.nil, [], []⟩, [], []⟩ (.call 19 [] nomem (cutA [0] (cNn [] [0] 0 [] (kLR signsR 28)))) := by
 refine go_sound (G := nilG) qmix qNG zqb (zqt rfl) (zql rfl) 100 _ ?_
 rw [show nilG = ⟨⟨.nil, [], []⟩, [], []⟩ from rfl, x_rsigns]
 exact cN_listR
def sListR (L : List (List UInt8)) (n : Nat) (args : List V) (hp : Mem) (k : KE) : Prop := match args, small hp.n with
 | [], true => k (.ret (.ssl hp.n 0 n 1)) ⟨hp.n + 1, Tr.set 20 hp.t hp.n (some (.rows (rowsL L) [.str] 9)), hp.ro⟩
 | _, _ => False
theorem lkOk_nil : ∀ {ls : List Lk}, lkOk [] [] [] ls
 | [] => trivial
 | _ :: _ => ⟨trivial, lkOk_nil⟩
theorem listR_ok {L : List (List UInt8)} {n f : Nat} {G : GQ} (hr : TaskOk Tryz.prog ⟨⟨.nil, [], []⟩, [], []⟩ (.call f [] nomem (cutA [0] (cNn [] [0] 0 [] (kLR L n))))) :
  ∀ args hp k, sListR L n args hp k -> TaskOk Tryz.prog G (.call f args hp k) := by
 intro args hp k h
 unfold sListR at h
 split at h
 ·rename_i hsm
  refine call_nw 0 [] [0] [] [] [] (kLR L n) hr (λ g id e => by cases e) (λ l hl => by cases hl) (args0 := []) trivial rfl rfl rfl rfl rfl rfl rfl trivial lkOk_nil (λ ρ W hH i hi => by cases hi) hsm ?_ ?_
  ·rintro e cs' ⟨_, _, h⟩; cases h
  ·rintro e cs' ch ⟨rfl, rfl, h2⟩
   cases h2
   exact h
 ·exact h.elim
end
end Go.Proofs.YtekioipmhhcbhaaGreatDoor
set_option maxRecDepth 100000
set_option maxHeartbeats 4000000
namespace Go.Proofs.YtekioipmhhcbhaaGreatDoor
open Go Go.Z Go.Q Go.W6
open Go.Y hiding KE KK KR go Task go_sound
noncomputable section
variable [Ext]
abbrev tsY : List Nat := [0, 1, 4, 5]
def leY (n : Nat) (i : Int) : List V := [.ssl 0 0 n 1, .ssl 1 0 n 1, .bool false, .sint .i64 i]
abbrev rowC (L : List (List UInt8)) : Chunk := .rows (rowsL L) [.str] 9
def lWords (fi : FI) (ds : List DV) (env : Tr V) (hp : Mem) (k : KK) : Prop := atV 26 2 [0, 1] [] fi ds hp λ rc => match pk tsY env, hp.t.get 0, hp.t.get 1 with
 | [some (.ssl 0 0 n 1), some (.ssl 1 0 m 1), some (.bool false), some v], some (.rows xs [.str] t0), some (.rows ys [.str] t1) => match int64 v with
  | some i => (∃ L, xs = rowsL L /\ ys = rowsL L /\ t0 = 9 /\ t1 = 9 /\ n = L.length /\ m = L.length /\ i = 0 /\ n <= 1000) /\ k (.exit 0) [] (ofE (tsY.zip (leY n n))) ⟨2, ofM ([0, 1].zip [.rows xs [.str] t0, .rows ys [.str] t1] ++ [].zip rc), hp.ro⟩
  | none => False
 | _, _, _ => False
theorem words_loop {gv gf gl} : ∀ fi ds env hp k, lWords fi ds env hp k -> TaskOk Tryz.prog ⟨gv, gf, gl⟩ (.code fi (.loop (lp Tryz.prog 15 0)) ds env hp k) := by
 intro fi ds env hp k h
 obtain ⟨rfl, rfl, hn, hlk, rc, hrc, h⟩ := zxZ h
 split at h
 ·rename_i n m v xs t0 ys t1 hT g0 g1
  split at h
  ·rename_i i e0
   obtain ⟨⟨L, rfl, rfl, rfl, rfl, rfl, rfl, rfl, hb⟩, hk⟩ := h
   obtain ⟨n', ht, hro⟩ := hp
   dsimp only at hn hlk hrc hk g0 g1
   subst hn
   refine zxG tsY [0, 1] [0, 1] [] rc 2 (λ x : Nat => leY L.length x) (λ _ => [some (rowC L), some (rowC L)]) (λ x => x <= L.length) (λ x => L.length - x) 0 (Nat.zero_le _) rfl rfl rfl (Nat.le_refl 2) hlk rfl rfl (λ x => rfl) (λ x => rfl) ?_ ⟨⟨_, g0, zqc _⟩, ⟨_, g1, zqc _⟩, trivial⟩ hrc ?_
   ·rw [hT]
    exact ⟨zqa _, zqa _, zqa _, zqo e0, trivial⟩
   ·intro x hx
    refine zqL (gf' := []) (gl' := []) ?_
    refine go_sound (G := nilG) qmix qNG zqb (zqt rfl) (zql rfl) 100 _ ?_
    have hrl : (rowsL L).length = L.length := by simp [rowsL]
    refine ⟨trivial, trivial, λ h => ?_, λ h => ?_⟩
    ·have h : (x : Int) < L.length := of_decide_eq_true h
     have hb : (0 : Int) <= (x : Int) /\ (x : Int) < (L.length : Nat) := ⟨by omega, h⟩
     have hi : 0 + (x : Int).toNat < (rowsL L).length := by rw [hrl]; omega
     refine ⟨hb, hi, hb, hi, trivial, λ g => absurd rfl (nT g), λ g => ⟨⟨(by omega : (-9223372036854775808 : Int) <= (x : Int) + 1), (by omega : (x : Int) + 1 <= 9223372036854775807)⟩, ?_⟩⟩
     exact ⟨x + 1, [0, 1], (by omega : x + 1 <= L.length), (by omega : L.length - (x + 1) < L.length - x), Nat.le_refl 2, rfl, ⟨zqa _, zqa _, zqa _, ⟨rfl, by push_cast; rfl⟩, trivial⟩, ⟨_, rfl, zqc _⟩, ⟨_, rfl, zqc _⟩, trivial⟩
    ·have h : ¬ (x : Int) < L.length := of_decide_eq_false h
     obtain rfl : x = L.length := by omega
     exact ⟨leY L.length L.length, [0, 1], [rowC L, rowC L], Nat.le_refl 2, rfl, rfl, ⟨zqa _, zqa _, zqa _, zqa _, trivial⟩, ⟨⟨_, rfl, zqc _⟩, ⟨_, rfl, zqc _⟩, trivial⟩, hk⟩
  ·exact h.elim
 ·exact h.elim
def kW (L : List (List UInt8)) : E -> List (Option Chunk) -> Prop := λ e cs => cs = [some (rowC L), some (rowC L)] /\ e = .ret (.bool true)
theorem cmpw_run (L : List (List UInt8)) (hL : L.length <= 1000) : TaskOk Tryz.prog ⟨⟨.nil, [], []⟩, [], [(26004, lp Tryz.prog 15 0, lWords)]⟩ (.call 15 [.ssl 0 0 L.length 1, .ssl 1 0 L.length 1] ⟨2, ofMo ([0, 1].zip [some (rowC L), some (rowC L)]), []⟩ (cutE [0, 1] (cN [0, 1] [true, true] (kW L)))) := by
 refine go_sound qmix qNG zqb (zqt rfl) (ls_one rfl words_loop) 100 _ ?_
 refine ⟨trivial, trivial, trivial, λ h => absurd rfl (nT h), λ h => ⟨rfl, ⟨L, rfl, rfl, rfl, rfl, rfl, rfl, rfl, hL⟩, ?_⟩⟩
 exact ⟨.ret (.bool true), [some (rowC L), some (rowC L)], rfl, rfl, ⟨zqc _, zqc _, trivial⟩, rfl, rfl, rfl, rfl⟩
def sWords (args : List V) (hp : Mem) (k : KE) : Prop := match args with
 | [.ssl a 0 n 1, .ssl b 0 m 1] => match hp.t.get a, hp.t.get b, below hp.n [a, b], nodupB [a, b], noLk [a, b] hp.ro with
  | some (.rows xs [.str] t0), some (.rows l [.str] t1), true, true, true => (∃ L, xs = rowsL L /\ l = rowsL L /\ t0 = 9 /\ t1 = 9 /\ n = L.length /\ m = L.length /\ n <= 1000) /\
    k (.ret (.bool true)) ⟨hp.n, Tr.set 20 (Tr.set 20 hp.t b (some (.rows xs [.str] t0))) a (some (.rows xs [.str] t0)), hp.ro⟩
  | _, _, _, _, _ => False
 | _ => False
theorem words_ok {G : GQ} : ∀ args hp k, sWords args hp k -> TaskOk Tryz.prog G (.call 15 args hp k) := by
 intro args hp k h
 unfold sWords at h
 split at h
 ·rename_i a n b m
  split at h
  ·rename_i xs t0 l t1 ga gb hb hd hlk
   obtain ⟨⟨L, rfl, rfl, rfl, rfl, rfl, rfl, hL⟩, hk⟩ := h
   refine call_fr 2 [0, 1] [a, b] [some (rowC L), some (rowC L)] (kW L) (cmpw_run L hL) rfl (args0 := [.ssl 0 0 L.length 1, .ssl 1 0 L.length 1]) ⟨zqa _, zqa _, trivial⟩ rfl rfl rfl hb rfl hd rfl ⟨⟨_, ga, zqc _⟩, ⟨_, gb, zqc _⟩, trivial⟩ hlk ?_ ?_
   ·intro ρ W hH i hi
    have get : ∀ {i c}, hp.t.get i = some c -> ∃ x, ρ i = some x := λ {i c} hg => by
     obtain ⟨b, o, _, h2⟩ := hH.rel i _ hg
     obtain ⟨c, h3⟩ := h2.at
     exact ⟨_, h3⟩
    rcases List.mem_cons.1 hi with rfl | hi
    ·exact get ga
    ·rw [List.mem_singleton.1 hi]; exact get gb
   ·rintro e cs' ⟨rfl, rfl⟩
    exact hk
  ·exact h.elim
 ·exact h.elim
end
end Go.Proofs.YtekioipmhhcbhaaGreatDoor
set_option maxRecDepth 100000
set_option maxHeartbeats 4000000
namespace Go.Proofs.YtekioipmhhcbhaaGreatDoor
open Go Go.Z Go.Q Go.W6
open Go.Y hiding KE KK KR go Task go_sound
noncomputable section
variable [Ext]
def kn5 : List (Nat × List V × KRes) := [(6, [], .val (.bool true)), (35, [.str wordsB], wordsK)]
theorem known5 : KnOk Tryz.prog ⟨varG 0, kn5, [(0, spaceV)]⟩ :=
 kn_one (zjJ mixed noNG rfl (@known06 noExt) (by kernel_rfl) (by kernel_rfl) awake_run _) (kn_one (zjJ mixed noNG rfl (@zqb noExt _ _ _) (by kernel_rfl) (by kernel_rfl) words_run _) (λ f a r h => by cases h))
abbrev G5 : GQ := ⟨⟨varG 0, kn5, [(0, spaceV)]⟩, [(16, sList keysR 77), (18, sList signsR 28), (17, sListR keysR 77), (19, sListR signsR 28), (15, sWords), (46, sSingle), (21, sNameR), (23, sKeyR), (24, sQuoR), (25, sQuoR), (26, sUnqR), (27, sUnqR), (28, sSpell), (29, sSpellR)], []⟩
theorem words_law (hX : MaxOk) (s : List UInt8) (kind : Int) (ty : Nat) : TaskOk Tryz.prog G5 (.call 5 [.sstr s, .sint .i64 kind] (varM spaceV ty) λ e _ => e = .ret (.bool true)) := by
 refine go_sound (G := G5) qmix qNG known5 (fs_all (by exact ⟨list_ok keys_run, list_ok signs_run2, listR_ok rkeys_run, listR_ok rsigns_run, words_ok, single_ok, rname_ok, iskey_ok, lquo_ok hX, rquo_ok, lunq_ok hX, runq_ok, spell_ok hX, rspell_ok, trivial⟩)) (zql rfl) 300 _ ?_
 have hn := name_one s
 have hk : hasK s keysL = decide (s ∈ keysL) := rfl
 have no : ∀ {p : Prop} [Decidable p] {q : Prop}, p -> decide p = false -> q := λ hp h => absurd hp (of_decide_eq_false h)
 have no2 : ∀ {p : Prop} [Decidable p] {q : Prop}, p -> (!decide p) = true -> q := λ hp h => absurd hp (nT h)
 refine ⟨trivial, trivial, λ h => rfl, λ h => ?_⟩
 have h : ¬ (6000 : Int) < s.length := of_decide_eq_false h
 have hs : s.length <= 20000 := by omega
 refine ⟨rfl, ⟨keysR, rfl, rfl, rfl, rfl, rfl, rfl, by decide⟩, rfl, ⟨signsR, rfl, rfl, rfl, rfl, rfl, rfl, by decide⟩, rfl, λ a => ⟨hs, trivial, λ b => no2 (?_ : true = nameB s) b, λ b => ⟨trivial, λ c => ⟨trivial, λ d => no2 (?_ : true = decide (s ∈ keysL)) d, λ d => ?_⟩, λ c => ⟨trivial, λ d => no2 (?_ : false = decide (s ∈ keysL)) d, λ d => ?_⟩⟩⟩,
  λ a => ⟨hs, trivial, λ b => no2 (?_ : false = nameB s) b, λ b => ⟨trivial, λ c => ⟨trivial, λ d => no2 (?_ : true = decide (s ∈ keysL)) d, λ d => ?_⟩, λ c => ⟨trivial, λ d => no2 (?_ : false = decide (s ∈ keysL)) d, λ d => ?_⟩⟩⟩⟩
 all_goals first
  | exact (a : zqQ 1 s = _).symm.trans hn
  | exact (c : hasK s keysL = _).symm.trans hk
  | exact ⟨hs, hs, hs, hs, ⟨hs, rfl⟩, hs, trivial, λ _ => ⟨trivial, λ _ => ⟨trivial, λ _ => ⟨trivial, λ _ => ⟨trivial, λ _ => ⟨trivial, λ _ => rfl, no rfl⟩, no rfl⟩, no rfl⟩, no rfl⟩, no rfl⟩, no rfl⟩
end
end Go.Proofs.YtekioipmhhcbhaaGreatDoor
