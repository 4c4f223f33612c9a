/- Scan: what it comes to. -/
import Derived.Test.YtekioipmhhcbhaaDoorV3
import Derived.Test.YtekioipmhhcbhaaDoorM9
import Derived.Test.YtekioipmhhcbhaaDoorKk
set_option linter.unusedVariables false
set_option linter.unusedSectionVars false
set_option linter.unusedSimpArgs false
set_option maxRecDepth 20000
namespace Go.Proofs.YtekioipmhhcbhaaDoor
open Go Go.Z Go.Q Go.W6
open Go.Y hiding KE KK KR go Task go_sound
noncomputable section
variable [Ext]
theorem f16_eq (s : List UInt8) (ty : Nat) (N : E -> Nat -> List (Option Chunk) -> Prop) : Go.Q.go Tryd.prog ⟨G06, [], [(54002, lp Tryd.prog 45 0, l45)]⟩ 200 (.call 16 [.sstr s] ⟨1, ofMo ([0].zip [some (.cells spaceV ty 1)]), [wh 0]⟩ (cutA [0,1,10] N)) =
 (True /\ True /\ (decide (20000 < (s.length : Int)) = true -> N (E.ret (.tup [.nils, .int .i64 0, .int .i64 3])) 4 [some (.cells spaceV ty 1), some (.cells [.nils] (30 : Nat) 1), none]) /\ (decide (20000 < (s.length : Int)) = false -> lp Tryd.prog (45 : Nat) 0 = lp Tryd.prog (45 : Nat) 0 /\ (some (V.yld 9) = some (V.yld 9) /\ some (V.ptr 7 0) = some (V.ptr 7 0)) /\ (0 : Int) = (0 : Int) /\ (some (Chunk.cells [V.nils] (30 : Nat) 1) = some (Chunk.cells [V.nils] (30 : Nat) 1) /\ some keysC = some keysC /\ some signsC = some signsC /\ some (Chunk.cells [V.ptr 6 0] (48 : Nat) 1) = some (Chunk.cells [V.ptr 6 0] (48 : Nat) 1) /\ some (V.ptr 1 0) = some (V.ptr 1 0) /\ some loopC = some loopC) /\ ((0 : Int) <= (0 : Int) /\ 0 <= (s.length : Int) /\ (s.length : Int) <= 20000 /\ 1 = (↑(1 : Nat) : Int) /\ 1 = (↑(1 : Nat) : Int)) /\ (0 : Int) = (0 : Int) /\ (zqw s = Scn.done [] -> N (E.ret (.tup [.nils, .int .i64 0, .int .i64 0])) 11 [some (.cells spaceV ty 1), some (.cells [.nils] (30 : Nat) 1), none]) /\ (∀ (t : Tok) (l : List Tok), zqw s = Scn.done (t :: l) -> N (E.ret (.tup [.ssl 10 0 (l.length + 1) 6, .int .i64 0, .int .i64 0])) 11 [some (.cells spaceV ty 1), some (.cells [.ssl 10 0 (l.length + 1) 6] (30 : Nat) 1), some (.rows (List.map (rowTok s) (t :: l)) shTok (34 : Nat))]) /\ ∀ (a : Int) (e : Nat), zqw s = Scn.err a e -> ∀ (v : V), N (E.ret (.tup [.nils, .sint .i64 a, .int .i64 (e : Int)])) 12 [some (.cells spaceV ty 1), some (.cells [.nils] (30 : Nat) 1), none] /\ N (E.ret (.tup [.nils, .sint .i64 a, .int .i64 (e : Int)])) 13 [some (.cells spaceV ty 1), some (.cells [.nils] (30 : Nat) 1), none])) := by kernel_rfl
theorem zkF (s : List UInt8) : scanF s = if 20000 < s.length then ([], 0, 3) else match zqw s with
  | .done l => (l, 0, 0)
  | .err a e => ([], a, e)
  | .go _ _ => ([], 0, 0) := rfl
abbrev spC (ty : Nat) : Chunk := .cells spaceV ty 1
def scanV (id : Nat) (s : List UInt8) : V := .tup [.ssl id 0 (scanF s).1.length 6, .sint .i64 (scanF s).2.1, .sint .i64 ((scanF s).2.2 : Nat)]
def scanC (s : List UInt8) : Chunk := .rowsO ((scanF s).1.map (rowTok s)) shTok 34
def roOk : List Lk -> Bool
 | [] => true
 | l :: ls => match Nat.beq 0 l.1 with | true => roOk ls | false => false
theorem roOk_lk : ∀ {ls : List Lk}, roOk ls = true -> lkOk [0] [0] [wh 0] ls
 | [], _ => trivial
 | l :: ls, h => by
  unfold roOk at h
  split at h
  ·rename_i hb
   have hb := beq_tt hb
   refine ⟨?_, roOk_lk h⟩
   rw [<- hb]
   exact List.mem_singleton.2 rfl
  ·cases h
def sScan (args : List V) (hp : Mem) (k : KE) : Prop := match args with
 | [v] => match strOf v, roOk hp.ro, hp.t.get 0, small hp.n, Nat.blt 0 hp.n with
  | some s, true, some (.cells l ty sz), true, true => (Chunk.cells l ty sz = spC ty) /\ k (.ret (scanV hp.n s)) ⟨hp.n + 1, Tr.set 20 (Tr.set 20 hp.t 0 (some (spC ty))) hp.n (some (scanC s)), hp.ro⟩
  | _, _, _, _, _ => False
 | _ => False
def kScan (s : List UInt8) (ty : Nat) : E -> List (Option Chunk) -> Option Chunk -> Prop := λ e cs nc => cs = [some (spC ty)] /\ e = .ret (scanV 1 s) /\ nc = some (scanC s)
theorem zjd : voks (inI [0]) spaceV = true := by kernel_rfl
abbrev G16 : GQ := ⟨G06, [], [(54002, lp Tryd.prog 45 0, l45)]⟩
theorem zwg {s : List UInt8} {ty n a : Nat} {e : E} {c1 : Chunk} {t : List (Option Chunk)} (ha : a = 1 \/ a = 10) (han : Nat.blt a n = true) (hc : lookC [0, 1, 10] t a = some c1) (ht : t.head? = some (some (spC ty))) (hle : chle c1 (scanC s))
  (he : ele e (.ret (scanV a s))) : cNn [0] [0, 1, 10] 1 [true] (kScan s ty) e n t := by
 refine .inr ⟨.ret (scanV 1 s), [some (spC ty)], a, c1, scanC s, ?_, rfl, ?_, rfl, ?_, ?_, han, hc, hle, rfl, rfl, rfl, rfl⟩
 ·rcases ha with rfl | rfl <;> exact he
 ·cases t with
  | nil => cases ht
  | cons x t =>
   cases ht
   exact ⟨zqb _, trivial⟩
 ·show coks3 (inI [0]) [some (spC ty)] = true
  simp only [coks3, cloC, cok, zjd]
 ·rcases ha with rfl | rfl <;> rfl
theorem scan_run (s : List UInt8) (ty : Nat) : TaskOk Tryd.prog G16 (.call 16 [.sstr s] ⟨1, ofMo ([0].zip [some (spC ty)]), [wh 0]⟩ (cutA [0, 1, 10] (cNn [0] [0, 1, 10] 1 [true] (kScan s ty)))) := by
 refine go_sound qmix qNG known06 (zxp rfl) (ls_one rfl l45_ok) 200 _ (Eq.mpr (f16_eq s ty _) ?_)
 simp only [decide_eq_true_eq, decide_eq_false_iff_not]
 have eq := zkF s
 have none : (scanF s).1 = [] -> chle (.cells [.nils] 30 1) (scanC s) := λ h => .inl (by rw [h]; rfl)
 refine ⟨trivial, trivial, λ hlong => ?_, λ hlong => ⟨trivial, ⟨trivial, trivial⟩, trivial, ⟨trivial, trivial, trivial, trivial, trivial, trivial⟩, ⟨by omega, by omega, by omega, rfl, rfl⟩, trivial, λ hd => ?_, λ t l hd => ?_, λ a e hd v => ?_⟩⟩
 ·rw [if_pos (by omega)] at eq
  refine zwg (.inl rfl) rfl rfl rfl (none (by rw [eq])) ?_
  show dle (.tup [_, _, _]) (.tup [_, _, _])
  rw [eq]
  exact ⟨rfl, ⟨rfl, rfl⟩, ⟨rfl, rfl⟩, trivial⟩
 ·rw [if_neg (by omega), hd] at eq
  refine zwg (.inl rfl) rfl rfl rfl (none (by rw [eq])) ?_
  show dle (.tup [_, _, _]) (.tup [_, _, _])
  rw [eq]
  exact ⟨rfl, ⟨rfl, rfl⟩, ⟨rfl, rfl⟩, trivial⟩
 ·rw [if_neg (by omega), hd] at eq
  refine zwg (.inr rfl) rfl rfl rfl ?_ ?_
  ·unfold scanC
   rw [eq]
   exact ⟨rfl, rfl, rfl⟩
  show dle (.tup [_, _, _]) (.tup [_, _, _])
  rw [eq]
  exact ⟨rfl, ⟨rfl, rfl⟩, ⟨rfl, rfl⟩, trivial⟩
 ·rw [if_neg (by omega), hd] at eq
  constructor
  all_goals
   refine zwg (.inl rfl) rfl rfl rfl (none (by rw [eq])) ?_
   show dle (.tup [_, _, _]) (.tup [_, _, _])
   rw [eq]
   exact ⟨rfl, ⟨rfl, rfl⟩, ⟨rfl, rfl⟩, trivial⟩
theorem zvJ {g id : Nat} (h : (varG 0).get g = some id) : g = 0 /\ id = 0 := by
 have h : (Tr.set 20 .nil 0 (some 0) : Tr Nat).get g = some id := h
 rw [Tr.get_set _ _ _ _ _ (zqF rfl)] at h
 split at h
 ·rename_i e; cases h; exact ⟨e, rfl⟩
 ·rw [Tr.get_nil] at h; cases h
theorem scan_ok {kn vs gf gl} : ∀ args hp k, sScan args hp k -> TaskOk Tryd.prog ⟨⟨varG 0, kn, vs⟩, gf, gl⟩ (.call 16 args hp k) := by
 intro args hp k h
 unfold sScan at h
 split at h
 ·rename_i v
  split at h
  ·rename_i s l ty sz hs hro hg hsm hpos
   obtain ⟨hc, hk⟩ := h
   refine call_nw 1 [0] [1, 10] [0] [some (spC ty)] [wh 0] (kScan s ty) (scan_run s ty) ?_ ?_ (args0 := [.sstr s]) ⟨zqT hs, trivial⟩ rfl rfl rfl ?_ rfl rfl ?_ ?_ (roOk_lk hro) ?_ hsm ?_ ?_
   ·intro g id e
    have e : (varG 0).get g = some id := e
    obtain ⟨rfl, rfl⟩ := zvJ e
    exact ⟨rfl, rfl⟩
   ·intro l hl; rw [List.mem_singleton.1 hl]; exact Nat.zero_lt_one
   ·show below hp.n [0] = true
    simp only [below, hpos]; rfl
   ·show coks3 (inI [0]) [some (spC ty)] = true
    simp only [coks3, cloC, cok, zjd]
   ·refine ⟨⟨_, hg, ?_⟩, trivial⟩
    rw [hc]
    exact zqb _
   ·intro ρ W hH i hi
    rw [List.mem_singleton.1 hi]
    obtain ⟨b, o, _, h2⟩ := hH.rel 0 _ hg
    obtain ⟨c, h3⟩ := h2.at
    exact ⟨_, h3⟩
   ·rintro e cs' ⟨_, _, h⟩; cases h
   ·rintro e cs' ch ⟨rfl, rfl, h⟩
    cases h
    exact hk
  ·exact h.elim
 ·exact h.elim
end
end Go.Proofs.YtekioipmhhcbhaaDoor
namespace Go.Proofs.YtekioipmhhcbhaaDoor
open Go Go.Z Go.Q Go.W6
open Go.Y hiding KE KK KR go Task go_sound
noncomputable section
variable [Ext]
def atV (nt n : Nat) (ids rids : List Nat) (fi : FI) (ds : List DV) (hp : Mem) (p : List Chunk -> Prop) : Prop := match Nat.beq fi.nt nt, fi.ro, ds, Nat.beq hp.n n, noLk ids hp.ro, pkS rids hp.t with
 | true, none, [], true, true, some rc => p rc
 | _, _, _, _, _, _ => False
theorem atV_inv {nt n : Nat} {ids rids : List Nat} {fi : FI} {ds : List DV} {hp : Mem} {p : List Chunk -> Prop} (h : atV nt n ids rids fi ds hp p) : fi = ⟨nt, none⟩ /\ ds = [] /\ hp.n = n /\ noLk ids hp.ro = true /\ ∃ rc, pk rids hp.t = rc.map some /\ p rc := by
 obtain ⟨a, b⟩ := fi
 unfold atV at h
 split at h
 ·rename_i h1 h2 h3 h4 h5
  dsimp only at h1 h2
  exact ⟨by rw [beq_tt h1, h2], rfl, beq_tt h3, h4, _, pkS_ok h5, h⟩
 ·exact h.elim
theorem zkS {α β : Type} {f : α -> β} {l : List α} {i : Nat} {d : β} (h : i < l.length) : (l.map f).getD i d = f (l[i]'h) := by
 rw [List.getD_eq_getElem?_getD, List.getElem?_map, List.getElem?_eq_getElem h]; rfl
end
end Go.Proofs.YtekioipmhhcbhaaDoor
set_option maxRecDepth 20000
namespace Go.Proofs.YtekioipmhhcbhaaDoor
open Go Go.Z Go.W6
noncomputable section
inductive Ends (s : List UInt8) : Nat -> List Tok -> Scn -> Prop
 | stop {i l r} : stepF s i l = r -> endB r = true -> Ends s i l r
 | step {i l i' l' r} : stepF s i l = .go i' l' -> Ends s i' l' r -> Ends s i l r
theorem Ends.det {s : List UInt8} {i : Nat} {l : List Tok} {r r' : Scn} (h : Ends s i l r) (h' : Ends s i l r') : r = r' := by
 induction h with
 | stop h1 h2 =>
  cases h' with
  | stop h3 h4 => exact h1.symm.trans h3
  | step h3 h4 => rw [h1] at h3; subst h3; cases h2
 | step h1 h2 ih =>
  cases h' with
  | stop h3 h4 => rw [h1] at h3; subst h3; cases h4
  | step h3 h4 =>
   rw [h1] at h3
   cases h3
   exact ih h4
theorem zkz {s : List UInt8} {i i' : Nat} {l l' : List Tok} (hi : i <= s.length) (h : stepF s i l = .go i' l') : i < i' /\ i' <= s.length /\ l'.length = l.length + 1 := by
 unfold stepF at h
 split at h
 ·cases h
 ·rename_i j hj
  have h1 := (zkk _ i (Nat.le_refl _) hi).1 j hj
  split at h
  ·cases h
  ·split at h
   ·cases h
   ·rename_i t ht
    have h2 := tok_le (by omega) ht
    split at h
    ·cases h
    ·split at h
     ·cases h
     ·cases h
      refine ⟨by omega, h2.2.1, by simp⟩
theorem run_succ (s : List UInt8) (n : Nat) : runF s (n + 1) = match runF s n with | .go i l => stepF s i l | r => r := rfl
theorem run_reach {s : List UInt8} : ∀ n, (∃ i l, runF s n = .go i l /\ n <= i /\ i <= s.length /\ l.length = n) \/ endB (runF s n) = true
 | 0 => .inl ⟨0, [], rfl, Nat.le_refl _, Nat.zero_le _, rfl⟩
 | n + 1 => by
  rw [run_succ]
  rcases run_reach (s := s) n with ⟨i, l, h, h1, h2, h3⟩ | h
  ·rw [h]
   dsimp only
   cases hs : stepF s i l with
   | go i' l' =>
    have := zkz h2 hs
    exact .inl ⟨i', l', rfl, by omega, this.2.1, by omega⟩
   | done l' => exact .inr rfl
   | err a e => exact .inr rfl
  ·right
   cases hr : runF s n with
   | go i l => rw [hr] at h; cases h
   | done l' => rfl
   | err a e => rfl
theorem end_end (s : List UInt8) : endB (zqw s) = true := by
 unfold zqw
 rcases run_reach (s := s) (s.length + 1) with ⟨i, l, h, h1, h2, h3⟩ | h
 ·omega
 ·exact h
theorem ends_run {s : List UInt8} : ∀ {n i l r}, runF s n = .go i l -> Ends s i l r -> Ends s 0 [] r
 | 0, i, l, r, h, he => by cases h; exact he
 | n + 1, i, l, r, h, he => by
  rw [run_succ] at h
  cases hr : runF s n with
  | go i' l' =>
   rw [hr] at h
   exact ends_run hr (.step h he)
  | done l' => rw [hr] at h; cases h
  | err a e => rw [hr] at h; cases h
theorem zxS (s : List UInt8) : Ends s 0 [] (zqw s) := by
 have he := end_end s
 unfold zqw at he ⊢
 have : ∀ n, endB (runF s n) = true -> Ends s 0 [] (runF s n) := by
  intro n
  induction n with
  | zero => intro h; cases h
  | succ n ih =>
   intro h
   rw [run_succ] at h ⊢
   cases hr : runF s n with
   | go i l =>
    rw [hr] at h
    exact ends_run hr (.stop rfl h)
   | done l => have := ih (by rw [hr]; rfl); rw [hr] at this; exact this
   | err a e => have := ih (by rw [hr]; rfl); rw [hr] at this; exact this
 exact this _ he
theorem ends_eq {s : List UInt8} {r : Scn} (h : Ends s 0 [] r) : zqw s = r := (zxS s).det h
theorem skipL_n (m : Bool) (p : Nat) : skipL m [] p = .ok p := by cases m <;> rfl
theorem zjt (c : UInt8) (l : List UInt8) (p : Nat) : skipL false (c :: l) p = if c.toNat = 32 \/ c.toNat = 10 then skipL false l (p + 1) else if c.toNat = 36 then skipL true l (p + 1) else .ok p := rfl
theorem zjG (c : UInt8) (l : List UInt8) (p : Nat) : skipL true (c :: l) p = if c.toNat = 10 then skipL false l (p + 1) else if plainB c then skipL true l (p + 1) else .error p := rfl
theorem zjH : ∀ (l r : List UInt8) (m : Bool) (p : Nat), skipL m (l ++ 10 :: r) p = match skipL m l p with
  | .ok j => if j < p + l.length then .ok j else skipL false r (p + l.length + 1)
  | .error e => .error e
 | [], r, m, p => by
  rw [List.nil_append, skipL_n]
  dsimp only
  rw [if_neg (by simp)]
  cases m
  ·rw [zjt, if_pos (Or.inr (show UInt8.toNat 10 = 10 from rfl))]; rfl
  ·rw [zjG, if_pos (show UInt8.toNat 10 = 10 from rfl)]; rfl
 | c :: l, r, m, p => by
  have e1 : p + (c :: l).length = p + 1 + l.length := by simp; omega
  rw [e1, List.cons_append]
  cases m
  ·rw [zjt, zjt]
   split
   ·rw [zjH l r false (p + 1)]
   ·split
    ·rw [zjH l r true (p + 1)]
    ·dsimp only; rw [if_pos (by omega)]
  ·rw [zjG, zjG]
   split
   ·rw [zjH l r false (p + 1)]
   ·split
    ·rw [zjH l r true (p + 1)]
    ·rfl
theorem drop_pre {a c : List UInt8} {i : Nat} (hi : i <= a.length) : (a ++ c).drop i = a.drop i ++ c := List.drop_append_of_le_length hi
theorem skip_pre (a b : List UInt8) {i : Nat} (hi : i <= a.length) : skipF (a ++ 10 :: b) i = match skipF a i with
  | .ok j => if j < a.length then .ok j else skipF (a ++ 10 :: b) (a.length + 1)
  | .error e => .error e := by
 have h2 : skipF (a ++ 10 :: b) (a.length + 1) = skipL false b (a.length + 1) := by
  unfold skipF
  congr 1
  rw [show a ++ 10 :: b = (a ++ [10]) ++ b by simp, show a.length + 1 = (a ++ [10]).length by simp, List.drop_left]
 rw [h2]
 unfold skipF
 rw [drop_pre hi, zjH]
 have : i + (a.drop i).length = a.length := by rw [List.length_drop]; omega
 rw [this]
theorem zvU {a c : List UInt8} {i : Nat} (hi : i < a.length) : (a ++ c).getD i 0 = a.getD i 0 := by
 rw [List.getD_eq_getElem?_getD, List.getD_eq_getElem?_getD, List.getElem?_append_left hi]
theorem isAt_pre {p : UInt8 -> Bool} {a b : List UInt8} (h10 : p 10 = false) {i : Nat} (hi : i <= a.length) : isAt p (a ++ 10 :: b) i = isAt p a i := by
 unfold isAt
 rcases Nat.lt_or_ge i a.length with h | h
 ·rw [List.getElem?_append_left h]
 ·have : i = a.length := by omega
  subst this
  rw [List.getElem?_append_right (Nat.le_refl _), List.getElem?_eq_none (Nat.le_refl _)]
  simp [h10]
theorem takeW_app {p : UInt8 -> Bool} {b : List UInt8} (h10 : p 10 = false) : ∀ l : List UInt8, (l ++ 10 :: b).takeWhile p = l.takeWhile p
 | [] => by simp [List.takeWhile_cons, h10]
 | c :: l => by
  rw [List.cons_append, List.takeWhile_cons, List.takeWhile_cons, takeW_app h10 l]
theorem end_pre {p : UInt8 -> Bool} {a b : List UInt8} (h10 : p 10 = false) {i : Nat} (hi : i <= a.length) : endF p (a ++ 10 :: b) i = endF p a i := by
 unfold endF
 rw [drop_pre hi, takeW_app h10]
theorem zqN {a c : List UInt8} {i j : Nat} (hj : j <= a.length) : cutF (a ++ c) i j = cutF a i j := by
 unfold cutF
 rw [List.take_append_of_le_length hj]
theorem num_pre {a b : List UInt8} {i : Nat} (hi : i <= a.length) : numF (a ++ 10 :: b) i = numF a i := by
 have h1 := end_pre (p := digB) (b := b) rfl hi
 have h2 := zxH (p := digB) hi
 have e1 : digF (a ++ 10 :: b) i = digF a i := h1
 have h2 : i <= digF a i /\ digF a i <= a.length := h2
 unfold numF
 dsimp only
 rw [e1, isAt_pre (by rfl) h2.2, zqN h2.2]
 rcases Nat.lt_or_ge (digF a i) a.length with h | h
 ·rw [isAt_pre (p := digB) (by rfl) (by omega : digF a i + 1 <= a.length)]
  have h3 := zxH (p := digB) (s := a) (i := digF a i + 1) (by omega)
  have e3 : digF (a ++ 10 :: b) (digF a i + 1) = digF a (digF a i + 1) := end_pre rfl (by omega)
  have h3 : digF a i + 1 <= digF a (digF a i + 1) /\ digF a (digF a i + 1) <= a.length := h3
  rw [e3, zqN h3.2]
 ·have h0 : isAt (λ b => b.toNat == 46) a (digF a i) = false := zxQ h
  rw [h0, Bool.false_and, if_pos rfl, Bool.false_and, if_pos rfl]
theorem textL_app (b : List UInt8) : ∀ (l : List UInt8) (p : Nat) (acc : List UInt8) (bad : Int), textL (l ++ 10 :: b) p acc bad = textL l p acc bad := by
 intro l p acc bad
 induction l, p, acc, bad using textL.induct with
 | case1 p acc bad => show textL (10 :: b) p acc bad = _; unfold textL; rfl
 | case2 c l p acc bad h1 =>
  rw [List.cons_append]
  conv => lhs; unfold textL
  conv => rhs; unfold textL
  rw [if_pos h1, if_pos h1]
 | case3 c p acc bad h1 h2 d l' h3 ih =>
  rw [List.cons_append, List.cons_append]
  conv => lhs; unfold textL
  conv => rhs; unfold textL
  rw [if_neg h1, if_pos h2, if_neg h1, if_pos h2]
  dsimp only
  rw [if_pos h3, if_pos h3, ih]
 | case4 c p acc bad h1 h2 d l' h3 =>
  rw [List.cons_append, List.cons_append]
  conv => lhs; unfold textL
  conv => rhs; unfold textL
  rw [if_neg h1, if_pos h2, if_neg h1, if_pos h2]
  dsimp only
  rw [if_neg h3, if_neg h3]
 | case5 c p acc bad h1 h2 =>
  show textL (c :: 10 :: b) p acc bad = _
  conv => lhs; unfold textL
  conv => rhs; unfold textL
  rw [if_neg h1, if_pos h2, if_neg h1, if_pos h2]
  rfl
 | case6 c l p acc bad h1 h2 ih =>
  rw [List.cons_append]
  conv => lhs; unfold textL
  conv => rhs; unfold textL
  rw [if_neg h1, if_neg h2, if_neg h1, if_neg h2, ih]
theorem text_pre {a b : List UInt8} {i : Nat} (hi : i < a.length) : textF (a ++ 10 :: b) i = textF a i := by
 unfold textF
 rw [drop_pre (by omega : i + 1 <= a.length), textL_app]
theorem signs_10 : ∀ w ∈ signsL, (10 : UInt8) ∉ w := by decide
theorem sign_pre {a b : List UInt8} {i : Nat} (hi : i < a.length) : signN (a ++ 10 :: b) i = signN a i := by
 unfold signN
 rcases Nat.lt_or_ge (i + 1) a.length with h | h
 ·rw [zqN (by omega : i + 2 <= a.length)]
  have : i + 2 <= (a ++ 10 :: b).length ↔ i + 2 <= a.length := by simp; omega
  simp only [this]
 ·rw [if_neg (by omega : ¬ (i + 2 <= a.length /\ _)), if_neg]
  rintro ⟨h1, h2⟩
  refine signs_10 _ h2 ?_
  have e : i + 1 = a.length := by omega
  unfold cutF
  have h3 : (((a ++ 10 :: b).take (i + 2)).drop i)[1]? = some 10 := by
   rw [List.getElem?_drop, List.getElem?_take, if_pos (by omega), e, List.getElem?_append_right (Nat.le_refl _)]
   simp
  exact List.mem_of_getElem? h3
theorem tok_pre {a b : List UInt8} {i : Nat} (hi : i < a.length) : tokF (a ++ 10 :: b) i = tokF a i := by
 have h1 : nameF (a ++ 10 :: b) i = nameF a i := end_pre (by rfl) (Nat.le_of_lt hi)
 have h2 : nameF a i <= a.length := (zxH (p := restB) (Nat.le_of_lt hi)).2
 have h3 : i + signN a i <= a.length := by
  unfold signN
  split <;> omega
 unfold tokF
 dsimp only
 rw [zvU hi, h1, zqN h2, num_pre (Nat.le_of_lt hi), text_pre hi, sign_pre hi, zqN h3]
def mapK (d : Nat) : Except Nat Nat -> Except Nat Nat
 | .ok j => .ok (d + j)
 | .error e => .error (d + e)
theorem zje (d : Nat) : ∀ (l : List UInt8) (m : Bool) (p : Nat), skipL m l (d + p) = mapK d (skipL m l p)
 | [], m, p => by rw [skipL_n, skipL_n]; rfl
 | c :: l, m, p => by
  cases m
  ·rw [zjt, zjt]
   split
   ·exact zje d l false (p + 1)
   ·split
    ·exact zje d l true (p + 1)
    ·rfl
  ·rw [zjG, zjG]
   split
   ·exact zje d l false (p + 1)
   ·split
    ·exact zje d l true (p + 1)
    ·rfl
theorem zwa {c b : List UInt8} {i : Nat} : (c ++ b).drop (c.length + i) = b.drop i := by
 rw [<- List.drop_drop, List.drop_left]
theorem skip_suf (c b : List UInt8) (i : Nat) : skipF (c ++ b) (c.length + i) = mapK c.length (skipF b i) := by
 unfold skipF
 rw [zwa, zje]
theorem isAt_suf {p : UInt8 -> Bool} {c b : List UInt8} {i : Nat} : isAt p (c ++ b) (c.length + i) = isAt p b i := by
 unfold isAt
 rw [List.getElem?_append_right (by omega), Nat.add_sub_cancel_left]
theorem getD_suf {c b : List UInt8} {i : Nat} : (c ++ b).getD (c.length + i) 0 = b.getD i 0 := by
 rw [List.getD_eq_getElem?_getD, List.getD_eq_getElem?_getD, List.getElem?_append_right (by omega), Nat.add_sub_cancel_left]
theorem end_suf {p : UInt8 -> Bool} {c b : List UInt8} {i : Nat} : endF p (c ++ b) (c.length + i) = c.length + endF p b i := by
 unfold endF
 rw [zwa]; omega
theorem zwX {c b : List UInt8} {i j : Nat} : cutF (c ++ b) (c.length + i) (c.length + j) = cutF b i j := by
 unfold cutF
 rw [List.take_append, List.take_of_length_le (by omega), Nat.add_sub_cancel_left, zwa]
theorem num_suf {c b : List UInt8} {i : Nat} : numF (c ++ b) (c.length + i) = (numF b i).map λ x => (x.1, x.2.1, c.length + x.2.2) := by
 have e1 : digF (c ++ b) (c.length + i) = c.length + digF b i := end_suf
 have e2 : digF (c ++ b) (c.length + digF b i + 1) = c.length + digF b (digF b i + 1) := by rw [Nat.add_assoc]; exact end_suf
 unfold numF
 dsimp only
 rw [e1, isAt_suf, e2, Nat.add_assoc, isAt_suf, zwX, zwX, show c.length + digF b i - (c.length + i) = digF b i - i by omega, show c.length + digF b (digF b i + 1) - (c.length + (digF b i + 1)) = digF b (digF b i + 1) - (digF b i + 1) by omega]
 split
 ·split <;> rfl
 ·split <;> rfl
def mvB (d : Nat) (bad : Int) : Int := if bad < 0 then bad else d + bad
theorem textL_move (d : Nat) : ∀ (l : List UInt8) (p : Nat) (acc : List UInt8) (bad : Int), textL l (d + p) acc (mvB d bad) = (textL l p acc bad).map λ x => (x.1, d + x.2.1, mvB d x.2.2) := by
 intro l p acc bad
 induction l, p, acc, bad using textL.induct with
 | case1 p acc bad => unfold textL; rfl
 | case2 c l p acc bad h1 => unfold textL; rw [if_pos h1, if_pos h1]; rfl
 | case3 c p acc bad h1 h2 d' l' h3 ih =>
  conv => lhs; unfold textL
  conv => rhs; unfold textL
  rw [if_neg h1, if_pos h2, if_neg h1, if_pos h2]
  dsimp only
  rw [if_pos h3, if_pos h3, <- ih]; rfl
 | case4 c p acc bad h1 h2 d' l' h3 =>
  conv => lhs; unfold textL
  conv => rhs; unfold textL
  rw [if_neg h1, if_pos h2, if_neg h1, if_pos h2]
  dsimp only
  rw [if_neg h3, if_neg h3]; rfl
 | case5 c p acc bad h1 h2 =>
  conv => lhs; unfold textL
  conv => rhs; unfold textL
  rw [if_neg h1, if_pos h2, if_neg h1, if_pos h2]
  rfl
 | case6 c l p acc bad h1 h2 ih =>
  conv => lhs; unfold textL
  conv => rhs; unfold textL
  rw [if_neg h1, if_neg h2, if_neg h1, if_neg h2, <- ih]
  congr 1
  unfold mvB
  split <;> split <;> (try split) <;> (try split) <;> first | rfl | omega | (exfalso; omega) | skip
  all_goals (simp_all; try omega)
theorem text_suf {c b : List UInt8} {i : Nat} : textF (c ++ b) (c.length + i) = match textF b i with
  | .ok (t, e, bad) => .ok (t, c.length + e, mvB c.length bad)
  | .error e => .error e := by
 unfold textF
 have := textL_move c.length (b.drop (i + 1)) (i + 1) [] (-1)
 rw [show mvB c.length (-1) = -1 from rfl] at this
 rw [Nat.add_assoc, zwa, this]
 cases textL (b.drop (i + 1)) (i + 1) [] (-1) with
 | none => rfl
 | some x =>
  obtain ⟨t, e, bad⟩ := x
  simp only [Option.map_some]
  split <;> rfl
theorem sign_suf {c b : List UInt8} {i : Nat} : signN (c ++ b) (c.length + i) = signN b i := by
 unfold signN
 rw [show c.length + i + 2 = c.length + (i + 2) by omega, zwX]
 have : c.length + (i + 2) <= (c ++ b).length ↔ i + 2 <= b.length := by simp
 simp only [this]
def mvT (d : Nat) : Except Nat TokR -> Except Nat TokR
 | .ok x => .ok ⟨x.kind, x.text, d + x.to, mvB d x.bad⟩
 | .error e => .error e
theorem zyB {c b : List UInt8} {i : Nat} : tokF (c ++ b) (c.length + i) = mvT c.length (tokF b i) := by
 have h1 : nameF (c ++ b) (c.length + i) = c.length + nameF b i := end_suf
 unfold tokF
 dsimp only
 rw [getD_suf, h1, zwX, num_suf, text_suf, sign_suf, Nat.add_assoc, zwX]
 split
 ·split
  ·rfl
  ·split <;> rfl
 ·split
  ·cases numF b i with
   | none => rfl
   | some x => obtain ⟨k, t, e⟩ := x; rfl
  ·split
   ·cases textF b i with
    | error e => rfl
    | ok x => obtain ⟨t, e, bad⟩ := x; rfl
   ·split
    ·split <;> rfl
    ·rfl
end
end Go.Proofs.YtekioipmhhcbhaaDoor
set_option maxRecDepth 20000
namespace Go.Proofs.YtekioipmhhcbhaaDoor
open Go Go.Z Go.W6
noncomputable section
theorem tokF_err {s : List UInt8} {i e : Nat} (h : tokF s i = .error e) : e ≠ 0 := by
 unfold tokF at h
 dsimp only at h
 split at h
 ·split at h
  ·cases h
  ·split at h
   ·cases h; decide
   ·cases h
 ·split at h
  ·split at h
   ·cases h
   ·cases h; decide
  ·split at h
   ·split at h
    ·cases h
    ·rename_i hh
     cases h
     unfold textF at hh
     split at hh
     ·cases hh; decide
     ·split at hh
      ·cases hh; decide
      ·cases hh
   ·split at h
    ·split at h
     ·cases h
     ·cases h; decide
    ·cases h; decide
def Lie (s : List UInt8) (l : List Tok) : Prop := ∀ t ∈ l, t.at_ < t.to /\ t.to <= s.length
theorem ends_facts {s : List UInt8} {i : Nat} {l : List Tok} {r : Scn} (h : Ends s i l r) : i <= s.length -> l.length <= i -> Lie s l -> (∀ x, r = .done x -> x.length <= s.length /\ Lie s x) /\ (∀ p e, r = .err p e -> 0 <= p /\ p < s.length /\ e ≠ 0) := by
 induction h with
 | @stop i l r h1 h2 =>
  intro hi hl hlie
  unfold stepF at h1
  split at h1
  ·rename_i b hb
   have := (zkk _ i (Nat.le_refl _) hi).2 b hb
   cases h1
   exact ⟨λ x hx => (by cases hx), λ p e hx => by cases hx; refine ⟨by omega, by omega, by decide⟩⟩
  ·rename_i j hj
   have hij := (zkk _ i (Nat.le_refl _) hi).1 j hj
   split at h1
   ·cases h1; exact ⟨λ x hx => by cases hx; exact ⟨by omega, hlie⟩, λ p e hx => (by cases hx)⟩
   ·rename_i hlt
    split at h1
    ·rename_i e0 ht
     cases h1
     exact ⟨λ x hx => (by cases hx), λ p e hx => by cases hx; exact ⟨by omega, by omega, tokF_err ht⟩⟩
    ·rename_i t ht
     have htl := tok_le (by omega) ht
     split at h1
     ·cases h1; exact ⟨λ x hx => (by cases hx), λ p e hx => by cases hx; refine ⟨by omega, by omega, by decide⟩⟩
     ·split at h1
      ·cases h1; exact ⟨λ x hx => (by cases hx), λ p e hx => by cases hx; refine ⟨by omega, by omega, by decide⟩⟩
      ·subst h1; cases h2
 | @step i l i' l' r h1 h2 ih =>
  intro hi hl hlie
  have hinc := zkz hi h1
  refine ih hinc.2.1 (by omega) ?_
  unfold stepF at h1
  split at h1
  ·cases h1
  ·rename_i j hj
   have hij := (zkk _ i (Nat.le_refl _) hi).1 j hj
   split at h1
   ·cases h1
   ·split at h1
    ·cases h1
    ·rename_i t ht
     have htl := tok_le (by omega) ht
     split at h1
     ·cases h1
     ·split at h1
      ·cases h1
      ·cases h1
       intro t' ht'
       rcases List.mem_append.1 ht' with h | h
       ·exact hlie t' h
       ·rw [List.mem_singleton.1 h]; exact ⟨htl.1, htl.2.1⟩
theorem zyk (s : List UInt8) : (∀ x, zqw s = .done x -> x.length <= s.length /\ Lie s x) /\ (∀ p e, zqw s = .err p e -> 0 <= p /\ p < s.length /\ e ≠ 0) :=
 ends_facts (zxS s) (Nat.zero_le _) (Nat.zero_le _) (λ t h => by cases h)
theorem zxu {s : List UInt8} (hs : s.length <= 20000) : (∃ x, zqw s = .done x /\ scanF s = (x, 0, 0) /\ x.length <= s.length /\ Lie s x) \/ (∃ p e, zqw s = .err p e /\ scanF s = ([], p, e) /\ 0 <= p /\ p < s.length /\ e ≠ 0) := by
 have h1 := zkF s
 rw [if_neg (by omega)] at h1
 have h2 := zyk s
 have h3 := end_end s
 cases he : zqw s with
 | done x => rw [he] at h1; exact .inl ⟨x, rfl, h1, h2.1 x he⟩
 | err p e => rw [he] at h1; exact .inr ⟨p, e, rfl, h1, h2.2 p e he⟩
 | go i l => rw [he] at h3; cases h3
theorem zwt {s : List UInt8} {i i' : Nat} (h : skipF s i = skipF s i') (l : List Tok) : stepF s i l = stepF s i' l := by
 unfold stepF; rw [h]
theorem step_pre {a b : List UInt8} {i : Nat} (hi : i <= a.length) (l : List Tok) :
  (stepF (a ++ 10 :: b) i l = stepF a i l /\ ∀ x, stepF a i l ≠ .done x) \/ (stepF a i l = .done l /\ stepF (a ++ 10 :: b) i l = stepF (a ++ 10 :: b) (a.length + 1) l) := by
 have hs := skip_pre a b hi
 cases hj : skipF a i with
 | error e =>
  rw [hj] at hs
  left
  unfold stepF
  rw [hs, hj]
  exact ⟨rfl, λ x h => by cases h⟩
 | ok j =>
  rw [hj] at hs
  dsimp only at hs
  have hij := (zkk _ i (Nat.le_refl _) hi).1 j hj
  rcases Nat.lt_or_ge j a.length with h | h
  ·rw [if_pos h] at hs
   left
   unfold stepF
   rw [hs, hj]
   dsimp only
   rw [if_neg (by simp; omega), if_neg (by omega), tok_pre h]
   refine ⟨rfl, λ x hx => ?_⟩
   split at hx
   ·cases hx
   ·split at hx
    ·cases hx
    ·split at hx <;> cases hx
  ·rw [if_neg (by omega)] at hs
   exact .inr ⟨zkB hj h, zwt hs l⟩
theorem ends_pre {a b : List UInt8} {i : Nat} {l : List Tok} {r : Scn} (h : Ends a i l r) : i <= a.length -> (∀ p e, r = .err p e -> Ends (a ++ 10 :: b) i l (.err p e)) /\ (∀ x, r = .done x -> ∀ r', Ends (a ++ 10 :: b) (a.length + 1) x r' -> Ends (a ++ 10 :: b) i l r') := by
 induction h with
 | @stop i l r h1 h2 =>
  intro hi
  rcases step_pre (b := b) hi l with ⟨e1, e2⟩ | ⟨e1, e2⟩
  ·rw [h1] at e1 e2
   exact ⟨λ p e hr => by subst hr; exact .stop e1 rfl, λ x hx => absurd hx (e2 x)⟩
  ·rw [e1] at h1
   subst h1
   refine ⟨λ p e hr => (by cases hr), λ x hx r' hr' => ?_⟩
   cases hx
   cases hr' with
   | stop h3 h4 => exact .stop (by rw [e2]; exact h3) h4
   | step h3 h4 => exact .step (by rw [e2]; exact h3) h4
 | @step i l i' l' r h1 h2 ih =>
  intro hi
  have hinc := zkz hi h1
  have ih := ih hinc.2.1
  rcases step_pre (b := b) hi l with ⟨e1, _⟩ | ⟨e1, _⟩
  ·rw [h1] at e1
   exact ⟨λ p e hr => .step e1 (ih.1 p e hr), λ x hx r' hr' => .step e1 (ih.2 x hx r' hr')⟩
  ·rw [h1] at e1; cases e1
def mvTok (d : Nat) (t : Tok) : Tok := ⟨t.kind, t.text, d + t.at_, d + t.to⟩
def mvS (d : Nat) (x : List Tok) : Scn -> Scn
 | .go i l => .go (d + i) (x ++ l.map (mvTok d))
 | .done l => .done (x ++ l.map (mvTok d))
 | .err a e => .err (d + a) e
theorem step_suf {c b : List UInt8} {i : Nat} {l x : List Tok} (hl : l.length < 6000) (hx : x.length + l.length < 6000) : stepF (c ++ b) (c.length + i) (x ++ l.map (mvTok c.length)) = mvS c.length x (stepF b i l) := by
 unfold stepF
 rw [skip_suf]
 cases skipF b i with
 | error e => simp [mapK, mvS]
 | ok j =>
  simp only [mapK]
  by_cases h : b.length <= j
  ·rw [if_pos h, if_pos (by simp; omega)]; rfl
  ·rw [if_neg h, if_neg (by simp; omega), zyB]
   cases tokF b j with
   | error e => simp [mvT, mvS]
   | ok t =>
    simp only [mvT]
    rw [if_neg (show ¬ 6000 <= (x ++ l.map (mvTok c.length)).length by simp; omega), if_neg (show ¬ 6000 <= l.length by omega)]
    by_cases hb : 0 <= t.bad
    ·have : mvB c.length t.bad = c.length + t.bad := by unfold mvB; rw [if_neg (by omega)]
     rw [if_pos hb, this, if_pos (by omega)]; rfl
    ·have : mvB c.length t.bad = t.bad := by unfold mvB; rw [if_pos (by omega)]
     rw [if_neg hb, this, if_neg hb]
     simp [mvS, mvTok]
theorem mvS_end {d : Nat} {x : List Tok} {r : Scn} (h : endB r = true) : endB (mvS d x r) = true := by
 cases r <;> first | rfl | cases h
theorem ends_suf {c b : List UInt8} {x : List Tok} (hx : x.length <= c.length) (hcb : c.length + b.length < 6000) {i : Nat} {l : List Tok} {r : Scn} (h : Ends b i l r) : i <= b.length -> l.length <= i -> Ends (c ++ b) (c.length + i) (x ++ l.map (mvTok c.length)) (mvS c.length x r) := by
 induction h with
 | @stop i l r h1 h2 =>
  intro hi hl
  exact .stop (by rw [step_suf (by omega) (by omega), h1]) (mvS_end h2)
 | @step i l i' l' r h1 h2 ih =>
  intro hi hl
  have hinc := zkz hi h1
  exact .step (by rw [step_suf (by omega) (by omega), h1]; rfl) (ih hinc.2.1 (by omega))
theorem pieces_err {a b : List UInt8} {p : Int} {e : Nat} (h : zqw a = .err p e) : zqw (a ++ 10 :: b) = .err p e :=
 ends_eq ((ends_pre (b := b) (zxS a) (Nat.zero_le _)).1 p e h)
theorem zwK {a b : List UInt8} {x : List Tok} (hab : a.length + 1 + b.length < 6000) (h : zqw a = .done x) : zqw (a ++ 10 :: b) = mvS (a.length + 1) x (zqw b) := by
 refine ends_eq ((ends_pre (b := b) (zxS a) (Nat.zero_le _)).2 x h _ ?_)
 have hx := ((zyk a).1 x h).1
 have := ends_suf (c := a ++ [10]) (b := b) (x := x) (by simp; omega) (by simp; omega) (zxS b) (Nat.zero_le _) (Nat.zero_le _)
 simpa using this
theorem lc_pre {a c : List UInt8} : ∀ p, p <= a.length -> lc (a ++ c) p = lc a p
 | 0, _ => rfl
 | p + 1, h => by
  rw [zjO, zjO, zvU (by omega), lc_pre p (by omega)]
theorem lc_suf {a b : List UInt8} : ∀ p, lc (a ++ 10 :: b) (a.length + 1 + p) = ((lc a a.length).1 + (lc b p).1, (lc b p).2)
 | 0 => by
  show lc (a ++ 10 :: b) (a.length + 1) = _
  rw [zjO, lc_pre _ (Nat.le_refl _)]
  have : (a ++ 10 :: b).getD a.length 0 = 10 := by
   rw [List.getD_eq_getElem?_getD, List.getElem?_append_right (Nat.le_refl _)]; simp
  rw [this, if_pos (show UInt8.toNat 10 = 10 from rfl)]
  rfl
 | p + 1 => by
  rw [<- Nat.add_assoc, zjO, zjO, lc_suf p]
  have : (a ++ 10 :: b).getD (a.length + 1 + p) 0 = b.getD p 0 := by
   have := getD_suf (c := a ++ [10]) (b := b) (i := p)
   simpa using this
  rw [this]
  split
  ·simp; omega
  ·rfl
theorem row_pre {a c : List UInt8} {t : Tok} (h : t.at_ < t.to /\ t.to <= a.length) : rowTok (a ++ c) t = rowTok a t := by
 unfold rowTok
 rw [lc_pre _ (by omega)]
end
end Go.Proofs.YtekioipmhhcbhaaDoor
set_option maxRecDepth 20000
namespace Go.Proofs.YtekioipmhhcbhaaDoor
open Go Go.Z Go.Q Go.W6
open Go.Y hiding KE KK KR go Task go_sound
noncomputable section
def mvRow (d : Nat) (lines : Int) (r : List V) : List V := [.sint .i64 (vI (r.getD 0 .und)), .sstr (vS (r.getD 1 .und)), .sint .i64 (vI (r.getD 2 .und) + d), .sint .i64 (vI (r.getD 3 .und) + d), .sint .i64 (vI (r.getD 4 .und) + lines), .sint .i64 (vI (r.getD 5 .und))]
end
end Go.Proofs.YtekioipmhhcbhaaDoor
set_option maxRecDepth 20000
namespace Go.Proofs.YtekioipmhhcbhaaDoor
open Go Go.Z Go.Q Go.W6
open Go.Y hiding KE KK KR go Task go_sound
noncomputable section
theorem rows_pre {a c : List UInt8} {x y : List Tok} {j : Nat} (h : j < x.length) (hl : Lie a x) : ((x ++ y).map (rowTok (a ++ c))).getD j [] = (x.map (rowTok a)).getD j [] := by
 rw [zkS (by simp; omega), zkS h, List.getElem_append_left h]
 exact row_pre (hl _ (List.getElem_mem h))
theorem rows_suf {a b : List UInt8} {x y : List Tok} {j : Nat} (h : j < y.length) : ((x ++ y.map (mvTok (a.length + 1))).map (rowTok (a ++ 10 :: b))).getD (x.length + j) [] = mvRow (a.length + 1) (lc a a.length).1 ((y.map (rowTok b)).getD j []) := by
 rw [zkS (by simp; omega), zkS h, List.getElem_append_right (by omega)]
 simp only [Nat.add_sub_cancel_left, List.getElem_map]
 unfold rowTok mvTok mvRow
 dsimp only
 rw [lc_suf]
 simp [vI, vS]
 omega
end
end Go.Proofs.YtekioipmhhcbhaaDoor
set_option maxRecDepth 20000
namespace Go.Proofs.YtekioipmhhcbhaaDoor
open Go Go.Z Go.W6
noncomputable section
theorem takeW_cut {p : UInt8 -> Bool} {w r : List UInt8} (h : ((w ++ r).takeWhile p).length <= w.length) : (w ++ r).takeWhile p = w.takeWhile p := by
 induction w with
 | nil =>
  simp only [List.nil_append, List.length_nil] at h
  have : r.takeWhile p = [] := List.eq_nil_of_length_eq_zero (by omega)
  rw [List.nil_append, this]; rfl
 | cons c w ih =>
  rw [List.cons_append, List.takeWhile_cons] at h ⊢
  rw [List.takeWhile_cons]
  split
  ·rename_i hc
   rw [if_pos hc] at h
   rw [ih (by simpa using h)]
  ·rfl
theorem end_cut {p : UInt8 -> Bool} {w r : List UInt8} {i : Nat} (hi : i <= w.length) (h : endF p (w ++ r) i <= w.length) : endF p w i = endF p (w ++ r) i := by
 unfold endF at h ⊢
 rw [drop_pre hi] at h ⊢
 rw [takeW_cut (by rw [List.length_drop]; omega)]
theorem zka {p : UInt8 -> Bool} {w r : List UInt8} {i : Nat} (hi : i < w.length) : isAt p (w ++ r) i = isAt p w i := by
 unfold isAt
 rw [List.getElem?_append_left hi]
theorem num_cut {w r : List UInt8} {i x e : Nat} {t : List UInt8} (hd : isAt digB (w ++ r) i = true) (h : numF (w ++ r) i = some (x, t, e)) (he : e <= w.length) : numF w i = some (x, t, e) := by
 obtain ⟨h1, h2⟩ := zqQ hd
 have hle := numF_le hd h
 have hj : digF (w ++ r) i <= e := by
  unfold numF at h
  dsimp only at h
  split at h
  ·split at h
   ·cases h
   ·cases h; exact Nat.le_refl _
  ·split at h
   ·cases h
   ·cases h
    have := zxH (p := digB) (s := w ++ r) (i := digF (w ++ r) i + 1)
    rename_i hh _
    have h5 : isAt digB (w ++ r) (digF (w ++ r) i + 1) = true := by
     cases hq : isAt digB (w ++ r) (digF (w ++ r) i + 1) with
     | true => rfl
     | false => rw [hq, Bool.and_false] at hh; exact absurd rfl hh
    have h6 := (zqQ h5).1
    have h7 := zxH (p := digB) (s := w ++ r) (i := digF (w ++ r) i + 1) (by omega)
    have h8 : digF (w ++ r) (digF (w ++ r) i + 1) = endF digB (w ++ r) (digF (w ++ r) i + 1) := rfl
    omega
 have e1 : digF w i = digF (w ++ r) i := end_cut (by omega) (by show digF (w ++ r) i <= _; omega)
 unfold numF at h ⊢
 dsimp only at h ⊢
 rw [e1]
 split at h
 ·rename_i hh
  split at h
  ·cases h
  ·rename_i hlen
   cases h
   have hno : (isAt (λ b => b.toNat == 46) w (digF (w ++ r) i) && isAt digB w (digF (w ++ r) i + 1)) = false := by
    rcases Nat.lt_or_ge (digF (w ++ r) i + 1) w.length with hl | hl
    ·rw [<- zka (r := r) (by omega), <- zka (r := r) hl]; exact hh
    ·rw [zxQ hl, Bool.and_false]
   rw [if_pos hno, if_neg hlen, zqN he]
 ·rename_i hh
  split at h
  ·cases h
  ·rename_i hlen
   cases h
   have hh2 : (isAt (λ b => b.toNat == 46) (w ++ r) (digF (w ++ r) i) && isAt digB (w ++ r) (digF (w ++ r) i + 1)) = true := by
    cases hq : (isAt (λ b => b.toNat == 46) (w ++ r) (digF (w ++ r) i) && isAt digB (w ++ r) (digF (w ++ r) i + 1)) with
    | true => rfl
    | false => exact absurd hq hh
   have h5 : isAt digB (w ++ r) (digF (w ++ r) i + 1) = true := by simp only [Bool.and_eq_true] at hh2; exact hh2.2
   obtain ⟨h6, h7⟩ := zqQ h5
   have h8 := zxH (p := digB) (s := w ++ r) (i := digF (w ++ r) i + 2) h6
   have h9 : digF (w ++ r) (digF (w ++ r) i + 1) = endF digB (w ++ r) (digF (w ++ r) i + 2) := h7
   have e2 : digF w (digF (w ++ r) i + 1) = digF (w ++ r) (digF (w ++ r) i + 1) := end_cut (by omega) (by show digF (w ++ r) _ <= _; omega)
   have hyes : ¬ (isAt (λ b => b.toNat == 46) w (digF (w ++ r) i) && isAt digB w (digF (w ++ r) i + 1)) = false := by
    have a1 := zka (p := λ b => b.toNat == 46) (w := w) (r := r) (i := digF (w ++ r) i) (by omega)
    have a2 := zka (p := digB) (w := w) (r := r) (i := digF (w ++ r) i + 1) (by omega)
    rw [<- a1, <- a2]; exact hh
   rw [zqN he] at hlen
   rw [if_neg hyes, e2, zqN he, zqN (by omega : digF (w ++ r) i <= w.length)]
   rw [if_neg hlen]
theorem textL_cut : ∀ (l : List UInt8) (p : Nat) (acc : List UInt8) (bad : Int) (b : List UInt8) (q : Nat) (z : Int), textL l p acc bad = some (b, q, z) -> ∀ n, q + 1 <= p + n -> textL (l.take n) p acc bad = some (b, q, z) := by
 intro l p acc bad
 induction l, p, acc, bad using textL.induct with
 | case1 p acc bad => intro b q z h; unfold textL at h; cases h
 | case2 c l p acc bad h1 => intro b q z h; unfold textL at h; rw [if_pos h1] at h; cases h
 | case3 c p acc bad h1 h2 d l' h3 ih =>
  intro b q z h n hn
  have hle := zxy _ _ _ _ _ _ _ h
  unfold textL at h; rw [if_neg h1, if_pos h2] at h; dsimp only at h; rw [if_pos h3] at h
  have hle2 := zxy _ _ _ _ _ _ _ h
  obtain ⟨m, rfl⟩ : ∃ m, n = m + 2 := ⟨n - 2, by omega⟩
  rw [List.take_succ_cons, List.take_succ_cons]
  unfold textL
  rw [if_neg h1, if_pos h2]
  dsimp only
  rw [if_pos h3]
  exact ih b q z h m (by omega)
 | case4 c p acc bad h1 h2 d l' h3 =>
  intro b q z h n hn
  unfold textL at h; rw [if_neg h1, if_pos h2] at h; dsimp only at h; rw [if_neg h3] at h
  cases h
  obtain ⟨m, rfl⟩ : ∃ m, n = m + 1 := ⟨n - 1, by omega⟩
  cases m with
  | zero =>
   show textL [c] _ _ _ = _
   unfold textL
   rw [if_neg h1, if_pos h2]
  | succ m =>
   rw [List.take_succ_cons, List.take_succ_cons]
   unfold textL
   rw [if_neg h1, if_pos h2]
   dsimp only
   rw [if_neg h3]
 | case5 c p acc bad h1 h2 =>
  intro b q z h n hn
  unfold textL at h; rw [if_neg h1, if_pos h2] at h; dsimp only at h
  cases h
  obtain ⟨m, rfl⟩ : ∃ m, n = m + 1 := ⟨n - 1, by omega⟩
  rw [List.take_succ_cons, List.take_nil]
  unfold textL
  rw [if_neg h1, if_pos h2]
 | case6 c l p acc bad h1 h2 ih =>
  intro b q z h n hn
  have hle := zxy _ _ _ _ _ _ _ h
  unfold textL at h; rw [if_neg h1, if_neg h2] at h
  have hle2 := zxy _ _ _ _ _ _ _ h
  obtain ⟨m, rfl⟩ : ∃ m, n = m + 1 := ⟨n - 1, by omega⟩
  rw [List.take_succ_cons]
  unfold textL
  rw [if_neg h1, if_neg h2]
  exact ih b q z h m (by omega)
theorem text_cut {w r : List UInt8} {i e : Nat} {t : List UInt8} {bad : Int} (h : textF (w ++ r) i = .ok (t, e, bad)) (he : e <= w.length) : textF w i = .ok (t, e, bad) := by
 have hle := text_le h
 unfold textF at h ⊢
 have hd : w.drop (i + 1) = ((w ++ r).drop (i + 1)).take (w.length - (i + 1)) := by
  rw [drop_pre (by omega), List.take_append_of_le_length (by simp), List.take_of_length_le (by simp)]
 split at h
 ·cases h
 ·rename_i b p z hh
  split at h
  ·cases h
  ·rename_i hl
   cases h
   rw [hd, textL_cut _ _ _ _ _ _ _ hh _ (by omega)]
   dsimp only
   rw [if_neg hl]
theorem tok_cut {w r : List UInt8} {i : Nat} {x : TokR} (hi : i < w.length) (h : tokF (w ++ r) i = .ok x) (he : x.to = w.length) : tokF w i = .ok x := by
 have hlt : i < (w ++ r).length := by simp; omega
 have g : (w ++ r).getD i 0 = w.getD i 0 := zvU hi
 unfold tokF at h ⊢
 dsimp only at h ⊢
 rw [g] at h
 split at h
 ·rename_i hl
  rw [if_pos hl]
  have hn : nameF (w ++ r) i = w.length := by
   split at h
   ·cases h; exact he
   ·split at h
    ·cases h
    ·cases h; exact he
  have e1 : nameF w i = nameF (w ++ r) i := end_cut (by omega) (by show nameF (w ++ r) i <= _; omega)
  rw [e1, <- zqN (c := r) (by omega : nameF (w ++ r) i <= w.length)]
  exact h
 ·rename_i hl
  rw [if_neg hl]
  split at h
  ·rename_i hd
   rw [if_pos hd]
   split at h
   ·rename_i hn
    cases h
    rw [num_cut (by rw [zxf hlt, g]; exact hd) hn (by have := he; dsimp only at this; omega)]
   ·cases h
  ·rename_i hd
   rw [if_neg hd]
   split at h
   ·rename_i hq
    rw [if_pos hq]
    split at h
    ·rename_i hn
     cases h
     rw [text_cut hn (by have := he; dsimp only at this; omega)]
    ·cases h
   ·rename_i hq
    rw [if_neg hq]
    split at h
    ·rename_i hs
     rw [if_pos hs]
     split at h
     ·rename_i hc
      cases h
      dsimp only at he
      have es : signN w i = signN (w ++ r) i := by
       have hh : signN (w ++ r) i = 2 \/ signN (w ++ r) i = 1 := by unfold signN; split <;> simp
       rcases hh with hh | hh
       ·have h2 : i + 2 <= w.length := by omega
        unfold signN
        rw [zqN (by omega : i + 2 <= w.length)]
        have : i + 2 <= (w ++ r).length ↔ i + 2 <= w.length := by simp; omega
        simp only [this]
       ·rw [hh]
        unfold signN
        rw [if_neg (by omega)]
      rw [es, <- zqN (c := r) (by omega : i + signN (w ++ r) i <= w.length), if_pos hc]
     ·cases h
    ·cases h
theorem tok_skip {s : List UInt8} {i : Nat} {x : TokR} (hi : i < s.length) (h : tokF s i = .ok x) : skipF s i = .ok i := by
 rw [zkl hi]
 unfold tokF at h
 dsimp only at h
 have h1 : letB (s.getD i 0) = true -> ¬ ((s.getD i 0).toNat = 32 \/ (s.getD i 0).toNat = 10) /\ (s.getD i 0).toNat ≠ 36 := by intro h; unfold letB at h; simp only [Bool.or_eq_true, Bool.and_eq_true, decide_eq_true_eq] at h; omega
 have h2 : digB (s.getD i 0) = true -> ¬ ((s.getD i 0).toNat = 32 \/ (s.getD i 0).toNat = 10) /\ (s.getD i 0).toNat ≠ 36 := by intro h; unfold digB at h; simp only [Bool.or_eq_true, Bool.and_eq_true, decide_eq_true_eq] at h; omega
 have h3 : signB (s.getD i 0) = true -> ¬ ((s.getD i 0).toNat = 32 \/ (s.getD i 0).toNat = 10) /\ (s.getD i 0).toNat ≠ 36 := by
  intro h; unfold signB at h
  generalize (s.getD i 0).toNat = n at h
  simp at h; omega
 have key : ¬ ((s.getD i 0).toNat = 32 \/ (s.getD i 0).toNat = 10) /\ (s.getD i 0).toNat ≠ 36 := by
  split at h
  ·exact h1 (by assumption)
  ·split at h
   ·exact h2 (by assumption)
   ·split at h
    ·omega
    ·split at h
     ·exact h3 (by assumption)
     ·cases h
 rw [if_neg key.1, if_neg key.2]
theorem split3 (s : List UInt8) {i e : Nat} (h1 : i <= e) (h2 : e <= s.length) : s = s.take i ++ (cutF s i e ++ s.drop e) := by
 unfold cutF
 have : s = s.take e ++ s.drop e := (List.take_append_drop e s).symm
 conv => lhs; rw [this]
 rw [<- List.append_assoc]
 congr 1
 have : (s.take e).take i ++ (s.take e).drop i = s.take e := List.take_append_drop i (s.take e)
 rw [List.take_take, Nat.min_eq_left h1] at this
 exact this.symm
theorem scan_alone {s : List UInt8} {i : Nat} {x : TokR} (hs : s.length <= 20000) (hi : i < s.length) (h : tokF s i = .ok x) (hb : ¬ 0 <= x.bad) : scanF (cutF s i x.to) = ([⟨x.kind, x.text, 0, x.to - i⟩], 0, 0) := by
 have hle := tok_le hi h
 have hcl := cut_len (s := s) (i := i) hle.2.1
 have hsp := split3 s (Nat.le_of_lt hle.1) hle.2.1
 have hti : (s.take i).length = i := by rw [List.length_take]; omega
 have h1 : tokF (cutF s i x.to ++ s.drop x.to) 0 = .ok ⟨x.kind, x.text, x.to - i, x.bad⟩ := by
  have := zyB (c := s.take i) (b := cutF s i x.to ++ s.drop x.to) (i := 0)
  rw [<- hsp, hti, Nat.add_zero, h] at this
  cases hq : tokF (cutF s i x.to ++ s.drop x.to) 0 with
  | error e => rw [hq] at this; cases this
  | ok y =>
   rw [hq] at this
   obtain ⟨yk, yt, ye, yb⟩ := y
   simp only [mvT, Except.ok.injEq] at this
   subst this
   unfold mvB at hb ⊢
   dsimp only at hb hle ⊢
   have : i + ye - i = ye := by omega
   rw [this]
   split
   ·rfl
   ·rename_i hyb
    exfalso
    rw [if_neg hyb] at hb
    omega
 have h2 := tok_cut (by omega) h1 (by dsimp only; omega)
 have h3 := tok_skip (by omega) h2
 have h4 : stepF (cutF s i x.to) 0 [] = .go (x.to - i) [⟨x.kind, x.text, 0, x.to - i⟩] := step_go h3 (by omega) h2 (by simp) hb
 have h5 : stepF (cutF s i x.to) (x.to - i) [⟨x.kind, x.text, 0, x.to - i⟩] = .done [⟨x.kind, x.text, 0, x.to - i⟩] := zkB (zjW (by omega)) (by omega)
 have h6 : zqw (cutF s i x.to) = .done [⟨x.kind, x.text, 0, x.to - i⟩] := ends_eq (.step h4 (.stop h5 rfl))
 rw [zkF, if_neg (by omega), h6]
end
end Go.Proofs.YtekioipmhhcbhaaDoor
