/- Scan: what it comes to. -/
import Derived.Test.YtekioipmhhcbhaaDoorV3
import Derived.Test.YtekioipmhhcbhaaDoorM9
import Derived.Test.YtekioipmhhcbhaaDoorKk
set_option linter.unusedVariables false
set_option linter.unusedSectionVars false
set_option linter.unusedSimpArgs false
set_option maxRecDepth 20000
namespace Go.Proofs.YtekioipmhhcbhaaDoor
open Go Go.Z Go.Q Go.W6
open Go.Y hiding KE KK KR go Task go_sound
noncomputable section
variable [Ext]
theorem f16_eq (s : List UInt8) (ty : Nat) (N : E -> Nat -> List (Option Chunk) -> Prop) : Go.Q.go Tryd.prog ⟨G06, [], [(54002, lp Tryd.prog 45 0, l45)]⟩ 200 (.call 16 [.sstr s] ⟨1, ofMo ([0].zip [some (.cells spaceV ty 1)]), [wh 0]⟩ (cutA [0,1,10] N)) =
 (True /\ True /\ (decide (20000 < (s.length : Int)) = true -> N (E.ret (.tup [.nils, .int .i64 0, .int .i64 3])) 4 [some (.cells spaceV ty 1), some (.cells [.nils] (30 : Nat) 1), none]) /\ (decide (20000 < (s.length : Int)) = false -> lp Tryd.prog (45 : Nat) 0 = lp Tryd.prog (45 : Nat) 0 /\ (some (V.yld 9) = some (V.yld 9) /\ some (V.ptr 7 0) = some (V.ptr 7 0)) /\ (0 : Int) = (0 : Int) /\ (some (Chunk.cells [V.nils] (30 : Nat) 1) = some (Chunk.cells [V.nils] (30 : Nat) 1) /\ some keysC = some keysC /\ some signsC = some signsC /\ some (Chunk.cells [V.ptr 6 0] (48 : Nat) 1) = some (Chunk.cells [V.ptr 6 0] (48 : Nat) 1) /\ some (V.ptr 1 0) = some (V.ptr 1 0) /\ some loopC = some loopC) /\ ((0 : Int) <= (0 : Int) /\ 0 <= (s.length : Int) /\ (s.length : Int) <= 20000 /\ 1 = (↑(1 : Nat) : Int) /\ 1 = (↑(1 : Nat) : Int)) /\ (0 : Int) = (0 : Int) /\ (zqw s = Scn.done [] -> N (E.ret (.tup [.nils, .int .i64 0, .int .i64 0])) 11 [some (.cells spaceV ty 1), some (.cells [.nils] (30 : Nat) 1), none]) /\ (∀ (t : Tok) (l : List Tok), zqw s = Scn.done (t :: l) -> N (E.ret (.tup [.ssl 10 0 (l.length + 1) 6, .int .i64 0, .int .i64 0])) 11 [some (.cells spaceV ty 1), some (.cells [.ssl 10 0 (l.length + 1) 6] (30 : Nat) 1), some (.rows (List.map (rowTok s) (t :: l)) shTok (34 : Nat))]) /\ ∀ (a : Int) (e : Nat), zqw s = Scn.err a e -> ∀ (v : V), N (E.ret (.tup [.nils, .sint .i64 a, .int .i64 (e : Int)])) 12 [some (.cells spaceV ty 1), some (.cells [.nils] (30 : Nat) 1), none] /\ N (E.ret (.tup [.nils, .sint .i64 a, .int .i64 (e : Int)])) 13 [some (.cells spaceV ty 1), some (.cells [.nils] (30 : Nat) 1), none])) := by kernel_rfl
theorem scanF_eq (s : List UInt8) : scanF s = if 20000 < s.length then ([], 0, 3) else match zqw s with
  | .done l => (l, 0, 0)
  | .err a e => ([], a, e)
  | .go _ _ => ([], 0, 0) := rfl
abbrev spC (ty : Nat) : Chunk := .cells spaceV ty 1
def scanV (id : Nat) (s : List UInt8) : V := .tup [.ssl id 0 (scanF s).1.length 6, .sint .i64 (scanF s).2.1, .sint .i64 ((scanF s).2.2 : Nat)]
def scanC (s : List UInt8) : Chunk := .rowsO ((scanF s).1.map (rowTok s)) shTok 34
def roOk : List Lk -> Bool
 | [] => true
 | l :: ls => match Nat.beq 0 l.1 with | true => roOk ls | false => false
theorem roOk_lk : ∀ {ls : List Lk}, roOk ls = true -> lkOk [0] [0] [wh 0] ls
 | [], _ => trivial
 | l :: ls, h => by
  unfold roOk at h
  split at h
  ·rename_i hb
   have hb := beq_tt hb
   refine ⟨?_, roOk_lk h⟩
   rw [<- hb]
   exact List.mem_singleton.2 rfl
  ·cases h
def sScan (args : List V) (hp : Mem) (k : KE) : Prop := match args with
 | [v] => match strOf v, roOk hp.ro, hp.t.get 0, small hp.n, Nat.blt 0 hp.n with
  | some s, true, some (.cells l ty sz), true, true => (Chunk.cells l ty sz = spC ty) /\ k (.ret (scanV hp.n s)) ⟨hp.n + 1, Tr.set 20 (Tr.set 20 hp.t 0 (some (spC ty))) hp.n (some (scanC s)), hp.ro⟩
  | _, _, _, _, _ => False
 | _ => False
def kScan (s : List UInt8) (ty : Nat) : E -> List (Option Chunk) -> Option Chunk -> Prop := λ e cs nc => cs = [some (spC ty)] /\ e = .ret (scanV 1 s) /\ nc = some (scanC s)
theorem space_vok : voks (inI [0]) spaceV = true := by kernel_rfl
abbrev G16 : GQ := ⟨G06, [], [(54002, lp Tryd.prog 45 0, l45)]⟩
theorem cNn_scan {s : List UInt8} {ty n a : Nat} {e : E} {c1 : Chunk} {t : List (Option Chunk)} (ha : a = 1 \/ a = 10) (han : Nat.blt a n = true) (hc : lookC [0, 1, 10] t a = some c1) (ht : t.head? = some (some (spC ty))) (hle : chle c1 (scanC s))
  (he : ele e (.ret (scanV a s))) : cNn [0] [0, 1, 10] 1 [true] (kScan s ty) e n t := by
 refine .inr ⟨.ret (scanV 1 s), [some (spC ty)], a, c1, scanC s, ?_, rfl, ?_, rfl, ?_, ?_, han, hc, hle, rfl, rfl, rfl, rfl⟩
 ·rcases ha with rfl | rfl <;> exact he
 ·cases t with
  | nil => cases ht
  | cons x t =>
   cases ht
   exact ⟨zqd _, trivial⟩
 ·show coks3 (inI [0]) [some (spC ty)] = true
  simp only [coks3, cloC, cok, space_vok]
 ·rcases ha with rfl | rfl <;> rfl
theorem scan_run (s : List UInt8) (ty : Nat) : TaskOk Tryd.prog G16 (.call 16 [.sstr s] ⟨1, ofMo ([0].zip [some (spC ty)]), [wh 0]⟩ (cutA [0, 1, 10] (cNn [0] [0, 1, 10] 1 [true] (kScan s ty)))) := by
 refine go_sound qmix qNG known06 (zxf rfl) (ls_one rfl l45_ok) 200 _ (Eq.mpr (f16_eq s ty _) ?_)
 simp only [decide_eq_true_eq, decide_eq_false_iff_not]
 have eq := scanF_eq s
 have none : (scanF s).1 = [] -> chle (.cells [.nils] 30 1) (scanC s) := λ h => .inl (by rw [h]; rfl)
 refine ⟨trivial, trivial, λ hlong => ?_, λ hlong => ⟨trivial, ⟨trivial, trivial⟩, trivial, ⟨trivial, trivial, trivial, trivial, trivial, trivial⟩, ⟨by omega, by omega, by omega, rfl, rfl⟩, trivial, λ hd => ?_, λ t l hd => ?_, λ a e hd v => ?_⟩⟩
 ·rw [if_pos (by omega)] at eq
  refine cNn_scan (.inl rfl) rfl rfl rfl (none (by rw [eq])) ?_
  show dle (.tup [_, _, _]) (.tup [_, _, _])
  rw [eq]
  exact ⟨rfl, ⟨rfl, rfl⟩, ⟨rfl, rfl⟩, trivial⟩
 ·rw [if_neg (by omega), hd] at eq
  refine cNn_scan (.inl rfl) rfl rfl rfl (none (by rw [eq])) ?_
  show dle (.tup [_, _, _]) (.tup [_, _, _])
  rw [eq]
  exact ⟨rfl, ⟨rfl, rfl⟩, ⟨rfl, rfl⟩, trivial⟩
 ·rw [if_neg (by omega), hd] at eq
  refine cNn_scan (.inr rfl) rfl rfl rfl ?_ ?_
  ·unfold scanC
   rw [eq]
   exact ⟨rfl, rfl, rfl⟩
  show dle (.tup [_, _, _]) (.tup [_, _, _])
  rw [eq]
  exact ⟨rfl, ⟨rfl, rfl⟩, ⟨rfl, rfl⟩, trivial⟩
 ·rw [if_neg (by omega), hd] at eq
  constructor
  all_goals
   refine cNn_scan (.inl rfl) rfl rfl rfl (none (by rw [eq])) ?_
   show dle (.tup [_, _, _]) (.tup [_, _, _])
   rw [eq]
   exact ⟨rfl, ⟨rfl, rfl⟩, ⟨rfl, rfl⟩, trivial⟩
theorem varG_get {g id : Nat} (h : (varG 0).get g = some id) : g = 0 /\ id = 0 := by
 have h : (Tr.set 20 .nil 0 (some 0) : Tr Nat).get g = some id := h
 rw [Tr.get_set _ _ _ _ _ (zqz rfl)] at h
 split at h
 ·rename_i e; cases h; exact ⟨e, rfl⟩
 ·rw [Tr.get_nil] at h; cases h
theorem scan_ok {kn vs gf gl} : ∀ args hp k, sScan args hp k -> TaskOk Tryd.prog ⟨⟨varG 0, kn, vs⟩, gf, gl⟩ (.call 16 args hp k) := by
 intro args hp k h
 unfold sScan at h
 split at h
 ·rename_i v
  split at h
  ·rename_i s l ty sz hs hro hg hsm hpos
   obtain ⟨hc, hk⟩ := h
   refine call_nw 1 [0] [1, 10] [0] [some (spC ty)] [wh 0] (kScan s ty) (scan_run s ty) ?_ ?_ (args0 := [.sstr s]) ⟨zxy hs, trivial⟩ rfl rfl rfl ?_ rfl rfl ?_ ?_ (roOk_lk hro) ?_ hsm ?_ ?_
   ·intro g id e
    have e : (varG 0).get g = some id := e
    obtain ⟨rfl, rfl⟩ := varG_get e
    exact ⟨rfl, rfl⟩
   ·intro l hl; rw [List.mem_singleton.1 hl]; exact Nat.zero_lt_one
   ·show below hp.n [0] = true
    simp only [below, hpos]; rfl
   ·show coks3 (inI [0]) [some (spC ty)] = true
    simp only [coks3, cloC, cok, space_vok]
   ·refine ⟨⟨_, hg, ?_⟩, trivial⟩
    rw [hc]
    exact zqd _
   ·intro ρ W hH i hi
    rw [List.mem_singleton.1 hi]
    obtain ⟨b, o, _, h2⟩ := hH.rel 0 _ hg
    obtain ⟨c, h3⟩ := h2.at
    exact ⟨_, h3⟩
   ·rintro e cs' ⟨_, _, h⟩; cases h
   ·rintro e cs' ch ⟨rfl, rfl, h⟩
    cases h
    exact hk
  ·exact h.elim
 ·exact h.elim
end
end Go.Proofs.YtekioipmhhcbhaaDoor
namespace Go.Proofs.YtekioipmhhcbhaaDoor
open Go Go.Z Go.Q Go.W6
open Go.Y hiding KE KK KR go Task go_sound
noncomputable section
variable [Ext]
def atV (nt n : Nat) (ids rids : List Nat) (fi : FI) (ds : List DV) (hp : Mem) (p : List Chunk -> Prop) : Prop := match Nat.beq fi.nt nt, fi.ro, ds, Nat.beq hp.n n, noLk ids hp.ro, pkS rids hp.t with
 | true, none, [], true, true, some rc => p rc
 | _, _, _, _, _, _ => False
theorem atV_inv {nt n : Nat} {ids rids : List Nat} {fi : FI} {ds : List DV} {hp : Mem} {p : List Chunk -> Prop} (h : atV nt n ids rids fi ds hp p) : fi = ⟨nt, none⟩ /\ ds = [] /\ hp.n = n /\ noLk ids hp.ro = true /\ ∃ rc, pk rids hp.t = rc.map some /\ p rc := by
 obtain ⟨a, b⟩ := fi
 unfold atV at h
 split at h
 ·rename_i h1 h2 h3 h4 h5
  dsimp only at h1 h2
  exact ⟨by rw [beq_tt h1, h2], rfl, beq_tt h3, h4, _, pkS_ok h5, h⟩
 ·exact h.elim
theorem zkI {α β : Type} {f : α -> β} {l : List α} {i : Nat} {d : β} (h : i < l.length) : (l.map f).getD i d = f (l[i]'h) := by
 rw [List.getD_eq_getElem?_getD, List.getElem?_map, List.getElem?_eq_getElem h]; rfl
end
end Go.Proofs.YtekioipmhhcbhaaDoor
