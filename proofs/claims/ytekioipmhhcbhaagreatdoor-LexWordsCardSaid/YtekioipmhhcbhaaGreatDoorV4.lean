/- Scan: what it comes to. -/
import Derived.Test.YtekioipmhhcbhaaGreatDoorV3
import Derived.Test.YtekioipmhhcbhaaGreatDoorM9
import Derived.Test.YtekioipmhhcbhaaGreatDoorKk
set_option linter.unusedVariables false
set_option linter.unusedSectionVars false
set_option linter.unusedSimpArgs false
set_option maxRecDepth 20000
namespace Go.Proofs.YtekioipmhhcbhaaGreatDoor
open Go Go.Z Go.Q Go.W6
open Go.Y hiding KE KK KR go Task go_sound
noncomputable section
variable [Ext]
theorem f16_eq (s : List UInt8) (ty : Nat) (N : E -> Nat -> List (Option Chunk) -> Prop) : Go.Q.go Tryz.prog ⟨G06, [], [(54002, lp Tryz.prog 57 0, l45)]⟩ 200 (.call 8 [.sstr s] ⟨1, ofMo ([0].zip [some (.cells spaceV ty 1)]), [wh 0]⟩ (cutA [0,1,10] N)) =
 (True /\ True /\ (decide (20000 < (s.length : Int)) = true -> N (E.ret (.tup [.nils, .int .i64 0, .int .i64 3])) 4 [some (.cells spaceV ty 1), some (.cells [.nils] (24 : Nat) 1), none]) /\ (decide (20000 < (s.length : Int)) = false -> lp Tryz.prog (57 : Nat) 0 = lp Tryz.prog (57 : Nat) 0 /\ (some (V.yld 9) = some (V.yld 9) /\ some (V.ptr 7 0) = some (V.ptr 7 0)) /\ (0 : Int) = (0 : Int) /\ (some (Chunk.cells [V.nils] (24 : Nat) 1) = some (Chunk.cells [V.nils] (24 : Nat) 1) /\ some keysC = some keysC /\ some signsC = some signsC /\ some (Chunk.cells [V.ptr 6 0] (48 : Nat) 1) = some (Chunk.cells [V.ptr 6 0] (48 : Nat) 1) /\ some (V.ptr 1 0) = some (V.ptr 1 0) /\ some loopC = some loopC) /\ ((0 : Int) <= (0 : Int) /\ 0 <= (s.length : Int) /\ (s.length : Int) <= 20000 /\ 1 = (↑(1 : Nat) : Int) /\ 1 = (↑(1 : Nat) : Int)) /\ (0 : Int) = (0 : Int) /\ (zqJ s = Scn.done [] -> N (E.ret (.tup [.nils, .int .i64 0, .int .i64 0])) 11 [some (.cells spaceV ty 1), some (.cells [.nils] (24 : Nat) 1), none]) /\ (∀ (t : Tok) (l : List Tok), zqJ s = Scn.done (t :: l) -> N (E.ret (.tup [.ssl 10 0 (l.length + 1) 6, .int .i64 0, .int .i64 0])) 11 [some (.cells spaceV ty 1), some (.cells [.ssl 10 0 (l.length + 1) 6] (24 : Nat) 1), some (.rows (List.map (rowTok s) (t :: l)) shTok (30 : Nat))]) /\ ∀ (a : Int) (e : Nat), zqJ s = Scn.err a e -> ∀ (v : V), N (E.ret (.tup [.nils, .sint .i64 a, .int .i64 (e : Int)])) 12 [some (.cells spaceV ty 1), some (.cells [.nils] (24 : Nat) 1), none] /\ N (E.ret (.tup [.nils, .sint .i64 a, .int .i64 (e : Int)])) 13 [some (.cells spaceV ty 1), some (.cells [.nils] (24 : Nat) 1), none])) := by kernel_rfl
theorem scanF_eq (s : List UInt8) : scanF s = if 20000 < s.length then ([], 0, 3) else match zqJ s with
  | .done l => (l, 0, 0)
  | .err a e => ([], a, e)
  | .go _ _ => ([], 0, 0) := rfl
abbrev spC (ty : Nat) : Chunk := .cells spaceV ty 1
def scanV (id : Nat) (s : List UInt8) : V := .tup [.ssl id 0 (scanF s).1.length 6, .sint .i64 (scanF s).2.1, .sint .i64 ((scanF s).2.2 : Nat)]
def scanC (s : List UInt8) : Chunk := .rowsO ((scanF s).1.map (rowTok s)) shTok 30
def roOk : List Lk -> Bool
 | [] => true
 | l :: ls => match Nat.beq 0 l.1 with | true => roOk ls | false => false
theorem roOk_lk : ∀ {ls : List Lk}, roOk ls = true -> lkOk [0] [0] [wh 0] ls
 | [], _ => trivial
 | l :: ls, h => by
  unfold roOk at h
  split at h
  ·rename_i hb
   have hb := beq_tt hb
   refine ⟨?_, roOk_lk h⟩
   rw [<- hb]
   exact List.mem_singleton.2 rfl
  ·cases h
def sScan (args : List V) (hp : Mem) (k : KE) : Prop := match args with
 | [v] => match strOf v, roOk hp.ro, hp.t.get 0, small hp.n, Nat.blt 0 hp.n with
  | some s, true, some (.cells l ty sz), true, true => (Chunk.cells l ty sz = spC ty) /\ k (.ret (scanV hp.n s)) ⟨hp.n + 1, Tr.set 20 (Tr.set 20 hp.t 0 (some (spC ty))) hp.n (some (scanC s)), hp.ro⟩
  | _, _, _, _, _ => False
 | _ => False
def kScan (s : List UInt8) (ty : Nat) : E -> List (Option Chunk) -> Option Chunk -> Prop := λ e cs nc => cs = [some (spC ty)] /\ e = .ret (scanV 1 s) /\ nc = some (scanC s)
theorem zxB : voks (inI [0]) spaceV = true := by kernel_rfl
abbrev G16 : GQ := ⟨G06, [], [(54002, lp Tryz.prog 57 0, l45)]⟩
theorem cNn_scan {s : List UInt8} {ty n a : Nat} {e : E} {c1 : Chunk} {t : List (Option Chunk)} (ha : a = 1 \/ a = 10) (han : Nat.blt a n = true) (hc : lookC [0, 1, 10] t a = some c1) (ht : t.head? = some (some (spC ty))) (hle : chle c1 (scanC s))
  (he : ele e (.ret (scanV a s))) : cNn [0] [0, 1, 10] 1 [true] (kScan s ty) e n t := by
 refine .inr ⟨.ret (scanV 1 s), [some (spC ty)], a, c1, scanC s, ?_, rfl, ?_, rfl, ?_, ?_, han, hc, hle, rfl, rfl, rfl, rfl⟩
 ·rcases ha with rfl | rfl <;> exact he
 ·cases t with
  | nil => cases ht
  | cons x t =>
   cases ht
   exact ⟨zqc _, trivial⟩
 ·show coks3 (inI [0]) [some (spC ty)] = true
  simp only [coks3, cloC, cok, zxB]
 ·rcases ha with rfl | rfl <;> rfl
theorem scan_run (s : List UInt8) (ty : Nat) : TaskOk Tryz.prog G16 (.call 8 [.sstr s] ⟨1, ofMo ([0].zip [some (spC ty)]), [wh 0]⟩ (cutA [0, 1, 10] (cNn [0] [0, 1, 10] 1 [true] (kScan s ty)))) := by
 refine go_sound qmix qNG known06 (zqt rfl) (ls_one rfl l45_ok) 200 _ (Eq.mpr (f16_eq s ty _) ?_)
 simp only [decide_eq_true_eq, decide_eq_false_iff_not]
 have eq := scanF_eq s
 have none : (scanF s).1 = [] -> chle (.cells [.nils] 24 1) (scanC s) := λ h => .inl (by rw [h]; rfl)
 refine ⟨trivial, trivial, λ hlong => ?_, λ hlong => ⟨trivial, ⟨trivial, trivial⟩, trivial, ⟨trivial, trivial, trivial, trivial, trivial, trivial⟩, ⟨by omega, by omega, by omega, rfl, rfl⟩, trivial, λ hd => ?_, λ t l hd => ?_, λ a e hd v => ?_⟩⟩
 ·rw [if_pos (by omega)] at eq
  refine cNn_scan (.inl rfl) rfl rfl rfl (none (by rw [eq])) ?_
  show dle (.tup [_, _, _]) (.tup [_, _, _])
  rw [eq]
  exact ⟨rfl, ⟨rfl, rfl⟩, ⟨rfl, rfl⟩, trivial⟩
 ·rw [if_neg (by omega), hd] at eq
  refine cNn_scan (.inl rfl) rfl rfl rfl (none (by rw [eq])) ?_
  show dle (.tup [_, _, _]) (.tup [_, _, _])
  rw [eq]
  exact ⟨rfl, ⟨rfl, rfl⟩, ⟨rfl, rfl⟩, trivial⟩
 ·rw [if_neg (by omega), hd] at eq
  refine cNn_scan (.inr rfl) rfl rfl rfl ?_ ?_
  ·unfold scanC
   rw [eq]
   exact ⟨rfl, rfl, rfl⟩
  show dle (.tup [_, _, _]) (.tup [_, _, _])
  rw [eq]
  exact ⟨rfl, ⟨rfl, rfl⟩, ⟨rfl, rfl⟩, trivial⟩
 ·rw [if_neg (by omega), hd] at eq
  constructor
  all_goals
   refine cNn_scan (.inl rfl) rfl rfl rfl (none (by rw [eq])) ?_
   show dle (.tup [_, _, _]) (.tup [_, _, _])
   rw [eq]
   exact ⟨rfl, ⟨rfl, rfl⟩, ⟨rfl, rfl⟩, trivial⟩
theorem varG_get {g id : Nat} (h : (varG 0).get g = some id) : g = 0 /\ id = 0 := by
 have h : (Tr.set 20 .nil 0 (some 0) : Tr Nat).get g = some id := h
 rw [Tr.get_set _ _ _ _ _ (zqC rfl)] at h
 split at h
 ·rename_i e; cases h; exact ⟨e, rfl⟩
 ·rw [Tr.get_nil] at h; cases h
theorem scan_ok {kn vs gf gl} : ∀ args hp k, sScan args hp k -> TaskOk Tryz.prog ⟨⟨varG 0, kn, vs⟩, gf, gl⟩ (.call 8 args hp k) := by
 intro args hp k h
 unfold sScan at h
 split at h
 ·rename_i v
  split at h
  ·rename_i s l ty sz hs hro hg hsm hpos
   obtain ⟨hc, hk⟩ := h
   refine call_nw 1 [0] [1, 10] [0] [some (spC ty)] [wh 0] (kScan s ty) (scan_run s ty) ?_ ?_ (args0 := [.sstr s]) ⟨zqi hs, trivial⟩ rfl rfl rfl ?_ rfl rfl ?_ ?_ (roOk_lk hro) ?_ hsm ?_ ?_
   ·intro g id e
    have e : (varG 0).get g = some id := e
    obtain ⟨rfl, rfl⟩ := varG_get e
    exact ⟨rfl, rfl⟩
   ·intro l hl; rw [List.mem_singleton.1 hl]; exact Nat.zero_lt_one
   ·show below hp.n [0] = true
    simp only [below, hpos]; rfl
   ·show coks3 (inI [0]) [some (spC ty)] = true
    simp only [coks3, cloC, cok, zxB]
   ·refine ⟨⟨_, hg, ?_⟩, trivial⟩
    rw [hc]
    exact zqc _
   ·intro ρ W hH i hi
    rw [List.mem_singleton.1 hi]
    obtain ⟨b, o, _, h2⟩ := hH.rel 0 _ hg
    obtain ⟨c, h3⟩ := h2.at
    exact ⟨_, h3⟩
   ·rintro e cs' ⟨_, _, h⟩; cases h
   ·rintro e cs' ch ⟨rfl, rfl, h⟩
    cases h
    exact hk
  ·exact h.elim
 ·exact h.elim
end
end Go.Proofs.YtekioipmhhcbhaaGreatDoor
namespace Go.Proofs.YtekioipmhhcbhaaGreatDoor
open Go Go.Z Go.Q Go.W6
open Go.Y hiding KE KK KR go Task go_sound
noncomputable section
variable [Ext]
def atV (nt n : Nat) (ids rids : List Nat) (fi : FI) (ds : List DV) (hp : Mem) (p : List Chunk -> Prop) : Prop := match Nat.beq fi.nt nt, fi.ro, ds, Nat.beq hp.n n, noLk ids hp.ro, pkS rids hp.t with
 | true, none, [], true, true, some rc => p rc
 | _, _, _, _, _, _ => False
theorem zxZ {nt n : Nat} {ids rids : List Nat} {fi : FI} {ds : List DV} {hp : Mem} {p : List Chunk -> Prop} (h : atV nt n ids rids fi ds hp p) : fi = ⟨nt, none⟩ /\ ds = [] /\ hp.n = n /\ noLk ids hp.ro = true /\ ∃ rc, pk rids hp.t = rc.map some /\ p rc := by
 obtain ⟨a, b⟩ := fi
 unfold atV at h
 split at h
 ·rename_i h1 h2 h3 h4 h5
  dsimp only at h1 h2
  exact ⟨by rw [beq_tt h1, h2], rfl, beq_tt h3, h4, _, pkS_ok h5, h⟩
 ·exact h.elim
theorem getD_map {α β : Type} {f : α -> β} {l : List α} {i : Nat} {d : β} (h : i < l.length) : (l.map f).getD i d = f (l[i]'h) := by
 rw [List.getD_eq_getElem?_getD, List.getElem?_map, List.getElem?_eq_getElem h]; rfl
theorem zjP {P : Program} {G0 G : GQ} {f : Nat} {args args0 : List V} {hp : Mem} {k : KE} {R : V} (h : TaskOk P G0 (.call f args0 nomem λ e _ => retV R e)) (hg : G0.g.t = .nil) (hle : vles args args0) (ha : vins 0 args0 = true) (hR : vin 0 R = true) (hk : k (.ret R) hp) : TaskOk P G (.call f args hp k) := by
 have := sum_of1 (G := G) (hp := hp) h hg ha hR hk
 exact ⟨this.1, λ ρ W us Post hG hH hus hkk => this.2 ρ W us Post hG hH (zjm hle hus) hkk⟩
end
end Go.Proofs.YtekioipmhhcbhaaGreatDoor
namespace Go.Proofs.YtekioipmhhcbhaaGreatDoor
open Go Go.Z Go.Q Go.W6
open Go.Y hiding KE KK KR go Task go_sound
noncomputable section
variable [Ext]
def byteOf (v : V) : Option Int := match v with
 | .int .u8 n => some n
 | .sint .u8 n => some n
 | _ => none
def sByte (p : UInt8 -> Bool) (args : List V) (hp : Mem) (k : KE) : Prop := match args with
 | [v] => match byteOf v with
  | some n => (0 <= n /\ n < 256) /\ k (.ret (.sbool (p (UInt8.ofNat n.toNat)))) hp
  | none => False
 | _ => False
def sSmall (args : List V) (hp : Mem) (k : KE) : Prop := match args with
 | [v] => match byteOf v with
  | some n => (0 <= n /\ n < 256) /\ k (.ret (.sint .u8 ((Go.Lib.lowerB (UInt8.ofNat n.toNat)).toNat))) hp
  | none => False
 | _ => False
def leW (s : List UInt8) (m i : Int) : List V := [.sstr s, .sint .i64 m, .sint .i64 i]
def lEnd (p : UInt8 -> Bool) (fi : FI) (ds : List DV) (env : Tr V) (hp : Mem) (k : KK) : Prop := atV 20 0 [] [] fi ds hp λ rc => match pk [0, 1, 5] env with
 | [some v0, some v1, some v2] => match strOf v0, int64 v1, int64 v2 with
  | some s, some m, some i => (0 <= i /\ i <= (s.length : Int) /\ (s.length : Int) <= 20000) /\ k (.exit 0) [] (ofE ([0, 1, 5].zip (leW s m (endF p s i.toNat)))) ⟨0, ofM ([].zip [] ++ [].zip rc), hp.ro⟩
  | _, _, _ => False
 | _ => False
def sEnd (p : UInt8 -> Bool) (args : List V) (hp : Mem) (k : KE) : Prop := match args with
 | [v0, v1] => match strOf v0, int64 v1 with
  | some s, some i => (0 <= i /\ i <= (s.length : Int) /\ (s.length : Int) <= 20000) /\ k (.ret (.sint .i64 (endF p s i.toNat))) hp
  | _, _ => False
 | _ => False
def wholeN (s : List UInt8) (i : Nat) : Nat := i + ((s.drop i).dropLast.takeWhile (λ b => b.toNat == 48)).length
def placeN (s : List UInt8) : Nat -> Nat
 | 0 => 0
 | 1 => 1
 | i + 2 => if (s.getD (i + 1) 0).toNat = 48 then placeN s (i + 1) else i + 2
def leZ (s : List UInt8) (i : Int) : List V := [.sstr s, .sint .i64 i]
def lWhole (fi : FI) (ds : List DV) (env : Tr V) (hp : Mem) (k : KK) : Prop := atV 20 0 [] [] fi ds hp λ rc => match pk [0, 3] env with
 | [some v0, some v1] => match strOf v0, int64 v1 with
  | some s, some i => (i = 0 /\ 0 < s.length /\ s.length <= 20000) /\ k (.exit 0) [] (ofE ([0, 3].zip (leZ s (wholeN s 0)))) ⟨0, ofM ([].zip [] ++ [].zip rc), hp.ro⟩
  | _, _ => False
 | _ => False
def lPlaces (fi : FI) (ds : List DV) (env : Tr V) (hp : Mem) (k : KK) : Prop := atV 20 0 [] [] fi ds hp λ rc => match pk [0, 3] env with
 | [some v0, some v1] => match strOf v0, int64 v1 with
  | some s, some i => (i = (s.length : Int) /\ 0 < s.length /\ s.length <= 20000) /\ k (.exit 0) [] (ofE ([0, 3].zip (leZ s (placeN s s.length)))) ⟨0, ofM ([].zip [] ++ [].zip rc), hp.ro⟩
  | _, _ => False
 | _ => False
def sWhole (args : List V) (hp : Mem) (k : KE) : Prop := match args with
 | [v] => match strOf v with
  | some s => (0 < s.length /\ s.length <= 20000) /\ k (.ret (.sstr (trimF s))) hp
  | none => False
 | _ => False
def sPlaces (args : List V) (hp : Mem) (k : KE) : Prop := match args with
 | [v] => match strOf v with
  | some s => (0 < s.length /\ s.length <= 20000) /\ k (.ret (.sstr (tailF s))) hp
  | none => False
 | _ => False
end
end Go.Proofs.YtekioipmhhcbhaaGreatDoor
set_option maxRecDepth 20000
namespace Go.Proofs.YtekioipmhhcbhaaGreatDoor
open Go Go.Z Go.Q Go.W6
open Go.Y hiding KE KK KR go Task go_sound
noncomputable section
variable [Ext]
theorem r_small (n : Int) (N : E -> Nat -> List (Option Chunk) -> Prop) : Go.Q.go Tryz.prog ⟨⟨.nil, [], []⟩, [], []⟩ 100 (.call 68 [.sint .u8 n] nomem (cutE [] N)) =
 (True /\ (decide (65 <= n) = true -> True /\ (decide (n <= 90) = true -> True /\ N (E.ret (.sint .u8 ((n + 32) % 256))) 0 []) /\ (decide (n <= 90) = false -> N (E.ret (.sint .u8 n)) 0 [])) /\ (decide (65 <= n) = false -> N (E.ret (.sint .u8 n)) 0 [])) := by kernel_rfl
theorem r_letter (n : Int) (N : E -> Nat -> List (Option Chunk) -> Prop) : Go.Q.go Tryz.prog ⟨⟨.nil, [], []⟩, [(68, sSmall)], []⟩ 100 (.call 47 [.sint .u8 n] nomem (cutE [] N)) =
 ((0 <= n /\ n < 256) /\ True /\ (decide (97 <= (↑(Lib.lowerB (UInt8.ofNat n.toNat)).toNat : Int)) = true -> (0 <= n /\ n < 256) /\ True /\ (decide ((↑(Lib.lowerB (UInt8.ofNat n.toNat)).toNat : Int) <= 122) = true -> N (E.ret (.bool true)) 0 []) /\ (decide ((↑(Lib.lowerB (UInt8.ofNat n.toNat)).toNat : Int) <= 122) = false -> N (E.ret (.bool false)) 0 [])) /\ (decide (97 <= (↑(Lib.lowerB (UInt8.ofNat n.toNat)).toNat : Int)) = false -> N (E.ret (.bool false)) 0 [])) := by kernel_rfl
theorem r_digit (n : Int) (N : E -> Nat -> List (Option Chunk) -> Prop) : Go.Q.go Tryz.prog ⟨⟨.nil, [], []⟩, [], []⟩ 100 (.call 61 [.sint .u8 n] nomem (cutE [] N)) =
 (True /\ (decide (48 <= n) = true -> True /\ (decide (n <= 57) = true -> N (E.ret (.bool true)) 0 []) /\ (decide (n <= 57) = false -> N (E.ret (.bool false)) 0 [])) /\ (decide (48 <= n) = false -> N (E.ret (.bool false)) 0 [])) := by kernel_rfl
theorem r_rest (n : Int) (N : E -> Nat -> List (Option Chunk) -> Prop) : Go.Q.go Tryz.prog ⟨⟨.nil, [], []⟩, [(47, sByte letB), (61, sByte digB)], []⟩ 100 (.call 49 [.sint .u8 n] nomem (cutE [] N)) =
 ((0 <= n /\ n < 256) /\ (letB (UInt8.ofNat n.toNat) = true -> N (E.ret (.bool true)) 0 []) /\ (letB (UInt8.ofNat n.toNat) = false -> (0 <= n /\ n < 256) /\ (digB (UInt8.ofNat n.toNat) = true -> N (E.ret (.bool true)) 0 []) /\ (digB (UInt8.ofNat n.toNat) = false -> True /\ (decide (n = 95) = true -> N (E.ret (.bool true)) 0 []) /\ (decide (n = 95) = false -> N (E.ret (.bool false)) 0 [])))) := by kernel_rfl
theorem r_digits0 (s : List UInt8) (m i : Int) (N : O -> List (Option V) -> Nat -> List (Option Chunk) -> Prop) : Go.Q.go Tryz.prog ⟨⟨.nil, [], []⟩, [(61, sByte digB)], []⟩ 100 (.code ⟨20, none⟩ (lp Tryz.prog 78 0) [] (ofE ([0,1,5].zip [.sstr s, .sint .i64 m, .sint .i64 i])) ⟨0, ofMo ([].zip []), []⟩ (cutM [0,1,5] [] N)) =
 (True /\ True /\ (decide (i < (s.length : Int)) = true -> (0 <= i /\ i < (s.length : Int)) /\ (0 <= (↑(s.getD i.toNat 0).toNat : Int) /\ (↑(s.getD i.toNat 0).toNat : Int) < 256) /\ (digB (UInt8.ofNat (↑(s.getD i.toNat 0).toNat : Int).toNat) = true -> (-9223372036854775808 <= i + 1 /\ i + 1 <= 9223372036854775807) /\ N O.normal [some (.sstr s), some (.sint .i64 m), some (.sint .i64 (i + 1))] 0 []) /\ (digB (UInt8.ofNat (↑(s.getD i.toNat 0).toNat : Int).toNat) = false -> N (O.exit 0) [some (.sstr s), some (.sint .i64 m), some (.sint .i64 i)] 0 [])) /\ (decide (i < (s.length : Int)) = false -> N (O.exit 0) [some (.sstr s), some (.sint .i64 m), some (.sint .i64 i)] 0 [])) := by kernel_rfl
theorem r_digits (s : List UInt8) (i : Int) (N : E -> Nat -> List (Option Chunk) -> Prop) : Go.Q.go Tryz.prog ⟨⟨.nil, [], []⟩, [], [(20002, lp Tryz.prog 78 0, lEnd digB)]⟩ 100 (.call 78 [.sstr s, .sint .i64 i] nomem (cutE [] N)) =
 (lp Tryz.prog 78 0 = lp Tryz.prog 78 0 /\ (0 <= i /\ i <= (s.length : Int) /\ (s.length : Int) <= 20000) /\ N (E.ret (.sint .i64 (↑(endF digB s i.toNat) : Int))) 0 []) := by kernel_rfl
theorem r_whole0 (s : List UInt8) (i : Int) (N : O -> List (Option V) -> Nat -> List (Option Chunk) -> Prop) : Go.Q.go Tryz.prog ⟨⟨.nil, [], []⟩, [], []⟩ 100 (.code ⟨20, none⟩ (lp Tryz.prog 79 0) [] (ofE ([0,3].zip [.sstr s, .sint .i64 i])) ⟨0, ofMo ([].zip []), []⟩ (cutM [0,3] [] N)) =
 (True /\ (-9223372036854775808 <= (s.length : Int) - 1 /\ (s.length : Int) - 1 <= 9223372036854775807) /\ True /\ (decide (i < (s.length : Int) - 1) = true -> (0 <= i /\ i < (s.length : Int)) /\ True /\ (decide ((↑(s.getD i.toNat 0).toNat : Int) = 48) = true -> (-9223372036854775808 <= i + 1 /\ i + 1 <= 9223372036854775807) /\ N O.normal [some (.sstr s), some (.sint .i64 (i + 1))] 0 []) /\ (decide ((↑(s.getD i.toNat 0).toNat : Int) = 48) = false -> N (O.exit 0) [some (.sstr s), some (.sint .i64 i)] 0 [])) /\ (decide (i < (s.length : Int) - 1) = false -> N (O.exit 0) [some (.sstr s), some (.sint .i64 i)] 0 [])) := by kernel_rfl
theorem r_places0 (s : List UInt8) (i : Int) (N : O -> List (Option V) -> Nat -> List (Option Chunk) -> Prop) : Go.Q.go Tryz.prog ⟨⟨.nil, [], []⟩, [], []⟩ 100 (.code ⟨20, none⟩ (lp Tryz.prog 80 0) [] (ofE ([0,3].zip [.sstr s, .sint .i64 i])) ⟨0, ofMo ([].zip []), []⟩ (cutM [0,3] [] N)) =
 (True /\ (decide (1 < i) = true -> (-9223372036854775808 <= i - 1 /\ i - 1 <= 9223372036854775807) /\ (0 <= i - 1 /\ i - 1 < (s.length : Int)) /\ True /\ (decide ((↑(s.getD (i - 1).toNat 0).toNat : Int) = 48) = true -> (-9223372036854775808 <= i - 1 /\ i - 1 <= 9223372036854775807) /\ N O.normal [some (.sstr s), some (.sint .i64 (i - 1))] 0 []) /\ (decide ((↑(s.getD (i - 1).toNat 0).toNat : Int) = 48) = false -> N (O.exit 0) [some (.sstr s), some (.sint .i64 i)] 0 [])) /\ (decide (1 < i) = false -> N (O.exit 0) [some (.sstr s), some (.sint .i64 i)] 0 [])) := by kernel_rfl
theorem r_whole (s : List UInt8) (N : E -> Nat -> List (Option Chunk) -> Prop) : Go.Q.go Tryz.prog ⟨⟨.nil, [], []⟩, [], [(20002, lp Tryz.prog 79 0, lWhole)]⟩ 100 (.call 79 [.sstr s] nomem (cutE [] N)) =
 (lp Tryz.prog 79 0 = lp Tryz.prog 79 0 /\ ((0 : Int) = (0 : Int) /\ 0 < s.length /\ s.length <= 20000) /\ (0 <= (↑(wholeN s 0) : Int) /\ (↑(wholeN s 0) : Int) <= (s.length : Int)) /\ N (E.ret (.sstr (List.drop (↑(wholeN s 0) : Int).toNat s))) 0 []) := by kernel_rfl
theorem r_places (s : List UInt8) (N : E -> Nat -> List (Option Chunk) -> Prop) : Go.Q.go Tryz.prog ⟨⟨.nil, [], []⟩, [], [(20002, lp Tryz.prog 80 0, lPlaces)]⟩ 100 (.call 80 [.sstr s] nomem (cutE [] N)) =
 (True /\ lp Tryz.prog 80 0 = lp Tryz.prog 80 0 /\ ((s.length : Int) = (s.length : Int) /\ 0 < s.length /\ s.length <= 20000) /\ (0 <= (↑(placeN s s.length) : Int) /\ (↑(placeN s s.length) : Int) <= (s.length : Int)) /\ N (E.ret (.sstr (List.take (↑(placeN s s.length) : Int).toNat s))) 0 []) := by kernel_rfl
theorem byteOf_vle {v : V} {n : Int} (h : byteOf v = some n) : vle v (.sint .u8 n) := by
 unfold byteOf at h
 split at h
 ·cases h; exact ⟨rfl, rfl⟩
 ·cases h; exact zqa _
 ·cases h
theorem byte_ok {G0 G : GQ} {f : Nat} {p : UInt8 -> Bool} (h : ∀ n : Int, 0 <= n -> n < 256 -> TaskOk Tryz.prog G0 (.call f [.sint .u8 n] nomem (cutE [] λ e _ _ => retV (.sbool (p (UInt8.ofNat n.toNat))) e))) (hg : G0.g.t = .nil) : ∀ args hp k, sByte p args hp k -> TaskOk Tryz.prog G (.call f args hp k) := by
 intro args hp k hs
 unfold sByte at hs
 split at hs
 ·split at hs
  ·rename_i v n e0
   obtain ⟨⟨h0, h1⟩, hk⟩ := hs
   exact zjP (zqv (h n h0 h1) zqG) hg ⟨byteOf_vle e0, trivial⟩ rfl rfl hk
  ·exact hs.elim
 ·exact hs.elim
theorem ofN {n : Int} (h0 : 0 <= n) (h1 : n < 256) : ((UInt8.ofNat n.toNat).toNat : Int) = n := by
 rw [UInt8.toNat_ofNat', Nat.mod_eq_of_lt (by omega)]; omega
theorem ret_b {b : Bool} {x : Bool} (h : x = b) : retV (.sbool b) (E.ret (V.bool x)) := by subst h; unfold retV; exact rfl
theorem small_ok {G : GQ} : ∀ args hp k, sSmall args hp k -> TaskOk Tryz.prog G (.call 68 args hp k) := by
 intro args hp k hs
 unfold sSmall at hs
 split at hs
 ·split at hs
  ·rename_i v n e0
   obtain ⟨⟨h0, h1⟩, hk⟩ := hs
   have t : TaskOk Tryz.prog nilG (.call 68 [.sint .u8 n] nomem (cutE [] λ e _ _ => retV (.sint .u8 ((Go.Lib.lowerB (UInt8.ofNat n.toNat)).toNat)) e)) := by
    refine go_sound qmix qNG zqb (zqt rfl) (zql rfl) 100 _ (Eq.mpr (r_small n _) ?_)
    have e := ofN h0 h1
    have up : Go.Lib.isUpperB (UInt8.ofNat n.toNat) = true ↔ (65 <= n /\ n <= 90) := by
     unfold Go.Lib.isUpperB
     simp [UInt8.le_iff_toNat_le]
     omega
    simp only [decide_eq_true_eq, decide_eq_false_iff_not]
    have no : ¬ (65 <= n /\ n <= 90) -> retV (.sint .u8 ((Go.Lib.lowerB (UInt8.ofNat n.toNat)).toNat)) (E.ret (V.sint .u8 n)) := by
     intro h
     unfold retV Go.Lib.lowerB
     rw [if_neg (λ h2 => h (up.1 h2)), e]
     exact zqa _
    refine ⟨trivial, λ h1 => ⟨trivial, λ h2 => ⟨trivial, ?_⟩, λ h2 => no (by omega)⟩, λ h1 => no (by omega)⟩
    unfold retV Go.Lib.lowerB
    rw [if_pos (up.2 ⟨h1, h2⟩)]
    refine ⟨rfl, ?_⟩
    rw [UInt8.toNat_add]
    have : (UInt8.ofNat n.toNat).toNat = n.toNat := by omega
    rw [this]
    show (n + 32) % 256 = (((n.toNat + 32) % 256 : Nat) : Int)
    omega
   exact zjP (zqv t zqG) rfl ⟨byteOf_vle e0, trivial⟩ rfl rfl hk
  ·exact hs.elim
 ·exact hs.elim
theorem zjV {G : GQ} : ∀ args hp k, sByte digB args hp k -> TaskOk Tryz.prog G (.call 61 args hp k) := by
 refine byte_ok (G0 := nilG) (λ n h0 h1 => ?_) rfl
 refine go_sound qmix qNG zqb (zqt rfl) (zql rfl) 100 _ (Eq.mpr (r_digit n _) ?_)
 have e := ofN h0 h1
 simp only [decide_eq_true_eq, decide_eq_false_iff_not]
 refine ⟨trivial, λ h1 => ⟨trivial, λ h2 => ret_b ?_, λ h2 => ret_b ?_⟩, λ h1 => ret_b ?_⟩
 all_goals
  unfold digB
  symm
  simp only [Bool.and_eq_true, Bool.and_eq_false_iff, decide_eq_true_eq, decide_eq_false_iff_not]
  omega
theorem low_let (b : UInt8) : letB b = true ↔ 97 <= (Go.Lib.lowerB b).toNat /\ (Go.Lib.lowerB b).toNat <= 122 := by
 have hb := UInt8.toNat_lt b
 unfold letB Go.Lib.lowerB
 by_cases h : Go.Lib.isUpperB b = true
 ·rw [if_pos h]
  have : 65 <= b.toNat /\ b.toNat <= 90 := by unfold Go.Lib.isUpperB at h; simpa [UInt8.le_iff_toNat_le] using h
  rw [UInt8.toNat_add]
  show _ ↔ 97 <= (b.toNat + 32) % 256 /\ (b.toNat + 32) % 256 <= 122
  simp only [Bool.or_eq_true, Bool.and_eq_true, decide_eq_true_eq]
  omega
 ·rw [if_neg h]
  have : ¬ (65 <= b.toNat /\ b.toNat <= 90) := by unfold Go.Lib.isUpperB at h; simpa [UInt8.le_iff_toNat_le] using h
  simp only [Bool.or_eq_true, Bool.and_eq_true, decide_eq_true_eq]
  omega
theorem isLetter_ok {G : GQ} : ∀ args hp k, sByte letB args hp k -> TaskOk Tryz.prog G (.call 47 args hp k) := by
 refine byte_ok (G0 := ⟨⟨.nil, [], []⟩, [(68, sSmall)], []⟩) (λ n h0 h1 => ?_) rfl
 refine go_sound qmix qNG zqb (fs_one rfl small_ok) (zql rfl) 100 _ (Eq.mpr (r_letter n _) ?_)
 have e := low_let (UInt8.ofNat n.toNat)
 simp only [decide_eq_true_eq, decide_eq_false_iff_not]
 refine ⟨⟨h0, h1⟩, trivial, λ g1 => ⟨⟨h0, h1⟩, trivial, λ g2 => ret_b ?_, λ g2 => ret_b ?_⟩, λ g1 => ret_b ?_⟩
 ·exact (e.2 ⟨by omega, by omega⟩).symm
 ·symm; rw [<- Bool.not_eq_true]; intro h; have := e.1 h; omega
 ·symm; rw [<- Bool.not_eq_true]; intro h; have := e.1 h; omega
theorem fs_two {P : Program} {G : GQ} {n n' : Nat} {s s' : List V -> Mem -> KE -> Prop} (hl : G.fs = [(n, s), (n', s')]) (h : ∀ args hp k, s args hp k -> TaskOk P G (.call n args hp k)) (h' : ∀ args hp k, s' args hp k -> TaskOk P G (.call n' args hp k)) : FsOk P G := by
 intro f s2 hf args hp k hs
 rw [hl] at hf
 simp only [lookF] at hf
 split at hf
 ·rename_i hb; cases hf; rw [<- beq_tt hb]; exact h args hp k hs
 split at hf
 ·rename_i hb; cases hf; rw [<- beq_tt hb]; exact h' args hp k hs
 ·cases hf
theorem isRest_ok {G : GQ} : ∀ args hp k, sByte restB args hp k -> TaskOk Tryz.prog G (.call 49 args hp k) := by
 refine byte_ok (G0 := ⟨⟨.nil, [], []⟩, [(47, sByte letB), (61, sByte digB)], []⟩) (λ n h0 h1 => ?_) rfl
 refine go_sound qmix qNG zqb (fs_two rfl isLetter_ok zjV) (zql rfl) 100 _ (Eq.mpr (r_rest n _) ?_)
 have e := ofN h0 h1
 simp only [decide_eq_true_eq, decide_eq_false_iff_not]
 refine ⟨⟨h0, h1⟩, λ g1 => ret_b ?_, λ g1 => ⟨⟨h0, h1⟩, λ g2 => ret_b ?_, λ g2 => ⟨trivial, λ g3 => ret_b ?_, λ g3 => ret_b ?_⟩⟩⟩
 ·unfold restB; rw [g1]; rfl
 ·unfold restB; rw [g2]; simp
 ·unfold restB
  have : (UInt8.ofNat n.toNat).toNat = 95 := by omega
  rw [this]; simp
 ·unfold restB
  have : ¬ (UInt8.ofNat n.toNat).toNat = 95 := by omega
  rw [g1, g2]
  simpa using this
theorem digits0_ok {gv gf gl} : ∀ fi ds env hp k, lEnd digB fi ds env hp k -> TaskOk Tryz.prog ⟨gv, gf, gl⟩ (.code fi (.loop (lp Tryz.prog 78 0)) ds env hp k) := by
 intro fi ds env hp k h
 obtain ⟨rfl, rfl, hn, hlk, rc, hrc, h⟩ := zxZ h
 split at h
 ·rename_i v0 v1 v2 hT
  split at h
  ·rename_i s m i e0 e1 e2
   obtain ⟨⟨h0, h1, h2⟩, hk⟩ := h
   obtain ⟨n', ht, hro⟩ := hp
   dsimp only at hn hlk hrc hk
   subst hn
   refine zxG [0, 1, 5] [] [] [] rc 0 (λ x : Nat => leW s m x) (λ _ => []) (λ x => i.toNat <= x /\ x <= s.length /\ endF digB s x = endF digB s i.toNat) (λ x => s.length - x) i.toNat ⟨Nat.le_refl _, by omega, rfl⟩ rfl rfl rfl (Nat.le_refl 0) hlk rfl rfl (λ x => rfl) (λ x => rfl) ?_ trivial hrc ?_
   ·rw [hT]
    exact ⟨zqi e0, zqo e1, by rw [show ((i.toNat : Nat) : Int) = i by omega]; exact zqo e2, trivial⟩
   ·rintro x ⟨x0, x1, x2⟩
    refine zqL (gf' := [(61, sByte digB)]) (gl' := []) ?_
    refine go_sound (G := ⟨⟨.nil, [], []⟩, [(61, sByte digB)], []⟩) qmix qNG zqb (fs_one rfl zjV) (zql rfl) 100 _ (Eq.mpr (r_digits0 s m x _) ?_)
    have hb := UInt8.toNat_lt (s.getD x 0)
    have out : endF digB s x = x -> rMv hro [0, 1, 5] [] [] [] rc (λ x : Nat => leW s m x) (λ _ => []) 0 0 (λ x => i.toNat <= x /\ x <= s.length /\ endF digB s x = endF digB s i.toNat) (λ x => s.length - x) k x (.exit 0) [some (V.sstr s), some (V.sint .i64 m), some (V.sint .i64 x)] 0 [] := λ he =>
     ⟨leW s m x, [], [], Nat.le_refl 0, rfl, rfl, ⟨zqa _, zqa _, zqa _, trivial⟩, trivial, by rw [<- x2, he] at hk; exact hk⟩
    simp only [decide_eq_true_eq, decide_eq_false_iff_not, Bool.not_eq_true', Bool.not_eq_false', Int.toNat_natCast, u8_of]
    refine ⟨trivial, trivial, λ hlt => ⟨⟨by omega, by omega⟩, ⟨by omega, by omega⟩, λ hp => ⟨⟨by omega, by omega⟩, ?_⟩, λ hp => out (zkH ?_)⟩, λ hge => out (zkH (zjy (by omega)))⟩
    ·obtain ⟨g1, g2⟩ := zqI (p := digB) (s := s) (i := x) (by rw [zqA (by omega)]; exact hp)
     exact ⟨x + 1, [], ⟨by omega, by omega, by rw [<- x2]; exact g2.symm⟩, by show s.length - (x + 1) < s.length - x; omega, Nat.le_refl 0, rfl, ⟨zqa _, zqa _, ⟨rfl, by push_cast; rfl⟩, trivial⟩, trivial⟩
    ·rw [zqA (by omega)]; exact hp
  ·exact h.elim
 ·exact h.elim
theorem digits_run (s : List UInt8) (i : Int) (h0 : 0 <= i) (h1 : i <= s.length) (h2 : (s.length : Int) <= 20000) : TaskOk Tryz.prog ⟨⟨.nil, [], []⟩, [], [(20002, lp Tryz.prog 78 0, lEnd digB)]⟩ (.call 78 [.sstr s, .sint .i64 i] nomem (cutE [] λ e _ _ => retV (.sint .i64 (endF digB s i.toNat)) e)) := by
 refine go_sound qmix qNG zqb (zqt rfl) (ls_one rfl digits0_ok) 100 _ (Eq.mpr (r_digits s i _) ?_)
 refine ⟨rfl, ⟨h0, h1, h2⟩, ?_⟩
 unfold retV
 exact zqa _
theorem rdigits_ok {G : GQ} : ∀ args hp k, sEnd digB args hp k -> TaskOk Tryz.prog G (.call 78 args hp k) := by
 intro args hp k h
 unfold sEnd at h
 split at h
 ·split at h
  ·rename_i v0 v1 s i e0 e1
   obtain ⟨⟨h0, h1, h2⟩, hk⟩ := h
   exact zjP (zqv (digits_run s i h0 h1 h2) zqG) rfl ⟨zqi e0, zqo e1, trivial⟩ rfl rfl hk
  ·exact h.elim
 ·exact h.elim
theorem whole_on {s : List UInt8} {i : Nat} (h : i + 1 < s.length) (h48 : (s.getD i 0).toNat = 48) : wholeN s i = wholeN s (i + 1) := by
 unfold wholeN
 rw [zxr (by omega), zxr h, List.dropLast_cons_of_ne_nil (by simp), List.takeWhile_cons, if_pos (by simpa using h48)]
 simp; omega
theorem whole_off {s : List UInt8} {i : Nat} (h : s.length <= i + 1 \/ (s.getD i 0).toNat ≠ 48) : wholeN s i = i := by
 unfold wholeN
 rcases Nat.lt_or_ge (i + 1) s.length with hlt | hge
 ·rcases h with h | h
  ·omega
  ·rw [zxr (by omega), zxr hlt, List.dropLast_cons_of_ne_nil (by simp), List.takeWhile_cons, if_neg (by simpa using h)]
   rfl
 ·have : (s.drop i).dropLast = [] := by
   apply List.eq_nil_of_length_eq_zero
   rw [List.length_dropLast, List.length_drop]; omega
  rw [this]; rfl
theorem u48 {c : UInt8} : (c == 48) = (c.toNat == 48) := by
 rw [Bool.eq_iff_iff, beq_iff_eq, beq_iff_eq, <- UInt8.toNat_inj]; rfl
theorem whole_trim : ∀ {l : List UInt8}, l ≠ [] -> l.drop (l.dropLast.takeWhile (λ b => b.toNat == 48)).length = trimF l
 | [], h => absurd rfl h
 | [c], _ => by
  show [c] = trimF [c]
  unfold trimF Go.Lib.trimLeftB
  rw [List.dropWhile_cons, u48]
  by_cases h : c.toNat = 48
  ·have : c = 48 := UInt8.toNat_inj.1 h
   subst this; rfl
  ·simp [h]
 | c :: d :: l, _ => by
  rw [List.dropLast_cons_of_ne_nil (by simp), List.takeWhile_cons]
  by_cases h : c.toNat = 48
  ·have e1 : (c.toNat == 48) = true := by simpa using h
   have e2 : List.dropWhile (· == (48 : UInt8)) (c :: d :: l) = List.dropWhile (· == (48 : UInt8)) (d :: l) := by rw [List.dropWhile_cons, u48, if_pos e1]
   rw [if_pos e1, List.length_cons, List.drop_succ_cons]
   unfold trimF Go.Lib.trimLeftB
   rw [e2]
   exact whole_trim (by simp)
  ·have e1 : ¬ (c.toNat == 48) = true := by simpa using h
   have e2 : List.dropWhile (· == (48 : UInt8)) (c :: d :: l) = c :: d :: l := by rw [List.dropWhile_cons, u48, if_neg e1]
   rw [if_neg e1]
   unfold trimF Go.Lib.trimLeftB
   rw [e2, if_neg (by simp)]
   rfl
theorem whole_eq {s : List UInt8} (h : 0 < s.length) : s.drop (wholeN s 0) = trimF s := by
 unfold wholeN
 rw [Nat.zero_add, List.drop_zero]
 exact whole_trim (by intro e; rw [e] at h; simp at h)
theorem tail_snoc {l : List UInt8} {c : UInt8} (h : c.toNat = 48) : tailF (l ++ [c]) = tailF l := by
 have : c = 48 := UInt8.toNat_inj.1 h
 subst this
 unfold tailF Go.Lib.trimRightB
 rw [List.reverse_append]
 rfl
theorem tail_keep {l : List UInt8} {c : UInt8} (h : ¬ c.toNat = 48) : tailF (l ++ [c]) = l ++ [c] := by
 have : Go.Lib.trimRightB (l ++ [c]) 48 = l ++ [c] := by
  unfold Go.Lib.trimRightB
  rw [List.reverse_append, List.reverse_singleton, List.singleton_append, List.dropWhile_cons, u48, if_neg (by simpa using h)]
  simp
 unfold tailF
 rw [this, if_neg (by simp)]
theorem zxA {s : List UInt8} {i : Nat} (h : i < s.length) : s.take (i + 1) = s.take i ++ [s.getD i 0] := by
 rw [List.take_succ_eq_append_getElem h, List.getD_eq_getElem?_getD, List.getElem?_eq_getElem h]; rfl
theorem place_le (s : List UInt8) : ∀ i, placeN s i <= i
 | 0 => Nat.le_refl _
 | 1 => Nat.le_refl _
 | i + 2 => by
  unfold placeN
  split
  ·have := place_le s (i + 1); omega
  ·exact Nat.le_refl _
theorem place_tail (s : List UInt8) : ∀ i, 0 < i -> i <= s.length -> s.take (placeN s i) = tailF (s.take i)
 | 0, h, _ => absurd h (Nat.lt_irrefl _)
 | 1, _, h => by
  show s.take 1 = tailF (s.take 1)
  rw [zxA (by omega), List.take_zero, List.nil_append]
  by_cases h48 : (s.getD 0 0).toNat = 48
  ·have : s.getD 0 0 = 48 := UInt8.toNat_inj.1 h48
   rw [this]; rfl
  ·have := tail_keep (l := []) h48
   rw [List.nil_append] at this
   exact this.symm
 | i + 2, _, h => by
  unfold placeN
  rw [zxA (i := i + 1) (by omega)]
  split
  ·rename_i h48
   rw [tail_snoc h48, place_tail s (i + 1) (by omega) (by omega)]
  ·rename_i h48
   rw [tail_keep h48, <- zxA (by omega)]
theorem whole0_ok {gv gf gl} : ∀ fi ds env hp k, lWhole fi ds env hp k -> TaskOk Tryz.prog ⟨gv, gf, gl⟩ (.code fi (.loop (lp Tryz.prog 79 0)) ds env hp k) := by
 intro fi ds env hp k h
 obtain ⟨rfl, rfl, hn, hlk, rc, hrc, h⟩ := zxZ h
 split at h
 ·rename_i v0 v1 hT
  split at h
  ·rename_i s i e0 e1
   obtain ⟨⟨rfl, h1, h2⟩, hk⟩ := h
   obtain ⟨n', ht, hro⟩ := hp
   dsimp only at hn hlk hrc hk
   subst hn
   refine zxG [0, 3] [] [] [] rc 0 (λ x : Nat => leZ s x) (λ _ => []) (λ x => x < s.length /\ wholeN s x = wholeN s 0) (λ x => s.length - x) 0 ⟨h1, rfl⟩ rfl rfl rfl (Nat.le_refl 0) hlk rfl rfl (λ x => rfl) (λ x => rfl) ?_ trivial hrc ?_
   ·rw [hT]
    exact ⟨zqi e0, zqo e1, trivial⟩
   ·rintro x ⟨x1, x2⟩
    refine zqL (gf' := []) (gl' := []) ?_
    refine go_sound (G := nilG) qmix qNG zqb (zqt rfl) (zql rfl) 100 _ (Eq.mpr (r_whole0 s x _) ?_)
    have out : wholeN s x = x -> rMv hro [0, 3] [] [] [] rc (λ x : Nat => leZ s x) (λ _ => []) 0 0 (λ x => x < s.length /\ wholeN s x = wholeN s 0) (λ x => s.length - x) k x (.exit 0) [some (V.sstr s), some (V.sint .i64 x)] 0 [] := λ he =>
     ⟨leZ s x, [], [], Nat.le_refl 0, rfl, rfl, ⟨zqa _, zqa _, trivial⟩, trivial, by rw [<- x2, he] at hk; exact hk⟩
    simp only [decide_eq_true_eq, decide_eq_false_iff_not, Bool.not_eq_true', Bool.not_eq_false', Int.toNat_natCast]
    refine ⟨trivial, ⟨by omega, by omega⟩, trivial, λ hlt => ⟨⟨by omega, by omega⟩, trivial, λ h48 => ⟨⟨by omega, by omega⟩, ?_⟩, λ h48 => out (whole_off (.inr (by omega)))⟩, λ hge => out (whole_off (.inl (by omega)))⟩
    exact ⟨x + 1, [], ⟨by omega, by rw [<- x2]; exact (whole_on (by omega) (by omega)).symm⟩, by show s.length - (x + 1) < s.length - x; omega, Nat.le_refl 0, rfl, ⟨zqa _, ⟨rfl, by push_cast; rfl⟩, trivial⟩, trivial⟩
  ·exact h.elim
 ·exact h.elim
theorem places0_ok {gv gf gl} : ∀ fi ds env hp k, lPlaces fi ds env hp k -> TaskOk Tryz.prog ⟨gv, gf, gl⟩ (.code fi (.loop (lp Tryz.prog 80 0)) ds env hp k) := by
 intro fi ds env hp k h
 obtain ⟨rfl, rfl, hn, hlk, rc, hrc, h⟩ := zxZ h
 split at h
 ·rename_i v0 v1 hT
  split at h
  ·rename_i s i e0 e1
   obtain ⟨⟨rfl, h1, h2⟩, hk⟩ := h
   obtain ⟨n', ht, hro⟩ := hp
   dsimp only at hn hlk hrc hk
   subst hn
   refine zxG [0, 3] [] [] [] rc 0 (λ x : Nat => leZ s x) (λ _ => []) (λ x => 0 < x /\ x <= s.length /\ placeN s x = placeN s s.length) (λ x => x) s.length ⟨h1, Nat.le_refl _, rfl⟩ rfl rfl rfl (Nat.le_refl 0) hlk rfl rfl (λ x => rfl) (λ x => rfl) ?_ trivial hrc ?_
   ·rw [hT]
    exact ⟨zqi e0, zqo e1, trivial⟩
   ·rintro x ⟨x0, x1, x2⟩
    refine zqL (gf' := []) (gl' := []) ?_
    refine go_sound (G := nilG) qmix qNG zqb (zqt rfl) (zql rfl) 100 _ (Eq.mpr (r_places0 s x _) ?_)
    have out : placeN s x = x -> rMv hro [0, 3] [] [] [] rc (λ x : Nat => leZ s x) (λ _ => []) 0 0 (λ x => 0 < x /\ x <= s.length /\ placeN s x = placeN s s.length) (λ x => x) k x (.exit 0) [some (V.sstr s), some (V.sint .i64 x)] 0 [] := λ he =>
     ⟨leZ s x, [], [], Nat.le_refl 0, rfl, rfl, ⟨zqa _, zqa _, trivial⟩, trivial, by rw [<- x2, he] at hk; exact hk⟩
    simp only [decide_eq_true_eq, decide_eq_false_iff_not, Bool.not_eq_true', Bool.not_eq_false', Int.toNat_natCast]
    obtain ⟨y, rfl⟩ : ∃ y, x = y + 1 := ⟨x - 1, by omega⟩
    have ey : (((y + 1 : Nat) : Int) - 1).toNat = y := by omega
    have ey2 : ((y + 1 : Nat) : Int) - 1 = y := by omega
    rw [ey, ey2]
    refine ⟨trivial, λ hlt => ⟨⟨by omega, by omega⟩, ⟨by omega, by omega⟩, trivial, λ h48 => ⟨⟨by omega, by omega⟩, ?_⟩, λ h48 => out ?_⟩, λ hge => out ?_⟩
    ·obtain ⟨z, rfl⟩ : ∃ z, y = z + 1 := ⟨y - 1, by omega⟩
     refine ⟨z + 1, [], ⟨by omega, by omega, ?_⟩, by show z + 1 < z + 1 + 1; omega, Nat.le_refl 0, rfl, ⟨zqa _, ⟨rfl, by push_cast; rfl⟩, trivial⟩, trivial⟩
     rw [<- x2]
     show _ = placeN s (z + 2)
     conv => rhs; unfold placeN
     rw [if_pos (by omega)]
    ·obtain ⟨z, rfl⟩ : ∃ z, y = z + 1 := ⟨y - 1, by omega⟩
     show placeN s (z + 2) = z + 2
     unfold placeN
     rw [if_neg (by omega)]
    ·have : y = 0 := by omega
     subst this
     rfl
  ·exact h.elim
 ·exact h.elim
theorem rwhole_ok {G : GQ} : ∀ args hp k, sWhole args hp k -> TaskOk Tryz.prog G (.call 79 args hp k) := by
 intro args hp k h
 unfold sWhole at h
 split at h
 ·split at h
  ·rename_i v s e0
   obtain ⟨⟨h0, h1⟩, hk⟩ := h
   have t : TaskOk Tryz.prog ⟨⟨.nil, [], []⟩, [], [(20002, lp Tryz.prog 79 0, lWhole)]⟩ (.call 79 [.sstr s] nomem (cutE [] λ e _ _ => retV (.sstr (trimF s)) e)) := by
    refine go_sound qmix qNG zqb (zqt rfl) (ls_one rfl whole0_ok) 100 _ (Eq.mpr (r_whole s _) ?_)
    have hle : wholeN s 0 <= s.length := by
     unfold wholeN
     have h3 := (List.takeWhile_sublist (λ b : UInt8 => b.toNat == 48) (l := (s.drop 0).dropLast)).length_le
     rw [List.length_dropLast, List.length_drop] at h3
     omega
    refine ⟨rfl, ⟨rfl, h0, h1⟩, ⟨by omega, by omega⟩, ?_⟩
    unfold retV
    rw [Int.toNat_natCast, whole_eq h0]
    exact zqa _
   exact zjP (zqv t zqG) rfl ⟨zqi e0, trivial⟩ rfl rfl hk
  ·exact h.elim
 ·exact h.elim
theorem rplaces_ok {G : GQ} : ∀ args hp k, sPlaces args hp k -> TaskOk Tryz.prog G (.call 80 args hp k) := by
 intro args hp k h
 unfold sPlaces at h
 split at h
 ·split at h
  ·rename_i v s e0
   obtain ⟨⟨h0, h1⟩, hk⟩ := h
   have t : TaskOk Tryz.prog ⟨⟨.nil, [], []⟩, [], [(20002, lp Tryz.prog 80 0, lPlaces)]⟩ (.call 80 [.sstr s] nomem (cutE [] λ e _ _ => retV (.sstr (tailF s)) e)) := by
    refine go_sound qmix qNG zqb (zqt rfl) (ls_one rfl places0_ok) 100 _ (Eq.mpr (r_places s _) ?_)
    have hle := place_le s s.length
    refine ⟨trivial, rfl, ⟨rfl, h0, h1⟩, ⟨by omega, by omega⟩, ?_⟩
    unfold retV
    rw [Int.toNat_natCast, place_tail s _ h0 (Nat.le_refl _), List.take_length]
    exact zqa _
   exact zjP (zqv t zqG) rfl ⟨zqi e0, trivial⟩ rfl rfl hk
  ·exact h.elim
 ·exact h.elim
end
end Go.Proofs.YtekioipmhhcbhaaGreatDoor
namespace Go.Proofs.YtekioipmhhcbhaaGreatDoor
open Go Go.Z Go.Q Go.W6
open Go.Y hiding KE KK KR go Task go_sound
noncomputable section
variable [Ext]
def tokZ : List V := [.int .i64 0, .str [], .int .i64 0, .int .i64 0, .int .i64 0, .int .i64 0]
def fltZ : List V := [.int .i64 0, .int .i64 0]
def tokQ (k : Int) (b : List UInt8) (m p : Int) : List V := [.sint .i64 k, .sstr b, .sint .i64 m, .sint .i64 p, .sint .i64 0, .sint .i64 0]
def fltE (n : Nat) (bad : Int) : Int := if 1000 < n then 122 else if 0 <= bad then 120 else 0
def fltA (n : Nat) (m bad : Int) : Int := if 1000 < n then m else if 0 <= bad then bad else 0
def fltQ (n : Nat) (m bad : Int) : List V := [.sint .i64 (fltE n bad), .sint .i64 (fltA n m bad)]
abbrev tokCh (l : List V) : Chunk := .cells l 30 6
abbrev fltCh (l : List V) : Chunk := .cells l 63 2
def leQ (s : List UInt8) (m : Int) (v : V) (bad i : Int) : List V := [.sstr s, .sint .i64 m, .ptr 0 0, .ptr 1 0, v, .sint .i64 bad, .sint .i64 i]
def lQuoted (fi : FI) (ds : List DV) (env : Tr V) (hp : Mem) (k : KK) : Prop := atV 91 2 [0, 1, 2] [] fi ds hp λ rc => match pk [0, 1, 4, 5, 6, 7, 8] env with
 | [some v0, some v1, some (.ptr 0 0), some (.ptr 1 0), some .nils, some v5, some v6] => match strOf v0, int64 v1, int64 v5, int64 v6 with
  | some s, some m, some bad, some i => (0 <= m /\ m < (s.length : Int) /\ (s.length : Int) <= 20000 /\ bad = -1 /\ i = m + 1) /\ (hp.t.get 0 = some (tokCh tokZ) /\ hp.t.get 1 = some (fltCh fltZ)) /\
    (textL (s.drop (m.toNat + 1)) (m.toNat + 1) [] (-1) = none -> ∀ (v : V) (bad i : Int), k (.exit 0) [] (ofE ([0, 1, 4, 5, 6, 7, 8].zip (leQ s m v bad i))) ⟨3, ofM ([0, 1].zip [tokCh tokZ, fltCh fltZ] ++ [].zip rc), hp.ro⟩) /\
    (∀ (b : List UInt8) (p : Nat) (bad : Int), textL (s.drop (m.toNat + 1)) (m.toNat + 1) [] (-1) = some (b, p, bad) -> ∀ (v : V) (x i : Int), k .ret [] (ofE ([0, 1, 4, 5, 6, 7, 8].zip (leQ s m v x i))) ⟨4, ofM ([0, 1].zip [tokCh (tokQ 5 b m ((p : Int) + 1)), fltCh (fltQ b.length m bad)] ++ [].zip rc), hp.ro⟩)
  | _, _, _, _ => False
 | _ => False
def sQuoted (args : List V) (hp : Mem) (k : KE) : Prop := match args with
 | [v0, v1] => match strOf v0, int64 v1 with
  | some s, some m => (0 <= m /\ m < (s.length : Int) /\ (s.length : Int) <= 20000) /\
    (textL (s.drop (m.toNat + 1)) (m.toNat + 1) [] (-1) = none -> k (.ret (.tup [.agg tokZ, .agg [.int .i64 121, .sint .i64 m]])) hp) /\
    (∀ (b : List UInt8) (p : Nat) (bad : Int), textL (s.drop (m.toNat + 1)) (m.toNat + 1) [] (-1) = some (b, p, bad) -> k (.ret (.tup [.agg (tokQ 5 b m ((p : Int) + 1)), .agg (fltQ b.length m bad)])) hp)
  | _, _ => False
 | _ => False
def leL (s : List UInt8) (v : V) (i : Int) : List V := [.sstr s, v, .sint .i64 i]
def lLower (fi : FI) (ds : List DV) (env : Tr V) (hp : Mem) (k : KK) : Prop := atV 20 0 [0] [] fi ds hp λ rc => match pk [0, 3, 4] env with
 | [some v0, some .nils, some v2] => match strOf v0, int64 v2 with
  | some s, some i => (i = 0 /\ s.length <= 20000) /\
    (s = [] -> k (.exit 0) [] (ofE ([0, 3, 4].zip (leL s .nils 0))) ⟨1, ofM ([].zip [] ++ [].zip rc), hp.ro⟩) /\
    (∀ (c : UInt8) (l : List UInt8), s = c :: l -> k (.exit 0) [] (ofE ([0, 3, 4].zip (leL s (.ssl 0 0 (l.length + 1) 1) (l.length + 1)))) ⟨1, ofM ([0].zip [.byt (Go.Lib.toLowerA s) 5] ++ [].zip rc), hp.ro⟩)
  | _, _ => False
 | _ => False
def sLower (args : List V) (hp : Mem) (k : KE) : Prop := match args with
 | [v] => match strOf v with
  | some s => s.length <= 20000 /\ k (.ret (.sstr (Go.Lib.toLowerA s))) hp
  | none => False
 | _ => False
def strsOf : List V -> Option (List (List UInt8))
 | [] => some []
 | .str w :: l => match strsOf l with | some m => some (w :: m) | none => none
 | _ => none
def rowsW (l : List (List UInt8)) : List (List V) := l.map λ w => [.sstr w]
def leI (n : Nat) (w : List UInt8) (r : Bool) (i : Int) : List V := [.ssl 0 0 n 1, .sstr w, .bool r, .sint .i64 i]
def lIsIn (fi : FI) (ds : List DV) (env : Tr V) (hp : Mem) (k : KK) : Prop := atV 18 1 [0] [] fi ds hp λ rc => match pk [0, 1, 4, 5] env, hp.t.get 0 with
 | [some (.ssl 0 0 n 1), some v1, some (.bool false), some v2], some (.rows rs sh ty) => match strOf v1, int64 v2 with
  | some w, some i => (i = 0 /\ sh = [.str] /\ ty = 9) /\ ∃ l : List (List UInt8), (rs = rowsW l /\ n = l.length /\ l.length <= 1000) /\
    (w ∈ l -> ∀ i : Int, k .ret [] (ofE ([0, 1, 4, 5].zip (leI n w true i))) ⟨1, ofM ([0].zip [.rows (rowsW l) [.str] 9] ++ [].zip rc), hp.ro⟩) /\
    (w ∉ l -> k (.exit 0) [] (ofE ([0, 1, 4, 5].zip (leI n w false n))) ⟨1, ofM ([0].zip [.rows (rowsW l) [.str] 9] ++ [].zip rc), hp.ro⟩)
  | _, _ => False
 | _, _ => False
def sIsIn (args : List V) (hp : Mem) (k : KE) : Prop := match args with
 | [.sl id 0 0 n none, v] => match strOf v, hp.t.get id, nodupB [id], below hp.n [id], noLk [id] hp.ro with
  | some w, some (.cells l 9 1), true, true, true => match strsOf l with
   | some ws => (n = ws.length /\ ws.length <= 1000) /\ k (.ret (.sbool (decide (w ∈ ws)))) ⟨hp.n, Tr.set 20 hp.t id (some (.rows (rowsW ws) [.str] 9)), hp.ro⟩
   | none => False
  | _, _, _, _, _ => False
 | _ => False
def retD (R : V) : E -> Prop := λ e => match e with
 | .ret v => dle v R
 | _ => False
theorem sum_d {P : Program} {G0 G : GQ} {f : Nat} {args args0 : List V} {hp : Mem} {k : KE} {R : V} (h : TaskOk P G0 (.call f args0 nomem λ e _ => retD R e)) (hg : G0.g.t = .nil) (hle : vles args args0) (ha : vins 0 args0 = true) (hR : vin 0 R = true) (hk : k (.ret R) hp) : TaskOk P G (.call f args hp k) := by
 have no : ∀ {ρ : Rho}, (cutR ρ 0).le norho := λ id x e => by rw [cutR_ge (Nat.zero_le _)] at e; cases e
 have t : TaskOk P G (.call f args0 hp k) := by
  refine call_of ⟨h.1, λ ρ us hus => ⟨λ en => EndRel norho (.ret R) en, (fn_of h hg ((zkc ha hus).mono no) λ e hp en ρ' hen hk' => ?_).2, λ en hen => ⟨.ret R, ?_, hk⟩⟩⟩
  ·unfold retD at hk'
   split at hk'
   ·cases en with
    | returned u => exact Go.Y.R.mono no (vin_ok hR (dle_ok hk' hen))
    | panicked ch => exact hen.elim
    | outgrown => exact hen.elim
   ·exact hk'.elim
  ·cases en with
   | returned u => exact Go.Y.R.mono (λ id x e => by cases e) hen
   | panicked ch => exact hen.elim
   | outgrown => exact hen.elim
 exact ⟨t.1, λ ρ W us Post hG hH hus hkk => t.2 ρ W us Post hG hH (zjm hle hus) hkk⟩
end
end Go.Proofs.YtekioipmhhcbhaaGreatDoor
set_option maxRecDepth 20000
namespace Go.Proofs.YtekioipmhhcbhaaGreatDoor
open Go Go.Z Go.Q Go.W6
open Go.Y hiding KE KK KR go Task go_sound
noncomputable section
variable [Ext]
theorem r_quoted0 (s : List UInt8) (m i bad : Int) (N : O -> List (Option V) -> Nat -> List (Option Chunk) -> Prop) : Go.Q.go Tryz.prog ⟨⟨.nil, [], []⟩, [], []⟩ 200 (.code ⟨91, none⟩ (lp Tryz.prog 52 0) [] (ofE ([0,1,4,5,6,7,8].zip [.sstr s, .sint .i64 m, .ptr 0 0, .ptr 1 0, .nils, .sint .i64 bad, .sint .i64 i])) ⟨3, ofMo ([0,1].zip [some (.cells tokZ 30 6), some (.cells fltZ 63 2)]), []⟩ (cutM [0,1,4,5,6,7,8] [0,1,2,3,4] N)) =
 (True /\ True /\ (decide (i < (s.length : Int)) = true -> (0 <= i /\ i < (s.length : Int)) /\ True /\ ((!decide ((↑(s.getD i.toNat 0).toNat : Int) = 10)) = true -> (0 <= i /\ i < (s.length : Int)) /\ True /\ (decide ((↑(s.getD i.toNat 0).toNat : Int) = 34) = true -> (-9223372036854775808 <= i + 1 /\ i + 1 <= 9223372036854775807) /\ True /\ True /\ (decide ((s.length : Int) <= i + 1) = true -> (-9223372036854775808 <= i + 1 /\ i + 1 <= 9223372036854775807) /\ True /\ (decide (0 <= bad) = true -> N O.ret [some (.sstr s), some (.sint .i64 m), some (.ptr 0 0), some (.ptr 1 0), some .nils, some (.sint .i64 bad), some (.sint .i64 i)] 4 [some (.cells [.int .i64 5, .str [], .sint .i64 m, .sint .i64 (i + 1), .int .i64 0, .int .i64 0] 30 6), some (.cells [.int .i64 120, .sint .i64 bad] 63 2), none, some (.cells [.int .i64 5, .str [], .sint .i64 m, .sint .i64 (i + 1), .int .i64 0, .int .i64 0] 30 6), none]) /\ (decide (0 <= bad) = false -> N O.ret [some (.sstr s), some (.sint .i64 m), some (.ptr 0 0), some (.ptr 1 0), some .nils, some (.sint .i64 bad), some (.sint .i64 i)] 4 [some (.cells [.int .i64 5, .str [], .sint .i64 m, .sint .i64 (i + 1), .int .i64 0, .int .i64 0] 30 6), some (.cells [.int .i64 0, .int .i64 0] 63 2), none, some (.cells [.int .i64 5, .str [], .sint .i64 m, .sint .i64 (i + 1), .int .i64 0, .int .i64 0] 30 6), none])) /\ (decide ((s.length : Int) <= i + 1) = false -> (-9223372036854775808 <= i + 1 /\ i + 1 <= 9223372036854775807) /\ (0 <= i + 1 /\ i + 1 < (s.length : Int)) /\ True /\ ((!decide ((↑(s.getD (i + 1).toNat 0).toNat : Int) = 34)) = true -> (-9223372036854775808 <= i + 1 /\ i + 1 <= 9223372036854775807) /\ True /\ (decide (0 <= bad) = true -> N O.ret [some (.sstr s), some (.sint .i64 m), some (.ptr 0 0), some (.ptr 1 0), some .nils, some (.sint .i64 bad), some (.sint .i64 i)] 4 [some (.cells [.int .i64 5, .str [], .sint .i64 m, .sint .i64 (i + 1), .int .i64 0, .int .i64 0] 30 6), some (.cells [.int .i64 120, .sint .i64 bad] 63 2), none, some (.cells [.int .i64 5, .str [], .sint .i64 m, .sint .i64 (i + 1), .int .i64 0, .int .i64 0] 30 6), none]) /\ (decide (0 <= bad) = false -> N O.ret [some (.sstr s), some (.sint .i64 m), some (.ptr 0 0), some (.ptr 1 0), some .nils, some (.sint .i64 bad), some (.sint .i64 i)] 4 [some (.cells [.int .i64 5, .str [], .sint .i64 m, .sint .i64 (i + 1), .int .i64 0, .int .i64 0] 30 6), some (.cells [.int .i64 0, .int .i64 0] 63 2), none, some (.cells [.int .i64 5, .str [], .sint .i64 m, .sint .i64 (i + 1), .int .i64 0, .int .i64 0] 30 6), none])) /\ ((!decide ((↑(s.getD (i + 1).toNat 0).toNat : Int) = 34)) = false -> (0 <= i /\ i < (s.length : Int)) /\ True /\ (decide ((↑(s.getD i.toNat 0).toNat : Int) = 34) = true -> (-9223372036854775808 <= i + 1 /\ i + 1 <= 9223372036854775807) /\ (0 <= i + 1 /\ i + 1 < (s.length : Int)) /\ True /\ (decide ((↑(s.getD (i + 1).toNat 0).toNat : Int) < 32) = true -> True /\ (decide (bad < 0) = true -> (0 <= i + 1 /\ i + 1 < (s.length : Int)) /\ (-9223372036854775808 <= i + 1 + 1 /\ i + 1 + 1 <= 9223372036854775807) /\ N O.normal [some (.sstr s), some (.sint .i64 m), some (.ptr 0 0), some (.ptr 1 0), some (.sl 4 0 0 1 none), some (.sint .i64 (i + 1)), some (.sint .i64 (i + 1 + 1))] 5 [some (.cells [.int .i64 0, .str [], .int .i64 0, .int .i64 0, .int .i64 0, .int .i64 0] 30 6), some (.cells [.int .i64 0, .int .i64 0] 63 2), none, some (.cells [.sint .u8 (↑(s.getD (i + 1).toNat 0).toNat : Int)] 5 1), some (.cells [.sint .u8 (↑(s.getD (i + 1).toNat 0).toNat : Int)] 5 1)]) /\ (decide (bad < 0) = false -> (0 <= i + 1 /\ i + 1 < (s.length : Int)) /\ (-9223372036854775808 <= i + 1 + 1 /\ i + 1 + 1 <= 9223372036854775807) /\ N O.normal [some (.sstr s), some (.sint .i64 m), some (.ptr 0 0), some (.ptr 1 0), some (.sl 4 0 0 1 none), some (.sint .i64 bad), some (.sint .i64 (i + 1 + 1))] 5 [some (.cells [.int .i64 0, .str [], .int .i64 0, .int .i64 0, .int .i64 0, .int .i64 0] 30 6), some (.cells [.int .i64 0, .int .i64 0] 63 2), none, some (.cells [.sint .u8 (↑(s.getD (i + 1).toNat 0).toNat : Int)] 5 1), some (.cells [.sint .u8 (↑(s.getD (i + 1).toNat 0).toNat : Int)] 5 1)])) /\ (decide ((↑(s.getD (i + 1).toNat 0).toNat : Int) < 32) = false -> (0 <= i + 1 /\ i + 1 < (s.length : Int)) /\ True /\ (decide (126 < (↑(s.getD (i + 1).toNat 0).toNat : Int)) = true -> True /\ (decide (bad < 0) = true -> (0 <= i + 1 /\ i + 1 < (s.length : Int)) /\ (-9223372036854775808 <= i + 1 + 1 /\ i + 1 + 1 <= 9223372036854775807) /\ N O.normal [some (.sstr s), some (.sint .i64 m), some (.ptr 0 0), some (.ptr 1 0), some (.sl 4 0 0 1 none), some (.sint .i64 (i + 1)), some (.sint .i64 (i + 1 + 1))] 5 [some (.cells [.int .i64 0, .str [], .int .i64 0, .int .i64 0, .int .i64 0, .int .i64 0] 30 6), some (.cells [.int .i64 0, .int .i64 0] 63 2), none, some (.cells [.sint .u8 (↑(s.getD (i + 1).toNat 0).toNat : Int)] 5 1), some (.cells [.sint .u8 (↑(s.getD (i + 1).toNat 0).toNat : Int)] 5 1)]) /\ (decide (bad < 0) = false -> (0 <= i + 1 /\ i + 1 < (s.length : Int)) /\ (-9223372036854775808 <= i + 1 + 1 /\ i + 1 + 1 <= 9223372036854775807) /\ N O.normal [some (.sstr s), some (.sint .i64 m), some (.ptr 0 0), some (.ptr 1 0), some (.sl 4 0 0 1 none), some (.sint .i64 bad), some (.sint .i64 (i + 1 + 1))] 5 [some (.cells [.int .i64 0, .str [], .int .i64 0, .int .i64 0, .int .i64 0, .int .i64 0] 30 6), some (.cells [.int .i64 0, .int .i64 0] 63 2), none, some (.cells [.sint .u8 (↑(s.getD (i + 1).toNat 0).toNat : Int)] 5 1), some (.cells [.sint .u8 (↑(s.getD (i + 1).toNat 0).toNat : Int)] 5 1)])) /\ (decide (126 < (↑(s.getD (i + 1).toNat 0).toNat : Int)) = false -> (0 <= i + 1 /\ i + 1 < (s.length : Int)) /\ (-9223372036854775808 <= i + 1 + 1 /\ i + 1 + 1 <= 9223372036854775807) /\ N O.normal [some (.sstr s), some (.sint .i64 m), some (.ptr 0 0), some (.ptr 1 0), some (.sl 4 0 0 1 none), some (.sint .i64 bad), some (.sint .i64 (i + 1 + 1))] 5 [some (.cells [.int .i64 0, .str [], .int .i64 0, .int .i64 0, .int .i64 0, .int .i64 0] 30 6), some (.cells [.int .i64 0, .int .i64 0] 63 2), none, some (.cells [.sint .u8 (↑(s.getD (i + 1).toNat 0).toNat : Int)] 5 1), some (.cells [.sint .u8 (↑(s.getD (i + 1).toNat 0).toNat : Int)] 5 1)]))) /\ (decide ((↑(s.getD i.toNat 0).toNat : Int) = 34) = false -> (0 <= i /\ i < (s.length : Int)) /\ True /\ (decide ((↑(s.getD i.toNat 0).toNat : Int) < 32) = true -> True /\ (decide (bad < 0) = true -> (0 <= i /\ i < (s.length : Int)) /\ (-9223372036854775808 <= i + 1 /\ i + 1 <= 9223372036854775807) /\ N O.normal [some (.sstr s), some (.sint .i64 m), some (.ptr 0 0), some (.ptr 1 0), some (.sl 4 0 0 1 none), some (.sint .i64 i), some (.sint .i64 (i + 1))] 5 [some (.cells [.int .i64 0, .str [], .int .i64 0, .int .i64 0, .int .i64 0, .int .i64 0] 30 6), some (.cells [.int .i64 0, .int .i64 0] 63 2), none, some (.cells [.sint .u8 (↑(s.getD i.toNat 0).toNat : Int)] 5 1), some (.cells [.sint .u8 (↑(s.getD i.toNat 0).toNat : Int)] 5 1)]) /\ (decide (bad < 0) = false -> (0 <= i /\ i < (s.length : Int)) /\ (-9223372036854775808 <= i + 1 /\ i + 1 <= 9223372036854775807) /\ N O.normal [some (.sstr s), some (.sint .i64 m), some (.ptr 0 0), some (.ptr 1 0), some (.sl 4 0 0 1 none), some (.sint .i64 bad), some (.sint .i64 (i + 1))] 5 [some (.cells [.int .i64 0, .str [], .int .i64 0, .int .i64 0, .int .i64 0, .int .i64 0] 30 6), some (.cells [.int .i64 0, .int .i64 0] 63 2), none, some (.cells [.sint .u8 (↑(s.getD i.toNat 0).toNat : Int)] 5 1), some (.cells [.sint .u8 (↑(s.getD i.toNat 0).toNat : Int)] 5 1)])) /\ (decide ((↑(s.getD i.toNat 0).toNat : Int) < 32) = false -> (0 <= i /\ i < (s.length : Int)) /\ True /\ (decide (126 < (↑(s.getD i.toNat 0).toNat : Int)) = true -> True /\ (decide (bad < 0) = true -> (0 <= i /\ i < (s.length : Int)) /\ (-9223372036854775808 <= i + 1 /\ i + 1 <= 9223372036854775807) /\ N O.normal [some (.sstr s), some (.sint .i64 m), some (.ptr 0 0), some (.ptr 1 0), some (.sl 4 0 0 1 none), some (.sint .i64 i), some (.sint .i64 (i + 1))] 5 [some (.cells [.int .i64 0, .str [], .int .i64 0, .int .i64 0, .int .i64 0, .int .i64 0] 30 6), some (.cells [.int .i64 0, .int .i64 0] 63 2), none, some (.cells [.sint .u8 (↑(s.getD i.toNat 0).toNat : Int)] 5 1), some (.cells [.sint .u8 (↑(s.getD i.toNat 0).toNat : Int)] 5 1)]) /\ (decide (bad < 0) = false -> (0 <= i /\ i < (s.length : Int)) /\ (-9223372036854775808 <= i + 1 /\ i + 1 <= 9223372036854775807) /\ N O.normal [some (.sstr s), some (.sint .i64 m), some (.ptr 0 0), some (.ptr 1 0), some (.sl 4 0 0 1 none), some (.sint .i64 bad), some (.sint .i64 (i + 1))] 5 [some (.cells [.int .i64 0, .str [], .int .i64 0, .int .i64 0, .int .i64 0, .int .i64 0] 30 6), some (.cells [.int .i64 0, .int .i64 0] 63 2), none, some (.cells [.sint .u8 (↑(s.getD i.toNat 0).toNat : Int)] 5 1), some (.cells [.sint .u8 (↑(s.getD i.toNat 0).toNat : Int)] 5 1)])) /\ (decide (126 < (↑(s.getD i.toNat 0).toNat : Int)) = false -> (0 <= i /\ i < (s.length : Int)) /\ (-9223372036854775808 <= i + 1 /\ i + 1 <= 9223372036854775807) /\ N O.normal [some (.sstr s), some (.sint .i64 m), some (.ptr 0 0), some (.ptr 1 0), some (.sl 4 0 0 1 none), some (.sint .i64 bad), some (.sint .i64 (i + 1))] 5 [some (.cells [.int .i64 0, .str [], .int .i64 0, .int .i64 0, .int .i64 0, .int .i64 0] 30 6), some (.cells [.int .i64 0, .int .i64 0] 63 2), none, some (.cells [.sint .u8 (↑(s.getD i.toNat 0).toNat : Int)] 5 1), some (.cells [.sint .u8 (↑(s.getD i.toNat 0).toNat : Int)] 5 1)])))))) /\ (decide ((↑(s.getD i.toNat 0).toNat : Int) = 34) = false -> (0 <= i /\ i < (s.length : Int)) /\ True /\ (decide ((↑(s.getD i.toNat 0).toNat : Int) = 34) = true -> (-9223372036854775808 <= i + 1 /\ i + 1 <= 9223372036854775807) /\ (0 <= i + 1 /\ i + 1 < (s.length : Int)) /\ True /\ (decide ((↑(s.getD (i + 1).toNat 0).toNat : Int) < 32) = true -> True /\ (decide (bad < 0) = true -> (0 <= i + 1 /\ i + 1 < (s.length : Int)) /\ (-9223372036854775808 <= i + 1 + 1 /\ i + 1 + 1 <= 9223372036854775807) /\ N O.normal [some (.sstr s), some (.sint .i64 m), some (.ptr 0 0), some (.ptr 1 0), some (.sl 4 0 0 1 none), some (.sint .i64 (i + 1)), some (.sint .i64 (i + 1 + 1))] 5 [some (.cells [.int .i64 0, .str [], .int .i64 0, .int .i64 0, .int .i64 0, .int .i64 0] 30 6), some (.cells [.int .i64 0, .int .i64 0] 63 2), none, some (.cells [.sint .u8 (↑(s.getD (i + 1).toNat 0).toNat : Int)] 5 1), some (.cells [.sint .u8 (↑(s.getD (i + 1).toNat 0).toNat : Int)] 5 1)]) /\ (decide (bad < 0) = false -> (0 <= i + 1 /\ i + 1 < (s.length : Int)) /\ (-9223372036854775808 <= i + 1 + 1 /\ i + 1 + 1 <= 9223372036854775807) /\ N O.normal [some (.sstr s), some (.sint .i64 m), some (.ptr 0 0), some (.ptr 1 0), some (.sl 4 0 0 1 none), some (.sint .i64 bad), some (.sint .i64 (i + 1 + 1))] 5 [some (.cells [.int .i64 0, .str [], .int .i64 0, .int .i64 0, .int .i64 0, .int .i64 0] 30 6), some (.cells [.int .i64 0, .int .i64 0] 63 2), none, some (.cells [.sint .u8 (↑(s.getD (i + 1).toNat 0).toNat : Int)] 5 1), some (.cells [.sint .u8 (↑(s.getD (i + 1).toNat 0).toNat : Int)] 5 1)])) /\ (decide ((↑(s.getD (i + 1).toNat 0).toNat : Int) < 32) = false -> (0 <= i + 1 /\ i + 1 < (s.length : Int)) /\ True /\ (decide (126 < (↑(s.getD (i + 1).toNat 0).toNat : Int)) = true -> True /\ (decide (bad < 0) = true -> (0 <= i + 1 /\ i + 1 < (s.length : Int)) /\ (-9223372036854775808 <= i + 1 + 1 /\ i + 1 + 1 <= 9223372036854775807) /\ N O.normal [some (.sstr s), some (.sint .i64 m), some (.ptr 0 0), some (.ptr 1 0), some (.sl 4 0 0 1 none), some (.sint .i64 (i + 1)), some (.sint .i64 (i + 1 + 1))] 5 [some (.cells [.int .i64 0, .str [], .int .i64 0, .int .i64 0, .int .i64 0, .int .i64 0] 30 6), some (.cells [.int .i64 0, .int .i64 0] 63 2), none, some (.cells [.sint .u8 (↑(s.getD (i + 1).toNat 0).toNat : Int)] 5 1), some (.cells [.sint .u8 (↑(s.getD (i + 1).toNat 0).toNat : Int)] 5 1)]) /\ (decide (bad < 0) = false -> (0 <= i + 1 /\ i + 1 < (s.length : Int)) /\ (-9223372036854775808 <= i + 1 + 1 /\ i + 1 + 1 <= 9223372036854775807) /\ N O.normal [some (.sstr s), some (.sint .i64 m), some (.ptr 0 0), some (.ptr 1 0), some (.sl 4 0 0 1 none), some (.sint .i64 bad), some (.sint .i64 (i + 1 + 1))] 5 [some (.cells [.int .i64 0, .str [], .int .i64 0, .int .i64 0, .int .i64 0, .int .i64 0] 30 6), some (.cells [.int .i64 0, .int .i64 0] 63 2), none, some (.cells [.sint .u8 (↑(s.getD (i + 1).toNat 0).toNat : Int)] 5 1), some (.cells [.sint .u8 (↑(s.getD (i + 1).toNat 0).toNat : Int)] 5 1)])) /\ (decide (126 < (↑(s.getD (i + 1).toNat 0).toNat : Int)) = false -> (0 <= i + 1 /\ i + 1 < (s.length : Int)) /\ (-9223372036854775808 <= i + 1 + 1 /\ i + 1 + 1 <= 9223372036854775807) /\ N O.normal [some (.sstr s), some (.sint .i64 m), some (.ptr 0 0), some (.ptr 1 0), some (.sl 4 0 0 1 none), some (.sint .i64 bad), some (.sint .i64 (i + 1 + 1))] 5 [some (.cells [.int .i64 0, .str [], .int .i64 0, .int .i64 0, .int .i64 0, .int .i64 0] 30 6), some (.cells [.int .i64 0, .int .i64 0] 63 2), none, some (.cells [.sint .u8 (↑(s.getD (i + 1).toNat 0).toNat : Int)] 5 1), some (.cells [.sint .u8 (↑(s.getD (i + 1).toNat 0).toNat : Int)] 5 1)]))) /\ (decide ((↑(s.getD i.toNat 0).toNat : Int) = 34) = false -> (0 <= i /\ i < (s.length : Int)) /\ True /\ (decide ((↑(s.getD i.toNat 0).toNat : Int) < 32) = true -> True /\ (decide (bad < 0) = true -> (0 <= i /\ i < (s.length : Int)) /\ (-9223372036854775808 <= i + 1 /\ i + 1 <= 9223372036854775807) /\ N O.normal [some (.sstr s), some (.sint .i64 m), some (.ptr 0 0), some (.ptr 1 0), some (.sl 4 0 0 1 none), some (.sint .i64 i), some (.sint .i64 (i + 1))] 5 [some (.cells [.int .i64 0, .str [], .int .i64 0, .int .i64 0, .int .i64 0, .int .i64 0] 30 6), some (.cells [.int .i64 0, .int .i64 0] 63 2), none, some (.cells [.sint .u8 (↑(s.getD i.toNat 0).toNat : Int)] 5 1), some (.cells [.sint .u8 (↑(s.getD i.toNat 0).toNat : Int)] 5 1)]) /\ (decide (bad < 0) = false -> (0 <= i /\ i < (s.length : Int)) /\ (-9223372036854775808 <= i + 1 /\ i + 1 <= 9223372036854775807) /\ N O.normal [some (.sstr s), some (.sint .i64 m), some (.ptr 0 0), some (.ptr 1 0), some (.sl 4 0 0 1 none), some (.sint .i64 bad), some (.sint .i64 (i + 1))] 5 [some (.cells [.int .i64 0, .str [], .int .i64 0, .int .i64 0, .int .i64 0, .int .i64 0] 30 6), some (.cells [.int .i64 0, .int .i64 0] 63 2), none, some (.cells [.sint .u8 (↑(s.getD i.toNat 0).toNat : Int)] 5 1), some (.cells [.sint .u8 (↑(s.getD i.toNat 0).toNat : Int)] 5 1)])) /\ (decide ((↑(s.getD i.toNat 0).toNat : Int) < 32) = false -> (0 <= i /\ i < (s.length : Int)) /\ True /\ (decide (126 < (↑(s.getD i.toNat 0).toNat : Int)) = true -> True /\ (decide (bad < 0) = true -> (0 <= i /\ i < (s.length : Int)) /\ (-9223372036854775808 <= i + 1 /\ i + 1 <= 9223372036854775807) /\ N O.normal [some (.sstr s), some (.sint .i64 m), some (.ptr 0 0), some (.ptr 1 0), some (.sl 4 0 0 1 none), some (.sint .i64 i), some (.sint .i64 (i + 1))] 5 [some (.cells [.int .i64 0, .str [], .int .i64 0, .int .i64 0, .int .i64 0, .int .i64 0] 30 6), some (.cells [.int .i64 0, .int .i64 0] 63 2), none, some (.cells [.sint .u8 (↑(s.getD i.toNat 0).toNat : Int)] 5 1), some (.cells [.sint .u8 (↑(s.getD i.toNat 0).toNat : Int)] 5 1)]) /\ (decide (bad < 0) = false -> (0 <= i /\ i < (s.length : Int)) /\ (-9223372036854775808 <= i + 1 /\ i + 1 <= 9223372036854775807) /\ N O.normal [some (.sstr s), some (.sint .i64 m), some (.ptr 0 0), some (.ptr 1 0), some (.sl 4 0 0 1 none), some (.sint .i64 bad), some (.sint .i64 (i + 1))] 5 [some (.cells [.int .i64 0, .str [], .int .i64 0, .int .i64 0, .int .i64 0, .int .i64 0] 30 6), some (.cells [.int .i64 0, .int .i64 0] 63 2), none, some (.cells [.sint .u8 (↑(s.getD i.toNat 0).toNat : Int)] 5 1), some (.cells [.sint .u8 (↑(s.getD i.toNat 0).toNat : Int)] 5 1)])) /\ (decide (126 < (↑(s.getD i.toNat 0).toNat : Int)) = false -> (0 <= i /\ i < (s.length : Int)) /\ (-9223372036854775808 <= i + 1 /\ i + 1 <= 9223372036854775807) /\ N O.normal [some (.sstr s), some (.sint .i64 m), some (.ptr 0 0), some (.ptr 1 0), some (.sl 4 0 0 1 none), some (.sint .i64 bad), some (.sint .i64 (i + 1))] 5 [some (.cells [.int .i64 0, .str [], .int .i64 0, .int .i64 0, .int .i64 0, .int .i64 0] 30 6), some (.cells [.int .i64 0, .int .i64 0] 63 2), none, some (.cells [.sint .u8 (↑(s.getD i.toNat 0).toNat : Int)] 5 1), some (.cells [.sint .u8 (↑(s.getD i.toNat 0).toNat : Int)] 5 1)]))))) /\ ((!decide ((↑(s.getD i.toNat 0).toNat : Int) = 10)) = false -> N (O.exit 0) [some (.sstr s), some (.sint .i64 m), some (.ptr 0 0), some (.ptr 1 0), some .nils, some (.sint .i64 bad), some (.sint .i64 i)] 3 [some (.cells [.int .i64 0, .str [], .int .i64 0, .int .i64 0, .int .i64 0, .int .i64 0] 30 6), some (.cells [.int .i64 0, .int .i64 0] 63 2), none, none, none])) /\ (decide (i < (s.length : Int)) = false -> N (O.exit 0) [some (.sstr s), some (.sint .i64 m), some (.ptr 0 0), some (.ptr 1 0), some .nils, some (.sint .i64 bad), some (.sint .i64 i)] 3 [some (.cells [.int .i64 0, .str [], .int .i64 0, .int .i64 0, .int .i64 0, .int .i64 0] 30 6), some (.cells [.int .i64 0, .int .i64 0] 63 2), none, none, none])) := by kernel_rfl
theorem r_quoted1 (s b : List UInt8) (n : Nat) (m i bad : Int) (N : O -> List (Option V) -> Nat -> List (Option Chunk) -> Prop) : Go.Q.go Tryz.prog ⟨⟨.nil, [], []⟩, [], []⟩ 200 (.code ⟨91, none⟩ (lp Tryz.prog 52 0) [] (ofE ([0,1,4,5,6,7,8].zip [.sstr s, .sint .i64 m, .ptr 0 0, .ptr 1 0, .ssl 2 0 n 1, .sint .i64 bad, .sint .i64 i])) ⟨3, ofMo ([0,1,2].zip [some (.cells tokZ 30 6), some (.cells fltZ 63 2), some (.byt b 5)]), []⟩ (cutM [0,1,4,5,6,7,8] [0,1,2,3,4] N)) =
 (True /\ True /\ (decide (i < (s.length : Int)) = true -> (0 <= i /\ i < (s.length : Int)) /\ True /\ ((!decide ((↑(s.getD i.toNat 0).toNat : Int) = 10)) = true -> (0 <= i /\ i < (s.length : Int)) /\ True /\ (decide ((↑(s.getD i.toNat 0).toNat : Int) = 34) = true -> (-9223372036854775808 <= i + 1 /\ i + 1 <= 9223372036854775807) /\ True /\ True /\ (decide ((s.length : Int) <= i + 1) = true -> (0 < n /\ 0 + n <= b.length) /\ (-9223372036854775808 <= i + 1 /\ i + 1 <= 9223372036854775807) /\ True /\ True /\ (decide (1000 < (n : Int)) = true -> N O.ret [some (.sstr s), some (.sint .i64 m), some (.ptr 0 0), some (.ptr 1 0), some (.ssl 2 0 n 1), some (.sint .i64 bad), some (.sint .i64 i)] 4 [some (.cells [.int .i64 5, .sstr (List.take n (List.drop 0 b)), .sint .i64 m, .sint .i64 (i + 1), .int .i64 0, .int .i64 0] 30 6), some (.cells [.int .i64 122, .sint .i64 m] 63 2), some (.byt b 5), some (.cells [.int .i64 5, .sstr (List.take n (List.drop 0 b)), .sint .i64 m, .sint .i64 (i + 1), .int .i64 0, .int .i64 0] 30 6), none]) /\ (decide (1000 < (n : Int)) = false -> True /\ (decide (0 <= bad) = true -> N O.ret [some (.sstr s), some (.sint .i64 m), some (.ptr 0 0), some (.ptr 1 0), some (.ssl 2 0 n 1), some (.sint .i64 bad), some (.sint .i64 i)] 4 [some (.cells [.int .i64 5, .sstr (List.take n (List.drop 0 b)), .sint .i64 m, .sint .i64 (i + 1), .int .i64 0, .int .i64 0] 30 6), some (.cells [.int .i64 120, .sint .i64 bad] 63 2), some (.byt b 5), some (.cells [.int .i64 5, .sstr (List.take n (List.drop 0 b)), .sint .i64 m, .sint .i64 (i + 1), .int .i64 0, .int .i64 0] 30 6), none]) /\ (decide (0 <= bad) = false -> N O.ret [some (.sstr s), some (.sint .i64 m), some (.ptr 0 0), some (.ptr 1 0), some (.ssl 2 0 n 1), some (.sint .i64 bad), some (.sint .i64 i)] 4 [some (.cells [.int .i64 5, .sstr (List.take n (List.drop 0 b)), .sint .i64 m, .sint .i64 (i + 1), .int .i64 0, .int .i64 0] 30 6), some (.cells [.int .i64 0, .int .i64 0] 63 2), some (.byt b 5), some (.cells [.int .i64 5, .sstr (List.take n (List.drop 0 b)), .sint .i64 m, .sint .i64 (i + 1), .int .i64 0, .int .i64 0] 30 6), none]))) /\ (decide ((s.length : Int) <= i + 1) = false -> (-9223372036854775808 <= i + 1 /\ i + 1 <= 9223372036854775807) /\ (0 <= i + 1 /\ i + 1 < (s.length : Int)) /\ True /\ ((!decide ((↑(s.getD (i + 1).toNat 0).toNat : Int) = 34)) = true -> (0 < n /\ 0 + n <= b.length) /\ (-9223372036854775808 <= i + 1 /\ i + 1 <= 9223372036854775807) /\ True /\ True /\ (decide (1000 < (n : Int)) = true -> N O.ret [some (.sstr s), some (.sint .i64 m), some (.ptr 0 0), some (.ptr 1 0), some (.ssl 2 0 n 1), some (.sint .i64 bad), some (.sint .i64 i)] 4 [some (.cells [.int .i64 5, .sstr (List.take n (List.drop 0 b)), .sint .i64 m, .sint .i64 (i + 1), .int .i64 0, .int .i64 0] 30 6), some (.cells [.int .i64 122, .sint .i64 m] 63 2), some (.byt b 5), some (.cells [.int .i64 5, .sstr (List.take n (List.drop 0 b)), .sint .i64 m, .sint .i64 (i + 1), .int .i64 0, .int .i64 0] 30 6), none]) /\ (decide (1000 < (n : Int)) = false -> True /\ (decide (0 <= bad) = true -> N O.ret [some (.sstr s), some (.sint .i64 m), some (.ptr 0 0), some (.ptr 1 0), some (.ssl 2 0 n 1), some (.sint .i64 bad), some (.sint .i64 i)] 4 [some (.cells [.int .i64 5, .sstr (List.take n (List.drop 0 b)), .sint .i64 m, .sint .i64 (i + 1), .int .i64 0, .int .i64 0] 30 6), some (.cells [.int .i64 120, .sint .i64 bad] 63 2), some (.byt b 5), some (.cells [.int .i64 5, .sstr (List.take n (List.drop 0 b)), .sint .i64 m, .sint .i64 (i + 1), .int .i64 0, .int .i64 0] 30 6), none]) /\ (decide (0 <= bad) = false -> N O.ret [some (.sstr s), some (.sint .i64 m), some (.ptr 0 0), some (.ptr 1 0), some (.ssl 2 0 n 1), some (.sint .i64 bad), some (.sint .i64 i)] 4 [some (.cells [.int .i64 5, .sstr (List.take n (List.drop 0 b)), .sint .i64 m, .sint .i64 (i + 1), .int .i64 0, .int .i64 0] 30 6), some (.cells [.int .i64 0, .int .i64 0] 63 2), some (.byt b 5), some (.cells [.int .i64 5, .sstr (List.take n (List.drop 0 b)), .sint .i64 m, .sint .i64 (i + 1), .int .i64 0, .int .i64 0] 30 6), none]))) /\ ((!decide ((↑(s.getD (i + 1).toNat 0).toNat : Int) = 34)) = false -> (0 <= i /\ i < (s.length : Int)) /\ True /\ (decide ((↑(s.getD i.toNat 0).toNat : Int) = 34) = true -> (-9223372036854775808 <= i + 1 /\ i + 1 <= 9223372036854775807) /\ (0 <= i + 1 /\ i + 1 < (s.length : Int)) /\ True /\ (decide ((↑(s.getD (i + 1).toNat 0).toNat : Int) < 32) = true -> True /\ (decide (bad < 0) = true -> (0 <= i + 1 /\ i + 1 < (s.length : Int)) /\ ((0 < n /\ n <= b.length) /\ (∀ (v : V), v ∈ [V.sint IntKind.u8 (↑(s.getD (i + 1).toNat 0).toNat : Int)] -> ∃ (n : Int), 0 <= n /\ n <= 255 /\ (v = V.int IntKind.u8 n \/ v = V.sint IntKind.u8 n)) /\ (n + 1) * 1 <= 140737488355328 /\ 0 < n + 1) /\ (-9223372036854775808 <= i + 1 + 1 /\ i + 1 + 1 <= 9223372036854775807) /\ N O.normal [some (.sstr s), some (.sint .i64 m), some (.ptr 0 0), some (.ptr 1 0), some (.ssl 4 0 (n + 1) 1), some (.sint .i64 (i + 1)), some (.sint .i64 (i + 1 + 1))] 5 [some (.cells [.int .i64 0, .str [], .int .i64 0, .int .i64 0, .int .i64 0, .int .i64 0] 30 6), some (.cells [.int .i64 0, .int .i64 0] 63 2), none, some (.cells [.sint .u8 (↑(s.getD (i + 1).toNat 0).toNat : Int)] 5 1), some (.byt (List.take n b ++ List.map byB [.sint .u8 (↑(s.getD (i + 1).toNat 0).toNat : Int)]) 5)]) /\ (decide (bad < 0) = false -> (0 <= i + 1 /\ i + 1 < (s.length : Int)) /\ ((0 < n /\ n <= b.length) /\ (∀ (v : V), v ∈ [V.sint IntKind.u8 (↑(s.getD (i + 1).toNat 0).toNat : Int)] -> ∃ (n : Int), 0 <= n /\ n <= 255 /\ (v = V.int IntKind.u8 n \/ v = V.sint IntKind.u8 n)) /\ (n + 1) * 1 <= 140737488355328 /\ 0 < n + 1) /\ (-9223372036854775808 <= i + 1 + 1 /\ i + 1 + 1 <= 9223372036854775807) /\ N O.normal [some (.sstr s), some (.sint .i64 m), some (.ptr 0 0), some (.ptr 1 0), some (.ssl 4 0 (n + 1) 1), some (.sint .i64 bad), some (.sint .i64 (i + 1 + 1))] 5 [some (.cells [.int .i64 0, .str [], .int .i64 0, .int .i64 0, .int .i64 0, .int .i64 0] 30 6), some (.cells [.int .i64 0, .int .i64 0] 63 2), none, some (.cells [.sint .u8 (↑(s.getD (i + 1).toNat 0).toNat : Int)] 5 1), some (.byt (List.take n b ++ List.map byB [.sint .u8 (↑(s.getD (i + 1).toNat 0).toNat : Int)]) 5)])) /\ (decide ((↑(s.getD (i + 1).toNat 0).toNat : Int) < 32) = false -> (0 <= i + 1 /\ i + 1 < (s.length : Int)) /\ True /\ (decide (126 < (↑(s.getD (i + 1).toNat 0).toNat : Int)) = true -> True /\ (decide (bad < 0) = true -> (0 <= i + 1 /\ i + 1 < (s.length : Int)) /\ ((0 < n /\ n <= b.length) /\ (∀ (v : V), v ∈ [V.sint IntKind.u8 (↑(s.getD (i + 1).toNat 0).toNat : Int)] -> ∃ (n : Int), 0 <= n /\ n <= 255 /\ (v = V.int IntKind.u8 n \/ v = V.sint IntKind.u8 n)) /\ (n + 1) * 1 <= 140737488355328 /\ 0 < n + 1) /\ (-9223372036854775808 <= i + 1 + 1 /\ i + 1 + 1 <= 9223372036854775807) /\ N O.normal [some (.sstr s), some (.sint .i64 m), some (.ptr 0 0), some (.ptr 1 0), some (.ssl 4 0 (n + 1) 1), some (.sint .i64 (i + 1)), some (.sint .i64 (i + 1 + 1))] 5 [some (.cells [.int .i64 0, .str [], .int .i64 0, .int .i64 0, .int .i64 0, .int .i64 0] 30 6), some (.cells [.int .i64 0, .int .i64 0] 63 2), none, some (.cells [.sint .u8 (↑(s.getD (i + 1).toNat 0).toNat : Int)] 5 1), some (.byt (List.take n b ++ List.map byB [.sint .u8 (↑(s.getD (i + 1).toNat 0).toNat : Int)]) 5)]) /\ (decide (bad < 0) = false -> (0 <= i + 1 /\ i + 1 < (s.length : Int)) /\ ((0 < n /\ n <= b.length) /\ (∀ (v : V), v ∈ [V.sint IntKind.u8 (↑(s.getD (i + 1).toNat 0).toNat : Int)] -> ∃ (n : Int), 0 <= n /\ n <= 255 /\ (v = V.int IntKind.u8 n \/ v = V.sint IntKind.u8 n)) /\ (n + 1) * 1 <= 140737488355328 /\ 0 < n + 1) /\ (-9223372036854775808 <= i + 1 + 1 /\ i + 1 + 1 <= 9223372036854775807) /\ N O.normal [some (.sstr s), some (.sint .i64 m), some (.ptr 0 0), some (.ptr 1 0), some (.ssl 4 0 (n + 1) 1), some (.sint .i64 bad), some (.sint .i64 (i + 1 + 1))] 5 [some (.cells [.int .i64 0, .str [], .int .i64 0, .int .i64 0, .int .i64 0, .int .i64 0] 30 6), some (.cells [.int .i64 0, .int .i64 0] 63 2), none, some (.cells [.sint .u8 (↑(s.getD (i + 1).toNat 0).toNat : Int)] 5 1), some (.byt (List.take n b ++ List.map byB [.sint .u8 (↑(s.getD (i + 1).toNat 0).toNat : Int)]) 5)])) /\ (decide (126 < (↑(s.getD (i + 1).toNat 0).toNat : Int)) = false -> (0 <= i + 1 /\ i + 1 < (s.length : Int)) /\ ((0 < n /\ n <= b.length) /\ (∀ (v : V), v ∈ [V.sint IntKind.u8 (↑(s.getD (i + 1).toNat 0).toNat : Int)] -> ∃ (n : Int), 0 <= n /\ n <= 255 /\ (v = V.int IntKind.u8 n \/ v = V.sint IntKind.u8 n)) /\ (n + 1) * 1 <= 140737488355328 /\ 0 < n + 1) /\ (-9223372036854775808 <= i + 1 + 1 /\ i + 1 + 1 <= 9223372036854775807) /\ N O.normal [some (.sstr s), some (.sint .i64 m), some (.ptr 0 0), some (.ptr 1 0), some (.ssl 4 0 (n + 1) 1), some (.sint .i64 bad), some (.sint .i64 (i + 1 + 1))] 5 [some (.cells [.int .i64 0, .str [], .int .i64 0, .int .i64 0, .int .i64 0, .int .i64 0] 30 6), some (.cells [.int .i64 0, .int .i64 0] 63 2), none, some (.cells [.sint .u8 (↑(s.getD (i + 1).toNat 0).toNat : Int)] 5 1), some (.byt (List.take n b ++ List.map byB [.sint .u8 (↑(s.getD (i + 1).toNat 0).toNat : Int)]) 5)]))) /\ (decide ((↑(s.getD i.toNat 0).toNat : Int) = 34) = false -> (0 <= i /\ i < (s.length : Int)) /\ True /\ (decide ((↑(s.getD i.toNat 0).toNat : Int) < 32) = true -> True /\ (decide (bad < 0) = true -> (0 <= i /\ i < (s.length : Int)) /\ ((0 < n /\ n <= b.length) /\ (∀ (v : V), v ∈ [V.sint IntKind.u8 (↑(s.getD i.toNat 0).toNat : Int)] -> ∃ (n : Int), 0 <= n /\ n <= 255 /\ (v = V.int IntKind.u8 n \/ v = V.sint IntKind.u8 n)) /\ (n + 1) * 1 <= 140737488355328 /\ 0 < n + 1) /\ (-9223372036854775808 <= i + 1 /\ i + 1 <= 9223372036854775807) /\ N O.normal [some (.sstr s), some (.sint .i64 m), some (.ptr 0 0), some (.ptr 1 0), some (.ssl 4 0 (n + 1) 1), some (.sint .i64 i), some (.sint .i64 (i + 1))] 5 [some (.cells [.int .i64 0, .str [], .int .i64 0, .int .i64 0, .int .i64 0, .int .i64 0] 30 6), some (.cells [.int .i64 0, .int .i64 0] 63 2), none, some (.cells [.sint .u8 (↑(s.getD i.toNat 0).toNat : Int)] 5 1), some (.byt (List.take n b ++ List.map byB [.sint .u8 (↑(s.getD i.toNat 0).toNat : Int)]) 5)]) /\ (decide (bad < 0) = false -> (0 <= i /\ i < (s.length : Int)) /\ ((0 < n /\ n <= b.length) /\ (∀ (v : V), v ∈ [V.sint IntKind.u8 (↑(s.getD i.toNat 0).toNat : Int)] -> ∃ (n : Int), 0 <= n /\ n <= 255 /\ (v = V.int IntKind.u8 n \/ v = V.sint IntKind.u8 n)) /\ (n + 1) * 1 <= 140737488355328 /\ 0 < n + 1) /\ (-9223372036854775808 <= i + 1 /\ i + 1 <= 9223372036854775807) /\ N O.normal [some (.sstr s), some (.sint .i64 m), some (.ptr 0 0), some (.ptr 1 0), some (.ssl 4 0 (n + 1) 1), some (.sint .i64 bad), some (.sint .i64 (i + 1))] 5 [some (.cells [.int .i64 0, .str [], .int .i64 0, .int .i64 0, .int .i64 0, .int .i64 0] 30 6), some (.cells [.int .i64 0, .int .i64 0] 63 2), none, some (.cells [.sint .u8 (↑(s.getD i.toNat 0).toNat : Int)] 5 1), some (.byt (List.take n b ++ List.map byB [.sint .u8 (↑(s.getD i.toNat 0).toNat : Int)]) 5)])) /\ (decide ((↑(s.getD i.toNat 0).toNat : Int) < 32) = false -> (0 <= i /\ i < (s.length : Int)) /\ True /\ (decide (126 < (↑(s.getD i.toNat 0).toNat : Int)) = true -> True /\ (decide (bad < 0) = true -> (0 <= i /\ i < (s.length : Int)) /\ ((0 < n /\ n <= b.length) /\ (∀ (v : V), v ∈ [V.sint IntKind.u8 (↑(s.getD i.toNat 0).toNat : Int)] -> ∃ (n : Int), 0 <= n /\ n <= 255 /\ (v = V.int IntKind.u8 n \/ v = V.sint IntKind.u8 n)) /\ (n + 1) * 1 <= 140737488355328 /\ 0 < n + 1) /\ (-9223372036854775808 <= i + 1 /\ i + 1 <= 9223372036854775807) /\ N O.normal [some (.sstr s), some (.sint .i64 m), some (.ptr 0 0), some (.ptr 1 0), some (.ssl 4 0 (n + 1) 1), some (.sint .i64 i), some (.sint .i64 (i + 1))] 5 [some (.cells [.int .i64 0, .str [], .int .i64 0, .int .i64 0, .int .i64 0, .int .i64 0] 30 6), some (.cells [.int .i64 0, .int .i64 0] 63 2), none, some (.cells [.sint .u8 (↑(s.getD i.toNat 0).toNat : Int)] 5 1), some (.byt (List.take n b ++ List.map byB [.sint .u8 (↑(s.getD i.toNat 0).toNat : Int)]) 5)]) /\ (decide (bad < 0) = false -> (0 <= i /\ i < (s.length : Int)) /\ ((0 < n /\ n <= b.length) /\ (∀ (v : V), v ∈ [V.sint IntKind.u8 (↑(s.getD i.toNat 0).toNat : Int)] -> ∃ (n : Int), 0 <= n /\ n <= 255 /\ (v = V.int IntKind.u8 n \/ v = V.sint IntKind.u8 n)) /\ (n + 1) * 1 <= 140737488355328 /\ 0 < n + 1) /\ (-9223372036854775808 <= i + 1 /\ i + 1 <= 9223372036854775807) /\ N O.normal [some (.sstr s), some (.sint .i64 m), some (.ptr 0 0), some (.ptr 1 0), some (.ssl 4 0 (n + 1) 1), some (.sint .i64 bad), some (.sint .i64 (i + 1))] 5 [some (.cells [.int .i64 0, .str [], .int .i64 0, .int .i64 0, .int .i64 0, .int .i64 0] 30 6), some (.cells [.int .i64 0, .int .i64 0] 63 2), none, some (.cells [.sint .u8 (↑(s.getD i.toNat 0).toNat : Int)] 5 1), some (.byt (List.take n b ++ List.map byB [.sint .u8 (↑(s.getD i.toNat 0).toNat : Int)]) 5)])) /\ (decide (126 < (↑(s.getD i.toNat 0).toNat : Int)) = false -> (0 <= i /\ i < (s.length : Int)) /\ ((0 < n /\ n <= b.length) /\ (∀ (v : V), v ∈ [V.sint IntKind.u8 (↑(s.getD i.toNat 0).toNat : Int)] -> ∃ (n : Int), 0 <= n /\ n <= 255 /\ (v = V.int IntKind.u8 n \/ v = V.sint IntKind.u8 n)) /\ (n + 1) * 1 <= 140737488355328 /\ 0 < n + 1) /\ (-9223372036854775808 <= i + 1 /\ i + 1 <= 9223372036854775807) /\ N O.normal [some (.sstr s), some (.sint .i64 m), some (.ptr 0 0), some (.ptr 1 0), some (.ssl 4 0 (n + 1) 1), some (.sint .i64 bad), some (.sint .i64 (i + 1))] 5 [some (.cells [.int .i64 0, .str [], .int .i64 0, .int .i64 0, .int .i64 0, .int .i64 0] 30 6), some (.cells [.int .i64 0, .int .i64 0] 63 2), none, some (.cells [.sint .u8 (↑(s.getD i.toNat 0).toNat : Int)] 5 1), some (.byt (List.take n b ++ List.map byB [.sint .u8 (↑(s.getD i.toNat 0).toNat : Int)]) 5)])))))) /\ (decide ((↑(s.getD i.toNat 0).toNat : Int) = 34) = false -> (0 <= i /\ i < (s.length : Int)) /\ True /\ (decide ((↑(s.getD i.toNat 0).toNat : Int) = 34) = true -> (-9223372036854775808 <= i + 1 /\ i + 1 <= 9223372036854775807) /\ (0 <= i + 1 /\ i + 1 < (s.length : Int)) /\ True /\ (decide ((↑(s.getD (i + 1).toNat 0).toNat : Int) < 32) = true -> True /\ (decide (bad < 0) = true -> (0 <= i + 1 /\ i + 1 < (s.length : Int)) /\ ((0 < n /\ n <= b.length) /\ (∀ (v : V), v ∈ [V.sint IntKind.u8 (↑(s.getD (i + 1).toNat 0).toNat : Int)] -> ∃ (n : Int), 0 <= n /\ n <= 255 /\ (v = V.int IntKind.u8 n \/ v = V.sint IntKind.u8 n)) /\ (n + 1) * 1 <= 140737488355328 /\ 0 < n + 1) /\ (-9223372036854775808 <= i + 1 + 1 /\ i + 1 + 1 <= 9223372036854775807) /\ N O.normal [some (.sstr s), some (.sint .i64 m), some (.ptr 0 0), some (.ptr 1 0), some (.ssl 4 0 (n + 1) 1), some (.sint .i64 (i + 1)), some (.sint .i64 (i + 1 + 1))] 5 [some (.cells [.int .i64 0, .str [], .int .i64 0, .int .i64 0, .int .i64 0, .int .i64 0] 30 6), some (.cells [.int .i64 0, .int .i64 0] 63 2), none, some (.cells [.sint .u8 (↑(s.getD (i + 1).toNat 0).toNat : Int)] 5 1), some (.byt (List.take n b ++ List.map byB [.sint .u8 (↑(s.getD (i + 1).toNat 0).toNat : Int)]) 5)]) /\ (decide (bad < 0) = false -> (0 <= i + 1 /\ i + 1 < (s.length : Int)) /\ ((0 < n /\ n <= b.length) /\ (∀ (v : V), v ∈ [V.sint IntKind.u8 (↑(s.getD (i + 1).toNat 0).toNat : Int)] -> ∃ (n : Int), 0 <= n /\ n <= 255 /\ (v = V.int IntKind.u8 n \/ v = V.sint IntKind.u8 n)) /\ (n + 1) * 1 <= 140737488355328 /\ 0 < n + 1) /\ (-9223372036854775808 <= i + 1 + 1 /\ i + 1 + 1 <= 9223372036854775807) /\ N O.normal [some (.sstr s), some (.sint .i64 m), some (.ptr 0 0), some (.ptr 1 0), some (.ssl 4 0 (n + 1) 1), some (.sint .i64 bad), some (.sint .i64 (i + 1 + 1))] 5 [some (.cells [.int .i64 0, .str [], .int .i64 0, .int .i64 0, .int .i64 0, .int .i64 0] 30 6), some (.cells [.int .i64 0, .int .i64 0] 63 2), none, some (.cells [.sint .u8 (↑(s.getD (i + 1).toNat 0).toNat : Int)] 5 1), some (.byt (List.take n b ++ List.map byB [.sint .u8 (↑(s.getD (i + 1).toNat 0).toNat : Int)]) 5)])) /\ (decide ((↑(s.getD (i + 1).toNat 0).toNat : Int) < 32) = false -> (0 <= i + 1 /\ i + 1 < (s.length : Int)) /\ True /\ (decide (126 < (↑(s.getD (i + 1).toNat 0).toNat : Int)) = true -> True /\ (decide (bad < 0) = true -> (0 <= i + 1 /\ i + 1 < (s.length : Int)) /\ ((0 < n /\ n <= b.length) /\ (∀ (v : V), v ∈ [V.sint IntKind.u8 (↑(s.getD (i + 1).toNat 0).toNat : Int)] -> ∃ (n : Int), 0 <= n /\ n <= 255 /\ (v = V.int IntKind.u8 n \/ v = V.sint IntKind.u8 n)) /\ (n + 1) * 1 <= 140737488355328 /\ 0 < n + 1) /\ (-9223372036854775808 <= i + 1 + 1 /\ i + 1 + 1 <= 9223372036854775807) /\ N O.normal [some (.sstr s), some (.sint .i64 m), some (.ptr 0 0), some (.ptr 1 0), some (.ssl 4 0 (n + 1) 1), some (.sint .i64 (i + 1)), some (.sint .i64 (i + 1 + 1))] 5 [some (.cells [.int .i64 0, .str [], .int .i64 0, .int .i64 0, .int .i64 0, .int .i64 0] 30 6), some (.cells [.int .i64 0, .int .i64 0] 63 2), none, some (.cells [.sint .u8 (↑(s.getD (i + 1).toNat 0).toNat : Int)] 5 1), some (.byt (List.take n b ++ List.map byB [.sint .u8 (↑(s.getD (i + 1).toNat 0).toNat : Int)]) 5)]) /\ (decide (bad < 0) = false -> (0 <= i + 1 /\ i + 1 < (s.length : Int)) /\ ((0 < n /\ n <= b.length) /\ (∀ (v : V), v ∈ [V.sint IntKind.u8 (↑(s.getD (i + 1).toNat 0).toNat : Int)] -> ∃ (n : Int), 0 <= n /\ n <= 255 /\ (v = V.int IntKind.u8 n \/ v = V.sint IntKind.u8 n)) /\ (n + 1) * 1 <= 140737488355328 /\ 0 < n + 1) /\ (-9223372036854775808 <= i + 1 + 1 /\ i + 1 + 1 <= 9223372036854775807) /\ N O.normal [some (.sstr s), some (.sint .i64 m), some (.ptr 0 0), some (.ptr 1 0), some (.ssl 4 0 (n + 1) 1), some (.sint .i64 bad), some (.sint .i64 (i + 1 + 1))] 5 [some (.cells [.int .i64 0, .str [], .int .i64 0, .int .i64 0, .int .i64 0, .int .i64 0] 30 6), some (.cells [.int .i64 0, .int .i64 0] 63 2), none, some (.cells [.sint .u8 (↑(s.getD (i + 1).toNat 0).toNat : Int)] 5 1), some (.byt (List.take n b ++ List.map byB [.sint .u8 (↑(s.getD (i + 1).toNat 0).toNat : Int)]) 5)])) /\ (decide (126 < (↑(s.getD (i + 1).toNat 0).toNat : Int)) = false -> (0 <= i + 1 /\ i + 1 < (s.length : Int)) /\ ((0 < n /\ n <= b.length) /\ (∀ (v : V), v ∈ [V.sint IntKind.u8 (↑(s.getD (i + 1).toNat 0).toNat : Int)] -> ∃ (n : Int), 0 <= n /\ n <= 255 /\ (v = V.int IntKind.u8 n \/ v = V.sint IntKind.u8 n)) /\ (n + 1) * 1 <= 140737488355328 /\ 0 < n + 1) /\ (-9223372036854775808 <= i + 1 + 1 /\ i + 1 + 1 <= 9223372036854775807) /\ N O.normal [some (.sstr s), some (.sint .i64 m), some (.ptr 0 0), some (.ptr 1 0), some (.ssl 4 0 (n + 1) 1), some (.sint .i64 bad), some (.sint .i64 (i + 1 + 1))] 5 [some (.cells [.int .i64 0, .str [], .int .i64 0, .int .i64 0, .int .i64 0, .int .i64 0] 30 6), some (.cells [.int .i64 0, .int .i64 0] 63 2), none, some (.cells [.sint .u8 (↑(s.getD (i + 1).toNat 0).toNat : Int)] 5 1), some (.byt (List.take n b ++ List.map byB [.sint .u8 (↑(s.getD (i + 1).toNat 0).toNat : Int)]) 5)]))) /\ (decide ((↑(s.getD i.toNat 0).toNat : Int) = 34) = false -> (0 <= i /\ i < (s.length : Int)) /\ True /\ (decide ((↑(s.getD i.toNat 0).toNat : Int) < 32) = true -> True /\ (decide (bad < 0) = true -> (0 <= i /\ i < (s.length : Int)) /\ ((0 < n /\ n <= b.length) /\ (∀ (v : V), v ∈ [V.sint IntKind.u8 (↑(s.getD i.toNat 0).toNat : Int)] -> ∃ (n : Int), 0 <= n /\ n <= 255 /\ (v = V.int IntKind.u8 n \/ v = V.sint IntKind.u8 n)) /\ (n + 1) * 1 <= 140737488355328 /\ 0 < n + 1) /\ (-9223372036854775808 <= i + 1 /\ i + 1 <= 9223372036854775807) /\ N O.normal [some (.sstr s), some (.sint .i64 m), some (.ptr 0 0), some (.ptr 1 0), some (.ssl 4 0 (n + 1) 1), some (.sint .i64 i), some (.sint .i64 (i + 1))] 5 [some (.cells [.int .i64 0, .str [], .int .i64 0, .int .i64 0, .int .i64 0, .int .i64 0] 30 6), some (.cells [.int .i64 0, .int .i64 0] 63 2), none, some (.cells [.sint .u8 (↑(s.getD i.toNat 0).toNat : Int)] 5 1), some (.byt (List.take n b ++ List.map byB [.sint .u8 (↑(s.getD i.toNat 0).toNat : Int)]) 5)]) /\ (decide (bad < 0) = false -> (0 <= i /\ i < (s.length : Int)) /\ ((0 < n /\ n <= b.length) /\ (∀ (v : V), v ∈ [V.sint IntKind.u8 (↑(s.getD i.toNat 0).toNat : Int)] -> ∃ (n : Int), 0 <= n /\ n <= 255 /\ (v = V.int IntKind.u8 n \/ v = V.sint IntKind.u8 n)) /\ (n + 1) * 1 <= 140737488355328 /\ 0 < n + 1) /\ (-9223372036854775808 <= i + 1 /\ i + 1 <= 9223372036854775807) /\ N O.normal [some (.sstr s), some (.sint .i64 m), some (.ptr 0 0), some (.ptr 1 0), some (.ssl 4 0 (n + 1) 1), some (.sint .i64 bad), some (.sint .i64 (i + 1))] 5 [some (.cells [.int .i64 0, .str [], .int .i64 0, .int .i64 0, .int .i64 0, .int .i64 0] 30 6), some (.cells [.int .i64 0, .int .i64 0] 63 2), none, some (.cells [.sint .u8 (↑(s.getD i.toNat 0).toNat : Int)] 5 1), some (.byt (List.take n b ++ List.map byB [.sint .u8 (↑(s.getD i.toNat 0).toNat : Int)]) 5)])) /\ (decide ((↑(s.getD i.toNat 0).toNat : Int) < 32) = false -> (0 <= i /\ i < (s.length : Int)) /\ True /\ (decide (126 < (↑(s.getD i.toNat 0).toNat : Int)) = true -> True /\ (decide (bad < 0) = true -> (0 <= i /\ i < (s.length : Int)) /\ ((0 < n /\ n <= b.length) /\ (∀ (v : V), v ∈ [V.sint IntKind.u8 (↑(s.getD i.toNat 0).toNat : Int)] -> ∃ (n : Int), 0 <= n /\ n <= 255 /\ (v = V.int IntKind.u8 n \/ v = V.sint IntKind.u8 n)) /\ (n + 1) * 1 <= 140737488355328 /\ 0 < n + 1) /\ (-9223372036854775808 <= i + 1 /\ i + 1 <= 9223372036854775807) /\ N O.normal [some (.sstr s), some (.sint .i64 m), some (.ptr 0 0), some (.ptr 1 0), some (.ssl 4 0 (n + 1) 1), some (.sint .i64 i), some (.sint .i64 (i + 1))] 5 [some (.cells [.int .i64 0, .str [], .int .i64 0, .int .i64 0, .int .i64 0, .int .i64 0] 30 6), some (.cells [.int .i64 0, .int .i64 0] 63 2), none, some (.cells [.sint .u8 (↑(s.getD i.toNat 0).toNat : Int)] 5 1), some (.byt (List.take n b ++ List.map byB [.sint .u8 (↑(s.getD i.toNat 0).toNat : Int)]) 5)]) /\ (decide (bad < 0) = false -> (0 <= i /\ i < (s.length : Int)) /\ ((0 < n /\ n <= b.length) /\ (∀ (v : V), v ∈ [V.sint IntKind.u8 (↑(s.getD i.toNat 0).toNat : Int)] -> ∃ (n : Int), 0 <= n /\ n <= 255 /\ (v = V.int IntKind.u8 n \/ v = V.sint IntKind.u8 n)) /\ (n + 1) * 1 <= 140737488355328 /\ 0 < n + 1) /\ (-9223372036854775808 <= i + 1 /\ i + 1 <= 9223372036854775807) /\ N O.normal [some (.sstr s), some (.sint .i64 m), some (.ptr 0 0), some (.ptr 1 0), some (.ssl 4 0 (n + 1) 1), some (.sint .i64 bad), some (.sint .i64 (i + 1))] 5 [some (.cells [.int .i64 0, .str [], .int .i64 0, .int .i64 0, .int .i64 0, .int .i64 0] 30 6), some (.cells [.int .i64 0, .int .i64 0] 63 2), none, some (.cells [.sint .u8 (↑(s.getD i.toNat 0).toNat : Int)] 5 1), some (.byt (List.take n b ++ List.map byB [.sint .u8 (↑(s.getD i.toNat 0).toNat : Int)]) 5)])) /\ (decide (126 < (↑(s.getD i.toNat 0).toNat : Int)) = false -> (0 <= i /\ i < (s.length : Int)) /\ ((0 < n /\ n <= b.length) /\ (∀ (v : V), v ∈ [V.sint IntKind.u8 (↑(s.getD i.toNat 0).toNat : Int)] -> ∃ (n : Int), 0 <= n /\ n <= 255 /\ (v = V.int IntKind.u8 n \/ v = V.sint IntKind.u8 n)) /\ (n + 1) * 1 <= 140737488355328 /\ 0 < n + 1) /\ (-9223372036854775808 <= i + 1 /\ i + 1 <= 9223372036854775807) /\ N O.normal [some (.sstr s), some (.sint .i64 m), some (.ptr 0 0), some (.ptr 1 0), some (.ssl 4 0 (n + 1) 1), some (.sint .i64 bad), some (.sint .i64 (i + 1))] 5 [some (.cells [.int .i64 0, .str [], .int .i64 0, .int .i64 0, .int .i64 0, .int .i64 0] 30 6), some (.cells [.int .i64 0, .int .i64 0] 63 2), none, some (.cells [.sint .u8 (↑(s.getD i.toNat 0).toNat : Int)] 5 1), some (.byt (List.take n b ++ List.map byB [.sint .u8 (↑(s.getD i.toNat 0).toNat : Int)]) 5)]))))) /\ ((!decide ((↑(s.getD i.toNat 0).toNat : Int) = 10)) = false -> N (O.exit 0) [some (.sstr s), some (.sint .i64 m), some (.ptr 0 0), some (.ptr 1 0), some (.ssl 2 0 n 1), some (.sint .i64 bad), some (.sint .i64 i)] 3 [some (.cells [.int .i64 0, .str [], .int .i64 0, .int .i64 0, .int .i64 0, .int .i64 0] 30 6), some (.cells [.int .i64 0, .int .i64 0] 63 2), some (.byt b 5), none, none])) /\ (decide (i < (s.length : Int)) = false -> N (O.exit 0) [some (.sstr s), some (.sint .i64 m), some (.ptr 0 0), some (.ptr 1 0), some (.ssl 2 0 n 1), some (.sint .i64 bad), some (.sint .i64 i)] 3 [some (.cells [.int .i64 0, .str [], .int .i64 0, .int .i64 0, .int .i64 0, .int .i64 0] 30 6), some (.cells [.int .i64 0, .int .i64 0] 63 2), some (.byt b 5), none, none])) := by kernel_rfl
theorem r_lower0 (s : List UInt8) (i : Int) (N : O -> List (Option V) -> Nat -> List (Option Chunk) -> Prop) : Go.Q.go Tryz.prog ⟨⟨.nil, [], []⟩, [(68, sSmall)], []⟩ 200 (.code ⟨20, none⟩ (lp Tryz.prog 48 0) [] (ofE ([0,3,4].zip [.sstr s, .nils, .sint .i64 i])) ⟨1, ofMo ([].zip []), []⟩ (cutM [0,3,4] [0,1,2] N)) =
 (True /\ True /\ (decide (i < (s.length : Int)) = true -> (0 <= i /\ i < (s.length : Int)) /\ (0 <= (↑(s.getD i.toNat 0).toNat : Int) /\ (↑(s.getD i.toNat 0).toNat : Int) < 256) /\ (-9223372036854775808 <= i + 1 /\ i + 1 <= 9223372036854775807) /\ N O.normal [some (.sstr s), some (.sl 2 0 0 1 none), some (.sint .i64 (i + 1))] 3 [none, some (.cells [.sint .u8 (↑(Lib.lowerB (UInt8.ofNat (↑(s.getD i.toNat 0).toNat : Int).toNat)).toNat : Int)] 5 1), some (.cells [.sint .u8 (↑(Lib.lowerB (UInt8.ofNat (↑(s.getD i.toNat 0).toNat : Int).toNat)).toNat : Int)] 5 1)]) /\ (decide (i < (s.length : Int)) = false -> N (O.exit 0) [some (.sstr s), some .nils, some (.sint .i64 i)] 1 [none, none, none])) := by kernel_rfl
theorem r_lower1 (s b : List UInt8) (n : Nat) (i : Int) (N : O -> List (Option V) -> Nat -> List (Option Chunk) -> Prop) : Go.Q.go Tryz.prog ⟨⟨.nil, [], []⟩, [(68, sSmall)], []⟩ 200 (.code ⟨20, none⟩ (lp Tryz.prog 48 0) [] (ofE ([0,3,4].zip [.sstr s, .ssl 0 0 n 1, .sint .i64 i])) ⟨1, ofMo ([0].zip [some (.byt b 5)]), []⟩ (cutM [0,3,4] [0,1,2] N)) =
 (True /\ True /\ (decide (i < (s.length : Int)) = true -> (0 <= i /\ i < (s.length : Int)) /\ (0 <= (↑(s.getD i.toNat 0).toNat : Int) /\ (↑(s.getD i.toNat 0).toNat : Int) < 256) /\ ((0 < n /\ n <= b.length) /\ (∀ (v : V), v ∈ [V.sint IntKind.u8 (↑(Lib.lowerB (UInt8.ofNat (↑(s.getD i.toNat 0).toNat : Int).toNat)).toNat : Int)] -> ∃ (n : Int), 0 <= n /\ n <= 255 /\ (v = V.int IntKind.u8 n \/ v = V.sint IntKind.u8 n)) /\ (n + 1) * 1 <= 140737488355328 /\ 0 < n + 1) /\ (-9223372036854775808 <= i + 1 /\ i + 1 <= 9223372036854775807) /\ N O.normal [some (.sstr s), some (.ssl 2 0 (n + 1) 1), some (.sint .i64 (i + 1))] 3 [none, some (.cells [.sint .u8 (↑(Lib.lowerB (UInt8.ofNat (↑(s.getD i.toNat 0).toNat : Int).toNat)).toNat : Int)] 5 1), some (.byt (List.take n b ++ List.map byB [.sint .u8 (↑(Lib.lowerB (UInt8.ofNat (↑(s.getD i.toNat 0).toNat : Int).toNat)).toNat : Int)]) 5)]) /\ (decide (i < (s.length : Int)) = false -> N (O.exit 0) [some (.sstr s), some (.ssl 0 0 n 1), some (.sint .i64 i)] 1 [some (.byt b 5), none, none])) := by kernel_rfl
theorem r_isin0 (rs : List (List V)) (w : List UInt8) (n : Nat) (i : Int) (N : O -> List (Option V) -> Nat -> List (Option Chunk) -> Prop) : Go.Q.go Tryz.prog ⟨⟨.nil, [], []⟩, [], []⟩ 200 (.code ⟨18, none⟩ (lp Tryz.prog 50 0) [] (ofE ([0,1,4,5].zip [.ssl 0 0 n 1, .sstr w, .bool false, .sint .i64 i])) ⟨1, ofMo ([0].zip [some (.rows rs [.str] 9)]), []⟩ (cutM [0,1,4,5] [0] N)) =
 (True /\ True /\ (decide (i < (n : Int)) = true -> (0 <= i /\ i < (n : Int)) /\ 0 + i.toNat < rs.length /\ True /\ (decide (vS ((rs.getD (0 + i.toNat) []).getD 0 V.und) = w) = true -> N O.ret [some (.ssl 0 0 n 1), some (.sstr w), some (.bool true), some (.sint .i64 i)] 1 [some (.rows rs [Sh.str] 9)]) /\ (decide (vS ((rs.getD (0 + i.toNat) []).getD 0 V.und) = w) = false -> (-9223372036854775808 <= i + 1 /\ i + 1 <= 9223372036854775807) /\ N O.normal [some (.ssl 0 0 n 1), some (.sstr w), some (.bool false), some (.sint .i64 (i + 1))] 1 [some (.rows rs [Sh.str] 9)])) /\ (decide (i < (n : Int)) = false -> N (O.exit 0) [some (.ssl 0 0 n 1), some (.sstr w), some (.bool false), some (.sint .i64 i)] 1 [some (.rows rs [Sh.str] 9)])) := by kernel_rfl
theorem r_quoted (s : List UInt8) (m : Int) (N : E -> Nat -> List (Option Chunk) -> Prop) : Go.Q.go Tryz.prog ⟨⟨.nil, [], []⟩, [], [(91004, lp Tryz.prog 52 0, lQuoted)]⟩ 100 (.call 52 [.sstr s, .sint .i64 m] nomem (cutE [] N)) =
 ((-9223372036854775808 <= m + 1 /\ m + 1 <= 9223372036854775807) /\ lp Tryz.prog 52 0 = lp Tryz.prog 52 0 /\ (0 <= m /\ m < (s.length : Int) /\ (s.length : Int) <= 20000 /\ (-1) = (-1) /\ m + 1 = m + 1) /\ (some (Chunk.cells [V.int IntKind.i64 0, V.str [], V.int IntKind.i64 0, V.int IntKind.i64 0, V.int IntKind.i64 0, V.int IntKind.i64 0] 30 6) = some (Chunk.cells [V.int IntKind.i64 0, V.str [], V.int IntKind.i64 0, V.int IntKind.i64 0, V.int IntKind.i64 0, V.int IntKind.i64 0] 30 6) /\ some (Chunk.cells [V.int IntKind.i64 0, V.int IntKind.i64 0] 63 2) = some (Chunk.cells [V.int IntKind.i64 0, V.int IntKind.i64 0] 63 2)) /\ (textL (List.drop (m.toNat + 1) s) (m.toNat + 1) [] (-1) = none -> ∀ (v : V) (bad i : Int), N (E.ret (.tup [.agg [.int .i64 0, .str [], .int .i64 0, .int .i64 0, .int .i64 0, .int .i64 0], .agg [.int .i64 121, .sint .i64 m]])) 3 []) /\ ∀ (b : List UInt8) (p : Nat) (bad : Int), textL (List.drop (m.toNat + 1) s) (m.toNat + 1) [] (-1) = some (b, p, bad) -> ∀ (v : V) (x i : Int), N (E.ret (.tup [.agg [.sint .i64 5, .sstr b, .sint .i64 m, .sint .i64 ((p : Int) + 1), .sint .i64 0, .sint .i64 0], .agg [.sint .i64 (fltE b.length bad), .sint .i64 (fltA b.length m bad)]])) 4 []) := by kernel_rfl
theorem r_lower (s : List UInt8) (N : E -> Nat -> List (Option Chunk) -> Prop) : Go.Q.go Tryz.prog ⟨⟨.nil, [], []⟩, [], [(20003, lp Tryz.prog 48 0, lLower)]⟩ 100 (.call 48 [.sstr s] nomem (cutE [] N)) =
 (lp Tryz.prog 48 0 = lp Tryz.prog 48 0 /\ ((0 : Int) = (0 : Int) /\ s.length <= 20000) /\ (s = [] -> N (E.ret (.str [])) 1 []) /\ ∀ (c : UInt8) (l : List UInt8), s = c :: l -> ((0 : Nat) < l.length + (1 : Nat) /\ 0 + (l.length + 1) <= (Lib.toLowerA s).length) /\ N (E.ret (.sstr (List.take (l.length + 1) (List.drop 0 (Lib.toLowerA s))))) 1 []) := by kernel_rfl
theorem r_isin (rs : List (List V)) (w : List UInt8) (n : Nat) (N : E -> Nat -> List (Option Chunk) -> Prop) : Go.Q.go Tryz.prog ⟨⟨.nil, [], []⟩, [], [(18002, lp Tryz.prog 50 0, lIsIn)]⟩ 100 (.call 50 [.ssl 0 0 n 1, .sstr w] ⟨1, ofMo ([0].zip [some (.rows rs [.str] 9)]), []⟩ (cutE [0] N)) =
 (lp Tryz.prog 50 0 = lp Tryz.prog 50 0 /\ ((0 : Int) = (0 : Int) /\ [Sh.str] = [Sh.str] /\ (9 : Nat) = (9 : Nat)) /\ ∃ (l : List (List UInt8)), (rs = rowsW l /\ n = l.length /\ l.length <= 1000) /\ (w ∈ l -> ∀ (i : Int), N (E.ret (.bool true)) 1 [some (.rows (rowsW l) [Sh.str] 9)]) /\ (¬w ∈ l -> N (E.ret (.bool false)) 1 [some (.rows (rowsW l) [Sh.str] 9)])) := by kernel_rfl
def leLo (s : List UInt8) : Nat -> List V
 | 0 => leL s .nils 0
 | j + 1 => leL s (.ssl 0 0 (j + 1) 1) ((j + 1 : Nat) : Int)
def lmLo (s : List UInt8) : Nat -> List (Option Chunk)
 | 0 => [none]
 | j + 1 => [some (.byt (Go.Lib.toLowerA (s.take (j + 1))) 5)]
theorem low_snoc {s : List UInt8} {i : Nat} (h : i < s.length) : Go.Lib.toLowerA (s.take (i + 1)) = Go.Lib.toLowerA (s.take i) ++ [Go.Lib.lowerB (s.getD i 0)] := by
 rw [zxA h]
 unfold Go.Lib.toLowerA
 rw [List.map_append]; rfl
theorem lower0_ok {gv gf gl} : ∀ fi ds env hp k, lLower fi ds env hp k -> TaskOk Tryz.prog ⟨gv, gf, gl⟩ (.code fi (.loop (lp Tryz.prog 48 0)) ds env hp k) := by
 intro fi ds env hp k h
 obtain ⟨rfl, rfl, hn, hlk, rc, hrc, h⟩ := zxZ h
 split at h
 ·rename_i v0 v2 hT
  split at h
  ·rename_i s i e0 e2
   obtain ⟨⟨rfl, h1⟩, hk1, hk2⟩ := h
   obtain ⟨n', ht, hro⟩ := hp
   dsimp only at hn hlk hrc hk1 hk2
   subst hn
   refine zxG [0, 3, 4] [0] [0, 1, 2] [] rc 1 (leLo s) (lmLo s) (λ x => x <= s.length) (λ x => s.length - x) 0 (Nat.zero_le _) rfl rfl rfl (Nat.zero_le 1) hlk rfl rfl (λ x => by cases x <;> rfl) (λ x => by cases x <;> rfl) ?_ trivial hrc ?_
   ·rw [hT]
    exact ⟨zqi e0, zqa _, zqo e2, trivial⟩
   ·intro x hx
    have hx : x <= s.length := hx
    have hb := UInt8.toNat_lt (s.getD x 0)
    refine zqL (gf' := [(68, sSmall)]) (gl' := []) ?_
    cases x with
    | zero =>
     refine go_sound (G := ⟨⟨.nil, [], []⟩, [(68, sSmall)], []⟩) qmix qNG zqb (fs_one rfl small_ok) (zql rfl) 200 _ (Eq.mpr (r_lower0 s ((0 : Nat) : Int) _) ?_)
     simp only [decide_eq_true_eq, decide_eq_false_iff_not, Int.toNat_natCast, u8_of]
     refine ⟨trivial, trivial, λ hlt => ⟨⟨by omega, by omega⟩, ⟨by omega, by omega⟩, ⟨by omega, by omega⟩, ?_⟩, λ hge => ?_⟩
     ·refine ⟨1, [2], by show 1 <= s.length; omega, by show s.length - 1 < s.length - 0; omega, by decide, rfl, ⟨zqa _, ⟨rfl, rfl, rfl, rfl⟩, ⟨rfl, rfl⟩, trivial⟩, ⟨_, rfl, ?_⟩, trivial⟩
      show chle _ (.byt (Go.Lib.toLowerA (s.take (0 + 1))) 5)
      rw [low_snoc (by omega)]
      exact ⟨rfl, rfl, ⟨⟨rfl, rfl⟩, trivial⟩⟩
     ·have e : s = [] := List.eq_nil_of_length_eq_zero (by omega)
      exact ⟨leL s .nils 0, [], [], Nat.le_refl 1, rfl, rfl, ⟨zqa _, zqa _, zqa _, trivial⟩, trivial, hk1 e⟩
    | succ j =>
     have hlen := low_len (s.take (j + 1))
     rw [List.length_take, Nat.min_eq_left hx] at hlen
     refine go_sound (G := ⟨⟨.nil, [], []⟩, [(68, sSmall)], []⟩) qmix qNG zqb (fs_one rfl small_ok) (zql rfl) 200 _ (Eq.mpr (r_lower1 s (Go.Lib.toLowerA (s.take (j + 1))) (j + 1) ((j + 1 : Nat) : Int) _) ?_)
     simp only [decide_eq_true_eq, decide_eq_false_iff_not, Int.toNat_natCast, u8_of]
     refine ⟨trivial, trivial, λ hlt => ⟨⟨by omega, by omega⟩, ⟨by omega, by omega⟩, ⟨⟨by omega, by omega⟩, λ v hv => zjA hv, by omega, by omega⟩, ⟨by omega, by omega⟩, ?_⟩, λ hge => ?_⟩
     ·refine ⟨j + 1 + 1, [2], by show j + 1 + 1 <= s.length; omega, by show s.length - (j + 1 + 1) < s.length - (j + 1); omega, by decide, rfl, ⟨zqa _, zqa _, ⟨rfl, by push_cast; rfl⟩, trivial⟩, ⟨_, rfl, ?_⟩, trivial⟩
      show chle _ (.byt (Go.Lib.toLowerA (s.take (j + 1 + 1))) 5)
      rw [low_snoc (s := s) (i := j + 1) (by omega), List.take_of_length_le (by omega)]
      simp only [List.map_cons, List.map_nil, byB_u8]
      exact zqc _
     ·have e : j + 1 = s.length := by omega
      cases s with
      | nil => simp at e
      | cons c l =>
       have e2 : j = l.length := by simpa using e
       subst e2
       exact ⟨leL (c :: l) (.ssl 0 0 (l.length + 1) 1) ((l.length + 1 : Nat) : Int), [0], [.byt (Go.Lib.toLowerA (c :: l)) 5], Nat.le_refl 1, rfl, rfl, ⟨zqa _, zqa _, zqa _, trivial⟩, ⟨⟨_, rfl, by rw [show (l.length + 1) = (c :: l).length from rfl, List.take_length]; exact zqc _⟩, trivial⟩, hk2 c l rfl⟩
  ·exact h.elim
 ·exact h.elim
theorem rlower_ok {G : GQ} : ∀ args hp k, sLower args hp k -> TaskOk Tryz.prog G (.call 48 args hp k) := by
 intro args hp k h
 unfold sLower at h
 split at h
 ·split at h
  ·rename_i v s e0
   obtain ⟨h0, hk⟩ := h
   have t : TaskOk Tryz.prog ⟨⟨.nil, [], []⟩, [], [(20003, lp Tryz.prog 48 0, lLower)]⟩ (.call 48 [.sstr s] nomem (cutE [] λ e _ _ => retV (.sstr (Go.Lib.toLowerA s)) e)) := by
    refine go_sound qmix qNG zqb (zqt rfl) (ls_one rfl lower0_ok) 100 _ (Eq.mpr (r_lower s _) ?_)
    refine ⟨rfl, ⟨rfl, h0⟩, λ e => ?_, λ c l e => ?_⟩
    ·subst e; unfold retV; exact rfl
    ·have hl := low_len s
     rw [e] at hl
     refine ⟨⟨by omega, by rw [e, hl]; simp⟩, ?_⟩
     unfold retV
     rw [List.drop_zero, List.take_of_length_le (by rw [e, hl]; simp)]
     exact zqa _
   exact zjP (zqv t zqG) rfl ⟨zqi e0, trivial⟩ rfl rfl hk
  ·exact h.elim
 ·exact h.elim
theorem rowsW_at {l : List (List UInt8)} {i : Nat} (h : i < l.length) : vS (((rowsW l).getD i []).getD 0 .und) = l[i]'h := by
 unfold rowsW
 rw [getD_map h]; rfl
theorem isin0_ok {gv gf gl} : ∀ fi ds env hp k, lIsIn fi ds env hp k -> TaskOk Tryz.prog ⟨gv, gf, gl⟩ (.code fi (.loop (lp Tryz.prog 50 0)) ds env hp k) := by
 intro fi ds env hp k h
 obtain ⟨rfl, rfl, hn, hlk, rc, hrc, h⟩ := zxZ h
 split at h
 ·rename_i n v1 v2 rs sh ty hT hC
  split at h
  ·rename_i w i e1 e2
   obtain ⟨⟨rfl, rfl, rfl⟩, l, ⟨rfl, rfl, hl⟩, hk1, hk2⟩ := h
   obtain ⟨n', ht, hro⟩ := hp
   dsimp only at hn hlk hrc hk1 hk2 hC
   subst hn
   refine zxG [0, 1, 4, 5] [0] [0] [] rc 1 (λ x : Nat => leI l.length w false x) (λ _ => [some (.rows (rowsW l) [.str] 9)]) (λ x => x <= l.length /\ ∀ j (hj : j < l.length), j < x -> ¬ l[j]'hj = w) (λ x => l.length - x) 0 ⟨Nat.zero_le _, λ j hj h => absurd h (Nat.not_lt_zero _)⟩ rfl rfl rfl (Nat.le_refl 1) hlk rfl rfl (λ x => rfl) (λ x => rfl) ?_ ⟨⟨_, hC, zqc _⟩, trivial⟩ hrc ?_
   ·rw [hT]
    exact ⟨zqa _, zqi e1, zqa _, zqo e2, trivial⟩
   ·rintro x ⟨x1, x2⟩
    refine zqL (gf' := []) (gl' := []) ?_
    refine go_sound (G := nilG) qmix qNG zqb (zqt rfl) (zql rfl) 200 _ (Eq.mpr (r_isin0 (rowsW l) w l.length x _) ?_)
    simp only [decide_eq_true_eq, decide_eq_false_iff_not, Int.toNat_natCast, Nat.zero_add]
    have hr : (rowsW l).length = l.length := by unfold rowsW; simp
    refine ⟨trivial, trivial, λ hlt => ⟨⟨by omega, by omega⟩, by omega, trivial, λ he => ?_, λ hne => ⟨⟨by omega, by omega⟩, ?_⟩⟩, λ hge => ?_⟩
    ·rw [rowsW_at (by omega)] at he
     exact ⟨leI l.length w true x, [0], [.rows (rowsW l) [.str] 9], Nat.le_refl 1, rfl, rfl, ⟨zqa _, zqa _, zqa _, zqa _, trivial⟩, ⟨⟨_, rfl, zqc _⟩, trivial⟩, hk1 (by rw [<- he]; exact List.getElem_mem _) x⟩
    ·rw [rowsW_at (by omega)] at hne
     refine ⟨x + 1, [0], ⟨by omega, λ j hj hjx => ?_⟩, by show l.length - (x + 1) < l.length - x; omega, Nat.le_refl 1, rfl, ⟨zqa _, zqa _, zqa _, ⟨rfl, by push_cast; rfl⟩, trivial⟩, ⟨_, rfl, zqc _⟩, trivial⟩
     rcases Nat.lt_or_ge j x with h | h
     ·exact x2 j hj h
     ·have : j = x := by omega
      subst this; exact hne
    ·have e : x = l.length := by omega
     subst e
     refine ⟨leI l.length w false l.length, [0], [.rows (rowsW l) [.str] 9], Nat.le_refl 1, rfl, rfl, ⟨zqa _, zqa _, zqa _, zqa _, trivial⟩, ⟨⟨_, rfl, zqc _⟩, trivial⟩, hk2 λ hm => ?_⟩
     obtain ⟨j, hj, e⟩ := List.getElem_of_mem hm
     exact x2 j hj hj e
  ·exact h.elim
 ·exact h.elim
theorem strsOf_ok : ∀ {l : List V} {ws : List (List UInt8)}, strsOf l = some ws -> l.length = ws.length /\ vles l (rowsW ws).flatten /\ ∀ r ∈ rowsW ws, shR [.str] r
 | [], ws, h => by cases h; exact ⟨rfl, trivial, λ r hr => by cases hr⟩
 | v :: l, ws, h => by
  cases v with
  | str w =>
   unfold strsOf at h
   split at h
   ·rename_i m hm
    cases h
    obtain ⟨h1, h2, h3⟩ := strsOf_ok hm
    refine ⟨by simp [h1], ⟨rfl, h2⟩, λ r hr => ?_⟩
    rcases List.mem_cons.1 hr with rfl | hr
    ·exact ⟨_, _, rfl, ⟨_, .inl rfl⟩, rfl⟩
    ·exact h3 r hr
   ·cases h
  | _ => cases h
theorem isIn_ok {G : GQ} : ∀ args hp k, sIsIn args hp k -> TaskOk Tryz.prog G (.call 50 args hp k) := by
 intro args hp k h
 unfold sIsIn at h
 split at h
 ·rename_i id n v
  split at h
  ·rename_i w l e0 hg hd hb hlk
   split at h
   ·rename_i ws hws
    obtain ⟨⟨rfl, h1⟩, hk⟩ := h
    obtain ⟨s1, s2, s3⟩ := strsOf_ok hws
    have t : TaskOk Tryz.prog ⟨⟨.nil, [], []⟩, [], [(18002, lp Tryz.prog 50 0, lIsIn)]⟩ (.call 50 [.ssl 0 0 ws.length 1, .sstr w] ⟨1, ofMo ([0].zip [some (.rows (rowsW ws) [.str] 9)]), []⟩ (cutE [0] (cN [0] [true] (λ e cs => cs = [some (.rows (rowsW ws) [.str] 9)] /\ e = .ret (.sbool (decide (w ∈ ws))))))) := by
     refine go_sound qmix qNG zqb (zqt rfl) (ls_one rfl isin0_ok) 100 _ (Eq.mpr (r_isin (rowsW ws) w ws.length _) ?_)
     refine ⟨rfl, ⟨rfl, rfl, rfl⟩, ws, ⟨rfl, rfl, h1⟩, λ hm _ => ?_, λ hm => ?_⟩
     ·exact ⟨.ret (.sbool (decide (w ∈ ws))), [some (.rows (rowsW ws) [.str] 9)], show (true = decide (w ∈ ws)) by simpa using hm, rfl, ⟨zqc _, trivial⟩, rfl, rfl, rfl, rfl⟩
     ·exact ⟨.ret (.sbool (decide (w ∈ ws))), [some (.rows (rowsW ws) [.str] 9)], show (false = decide (w ∈ ws)) by simpa using hm, rfl, ⟨zqc _, trivial⟩, rfl, rfl, rfl, rfl⟩
    refine call_fr 1 [0] [id] [some (.rows (rowsW ws) [.str] 9)] _ t rfl (args0 := [.ssl 0 0 ws.length 1, .sstr w]) ⟨⟨rfl, rfl, rfl, rfl⟩, zqi e0, trivial⟩ rfl rfl rfl hb rfl hd rfl ⟨⟨_, hg, ⟨rfl, rfl, s3, s2⟩⟩, trivial⟩ hlk ?_ ?_
    ·intro ρ W hH i hi
     rw [List.mem_singleton.1 hi]
     obtain ⟨b, o, _, h2⟩ := hH.rel id _ hg
     obtain ⟨c, h3⟩ := h2.at
     exact ⟨_, h3⟩
    ·rintro e cs' ⟨rfl, rfl⟩
     exact hk
   ·exact h.elim
  ·exact h.elim
 ·exact h.elim
end
end Go.Proofs.YtekioipmhhcbhaaGreatDoor
set_option maxRecDepth 20000
namespace Go.Proofs.YtekioipmhhcbhaaGreatDoor
open Go Go.Z Go.Q Go.W6
open Go.Y hiding KE KK KR go Task go_sound
noncomputable section
variable [Ext]
def byQ (b : List UInt8) : V := match b with
 | [] => .nils
 | _ :: _ => .ssl 2 0 b.length 1
def lmQ (b : List UInt8) : List (Option Chunk) := match b with
 | [] => [some (tokCh tokZ), some (fltCh fltZ), none]
 | y :: b => [some (tokCh tokZ), some (fltCh fltZ), some (.byt (y :: b) 5)]
def leq (s : List UInt8) (m : Nat) (x : TX) : List V := leQ s m (byQ x.b) x.bad x.p
abbrev RQ (ro : List Lk) (rc : List Chunk) (s : List UInt8) (m : Nat) (k : KK) (x : TX) := rMv ro [0, 1, 4, 5, 6, 7, 8] [0, 1, 2] [0, 1, 2, 3, 4] [] rc (leq s m) (λ x => lmQ x.b) 2 3 (P59 s m) (λ x => s.length - x.p) k x
theorem flt_l {n : Nat} {m bad : Int} (h : 1000 < n) : vles [V.int .i64 122, .sint .i64 m] (fltQ n m bad) := by
 unfold fltQ fltE fltA
 rw [if_pos h, if_pos h]
 exact ⟨⟨rfl, rfl⟩, ⟨rfl, rfl⟩, trivial⟩
theorem flt_b {n : Nat} {m bad : Int} (h : ¬ 1000 < n) (hb : 0 <= bad) : vles [V.int .i64 120, .sint .i64 bad] (fltQ n m bad) := by
 unfold fltQ fltE fltA
 rw [if_neg h, if_neg h, if_pos hb, if_pos hb]
 exact ⟨⟨rfl, rfl⟩, ⟨rfl, rfl⟩, trivial⟩
theorem flt_o {n : Nat} {m bad : Int} (h : ¬ 1000 < n) (hb : ¬ 0 <= bad) : vles [V.int .i64 0, .int .i64 0] (fltQ n m bad) := by
 unfold fltQ fltE fltA
 rw [if_neg h, if_neg h, if_neg hb, if_neg hb]
 exact ⟨⟨rfl, rfl⟩, ⟨rfl, rfl⟩, trivial⟩
set_option maxHeartbeats 4000000 in
theorem quoted0_ok {gv gf gl} : ∀ fi ds env hp k, lQuoted fi ds env hp k -> TaskOk Tryz.prog ⟨gv, gf, gl⟩ (.code fi (.loop (lp Tryz.prog 52 0)) ds env hp k) := by
 intro fi ds env hp k h
 obtain ⟨rfl, rfl, hn, hlk, rc, hrc, h⟩ := zxZ h
 split at h
 ·rename_i v0 v1 v5 v6 hT
  split at h
  ·rename_i s m0 bad0 i0 e0 e1 e5 e6
   obtain ⟨⟨h0, h1, h2, rfl, rfl⟩, ⟨c0, c1⟩, hk1, hk2⟩ := h
   obtain ⟨m, rfl⟩ : ∃ m : Nat, m0 = m := ⟨m0.toNat, by omega⟩
   obtain ⟨n', ht, hro⟩ := hp
   dsimp only at hn hlk hrc c0 c1 hk1 hk2
   subst hn
   simp only [Int.toNat_natCast] at hk1 hk2
   refine zxG [0, 1, 4, 5, 6, 7, 8] [0, 1, 2] [0, 1, 2, 3, 4] [] rc 3 (leq s m) (λ x => lmQ x.b) (P59 s m) (λ x => s.length - x.p) ⟨m + 1, [], -1⟩ ⟨by simp, by show m + 1 <= s.length; omega, by simp, rfl⟩ rfl rfl rfl (by show 2 <= 3; decide) hlk rfl rfl (λ x => by rcases x with ⟨p, _ | ⟨y, b⟩, bad⟩ <;> rfl) (λ x => by rcases x with ⟨p, _ | ⟨y, b⟩, bad⟩ <;> rfl) ?_ ⟨⟨_, c0, zqc _⟩, ⟨_, c1, zqc _⟩, trivial⟩ hrc ?_
   ·rw [hT]
    exact ⟨zqi e0, zqo e1, zqa _, zqa _, zqa _, zqo e5, by push_cast; exact zqo e6, trivial⟩
   ·rintro ⟨p, b, bad⟩ ⟨q1, q2, q3, q4⟩
    dsimp only at q1 q2 q3 q4
    have hb256 := UInt8.toNat_lt (s.getD p 0)
    have hb257 := UInt8.toNat_lt (s.getD (p + 1) 0)
    have on1 : ∀ bad', p < s.length -> ¬ ((s.getD p 0).toNat : Int) = 10 -> ¬ ((s.getD p 0).toNat : Int) = 34 -> bad' = (if plainB (s.getD p 0) = false /\ bad < 0 then (p : Int) else bad) -> P59 s m ⟨p + 1, b ++ [s.getD p 0], bad'⟩ := by
     intro bad' hlt h10 h34 hbad
     refine ⟨by show m < p + 1; omega, hlt, by simp; omega, ?_⟩
     rw [<- q4, text_on hlt (by exact_mod_cast h10) (by exact_mod_cast h34), hbad]
    have isq : p + 1 < s.length -> ((s.getD (p + 1) 0).toNat : Int) = 34 -> isAt (clsB 4) s (p + 1) = true := by
     intro a1 a2
     rw [zqA a1]
     show ((s.getD (p + 1) 0).toNat == 34) = true
     have : (s.getD (p + 1) 0).toNat = 34 := by omega
     rw [this]; rfl
    have on2 : p + 1 < s.length -> ((s.getD p 0).toNat : Int) = 34 -> ((s.getD (p + 1) 0).toNat : Int) = 34 -> P59 s m ⟨p + 2, b ++ [s.getD (p + 1) 0], bad⟩ := by
     intro hlt h34 hq
     obtain ⟨g1, g2⟩ := quo_lt (isq hlt hq)
     refine ⟨by show m < p + 2; omega, g1, by simp; omega, ?_⟩
     show textL (s.drop (p + 2)) (p + 2) (b ++ [s.getD (p + 1) 0]) bad = _
     rw [<- q4, text_two (by omega) (by exact_mod_cast h34) (isq hlt hq), g2]
    have fin : p < s.length -> ((s.getD p 0).toNat : Int) = 34 -> (s.length <= p + 1 \/ ¬ ((s.getD (p + 1) 0).toNat : Int) = 34) -> textL (s.drop (m + 1)) (m + 1) [] (-1) = some (b, p, bad) := by
     intro hlt h34 hq
     rw [<- q4]
     refine text_out hlt (by exact_mod_cast h34) ?_ _ _
     rcases Nat.lt_or_ge (p + 1) s.length with h | h
     ·rw [zqA h]
      rcases hq with hq | hq
      ·omega
      ·show ((s.getD (p + 1) 0).toNat == 34) = false
       have : ¬ (s.getD (p + 1) 0).toNat = 34 := by omega
       simpa using this
     ·exact zjy h
    have pan : (s.length <= p \/ (p < s.length /\ ((s.getD p 0).toNat : Int) = 10)) -> ∀ (n : Nat) (v : V) (cs : List (Option Chunk)), n = 3 -> RQ hro rc s m k ⟨p, b, bad⟩ (.exit 0) [some (.sstr s), some (.sint .i64 m), some (.ptr 0 0), some (.ptr 1 0), some v, some (.sint .i64 bad), some (.sint .i64 p)] n (some (tokCh tokZ) :: some (fltCh fltZ) :: cs) := by
     intro hh n v cs hn
     subst hn
     have hT2 : textL (s.drop (m + 1)) (m + 1) [] (-1) = none := by
      rw [<- q4]
      rcases hh with hh | ⟨a1, a2⟩
      ·exact text_end hh _ _
      ·exact text_nl a1 (by exact_mod_cast a2) _ _
     exact ⟨leQ s m v bad p, [0, 1], [tokCh tokZ, fltCh fltZ], Nat.le_refl 3, rfl, rfl, ⟨zqa _, zqa _, zqa _, zqa _, zqa _, zqa _, zqa _, trivial⟩, ⟨⟨_, rfl, zqc _⟩, ⟨_, rfl, zqc _⟩, trivial⟩, hk1 hT2 v bad p⟩
    have ret : textL (s.drop (m + 1)) (m + 1) [] (-1) = some (b, p, bad) -> ∀ (n : Nat) (v t : V) (l : List V) (cs : List (Option Chunk)), n = 4 -> vle t (.sstr b) -> vles l (fltQ b.length m bad) -> RQ hro rc s m k ⟨p, b, bad⟩ .ret [some (.sstr s), some (.sint .i64 m), some (.ptr 0 0), some (.ptr 1 0), some v, some (.sint .i64 bad), some (.sint .i64 p)] n (some (tokCh [.int .i64 5, t, .sint .i64 m, .sint .i64 ((p : Int) + 1), .int .i64 0, .int .i64 0]) :: some (fltCh l) :: cs) := by
     intro hh n v t l cs hn ht' hl
     subst hn
     exact ⟨leQ s m v bad p, [0, 1], [tokCh (tokQ 5 b m ((p : Int) + 1)), fltCh (fltQ b.length m bad)], by decide, rfl, rfl, ⟨zqa _, zqa _, zqa _, zqa _, zqa _, zqa _, zqa _, trivial⟩, ⟨⟨_, rfl, ⟨rfl, rfl, ⟨rfl, rfl⟩, ht', ⟨rfl, rfl⟩, ⟨rfl, rfl⟩, ⟨rfl, rfl⟩, ⟨rfl, rfl⟩, trivial⟩⟩, ⟨_, rfl, ⟨rfl, rfl, hl⟩⟩, trivial⟩, hk2 b p bad hh v bad p⟩
    cases b with
    | nil =>
     refine zqL (gf' := []) (gl' := []) ?_
     refine go_sound (G := nilG) qmix qNG zqb (zqt rfl) (zql rfl) 200 _ (Eq.mpr (r_quoted0 s m p bad _) ?_)
     have nxt : ∀ (p' : Nat) (bad' : Int) (w : UInt8) (z : Int) (n : Nat) (c : Option Chunk), P59 s m ⟨p', [] ++ [w], bad'⟩ -> p < p' -> z = p' -> n = 5 -> RQ hro rc s m k ⟨p, [], bad⟩ .normal [some (.sstr s), some (.sint .i64 m), some (.ptr 0 0), some (.ptr 1 0), some (.sl 4 0 0 1 none), some (.sint .i64 bad'), some (.sint .i64 z)] n [some (tokCh tokZ), some (fltCh fltZ), none, c, some (.cells [.sint .u8 (w.toNat : Int)] 5 1)] := by
      intro p' bad' w z n c hP hlt hz hn
      subst hz hn
      have hq := hP.2.1
      dsimp only at hq
      exact ⟨⟨p', [w], bad'⟩, [0, 1, 4], hP, (by show s.length - p' < s.length - p; omega), by decide, rfl, ⟨zqa _, zqa _, zqa _, zqa _, ⟨rfl, rfl, rfl, rfl⟩, zqa _, zqa _, trivial⟩, ⟨_, rfl, zqc _⟩, ⟨_, rfl, zqc _⟩, ⟨_, rfl, ⟨rfl, rfl, ⟨⟨rfl, rfl⟩, trivial⟩⟩⟩, trivial⟩
     have n1 : p < s.length -> ¬ ((s.getD p 0).toNat : Int) = 10 -> ¬ ((s.getD p 0).toNat : Int) = 34 -> ((¬ ((s.getD p 0).toNat : Int) < 32 /\ ¬ (126 : Int) < (s.getD p 0).toNat) \/ ¬ bad < 0) -> P59 s m ⟨p + 1, [] ++ [s.getD p 0], bad⟩ := by
      intro a1 a2 a3 a4
      refine on1 bad a1 a2 a3 ?_
      rcases a4 with ⟨a4, a5⟩ | a4
      ·rw [plain_t (by omega) (by omega)]; simp
      ·rw [if_neg (λ h => a4 h.2)]
     have n2 : p < s.length -> ¬ ((s.getD p 0).toNat : Int) = 10 -> ¬ ((s.getD p 0).toNat : Int) = 34 -> (((s.getD p 0).toNat : Int) < 32 \/ (126 : Int) < (s.getD p 0).toNat) -> bad < 0 -> P59 s m ⟨p + 1, [] ++ [s.getD p 0], p⟩ := by
      intro a1 a2 a3 a4 a5
      refine on1 p a1 a2 a3 ?_
      rw [if_pos ⟨zkZ a2 (by omega), a5⟩]
     simp only [decide_eq_true_eq, decide_eq_false_iff_not, Bool.not_eq_true', Bool.not_eq_false']
     simp only [Int.toNat_natCast, zqP]
     repeat' first | exact trivial | apply And.intro | intro _
     all_goals first
      | omega
      | exact pan (by omega) _ _ _ rfl
      | exact ret (fin (by omega) (by omega) (by omega)) _ _ _ _ _ rfl rfl (flt_b (by simp) (by assumption))
      | exact ret (fin (by omega) (by omega) (by omega)) _ _ _ _ _ rfl rfl (flt_o (by simp) (by assumption))
      | exact nxt (p + 1) _ _ _ _ _ (n1 (by omega) (by omega) (by omega) (by omega)) (by omega) (by push_cast; rfl) rfl
      | exact nxt (p + 1) _ _ _ _ _ (n2 (by omega) (by omega) (by omega) (by omega) (by omega)) (by omega) (by push_cast; rfl) rfl
      | exact nxt (p + 2) _ _ _ _ _ (on2 (by omega) (by omega) (by omega)) (by omega) (by push_cast; omega) rfl
      | (exfalso; omega)
    | cons y b =>
     refine zqL (gf' := []) (gl' := []) ?_
     refine go_sound (G := nilG) qmix qNG zqb (zqt rfl) (zql rfl) 200 _ (Eq.mpr (r_quoted1 s (y :: b) (b.length + 1) m p bad _) ?_)
     have nxt : ∀ (p' : Nat) (bad' : Int) (w : UInt8) (z : Int) (n : Nat) (c c' : Option Chunk), P59 s m ⟨p', y :: b ++ [w], bad'⟩ -> p < p' -> z = p' -> n = 5 -> RQ hro rc s m k ⟨p, y :: b, bad⟩ .normal [some (.sstr s), some (.sint .i64 m), some (.ptr 0 0), some (.ptr 1 0), some (.ssl 4 0 (b.length + 1 + 1) 1), some (.sint .i64 bad'), some (.sint .i64 z)] n [some (tokCh tokZ), some (fltCh fltZ), c', c, some (.byt (List.take (b.length + 1) (y :: b) ++ List.map byB [.sint .u8 (w.toNat : Int)]) 5)] := by
      intro p' bad' w z n c c' hP hlt hz hn
      subst hz hn
      have hq := hP.2.1
      dsimp only at hq
      refine ⟨⟨p', y :: b ++ [w], bad'⟩, [0, 1, 4], hP, (by show s.length - p' < s.length - p; omega), by decide, rfl, ⟨zqa _, zqa _, zqa _, zqa _, ?_, zqa _, zqa _, trivial⟩, ⟨_, rfl, zqc _⟩, ⟨_, rfl, zqc _⟩, ⟨_, rfl, ?_⟩, trivial⟩
      ·show V.ssl 4 0 (b.length + 1 + 1) 1 = V.ssl 4 0 (y :: (b ++ [w])).length 1
       simp
      ·show chle _ (.byt (y :: (b ++ [w])) 5)
       rw [List.take_of_length_le (by simp)]
       simp only [List.map_cons, List.map_nil, byB_u8]
       exact zqc _
     have n1 : p < s.length -> ¬ ((s.getD p 0).toNat : Int) = 10 -> ¬ ((s.getD p 0).toNat : Int) = 34 -> ((¬ ((s.getD p 0).toNat : Int) < 32 /\ ¬ (126 : Int) < (s.getD p 0).toNat) \/ ¬ bad < 0) -> P59 s m ⟨p + 1, y :: b ++ [s.getD p 0], bad⟩ := by
      intro a1 a2 a3 a4
      refine on1 bad a1 a2 a3 ?_
      rcases a4 with ⟨a4, a5⟩ | a4
      ·rw [plain_t (by omega) (by omega)]; simp
      ·rw [if_neg (λ h => a4 h.2)]
     have n2 : p < s.length -> ¬ ((s.getD p 0).toNat : Int) = 10 -> ¬ ((s.getD p 0).toNat : Int) = 34 -> (((s.getD p 0).toNat : Int) < 32 \/ (126 : Int) < (s.getD p 0).toNat) -> bad < 0 -> P59 s m ⟨p + 1, y :: b ++ [s.getD p 0], p⟩ := by
      intro a1 a2 a3 a4 a5
      refine on1 p a1 a2 a3 ?_
      rw [if_pos ⟨zkZ a2 (by omega), a5⟩]
     have q6 : b.length + 1 <= p := q3
     have tx : vle (V.sstr (List.take (b.length + 1) (List.drop 0 (y :: b)))) (.sstr (y :: b)) := by
      rw [List.drop_zero, List.take_of_length_le (by simp)]; exact zqa _
     have hlen : (y :: b).length = b.length + 1 := rfl
     simp only [decide_eq_true_eq, decide_eq_false_iff_not, Bool.not_eq_true', Bool.not_eq_false']
     simp only [Int.toNat_natCast, zqP, List.length_cons]
     repeat' first | exact trivial | apply And.intro | intro _
     all_goals first
      | omega
      | exact zjA (by assumption)
      | exact pan (by omega) _ _ _ rfl
      | exact ret (fin (by omega) (by omega) (by omega)) _ _ _ _ _ rfl tx (flt_l (by omega))
      | exact ret (fin (by omega) (by omega) (by omega)) _ _ _ _ _ rfl tx (flt_b (by omega) (by assumption))
      | exact ret (fin (by omega) (by omega) (by omega)) _ _ _ _ _ rfl tx (flt_o (by omega) (by assumption))
      | exact nxt (p + 1) _ _ _ _ _ _ (n1 (by omega) (by omega) (by omega) (by omega)) (by omega) (by push_cast; rfl) rfl
      | exact nxt (p + 1) _ _ _ _ _ _ (n2 (by omega) (by omega) (by omega) (by omega) (by omega)) (by omega) (by push_cast; rfl) rfl
      | exact nxt (p + 2) _ _ _ _ _ _ (on2 (by omega) (by omega) (by omega)) (by omega) (by push_cast; omega) rfl
      | (exfalso; omega)
  ·exact h.elim
 ·exact h.elim
theorem rquoted_ok {G : GQ} : ∀ args hp k, sQuoted args hp k -> TaskOk Tryz.prog G (.call 52 args hp k) := by
 intro args hp k h
 unfold sQuoted at h
 split at h
 ·split at h
  ·rename_i v0 v1 s m e0 e1
   obtain ⟨⟨h0, h1, h2⟩, hk1, hk2⟩ := h
   have run : ∀ N : E -> Prop, ((textL (s.drop (m.toNat + 1)) (m.toNat + 1) [] (-1) = none -> N (.ret (.tup [.agg tokZ, .agg [.int .i64 121, .sint .i64 m]]))) /\ (∀ (b : List UInt8) (p : Nat) (bad : Int), textL (s.drop (m.toNat + 1)) (m.toNat + 1) [] (-1) = some (b, p, bad) -> N (.ret (.tup [.agg (tokQ 5 b m ((p : Int) + 1)), .agg (fltQ b.length m bad)])))) -> TaskOk Tryz.prog ⟨⟨.nil, [], []⟩, [], [(91004, lp Tryz.prog 52 0, lQuoted)]⟩ (.call 52 [.sstr s, .sint .i64 m] nomem (cutE [] λ e _ _ => N e)) := by
    rintro N ⟨n1, n2⟩
    refine go_sound qmix qNG zqb (zqt rfl) (ls_one rfl quoted0_ok) 100 _ (Eq.mpr (r_quoted s m _) ?_)
    exact ⟨⟨by omega, by omega⟩, rfl, ⟨h0, h1, h2, rfl, rfl⟩, ⟨rfl, rfl⟩, λ e _ _ _ => n1 e, λ b p bad e _ _ _ => n2 b p bad e⟩
   cases hT : textL (s.drop (m.toNat + 1)) (m.toNat + 1) [] (-1) with
   | none =>
    have t := run (retD (.tup [.agg tokZ, .agg [.int .i64 121, .sint .i64 m]])) ⟨λ _ => ⟨⟨rfl, rfl, rfl, rfl, rfl, rfl, trivial⟩, ⟨rfl, ⟨rfl, rfl⟩, trivial⟩, trivial⟩, λ b p bad e => by rw [hT] at e; cases e⟩
    exact sum_d (zqv t zqG) rfl ⟨zqi e0, zqo e1, trivial⟩ rfl rfl (hk1 hT)
   | some x =>
    obtain ⟨b, p, bad⟩ := x
    have t := run (retD (.tup [.agg (tokQ 5 b m ((p : Int) + 1)), .agg (fltQ b.length m bad)])) ⟨λ e => (by rw [hT] at e; cases e), λ b' p' bad' e => by rw [hT] at e; cases e; exact ⟨⟨⟨rfl, rfl⟩, rfl, ⟨rfl, rfl⟩, ⟨rfl, rfl⟩, ⟨rfl, rfl⟩, ⟨rfl, rfl⟩, trivial⟩, ⟨⟨rfl, rfl⟩, ⟨rfl, rfl⟩, trivial⟩, trivial⟩⟩
    exact sum_d (zqv t zqG) rfl ⟨zqi e0, zqo e1, trivial⟩ rfl rfl (hk2 b p bad hT)
  ·exact h.elim
 ·exact h.elim
end
end Go.Proofs.YtekioipmhhcbhaaGreatDoor
