/- lex.single: one token that fills a string: its contract. -/
import Derived.Test.YtekioipmhhcbhaaGreatDoorV5
import Derived.Test.YtekioipmhhcbhaaGreatDoorV7
set_option linter.unusedVariables false
set_option linter.unusedSectionVars false
set_option linter.unusedSimpArgs false
set_option maxRecDepth 20000
namespace Go.Proofs.YtekioipmhhcbhaaGreatDoor
open Go Go.Z Go.Q Go.W6
open Go.Y hiding KE KK KR go Task go_sound
noncomputable section
variable [Ext]
theorem x_single (k : Int) (s : List UInt8) (ty : Nat) (N : E -> Nat -> List (Option Chunk) -> Prop) : Go.Q.go Tryz.prog ⟨⟨varG 0, [], [(0, spaceV)]⟩, [(8, sScan)], []⟩ 200 (.call 46 [.sint .i64 k, .sstr s] ⟨1, ofMo ([0].zip [some (spC ty)]), [wh 0]⟩ (cutA [0] N)) =
 (Chunk.cells spaceV ty 1 = Chunk.cells spaceV ty 1 /\ True /\ (decide ((↑(scanF s).snd.snd : Int) = 0) = true -> True /\ True /\ (decide ((↑(scanF s).fst.length : Int) = (1 : Int)) = true -> ((0 : Int) <= (0 : Int) /\ 0 < (↑(scanF s).fst.length : Int)) /\ True /\ 0 < (List.map (rowTok s) (scanF s).fst).length /\ True /\ (decide (vI (((List.map (rowTok s) (scanF s).fst).getD ((0 : Nat) + Int.toNat (0 : Int)) []).getD (0 : Nat) V.und) = k) = true -> ((0 : Int) <= (0 : Int) /\ 0 < (↑(scanF s).fst.length : Int)) /\ True /\ 0 < (List.map (rowTok s) (scanF s).fst).length /\ True /\ (decide (vS (((List.map (rowTok s) (scanF s).fst).getD ((0 : Nat) + Int.toNat (0 : Int)) []).getD ((0 : Nat) + (1 : Nat)) V.und) = s) = true -> ((0 : Int) <= (0 : Int) /\ 0 < (↑(scanF s).fst.length : Int)) /\ True /\ 0 < (List.map (rowTok s) (scanF s).fst).length /\ ((0 : Int) <= (0 : Int) /\ 0 < (↑(scanF s).fst.length : Int)) /\ True /\ 0 < (List.map (rowTok s) (scanF s).fst).length /\ ((-9223372036854775808 : Int) <= vI (((List.map (rowTok s) (scanF s).fst).getD ((0 : Nat) + Int.toNat (0 : Int)) []).getD ((0 : Nat) + (1 : Nat) + (1 : Nat) + (1 : Nat)) V.und) - vI (((List.map (rowTok s) (scanF s).fst).getD ((0 : Nat) + Int.toNat (0 : Int)) []).getD ((0 : Nat) + (1 : Nat) + (1 : Nat)) V.und) /\ vI (((List.map (rowTok s) (scanF s).fst).getD ((0 : Nat) + Int.toNat (0 : Int)) []).getD ((0 : Nat) + (1 : Nat) + (1 : Nat) + (1 : Nat)) V.und) - vI (((List.map (rowTok s) (scanF s).fst).getD ((0 : Nat) + Int.toNat (0 : Int)) []).getD ((0 : Nat) + (1 : Nat) + (1 : Nat)) V.und) <= (9223372036854775807 : Int)) /\ True /\ True /\ (decide (vI (((List.map (rowTok s) (scanF s).fst).getD ((0 : Nat) + Int.toNat (0 : Int)) []).getD ((0 : Nat) + (1 : Nat) + (1 : Nat) + (1 : Nat)) V.und) - vI (((List.map (rowTok s) (scanF s).fst).getD ((0 : Nat) + Int.toNat (0 : Int)) []).getD ((0 : Nat) + (1 : Nat) + (1 : Nat)) V.und) = (s.length : Int)) = true -> N (E.ret (.bool true)) 2 [some (.cells spaceV ty 1)]) /\ (decide (vI (((List.map (rowTok s) (scanF s).fst).getD ((0 : Nat) + Int.toNat (0 : Int)) []).getD ((0 : Nat) + (1 : Nat) + (1 : Nat) + (1 : Nat)) V.und) - vI (((List.map (rowTok s) (scanF s).fst).getD ((0 : Nat) + Int.toNat (0 : Int)) []).getD ((0 : Nat) + (1 : Nat) + (1 : Nat)) V.und) = (s.length : Int)) = false -> N (E.ret (.bool false)) 2 [some (.cells spaceV ty 1)])) /\ (decide (vS (((List.map (rowTok s) (scanF s).fst).getD ((0 : Nat) + Int.toNat (0 : Int)) []).getD ((0 : Nat) + (1 : Nat)) V.und) = s) = false -> N (E.ret (.bool false)) 2 [some (.cells spaceV ty 1)])) /\ (decide (vI (((List.map (rowTok s) (scanF s).fst).getD (0 + Int.toNat 0) []).getD 0 V.und) = k) = false -> N (E.ret (.bool false)) 2 [some (.cells spaceV ty 1)])) /\ (decide ((↑(scanF s).fst.length : Int) = 1) = false -> N (E.ret (.bool false)) 2 [some (.cells spaceV ty 1)])) /\ (decide ((↑(scanF s).snd.snd : Int) = 0) = false -> N (E.ret (.bool false)) 2 [some (.cells spaceV ty 1)])) := by kernel_rfl
def sSingle (args : List V) (hp : Mem) (k : KE) : Prop := match args with
 | [v0, v1] => match int64 v0, strOf v1, roOk hp.ro, hp.t.get 0, small hp.n, Nat.blt 0 hp.n with
  | some kk, some s, true, some (.cells l ty sz), true, true => (Chunk.cells l ty sz = spC ty) /\ k (.ret (.sbool (zqQ kk s))) ⟨hp.n, Tr.set 20 hp.t 0 (some (spC ty)), hp.ro⟩
  | _, _, _, _, _, _ => False
 | _ => False
def kSingle (kk : Int) (s : List UInt8) (ty : Nat) : E -> List (Option Chunk) -> Option Chunk -> Prop := λ e cs nc => cs = [some (spC ty)] /\ nc = none /\ e = .ret (.sbool (zqQ kk s))
theorem single_run (kk : Int) (s : List UInt8) (ty : Nat) : TaskOk Tryz.prog ⟨⟨varG 0, [], [(0, spaceV)]⟩, [(8, sScan)], []⟩ (.call 46 [.sint .i64 kk, .sstr s] ⟨1, ofMo ([0].zip [some (spC ty)]), [wh 0]⟩ (cutA [0] (cNn [0] [0] 1 [true] (kSingle kk s ty)))) := by
 refine go_sound (G := ⟨⟨varG 0, [], [(0, spaceV)]⟩, [(8, sScan)], []⟩) qmix qNG zqb (fs_all (by exact ⟨scan_ok, trivial⟩)) (zql rfl) 200 _ (Eq.mpr (x_single kk s ty _) ?_)
 have fin : ∀ b : Bool, b = zqQ kk s -> cNn [0] [0] 1 [true] (kSingle kk s ty) (.ret (.bool b)) 2 [some (Chunk.cells spaceV ty 1)] := λ b h =>
  .inl ⟨.ret (.sbool (zqQ kk s)), [some (spC ty)], h, rfl, ⟨zqc _, trivial⟩, rfl, by show coks3 (inI [0]) [some (spC ty)] = true; simp only [coks3, cloC, cok, zxB], rfl, rfl, rfl⟩
 have hlie : (scanF s).2.2 = 0 -> ∀ t, (scanF s).1 = [t] -> t.at_ < t.to /\ t.to <= s.length /\ s.length <= 20000 := by
  intro h0 t ht
  have hs : s.length <= 20000 := by
   rcases Nat.lt_or_ge 20000 s.length with h | h
   ·unfold scanF at h0; rw [if_pos h] at h0; cases h0
   ·exact h
  rcases scanF_cases hs with ⟨x, g1, g2, g3, g4⟩ | ⟨p', e, g1, g2, _⟩
  ·rw [g2] at ht
   have ht : x = [t] := ht
   have := g4 t (by rw [ht]; exact List.mem_singleton.2 rfl)
   exact ⟨this.1, this.2, hs⟩
  ·rw [g2] at ht; cases ht
 generalize hS : scanF s = R at hlie ⊢
 obtain ⟨l, p, e⟩ := R
 dsimp only at hlie ⊢
 simp only [decide_eq_true_eq, decide_eq_false_iff_not]
 refine ⟨trivial, trivial, λ he => ⟨trivial, trivial, λ hl => ?_, λ hl => fin false ?_⟩, λ he => fin false ?_⟩
 ·have he' : e = 0 := by omega
  subst he'
  have hl' : l.length = 1 := by omega
  obtain ⟨t, rfl⟩ := List.length_eq_one_iff.1 hl'
  obtain ⟨b1, b2, b3⟩ := hlie rfl t rfl
  have k0 : vI (((List.map (rowTok s) [t]).getD (0 + Int.toNat 0) []).getD 0 V.und) = t.kind := rfl
  have k1 : vS (((List.map (rowTok s) [t]).getD (0 + Int.toNat 0) []).getD (0 + 1) V.und) = t.text := rfl
  have k2 : vI (((List.map (rowTok s) [t]).getD (0 + Int.toNat 0) []).getD (0 + 1 + 1) V.und) = t.at_ := rfl
  have k3 : vI (((List.map (rowTok s) [t]).getD (0 + Int.toNat 0) []).getD (0 + 1 + 1 + 1) V.und) = t.to := rfl
  have hF : zqQ kk s = (decide ((t.kind : Int) = kk) && (decide (t.text = s) && decide ((t.to : Int) - t.at_ = s.length))) := by unfold zqQ; rw [hS]; rfl
  rw [k0, k1, k2, k3]
  have z : (0 : Int) <= 0 /\ (0 : Int) < (([t] : List Tok).length : Nat) := ⟨Int.le_refl _, by simp⟩
  have z2 : 0 < (List.map (rowTok s) [t]).length := by simp
  refine ⟨z, trivial, z2, trivial, λ h1 => ⟨z, trivial, z2, trivial, λ h2 => ⟨z, trivial, z2, z, trivial, z2, ⟨by omega, by omega⟩, trivial, trivial, λ h3 => fin true ?_, λ h3 => fin false ?_⟩, λ h2 => fin false ?_⟩, λ h1 => fin false ?_⟩
  ·rw [hF]; simp [h1, h2, h3]
  ·rw [hF]; simp [h3]
  ·rw [hF]; simp [h2]
  ·rw [hF]; simp [h1]
 ·unfold zqQ
  rw [hS]
  split
  ·rename_i h
   cases h
   exact absurd rfl hl
  ·rfl
 ·unfold zqQ
  rw [hS]
  split
  ·rename_i h
   cases h
   exact absurd rfl he
  ·rfl
theorem single_ok {kn vs gf gl} : ∀ args hp k, sSingle args hp k -> TaskOk Tryz.prog ⟨⟨varG 0, kn, vs⟩, gf, gl⟩ (.call 46 args hp k) := by
 intro args hp k h
 unfold sSingle at h
 split at h
 ·rename_i v0 v1
  split at h
  ·rename_i kk s l ty sz h0 hs hro hg hsm hpos
   obtain ⟨hc, hk⟩ := h
   refine call_nw 1 [0] [] [0] [some (spC ty)] [wh 0] (kSingle kk s ty) (single_run kk s ty) ?_ ?_ (args0 := [.sint .i64 kk, .sstr s]) ⟨zqo h0, zqi hs, trivial⟩ rfl rfl rfl ?_ rfl rfl ?_ ?_ (roOk_lk hro) ?_ hsm ?_ ?_
   ·intro g id e
    have e : (varG 0).get g = some id := e
    obtain ⟨rfl, rfl⟩ := varG_get e
    exact ⟨rfl, rfl⟩
   ·intro l hl; rw [List.mem_singleton.1 hl]; exact Nat.zero_lt_one
   ·show below hp.n [0] = true
    simp only [below, hpos]; rfl
   ·show coks3 (inI [0]) [some (spC ty)] = true
    simp only [coks3, cloC, cok, zxB]
   ·refine ⟨⟨_, hg, ?_⟩, trivial⟩
    rw [hc]
    exact zqc _
   ·intro ρ W hH i hi
    rw [List.mem_singleton.1 hi]
    obtain ⟨b, o, _, h2⟩ := hH.rel 0 _ hg
    obtain ⟨c, h3⟩ := h2.at
    exact ⟨_, h3⟩
   ·rintro e cs' ⟨rfl, _, rfl⟩
    exact hk
   ·rintro e cs' ch ⟨_, h, _⟩; cases h
  ·exact h.elim
 ·exact h.elim
end
end Go.Proofs.YtekioipmhhcbhaaGreatDoor
namespace Go.Proofs.YtekioipmhhcbhaaGreatDoor
open Go Go.Z Go.Q Go.W6
open Go.Y hiding KE KK KR go Task go_sound
noncomputable section
variable [Ext]
def leA (s : List UInt8) (i : Int) : List V := [.sstr s, .bool false, .sint .i64 i]
def lName (fi : FI) (ds : List DV) (env : Tr V) (hp : Mem) (k : KK) : Prop := atV 39 0 [] [] fi ds hp λ rc => match pk [0, 2, 3] env with
 | [some v0, some (.bool false), some v2] => match strOf v0, int64 v2 with
  | some s, some i => (i = 0 /\ s.length <= 20000) /\
    (s.all restB = true -> ∀ i : Int, k (.exit 0) [] (ofE ([0, 2, 3].zip (leA s i))) ⟨0, ofM ([].zip [] ++ [].zip rc), hp.ro⟩) /\
    (s.all restB = false -> ∀ i : Int, k .ret [] (ofE ([0, 2, 3].zip (leA s i))) ⟨0, ofM ([].zip [] ++ [].zip rc), hp.ro⟩)
  | _, _ => False
 | _ => False
def sNameR (args : List V) (hp : Mem) (k : KE) : Prop := match args with
 | [v] => match strOf v with
  | some s => s.length <= 20000 /\ k (.ret (.sbool (nameB s))) hp
  | none => False
 | _ => False
def sIsNum (args : List V) (hp : Mem) (k : KE) : Prop := match args with
 | [v0, v1] => match int64 v0, strOf v1 with
  | some kk, some s => s.length <= 20000 /\ k (.ret (.sbool (numB kk s))) hp
  | _, _ => False
 | _ => False
end
end Go.Proofs.YtekioipmhhcbhaaGreatDoor
set_option maxRecDepth 20000
namespace Go.Proofs.YtekioipmhhcbhaaGreatDoor
open Go Go.Z Go.Q Go.W6
open Go.Y hiding KE KK KR go Task go_sound
noncomputable section
variable [Ext]
theorem x_name0 (s : List UInt8) (i : Int) (N : O -> List (Option V) -> Nat -> List (Option Chunk) -> Prop) : Go.Q.go Tryz.prog ⟨⟨.nil, [], []⟩, [(49, sByte restB)], []⟩ 100 (.code ⟨39, none⟩ (lp Tryz.prog 21 0) [] (ofE ([0,2,3].zip (leA s i))) ⟨0, ofMo ([].zip []), []⟩ (cutM [0,2,3] [] N)) =
 (True /\ True /\ (decide (i < (s.length : Int)) = true -> (0 <= i /\ i < (s.length : Int)) /\ (0 <= (↑(s.getD i.toNat 0).toNat : Int) /\ (↑(s.getD i.toNat 0).toNat : Int) < 256) /\ True /\ ((!restB (UInt8.ofNat (↑(s.getD i.toNat 0).toNat : Int).toNat)) = true -> N O.ret [some (.sstr s), some (.bool false), some (.sint .i64 i)] 0 []) /\ ((!restB (UInt8.ofNat (↑(s.getD i.toNat 0).toNat : Int).toNat)) = false -> (-9223372036854775808 <= i + 1 /\ i + 1 <= 9223372036854775807) /\ N O.normal [some (.sstr s), some (.bool false), some (.sint .i64 (i + 1))] 0 [])) /\ (decide (i < (s.length : Int)) = false -> N (O.exit 0) [some (.sstr s), some (.bool false), some (.sint .i64 i)] 0 [])) := by kernel_rfl
theorem x_name (s : List UInt8) (N : E -> Nat -> List (Option Chunk) -> Prop) : Go.Q.go Tryz.prog ⟨⟨.nil, [], []⟩, [(47, sByte letB), (48, sLower), (23, sKeyR)], [(39004, lp Tryz.prog 21 0, lName)]⟩ 200 (.call 21 [.sstr s] nomem (cutE [] N)) =
 (True /\ True /\ (decide ((s.length : Int) < 1) = true -> N (E.ret (.bool false)) 0 []) /\ (decide ((s.length : Int) < 1) = false -> True /\ True /\ (decide (24 < (s.length : Int)) = true -> N (E.ret (.bool false)) 0 []) /\ (decide ((24 : Int) < (s.length : Int)) = false -> ((0 : Int) <= (0 : Int) /\ 0 < (s.length : Int)) /\ (0 <= (↑(s.getD 0 0).toNat : Int) /\ (↑(s.getD 0 0).toNat : Int) < 256) /\ True /\ ((!letB (UInt8.ofNat (↑(s.getD 0 0).toNat : Int).toNat)) = true -> N (E.ret (.bool false)) 0 []) /\ ((!letB (UInt8.ofNat (↑(s.getD 0 0).toNat : Int).toNat)) = false -> s.length <= 20000 /\ True /\ ((!decide (s = Lib.toLowerA s)) = true -> N (E.ret (.bool false)) 0 []) /\ ((!decide (s = Lib.toLowerA s)) = false -> (decide (s ∈ keysL) = true -> N (E.ret (.bool false)) 0 []) /\ (decide (s ∈ keysL) = false -> lp Tryz.prog 21 0 = lp Tryz.prog 21 0 /\ ((0 : Int) = (0 : Int) /\ s.length <= 20000) /\ (s.all restB = true -> ∀ (i : Int), N (E.ret (.bool true)) 0 []) /\ (s.all restB = false -> ∀ (i : Int), N (E.ret (.bool false)) 0 []))))))) := by kernel_rfl
theorem x_isnum (k : Int) (s : List UInt8) (N : E -> Nat -> List (Option Chunk) -> Prop) : Go.Q.go Tryz.prog ⟨⟨.nil, [], []⟩, [(61, sByte digB), (62, sNumR)], []⟩ 200 (.call 53 [.sint .i64 k, .sstr s] nomem (cutE [] N)) =
 (True /\ (decide (s = []) = true -> N (E.ret (.bool false)) 0 []) /\ (decide (s = []) = false -> ((0 : Int) <= (0 : Int) /\ 0 < (s.length : Int)) /\ (0 <= (↑(s.getD 0 0).toNat : Int) /\ (↑(s.getD 0 0).toNat : Int) < 256) /\ True /\ ((!digB (UInt8.ofNat (↑(s.getD 0 0).toNat : Int).toNat)) = true -> N (E.ret (.bool false)) 0 []) /\ ((!digB (UInt8.ofNat (↑(s.getD (0 : Nat) 0).toNat : Int).toNat)) = false -> ((0 : Int) <= (0 : Int) /\ 0 < (s.length : Int) /\ (s.length : Int) <= 20000 /\ digB (s.getD 0 0) = true) /\ True /\ (decide (numE s (0 : Nat) = (0 : Int)) = true -> True /\ (decide ((↑(numT s (Int.toNat 0)).fst : Int) = k) = true -> True /\ True /\ (decide ((↑(numT s (Int.toNat 0)).snd.snd : Int) = (s.length : Int)) = true -> True /\ (decide ((numT s (Int.toNat 0)).snd.fst = s) = true -> N (E.ret (.bool true)) 1 []) /\ (decide ((numT s (Int.toNat 0)).snd.fst = s) = false -> N (E.ret (.bool false)) 1 [])) /\ (decide ((↑(numT s (Int.toNat 0)).snd.snd : Int) = (s.length : Int)) = false -> N (E.ret (.bool false)) 1 [])) /\ (decide ((↑(numT s (Int.toNat 0)).fst : Int) = k) = false -> N (E.ret (.bool false)) 1 [])) /\ (decide (numE s (0 : Nat) = (0 : Int)) = false -> N (E.ret (.bool false)) 1 [])))) := by kernel_rfl
theorem name0_ok {gv gf gl} : ∀ fi ds env hp k, lName fi ds env hp k -> TaskOk Tryz.prog ⟨gv, gf, gl⟩ (.code fi (.loop (lp Tryz.prog 21 0)) ds env hp k) := by
 intro fi ds env hp k h
 obtain ⟨rfl, rfl, hn, hlk, rc, hrc, h⟩ := zxZ h
 split at h
 ·rename_i v0 v2 hT
  split at h
  ·rename_i s i e0 e2
   obtain ⟨⟨rfl, hs⟩, hk1, hk2⟩ := h
   obtain ⟨n', ht, hro⟩ := hp
   dsimp only at hn hlk hrc hk1 hk2
   subst hn
   refine zxG [0, 2, 3] [] [] [] rc 0 (λ x : Nat => leA s x) (λ _ => []) (λ x => x <= s.length /\ ∀ j, j < x -> restB (s.getD j 0) = true) (λ x => s.length - x) 0 ⟨Nat.zero_le _, λ j hj => by omega⟩ rfl rfl rfl (Nat.le_refl 0) hlk rfl rfl (λ x => rfl) (λ x => rfl) ?_ trivial hrc ?_
   ·rw [hT]
    exact ⟨zqi e0, zqa _, zqo e2, trivial⟩
   ·rintro x ⟨x1, x2⟩
    refine zqL (gf' := [(49, sByte restB)]) (gl' := []) ?_
    refine go_sound (G := ⟨⟨.nil, [], []⟩, [(49, sByte restB)], []⟩) qmix qNG zqb (fs_one rfl isRest_ok) (zql rfl) 100 _ (Eq.mpr (x_name0 s x _) ?_)
    have hb := UInt8.toNat_lt (s.getD x 0)
    simp only [decide_eq_true_eq, decide_eq_false_iff_not, Bool.not_eq_true', Bool.not_eq_false', Int.toNat_natCast, u8_of]
    refine ⟨trivial, trivial, λ hlt => ⟨⟨by omega, by omega⟩, ⟨by omega, by omega⟩, trivial, λ hp => ?_, λ hp => ⟨⟨by omega, by omega⟩, ?_⟩⟩, λ hge => ?_⟩
    ·refine ⟨leA s x, [], [], Nat.le_refl 0, rfl, rfl, ⟨zqa _, zqa _, zqa _, trivial⟩, trivial, hk2 ?_ x⟩
     cases ha : s.all restB with
     | false => rfl
     | true =>
      rw [List.all_eq_true] at ha
      have := ha (s.getD x 0) (by rw [List.getD_eq_getElem?_getD, List.getElem?_eq_getElem (by omega)]; exact List.getElem_mem _)
      rw [hp] at this; cases this
    ·refine ⟨x + 1, [], ⟨by omega, λ j hj => ?_⟩, by show s.length - (x + 1) < s.length - x; omega, Nat.le_refl 0, rfl, ⟨zqa _, zqa _, ⟨rfl, by push_cast; rfl⟩, trivial⟩, trivial⟩
     rcases Nat.lt_or_ge j x with h | h
     ·exact x2 j h
     ·have : j = x := by omega
      subst this; exact hp
    ·have hx : x = s.length := by omega
     refine ⟨leA s x, [], [], Nat.le_refl 0, rfl, rfl, ⟨zqa _, zqa _, zqa _, trivial⟩, trivial, hk1 ?_ x⟩
     rw [List.all_eq_true]
     intro b hb'
     obtain ⟨j, hj, e⟩ := List.getElem_of_mem hb'
     have := x2 j (by omega)
     rw [List.getD_eq_getElem?_getD, List.getElem?_eq_getElem hj] at this
     rw [<- e]; exact this
  ·exact h.elim
 ·exact h.elim
theorem rname_ok {G : GQ} : ∀ args hp k, sNameR args hp k -> TaskOk Tryz.prog G (.call 21 args hp k) := by
 intro args hp k h
 unfold sNameR at h
 split at h
 ·split at h
  ·rename_i v s e0
   obtain ⟨hs, hk⟩ := h
   have t : TaskOk Tryz.prog ⟨⟨.nil, [], []⟩, [(47, sByte letB), (48, sLower), (23, sKeyR)], [(39004, lp Tryz.prog 21 0, lName)]⟩ (.call 21 [.sstr s] nomem (cutE [] λ e _ _ => retD (.sbool (nameB s)) e)) := by
    refine go_sound qmix qNG zqb (fs_all (by exact ⟨isLetter_ok, rlower_ok, iskey_ok, trivial⟩)) (ls_one rfl name0_ok) 200 _ (Eq.mpr (x_name s _) ?_)
    have hb := UInt8.toNat_lt (s.getD 0 0)
    have no : nameB s = false -> retD (.sbool (nameB s)) (.ret (.bool false)) := λ h => h.symm
    simp only [decide_eq_true_eq, decide_eq_false_iff_not, Bool.not_eq_true', Bool.not_eq_false', Int.toNat_natCast, u8_of]
    refine ⟨trivial, trivial, λ h1 => no ?_, λ h1 => ⟨trivial, trivial, λ h2 => no ?_, λ h2 => ⟨⟨by omega, by omega⟩, ⟨by omega, by omega⟩, trivial, λ h3 => no ?_, λ h3 => ⟨hs, trivial, λ h4 => no ?_, λ h4 => ⟨λ h5 => no ?_, λ h5 => ⟨trivial, ⟨trivial, hs⟩, λ h6 _ => ?_, λ h6 _ => no ?_⟩⟩⟩⟩⟩⟩
    ·unfold nameB; rw [decide_eq_false (by omega)]; rfl
    ·unfold nameB; rw [decide_eq_false (by omega)]; rfl
    ·unfold nameB; rw [h3]; simp
    ·unfold nameB; rw [decide_eq_false (p := Go.Lib.toLowerA s = s) (λ e => h4 e.symm)]; simp
    ·unfold nameB; rw [decide_eq_true h5]; simp
    ·show true = nameB s
     unfold nameB
     rw [decide_eq_true (by omega), h3, decide_eq_true (p := Go.Lib.toLowerA s = s) h4.symm, decide_eq_false h5, h6]; rfl
    ·unfold nameB; rw [h6]; simp
   exact sum_d (zqv t zqG) rfl ⟨zqi e0, trivial⟩ rfl rfl hk
  ·exact h.elim
 ·exact h.elim
theorem isnum_ok {G : GQ} : ∀ args hp k, sIsNum args hp k -> TaskOk Tryz.prog G (.call 53 args hp k) := by
 intro args hp k h
 unfold sIsNum at h
 split at h
 ·split at h
  ·rename_i v0 v1 kk s e0 e1
   obtain ⟨hs, hk⟩ := h
   have t : TaskOk Tryz.prog ⟨⟨.nil, [], []⟩, [(61, sByte digB), (62, sNumR)], []⟩ (.call 53 [.sint .i64 kk, .sstr s] nomem (cutE [] λ e _ _ => retD (.sbool (numB kk s)) e)) := by
    refine go_sound qmix qNG zqb (fs_all (by exact ⟨zjV, rnum_ok, trivial⟩)) (zql rfl) 200 _ (Eq.mpr (x_isnum kk s _) ?_)
    have hb := UInt8.toNat_lt (s.getD 0 0)
    have no : numB kk s = false -> retD (.sbool (numB kk s)) (.ret (.bool false)) := λ h => h.symm
    have z : Int.toNat 0 = 0 := rfl
    simp only [decide_eq_true_eq, decide_eq_false_iff_not, Bool.not_eq_true', Bool.not_eq_false', Int.toNat_natCast, u8_of, z]
    have pos : ¬ s = [] -> 0 < s.length := λ h => List.length_pos_iff.2 h
    have some' : numE s 0 = 0 -> ∃ a b c, numF s 0 = some (a, b, c) /\ numT s 0 = (a, b, c) := by
     intro h
     unfold numE at h
     cases hN : numF s 0 with
     | none => rw [hN] at h; cases h
     | some x =>
      obtain ⟨a, b, c⟩ := x
      exact ⟨a, b, c, rfl, numT_ok hN⟩
    refine ⟨trivial, λ h1 => no ?_, λ h1 => ⟨⟨Int.le_refl _, by have := pos h1; omega⟩, ⟨by omega, by omega⟩, trivial, λ h2 => no ?_, λ h2 => ⟨⟨Int.le_refl _, by have := pos h1; omega, by omega, h2⟩, trivial, λ h3 => ⟨trivial, λ h4 => ⟨trivial, trivial, λ h5 => ⟨trivial, λ h6 => ?_, λ h6 => no ?_⟩, λ h5 => no ?_⟩, λ h4 => no ?_⟩, λ h3 => no ?_⟩⟩⟩
    ·unfold numB; rw [h1]; rfl
    ·unfold numB; rw [h2]; simp
    ·obtain ⟨a, b, c, g1, g2⟩ := some' h3
     rw [g2] at h4 h5 h6
     dsimp only at h4 h5 h6
     show true = numB kk s
     unfold numB
     have p := pos h1
     have h5 : c = s.length := by omega
     rw [g1, h2]
     simp [h4, h5, h6, p]
    ·obtain ⟨a, b, c, g1, g2⟩ := some' h3
     rw [g2] at h6
     dsimp only at h6
     unfold numB
     rw [g1]
     simp [h6]
    ·obtain ⟨a, b, c, g1, g2⟩ := some' h3
     rw [g2] at h5
     dsimp only at h5
     have h5 : ¬ c = s.length := by omega
     unfold numB
     rw [g1]
     simp [h5]
    ·obtain ⟨a, b, c, g1, g2⟩ := some' h3
     rw [g2] at h4
     dsimp only at h4
     unfold numB
     rw [g1]
     simp [h4]
    ·unfold numB
     cases hN : numF s 0 with
     | none => simp
     | some x => exact absurd (by unfold numE; rw [hN]) h3
   exact sum_d (zqv t zqG) rfl ⟨zqo e0, zqi e1, trivial⟩ rfl rfl hk
  ·exact h.elim
 ·exact h.elim
end
end Go.Proofs.YtekioipmhhcbhaaGreatDoor
namespace Go.Proofs.YtekioipmhhcbhaaGreatDoor
open Go Go.Z Go.Q Go.W6
open Go.Y hiding KE KK KR go Task go_sound
noncomputable section
variable [Ext]
abbrev tsQ : List Nat := [0, 2, 3, 4, 5]
def leU (s : List UInt8) (e : Int) (v : V) (i : Int) : List V := [.sstr s, .sstr [], .sint .i64 e, v, .sint .i64 i]
def lQuoR (fi : FI) (ds : List DV) (env : Tr V) (hp : Mem) (k : KK) : Prop := atV 44 1 [0, 1] [] fi ds hp λ rc => match pk tsQ env, hp.t.get 0 with
 | [some v0, some v2, some v3, some (.sl 0 0 0 1 none), some v5], some (.cells [.int .u8 34] 5 1) => match strOf v0, strOf v2, int64 v3, int64 v5 with
  | some s, some [], some e, some i => (e = 0 /\ i = 0 /\ s.length <= 20000) /\
    (s = [] -> k (.exit 0) [] (ofE (tsQ.zip (leU s 0 (.ssl 0 0 1 1) 0))) ⟨2, ofM ([0].zip [.byt [34] 5] ++ [].zip rc), hp.ro⟩) /\
    (s.all quoB = true -> ∀ (c : UInt8) (l : List UInt8), s = c :: l -> ∀ i : Int, k (.exit 0) [] (ofE (tsQ.zip (leU s 0 (.ssl 1 0 ((dblB s).length + 1) 1) i))) ⟨2, ofM ([1].zip [.byt (34 :: dblB s) 5] ++ [].zip rc), hp.ro⟩) /\
    (s.all quoB = false -> ∀ (v : V) (i : Int), k .ret [] (ofE (tsQ.zip (leU s 2 v i))) ⟨2, ofM ([].zip [] ++ [].zip rc), hp.ro⟩)
  | _, _, _, _ => False
 | _, _ => False
def sQuoR (args : List V) (hp : Mem) (k : KE) : Prop := match args with
 | [v] => match strOf v with
  | some s => s.length <= 20000 /\ k (.ret (.tup [.sstr (quoteF s).1, .sint .i64 (quoteF s).2])) hp
  | none => False
 | _ => False
end
end Go.Proofs.YtekioipmhhcbhaaGreatDoor
set_option maxRecDepth 20000
namespace Go.Proofs.YtekioipmhhcbhaaGreatDoor
open Go Go.Z Go.Q Go.W6
open Go.Y hiding KE KK KR go Task go_sound
noncomputable section
variable [Ext]
theorem x_quo0 (s : List UInt8) (i : Int) (N : O -> List (Option V) -> Nat -> List (Option Chunk) -> Prop) : Go.Q.go Tryz.prog ⟨⟨.nil, [], []⟩, [], []⟩ 200 (.code ⟨44, none⟩ (lp Tryz.prog 25 0) [] (ofE (tsQ.zip (leU s 0 (.ssl 0 0 1 1) i))) ⟨2, ofMo ([0].zip [some (.byt [34] 5)]), []⟩ (cutM tsQ [0,1,2,3,4,5,6] N)) =
 (True /\ True /\ (decide (i < (s.length : Int)) = true -> (0 <= i /\ i < (s.length : Int)) /\ True /\ (decide ((↑(s.getD i.toNat 0).toNat : Int) < 32) = true -> N O.ret [some (.sstr s), some (.str []), some (.int .i64 2), some (.ssl 0 0 1 1), some (.sint .i64 i)] 2 [some (.byt [34] 5), none, none, none, none, none, none]) /\ (decide ((↑(s.getD i.toNat 0).toNat : Int) < 32) = false -> (0 <= i /\ i < (s.length : Int)) /\ True /\ (decide (126 < (↑(s.getD i.toNat 0).toNat : Int)) = true -> N O.ret [some (.sstr s), some (.str []), some (.int .i64 2), some (.ssl 0 0 1 1), some (.sint .i64 i)] 2 [some (.byt [34] 5), none, none, none, none, none, none]) /\ (decide (126 < (↑(s.getD i.toNat 0).toNat : Int)) = false -> (0 <= i /\ i < (s.length : Int)) /\ True /\ (decide ((↑(s.getD i.toNat 0).toNat : Int) = (34 : Int)) = true -> (((0 : Nat) < (1 : Nat) /\ (1 : Nat) <= (1 : Nat)) /\ (∀ (v : V), v ∈ [V.int IntKind.u8 34] -> ∃ (n : Int), 0 <= n /\ n <= 255 /\ (v = V.int IntKind.u8 n \/ v = V.sint IntKind.u8 n)) /\ (2 : Nat) <= (140737488355328 : Nat) /\ (0 : Nat) < (2 : Nat)) /\ (0 <= i /\ i < (s.length : Int)) /\ (((0 : Nat) < (2 : Nat) /\ (2 : Nat) <= (2 : Nat)) /\ (∀ (v : V), v ∈ [V.sint IntKind.u8 (↑(s.getD i.toNat 0).toNat : Int)] -> ∃ (n : Int), 0 <= n /\ n <= 255 /\ (v = V.int IntKind.u8 n \/ v = V.sint IntKind.u8 n)) /\ (3 : Nat) <= (140737488355328 : Nat) /\ (0 : Nat) < (3 : Nat)) /\ (-9223372036854775808 <= i + 1 /\ i + 1 <= 9223372036854775807) /\ N O.normal [some (.sstr s), some (.sstr []), some (.sint .i64 0), some (.ssl 5 0 3 1), some (.sint .i64 (i + 1))] 6 [none, none, some (.cells [.int .u8 34] 5 1), none, some (.cells [.sint .u8 (↑(s.getD i.toNat 0).toNat : Int)] 5 1), some (.byt ([34, 34] ++ List.map byB [.sint .u8 (↑(s.getD i.toNat 0).toNat : Int)]) 5), none]) /\ (decide ((↑(s.getD i.toNat 0).toNat : Int) = 34) = false -> (0 <= i /\ i < (s.length : Int)) /\ (((0 : Nat) < (1 : Nat) /\ (1 : Nat) <= (1 : Nat)) /\ (∀ (v : V), v ∈ [V.sint IntKind.u8 (↑(s.getD i.toNat 0).toNat : Int)] -> ∃ (n : Int), 0 <= n /\ n <= 255 /\ (v = V.int IntKind.u8 n \/ v = V.sint IntKind.u8 n)) /\ (2 : Nat) <= (140737488355328 : Nat) /\ (0 : Nat) < (2 : Nat)) /\ (-9223372036854775808 <= i + 1 /\ i + 1 <= 9223372036854775807) /\ N O.normal [some (.sstr s), some (.sstr []), some (.sint .i64 0), some (.ssl 3 0 2 1), some (.sint .i64 (i + 1))] 4 [none, none, some (.cells [.sint .u8 (↑(s.getD i.toNat 0).toNat : Int)] 5 1), some (.byt ([34] ++ List.map byB [.sint .u8 (↑(s.getD i.toNat 0).toNat : Int)]) 5), none, none, none])))) /\ (decide (i < (s.length : Int)) = false -> N (O.exit 0) [some (.sstr s), some (.sstr []), some (.sint .i64 0), some (.ssl 0 0 1 1), some (.sint .i64 i)] 2 [some (.byt [34] 5), none, none, none, none, none, none])) := by kernel_rfl
theorem x_quo1 (s b : List UInt8) (n : Nat) (i : Int) (N : O -> List (Option V) -> Nat -> List (Option Chunk) -> Prop) : Go.Q.go Tryz.prog ⟨⟨.nil, [], []⟩, [], []⟩ 200 (.code ⟨44, none⟩ (lp Tryz.prog 25 0) [] (ofE (tsQ.zip (leU s 0 (.ssl 1 0 n 1) i))) ⟨2, ofMo ([1].zip [some (.byt b 5)]), []⟩ (cutM tsQ [0,1,2,3,4,5,6] N)) =
 (True /\ True /\ (decide (i < (s.length : Int)) = true -> (0 <= i /\ i < (s.length : Int)) /\ True /\ (decide ((↑(s.getD i.toNat 0).toNat : Int) < 32) = true -> N O.ret [some (.sstr s), some (.str []), some (.int .i64 2), some (.ssl 1 0 n 1), some (.sint .i64 i)] 2 [none, some (.byt b 5), none, none, none, none, none]) /\ (decide ((↑(s.getD i.toNat 0).toNat : Int) < 32) = false -> (0 <= i /\ i < (s.length : Int)) /\ True /\ (decide (126 < (↑(s.getD i.toNat 0).toNat : Int)) = true -> N O.ret [some (.sstr s), some (.str []), some (.int .i64 2), some (.ssl 1 0 n 1), some (.sint .i64 i)] 2 [none, some (.byt b 5), none, none, none, none, none]) /\ (decide (126 < (↑(s.getD i.toNat 0).toNat : Int)) = false -> (0 <= i /\ i < (s.length : Int)) /\ True /\ (decide ((↑(s.getD i.toNat 0).toNat : Int) = 34) = true -> ((0 < n /\ n <= b.length) /\ (∀ (v : V), v ∈ [V.int IntKind.u8 34] -> ∃ (n : Int), 0 <= n /\ n <= 255 /\ (v = V.int IntKind.u8 n \/ v = V.sint IntKind.u8 n)) /\ (n + 1) * 1 <= 140737488355328 /\ 0 < n + 1) /\ (0 <= i /\ i < (s.length : Int)) /\ ((0 < n + 1 /\ n + 1 <= (List.take n b ++ [34]).length) /\ (∀ (v : V), v ∈ [V.sint IntKind.u8 (↑(s.getD i.toNat 0).toNat : Int)] -> ∃ (n : Int), 0 <= n /\ n <= 255 /\ (v = V.int IntKind.u8 n \/ v = V.sint IntKind.u8 n)) /\ (n + 1 + 1) * 1 <= 140737488355328 /\ 0 < n + 1 + 1) /\ (-9223372036854775808 <= i + 1 /\ i + 1 <= 9223372036854775807) /\ N O.normal [some (.sstr s), some (.sstr []), some (.sint .i64 0), some (.ssl 5 0 (n + 1 + 1) 1), some (.sint .i64 (i + 1))] 6 [none, none, some (.cells [.int .u8 34] 5 1), none, some (.cells [.sint .u8 (↑(s.getD i.toNat 0).toNat : Int)] 5 1), some (.byt (List.take (n + 1) (List.take n b ++ [34]) ++ List.map byB [.sint .u8 (↑(s.getD i.toNat 0).toNat : Int)]) 5), none]) /\ (decide ((↑(s.getD i.toNat 0).toNat : Int) = 34) = false -> (0 <= i /\ i < (s.length : Int)) /\ ((0 < n /\ n <= b.length) /\ (∀ (v : V), v ∈ [V.sint IntKind.u8 (↑(s.getD i.toNat 0).toNat : Int)] -> ∃ (n : Int), 0 <= n /\ n <= 255 /\ (v = V.int IntKind.u8 n \/ v = V.sint IntKind.u8 n)) /\ (n + 1) * 1 <= 140737488355328 /\ 0 < n + 1) /\ (-9223372036854775808 <= i + 1 /\ i + 1 <= 9223372036854775807) /\ N O.normal [some (.sstr s), some (.sstr []), some (.sint .i64 0), some (.ssl 3 0 (n + 1) 1), some (.sint .i64 (i + 1))] 4 [none, none, some (.cells [.sint .u8 (↑(s.getD i.toNat 0).toNat : Int)] 5 1), some (.byt (List.take n b ++ List.map byB [.sint .u8 (↑(s.getD i.toNat 0).toNat : Int)]) 5), none, none, none])))) /\ (decide (i < (s.length : Int)) = false -> N (O.exit 0) [some (.sstr s), some (.sstr []), some (.sint .i64 0), some (.ssl 1 0 n 1), some (.sint .i64 i)] 2 [none, some (.byt b 5), none, none, none, none, none])) := by kernel_rfl
theorem x_quo (s : List UInt8) (N : E -> Nat -> List (Option Chunk) -> Prop) : Go.Q.go Tryz.prog ⟨⟨.nil, [], []⟩, [], [(44003, lp Tryz.prog 25 0, lQuoR)]⟩ 200 (.call 25 [.sstr s] nomem (cutE [] N)) =
 (lp Tryz.prog 25 0 = lp Tryz.prog 25 0 /\ ((0 : Int) = (0 : Int) /\ (0 : Int) = (0 : Int) /\ s.length <= 20000) /\ (s = [] -> True /\ True /\ (decide (1000 < (s.length : Int)) = true -> N (E.ret (.tup [.str [], .int .i64 3])) 2 []) /\ (decide ((1000 : Int) < (s.length : Int)) = false -> (((0 : Nat) < (1 : Nat) /\ (1 : Nat) <= (1 : Nat)) /\ (∀ (v : V), v ∈ [V.int IntKind.u8 34] -> ∃ (n : Int), 0 <= n /\ n <= 255 /\ (v = V.int IntKind.u8 n \/ v = V.sint IntKind.u8 n)) /\ (2 : Nat) <= (140737488355328 : Nat) /\ (0 : Nat) < (2 : Nat)) /\ ((0 : Nat) < (2 : Nat) /\ (2 : Nat) <= (2 : Nat)) /\ N (E.ret (.tup [.sstr [34, 34], .int .i64 0])) 4 [])) /\ (s.all quoB = true -> ∀ (c : UInt8) (l : List UInt8), s = c :: l -> ∀ (i : Int), True /\ True /\ (decide (1000 < (s.length : Int)) = true -> N (E.ret (.tup [.str [], .int .i64 3])) 2 []) /\ (decide (1000 < (s.length : Int)) = false -> ((0 < (dblB s).length + 1 /\ (dblB s).length + (1 : Nat) <= (34 :: dblB s).length) /\ (∀ (v : V), v ∈ [V.int IntKind.u8 34] -> ∃ (n : Int), 0 <= n /\ n <= 255 /\ (v = V.int IntKind.u8 n \/ v = V.sint IntKind.u8 n)) /\ ((dblB s).length + 1 + 1) * 1 <= 140737488355328 /\ 0 < (dblB s).length + 1 + 1) /\ (0 < (dblB s).length + 1 + 1 /\ (0 : Nat) + ((dblB s).length + (1 : Nat) + (1 : Nat)) <= (List.take ((dblB s).length + (1 : Nat)) (34 :: dblB s) ++ [34]).length) /\ N (E.ret (.tup [.sstr (List.take ((dblB s).length + 1 + 1) (List.drop 0 (List.take ((dblB s).length + 1) (34 :: dblB s) ++ [34]))), .int .i64 0])) 4 [])) /\ (s.all quoB = false -> ∀ (v : V) (i : Int), N (E.ret (.tup [.sstr [], .sint .i64 2])) 2 [])) := by kernel_rfl
theorem dbl_cons (b : UInt8) (l : List UInt8) : dblB (b :: l) = if b.toNat = 34 then 34 :: 34 :: dblB l else b :: dblB l := rfl
theorem dbl_app : ∀ (l r : List UInt8), dblB (l ++ r) = dblB l ++ dblB r
 | [], r => rfl
 | b :: l, r => by
  rw [List.cons_append, dbl_cons, dbl_cons, dbl_app l r]
  split <;> rfl
def leUx (s : List UInt8) (x : Nat) : List V := match x with
 | 0 => leU s 0 (.ssl 0 0 1 1) 0
 | i + 1 => leU s 0 (.ssl 1 0 ((dblB (s.take (i + 1))).length + 1) 1) ((i + 1 : Nat) : Int)
def lmUx (s : List UInt8) (x : Nat) : List (Option Chunk) := match x with
 | 0 => [some (.byt [34] 5), none]
 | i + 1 => [none, some (.byt (34 :: dblB (s.take (i + 1))) 5)]
def PU (s : List UInt8) (x : Nat) : Prop := x <= s.length /\ (s.take x).all quoB = true
abbrev RU (ro : List Lk) (s : List UInt8) (rc : List Chunk) (k : KK) (x : Nat) := rMv ro tsQ [0, 1] [0, 1, 2, 3, 4, 5, 6] [] rc (leUx s) (lmUx s) 1 2 (PU s) (λ x => s.length - x) k x
theorem byte_34 {v : V} (h : v ∈ [V.int IntKind.u8 (34 : Int)]) : ∃ n : Int, 0 <= n /\ n <= 255 /\ (v = .int .u8 n \/ v = .sint .u8 n) := ⟨34, by decide, by decide, .inl (List.mem_singleton.1 h)⟩
set_option maxHeartbeats 4000000 in
theorem quo0_ok {gv gf gl} : ∀ fi ds env hp k, lQuoR fi ds env hp k -> TaskOk Tryz.prog ⟨gv, gf, gl⟩ (.code fi (.loop (lp Tryz.prog 25 0)) ds env hp k) := by
 intro fi ds env hp k h
 obtain ⟨rfl, rfl, hn, hlk, rc, hrc, h⟩ := zxZ h
 split at h
 ·rename_i v0 v2 v3 v5 hT hg
  split at h
  ·rename_i s e i e0 e2 e3 e5
   obtain ⟨⟨rfl, rfl, hs⟩, hk0, hk1, hk2⟩ := h
   obtain ⟨n', ht, hro⟩ := hp
   dsimp only at hn hlk hrc hk0 hk1 hk2 hg
   subst hn
   refine zxG tsQ [0, 1] [0, 1, 2, 3, 4, 5, 6] [] rc 2 (leUx s) (lmUx s) (PU s) (λ x => s.length - x) 0 ⟨Nat.zero_le _, rfl⟩ rfl rfl rfl (by show 1 <= 2; decide) hlk rfl rfl (λ x => by cases x <;> rfl) (λ x => by cases x <;> rfl) ?_ ⟨⟨_, hg, ⟨rfl, rfl, ⟨rfl, rfl⟩, trivial⟩⟩, trivial⟩ hrc ?_
   ·rw [hT]
    exact ⟨zqi e0, zqi e2, zqo e3, ⟨rfl, rfl, rfl, rfl⟩, zqo e5, trivial⟩
   ·rintro x ⟨x1, x2⟩
    have hb := UInt8.toNat_lt (s.getD x 0)
    have step : x < s.length -> ¬ ((s.getD x 0).toNat : Int) < 32 -> ¬ (126 : Int) < (s.getD x 0).toNat -> PU s (x + 1) := by
     intro h1 h2 h3
     refine ⟨h1, ?_⟩
     rw [zxA h1, List.all_append, x2, Bool.true_and, List.all_cons, List.all_nil, Bool.and_true]
     unfold quoB
     simp only [Bool.and_eq_true, decide_eq_true_eq]
     omega
    have bad : x < s.length -> (((s.getD x 0).toNat : Int) < 32 \/ (126 : Int) < (s.getD x 0).toNat) -> s.all quoB = false := by
     intro h1 h2
     cases ha : s.all quoB with
     | false => rfl
     | true =>
      rw [List.all_eq_true] at ha
      have := ha (s.getD x 0) (by rw [List.getD_eq_getElem?_getD, List.getElem?_eq_getElem h1]; exact List.getElem_mem _)
      unfold quoB at this
      simp only [Bool.and_eq_true, decide_eq_true_eq] at this
      omega
    have d34 : x < s.length -> ((s.getD x 0).toNat : Int) = 34 -> dblB (s.take (x + 1)) = dblB (s.take x) ++ [34, 34] := by
     intro h1 h2
     rw [zxA h1, dbl_app]
     have : dblB [s.getD x 0] = [34, 34] := by unfold dblB; rw [if_pos (by omega)]; rfl
     rw [this]
    have dn : x < s.length -> ¬ ((s.getD x 0).toNat : Int) = 34 -> dblB (s.take (x + 1)) = dblB (s.take x) ++ [s.getD x 0] := by
     intro h1 h2
     rw [zxA h1, dbl_app]
     have : dblB [s.getD x 0] = [s.getD x 0] := by unfold dblB; rw [if_neg (by omega)]; rfl
     rw [this]
    have nxt : ∀ (a n L : Nat) (zi : Int) (b : List UInt8) (cs : List (Option Chunk)), PU s (x + 1) -> (a = 3 /\ n = 4 \/ a = 5 /\ n = 6) -> b = 34 :: dblB (s.take (x + 1)) -> L = b.length -> zi = (x : Int) + 1 -> lookC [0, 1, 2, 3, 4, 5, 6] cs a = some (.byt b 5) -> RU hro s rc k x .normal [some (.sstr s), some (.sstr []), some (.sint .i64 0), some (.ssl a 0 L 1), some (.sint .i64 zi)] n cs := by
     intro a n L zi b cs hP ha hb' hL hz hc
     subst hb' hL hz
     have hlt := hP.1
     rcases ha with ⟨rfl, rfl⟩ | ⟨rfl, rfl⟩
     ·exact ⟨x + 1, [0, 3], hP, by show s.length - (x + 1) < s.length - x; omega, by decide, rfl, ⟨zqa _, zqa _, zqa _, zqa _, ⟨rfl, by push_cast; rfl⟩, trivial⟩, ⟨_, hc, zqc _⟩, trivial⟩
     ·exact ⟨x + 1, [0, 5], hP, by show s.length - (x + 1) < s.length - x; omega, by decide, rfl, ⟨zqa _, zqa _, zqa _, zqa _, ⟨rfl, by push_cast; rfl⟩, trivial⟩, ⟨_, hc, zqc _⟩, trivial⟩
    have ret : s.all quoB = false -> ∀ (v : V) (zi : Int) (cs : List (Option Chunk)), RU hro s rc k x .ret [some (.sstr s), some (.str []), some (.int .i64 2), some v, some (.sint .i64 zi)] 2 cs := λ h v zi cs =>
     ⟨leU s 2 v zi, [], [], Nat.le_refl 2, rfl, rfl, ⟨zqa _, rfl, ⟨rfl, rfl⟩, zqa _, zqa _, trivial⟩, trivial, hk2 h v zi⟩
    cases x with
    | zero =>
     refine zqL (gf' := []) (gl' := []) ?_
     refine go_sound (G := nilG) qmix qNG zqb (zqt rfl) (zql rfl) 200 _ (Eq.mpr (x_quo0 s 0 _) ?_)
     simp only [decide_eq_true_eq, decide_eq_false_iff_not]
     simp only [Int.toNat_zero]
     refine ⟨trivial, trivial, λ h1 => ⟨⟨by omega, by omega⟩, trivial, λ h2 => ret (bad (by omega) (.inl h2)) _ _ _, λ h2 => ⟨⟨by omega, by omega⟩, trivial, λ h3 => ret (bad (by omega) (.inr h3)) _ _ _, λ h3 => ⟨⟨by omega, by omega⟩, trivial, λ h4 => ⟨⟨⟨by decide, by decide⟩, λ v hv => byte_34 hv, by decide, by decide⟩, ⟨by omega, by omega⟩, ⟨⟨by decide, by decide⟩, λ v hv => zjA hv, by decide, by decide⟩, ⟨by omega, by omega⟩, ?_⟩, λ h4 => ⟨⟨by omega, by omega⟩, ⟨⟨by decide, by decide⟩, λ v hv => zjA hv, by decide, by decide⟩, ⟨by omega, by omega⟩, ?_⟩⟩⟩⟩, λ h1 => ?_⟩
     ·refine nxt 5 6 3 _ ([34, 34] ++ List.map byB [.sint .u8 ((s.getD 0 0).toNat : Int)]) _ (step (by omega) h2 h3) (.inr ⟨rfl, rfl⟩) ?_ rfl rfl rfl
      rw [d34 (by omega) h4, List.map_cons, List.map_nil, byB_u8, show s.getD 0 0 = 34 from u8_eq (by show (s.getD 0 0).toNat = 34; omega)]; rfl
     ·refine nxt 3 4 2 _ ([34] ++ List.map byB [.sint .u8 ((s.getD 0 0).toNat : Int)]) _ (step (by omega) h2 h3) (.inl ⟨rfl, rfl⟩) ?_ rfl rfl rfl
      rw [dn (by omega) h4, List.map_cons, List.map_nil, byB_u8]; rfl
     ·exact ⟨leU s 0 (.ssl 0 0 1 1) 0, [0], [.byt [34] 5], Nat.le_refl 2, rfl, rfl, ⟨zqa _, zqa _, zqa _, zqa _, zqa _, trivial⟩, ⟨⟨_, rfl, zqc _⟩, trivial⟩, hk0 (List.eq_nil_of_length_eq_zero (by omega))⟩
    | succ i =>
     refine zqL (gf' := []) (gl' := []) ?_
     refine go_sound (G := nilG) qmix qNG zqb (zqt rfl) (zql rfl) 200 _ (Eq.mpr (x_quo1 s (34 :: dblB (s.take (i + 1))) ((dblB (s.take (i + 1))).length + 1) ((i + 1 : Nat) : Int) _) ?_)
     have hd := dbl_len (s.take (i + 1))
     have hl : (s.take (i + 1)).length = i + 1 := by rw [List.length_take]; omega
     have tk : List.take ((dblB (s.take (i + 1))).length + 1) (34 :: dblB (s.take (i + 1))) = 34 :: dblB (s.take (i + 1)) := List.take_of_length_le (by simp)
     have tk2 : List.take ((dblB (s.take (i + 1))).length + 1 + 1) (34 :: dblB (s.take (i + 1)) ++ [34]) = 34 :: dblB (s.take (i + 1)) ++ [34] := List.take_of_length_le (by simp)
     simp only [decide_eq_true_eq, decide_eq_false_iff_not, tk, tk2]
     simp only [Int.toNat_natCast]
     refine ⟨trivial, trivial, λ h1 => ⟨⟨by omega, by omega⟩, trivial, λ h2 => ret (bad (by omega) (.inl h2)) _ _ _, λ h2 => ⟨⟨by omega, by omega⟩, trivial, λ h3 => ret (bad (by omega) (.inr h3)) _ _ _, λ h3 => ⟨⟨by omega, by omega⟩, trivial, λ h4 => ⟨⟨⟨by omega, by simp⟩, λ v hv => byte_34 hv, by omega, by omega⟩, ⟨by omega, by omega⟩, ⟨⟨by omega, by simp⟩, λ v hv => zjA hv, by omega, by omega⟩, ⟨by omega, by omega⟩, ?_⟩, λ h4 => ⟨⟨by omega, by omega⟩, ⟨⟨by omega, by simp⟩, λ v hv => zjA hv, by omega, by omega⟩, ⟨by omega, by omega⟩, ?_⟩⟩⟩⟩, λ h1 => ?_⟩
     ·refine nxt 5 6 _ _ (34 :: dblB (s.take (i + 1)) ++ [34] ++ List.map byB [.sint .u8 ((s.getD (i + 1) 0).toNat : Int)]) _ (step (by omega) h2 h3) (.inr ⟨rfl, rfl⟩) ?_ (by simp) rfl rfl
      rw [d34 (by omega) h4, List.map_cons, List.map_nil, byB_u8, show s.getD (i + 1) 0 = 34 from u8_eq (by show (s.getD (i + 1) 0).toNat = 34; omega)]
      simp
     ·refine nxt 3 4 _ _ (34 :: dblB (s.take (i + 1)) ++ List.map byB [.sint .u8 ((s.getD (i + 1) 0).toNat : Int)]) _ (step (by omega) h2 h3) (.inl ⟨rfl, rfl⟩) ?_ (by simp) rfl rfl
      rw [dn (by omega) h4, List.map_cons, List.map_nil, byB_u8]
      simp
     ·have hx : i + 1 = s.length := by have : i + 1 <= s.length := x1; omega
      have ht' : s.take (i + 1) = s := by rw [hx, List.take_length]
      have hall : s.all quoB = true := by rw [<- ht']; exact x2
      cases hs' : s with
      | nil => rw [hs'] at hx; simp at hx
      | cons c l =>
       rw [<- hs']
       refine ⟨leU s 0 (.ssl 1 0 ((dblB s).length + 1) 1) ((i + 1 : Nat) : Int), [1], [.byt (34 :: dblB s) 5], Nat.le_refl 2, rfl, rfl, ⟨zqa _, zqa _, zqa _, ?_, zqa _, trivial⟩, ⟨⟨_, rfl, ?_⟩, trivial⟩, hk1 hall c l hs' _⟩
       ·rw [ht']; exact zqa _
       ·rw [ht']; exact zqc _
  ·exact h.elim
 ·exact h.elim
theorem rquo_ok {G : GQ} : ∀ args hp k, sQuoR args hp k -> TaskOk Tryz.prog G (.call 25 args hp k) := by
 intro args hp k h
 unfold sQuoR at h
 split at h
 ·split at h
  ·rename_i v s e0
   obtain ⟨hs, hk⟩ := h
   have t : TaskOk Tryz.prog ⟨⟨.nil, [], []⟩, [], [(44003, lp Tryz.prog 25 0, lQuoR)]⟩ (.call 25 [.sstr s] nomem (cutE [] λ e _ _ => retD (.tup [.sstr (quoteF s).1, .sint .i64 (quoteF s).2]) e)) := by
    refine go_sound qmix qNG zqb (zqt rfl) (ls_one rfl quo0_ok) 200 _ (Eq.mpr (x_quo s _) ?_)
    have hd := dbl_len s
    have long : s.all quoB = true -> 1000 < s.length -> quoteF s = ([], 3) := λ h1 h2 => by unfold quoteF; rw [h1, if_neg (by simp), if_pos h2]
    have done : s.all quoB = true -> ¬ 1000 < s.length -> quoteF s = (34 :: (dblB s ++ [34]), 0) := λ h1 h2 => quote_ok h1 (by omega)
    simp only [decide_eq_true_eq, decide_eq_false_iff_not]
    refine ⟨trivial, ⟨trivial, trivial, hs⟩, λ h0 => ⟨trivial, trivial, λ h1 => ?_, λ h1 => ⟨⟨⟨by decide, by decide⟩, λ v hv => byte_34 hv, by decide, by decide⟩, ⟨by decide, by decide⟩, ?_⟩⟩, λ hq c l hc i => ⟨trivial, trivial, λ h1 => ?_, λ h1 => ⟨⟨⟨by omega, by simp⟩, λ v hv => byte_34 hv, by omega, by omega⟩, ⟨by omega, by simp⟩, ?_⟩⟩, λ hq v i => ?_⟩
    ·rw [h0] at h1; simp at h1
    ·rw [h0]; exact ⟨rfl, ⟨rfl, rfl⟩, trivial⟩
    ·rw [long hq (by omega)]; exact ⟨rfl, ⟨rfl, rfl⟩, trivial⟩
    ·rw [done hq (by omega)]
     refine ⟨?_, ⟨rfl, rfl⟩, trivial⟩
     show List.take ((dblB s).length + 1 + 1) (List.drop 0 (List.take ((dblB s).length + 1) (34 :: dblB s) ++ [34])) = 34 :: (dblB s ++ [34])
     rw [List.drop_zero, List.take_of_length_le (l := 34 :: dblB s) (by simp), List.take_of_length_le (by simp)]
     rfl
    ·have : quoteF s = ([], 2) := by unfold quoteF; rw [hq, if_pos rfl]
     rw [this]; exact ⟨rfl, ⟨rfl, rfl⟩, trivial⟩
   exact sum_d (zqv t zqG) rfl ⟨zqi e0, trivial⟩ rfl rfl hk
  ·exact h.elim
 ·exact h.elim
end
end Go.Proofs.YtekioipmhhcbhaaGreatDoor
namespace Go.Proofs.YtekioipmhhcbhaaGreatDoor
open Go Go.Z Go.Q Go.W6
open Go.Y hiding KE KK KR go Task go_sound
noncomputable section
variable [Ext]
def sUnqR (args : List V) (hp : Mem) (k : KE) : Prop := match args with
 | [v] => match strOf v with
  | some s => s.length <= 20000 /\ k (.ret (.tup [.sstr (unqR s).1, .sint .i64 (unqR s).2])) hp
  | none => False
 | _ => False
def pickF (b : Bool) (s : List UInt8) : List UInt8 × Int := if b then (s, 0) else ([], 2)
def spellF (kk : Int) (s : List UInt8) : List UInt8 × Int :=
 if kk = 1 then pickF (nameB s) s else if kk = 2 then pickF (decide (s ∈ keysL)) s else if kk = 3 \/ kk = 4 then pickF (numB kk s) s
 else if kk = 6 then pickF (decide (s ∈ signsL)) s else if kk = 5 then (if (quoteF s).2 = 0 then ((quoteF s).1, 0) else ([], 2)) else ([], 1)
def sSpellR (args : List V) (hp : Mem) (k : KE) : Prop := match args with
 | [v0, v1] => match int64 v0, strOf v1 with
  | some kk, some s => s.length <= 20000 /\ k (.ret (.tup [.sstr (spellF kk s).1, .sint .i64 (spellF kk s).2])) hp
  | _, _ => False
 | _ => False
end
end Go.Proofs.YtekioipmhhcbhaaGreatDoor
set_option maxRecDepth 20000
namespace Go.Proofs.YtekioipmhhcbhaaGreatDoor
open Go Go.Z Go.Q Go.W6
open Go.Y hiding KE KK KR go Task go_sound
noncomputable section
variable [Ext]
theorem x_unq (s : List UInt8) (N : E -> Nat -> List (Option Chunk) -> Prop) : Go.Q.go Tryz.prog ⟨⟨.nil, [], []⟩, [(52, sQuoted)], []⟩ 200 (.call 27 [.sstr s] nomem (cutE [] N)) =
 (True /\ True /\ (decide ((s.length : Int) < 2) = true -> N (E.ret (.tup [.str [], .int .i64 2])) 0 []) /\ (decide ((s.length : Int) < (2 : Int)) = false -> ((0 : Int) <= (0 : Int) /\ 0 < (s.length : Int)) /\ True /\ ((!decide ((↑(s.getD 0 0).toNat : Int) = 34)) = true -> N (E.ret (.tup [.str [], .int .i64 2])) 0 []) /\ ((!decide ((↑(s.getD (0 : Nat) 0).toNat : Int) = (34 : Int))) = false -> ((0 : Int) <= (0 : Int) /\ 0 < (s.length : Int) /\ (s.length : Int) <= 20000) /\ (textL (List.drop (Int.toNat (0 : Int) + (1 : Nat)) s) (Int.toNat (0 : Int) + (1 : Nat)) [] (-1 : Int) = none -> N (E.ret (.tup [.str [], .int .i64 2])) 2 []) /\ ∀ (b : List UInt8) (p : Nat) (bad : Int), textL (List.drop (Int.toNat (0 : Int) + (1 : Nat)) s) (Int.toNat (0 : Int) + (1 : Nat)) [] (-1 : Int) = some (b, p, bad) -> True /\ ((!decide (fltE b.length bad = 0)) = true -> N (E.ret (.tup [.str [], .int .i64 2])) 2 []) /\ ((!decide (fltE b.length bad = 0)) = false -> True /\ True /\ ((!decide ((p : Int) + 1 = (s.length : Int))) = true -> N (E.ret (.tup [.str [], .int .i64 2])) 2 []) /\ ((!decide ((p : Int) + 1 = (s.length : Int))) = false -> N (E.ret (.tup [.sstr b, .int .i64 0])) 2 []))))) := by kernel_rfl
theorem x_spell (kk : Int) (s : List UInt8) (N : E -> Nat -> List (Option Chunk) -> Prop) : Go.Q.go Tryz.prog ⟨⟨.nil, [], []⟩, [(21, sNameR), (23, sKeyR), (53, sIsNum), (50, sIsIn), (25, sQuoR)], []⟩ 200 (.call 29 [.sint .i64 kk, .sstr s] nomem (cutE [] N)) =
 (True /\ (decide (kk = 1) = true -> s.length <= 20000 /\ (nameB s = true -> N (E.ret (.tup [.sstr s, .int .i64 0])) 0 []) /\ (nameB s = false -> N (E.ret (.tup [.str [], .int .i64 2])) 0 [])) /\ (decide (kk = 1) = false -> True /\ (decide (kk = 2) = true -> (decide (s ∈ keysL) = true -> N (E.ret (.tup [.sstr s, .int .i64 0])) 0 []) /\ (decide (s ∈ keysL) = false -> N (E.ret (.tup [.str [], .int .i64 2])) 0 [])) /\ (decide (kk = 2) = false -> True /\ (decide (kk = 3) = true -> s.length <= 20000 /\ (numB kk s = true -> N (E.ret (.tup [.sstr s, .int .i64 0])) 0 []) /\ (numB kk s = false -> N (E.ret (.tup [.str [], .int .i64 2])) 0 [])) /\ (decide (kk = 3) = false -> True /\ (decide (kk = 4) = true -> s.length <= 20000 /\ (numB kk s = true -> N (E.ret (.tup [.sstr s, .int .i64 0])) 0 []) /\ (numB kk s = false -> N (E.ret (.tup [.str [], .int .i64 2])) 0 [])) /\ (decide (kk = 4) = false -> True /\ (decide (kk = (6 : Int)) = true -> ((28 : Nat) = (28 : Nat) /\ (28 : Nat) <= (1000 : Nat)) /\ (decide (s ∈ [[35], [40], [41], [42], [42, 42], [43], [44], [45], [45, 62], [46], [46, 46], [47], [47, 61], [58], [58, 61], [59], [60], [60, 61], [61], [62], [62, 61], [63], [64], [91], [93], [123], [124], [125]]) = true -> N (E.ret (.tup [.sstr s, .int .i64 0])) 1 []) /\ (decide (s ∈ [[35], [40], [41], [42], [42, 42], [43], [44], [45], [45, 62], [46], [46, 46], [47], [47, 61], [58], [58, 61], [59], [60], [60, 61], [61], [62], [62, 61], [63], [64], [91], [93], [123], [124], [125]]) = false -> N (E.ret (.tup [.str [], .int .i64 2])) 1 [])) /\ (decide (kk = 6) = false -> True /\ (decide (kk = 5) = true -> s.length <= 20000 /\ True /\ ((!decide ((quoteF s).snd = 0)) = true -> N (E.ret (.tup [.str [], .int .i64 2])) 0 []) /\ ((!decide ((quoteF s).snd = 0)) = false -> N (E.ret (.tup [.sstr (quoteF s).fst, .int .i64 0])) 0 [])) /\ (decide (kk = 5) = false -> N (E.ret (.tup [.str [], .int .i64 1])) 0 []))))))) := by kernel_rfl
theorem runq_ok {G : GQ} : ∀ args hp k, sUnqR args hp k -> TaskOk Tryz.prog G (.call 27 args hp k) := by
 intro args hp k h
 unfold sUnqR at h
 split at h
 ·split at h
  ·rename_i v s e0
   obtain ⟨hs, hk⟩ := h
   have t : TaskOk Tryz.prog ⟨⟨.nil, [], []⟩, [(52, sQuoted)], []⟩ (.call 27 [.sstr s] nomem (cutE [] λ e _ _ => retD (.tup [.sstr (unqR s).1, .sint .i64 (unqR s).2]) e)) := by
    refine go_sound qmix qNG zqb (fs_all (by exact ⟨rquoted_ok, trivial⟩)) (zql rfl) 200 _ (Eq.mpr (x_unq s _) ?_)
    have hb := UInt8.toNat_lt (s.getD 0 0)
    have no : unqR s = ([], 2) -> retD (.tup [.sstr (unqR s).1, .sint .i64 (unqR s).2]) (.ret (.tup [.str [], .int .i64 2])) := λ h => by rw [h]; exact ⟨rfl, ⟨rfl, rfl⟩, trivial⟩
    simp only [decide_eq_true_eq, decide_eq_false_iff_not, Bool.not_eq_true', Bool.not_eq_false']
    have z : Int.toNat 0 + 1 = 1 := rfl
    simp only [z]
    have in' : ¬ (s.length : Int) < 2 -> ((s.getD 0 0).toNat : Int) = 34 -> unqR s = match textL (s.drop 1) 1 [] (-1) with
      | none => ([], 2)
      | some (b, p, bad) => if 1000 < b.length \/ 0 <= bad \/ p + 1 ≠ s.length then ([], 2) else (b, 0) := λ h1 h2 => by unfold unqR; rw [if_neg (by omega)]; rfl
    have flt : ∀ (n : Nat) (bad : Int), fltE n bad = 0 ↔ ¬ 1000 < n /\ ¬ 0 <= bad := by
     intro n bad
     unfold fltE
     split
     ·exact ⟨λ h => (by cases h), λ h => absurd (by assumption) h.1⟩
     ·split
      ·exact ⟨λ h => (by cases h), λ h => absurd (by assumption) h.2⟩
      ·exact ⟨λ _ => ⟨by assumption, by assumption⟩, λ _ => rfl⟩
    refine ⟨trivial, trivial, λ h1 => no ?_, λ h1 => ⟨⟨Int.le_refl _, by omega⟩, trivial, λ h2 => no ?_, λ h2 => ⟨⟨Int.le_refl _, by omega, by omega⟩, λ hT => no ?_, λ b p bad hT => ⟨trivial, λ h3 => no ?_, λ h3 => ⟨trivial, trivial, λ h4 => no ?_, λ h4 => ?_⟩⟩⟩⟩⟩
    ·unfold unqR; rw [if_pos (.inl (by omega))]
    ·unfold unqR; rw [if_pos (.inr (by omega))]
    ·rw [in' h1 h2, hT]
    ·rw [in' h1 h2, hT]
     dsimp only
     rw [flt] at h3
     rw [if_pos (by by_cases e : 1000 < b.length; exact .inl e; exact .inr (.inl (by by_cases e2 : 0 <= bad; exact e2; exact absurd ⟨e, e2⟩ h3)))]
    ·rw [in' h1 h2, hT]
     dsimp only
     rw [if_pos (.inr (.inr (by omega)))]
    ·rw [in' h1 h2, hT]
     dsimp only
     rw [flt] at h3
     have e : ¬ (1000 < b.length \/ 0 <= bad \/ p + 1 ≠ s.length) := by
      rintro (e | e | e)
      ·exact h3.1 e
      ·exact h3.2 e
      ·omega
     rw [if_neg e]
     exact ⟨rfl, ⟨rfl, rfl⟩, trivial⟩
   exact sum_d (zqv t zqG) rfl ⟨zqi e0, trivial⟩ rfl rfl hk
  ·exact h.elim
 ·exact h.elim
theorem rspell_ok {G : GQ} : ∀ args hp k, sSpellR args hp k -> TaskOk Tryz.prog G (.call 29 args hp k) := by
 intro args hp k h
 unfold sSpellR at h
 split at h
 ·split at h
  ·rename_i v0 v1 kk s e0 e1
   obtain ⟨hs, hk⟩ := h
   have t : TaskOk Tryz.prog ⟨⟨.nil, [], []⟩, [(21, sNameR), (23, sKeyR), (53, sIsNum), (50, sIsIn), (25, sQuoR)], []⟩ (.call 29 [.sint .i64 kk, .sstr s] nomem (cutE [] λ e _ _ => retD (.tup [.sstr (spellF kk s).1, .sint .i64 (spellF kk s).2]) e)) := by
    refine go_sound qmix qNG zqb (fs_all (by exact ⟨rname_ok, iskey_ok, isnum_ok, isIn_ok, rquo_ok, trivial⟩)) (zql rfl) 200 _ (Eq.mpr (x_spell kk s _) ?_)
    have ms : ∀ w, w ∈ [[35], [40], [41], [42], [42, 42], [43], [44], [45], [45, 62], [46], [46, 46], [47], [47, 61], [58], [58, 61], [59], [60], [60, 61], [61], [62], [62, 61], [63], [64], [91], [93], [123], [124], [125]] ↔ w ∈ signsL := mem_signsR
    have yes : spellF kk s = (s, 0) -> retD (.tup [.sstr (spellF kk s).1, .sint .i64 (spellF kk s).2]) (.ret (.tup [.sstr s, .int .i64 0])) := λ h => by rw [h]; exact ⟨rfl, ⟨rfl, rfl⟩, trivial⟩
    have no : spellF kk s = ([], 2) -> retD (.tup [.sstr (spellF kk s).1, .sint .i64 (spellF kk s).2]) (.ret (.tup [.str [], .int .i64 2])) := λ h => by rw [h]; exact ⟨rfl, ⟨rfl, rfl⟩, trivial⟩
    simp only [decide_eq_true_eq, decide_eq_false_iff_not, Bool.not_eq_true', Bool.not_eq_false', ms]
    have s1 : kk = 1 -> spellF kk s = pickF (nameB s) s := λ h => by unfold spellF; rw [if_pos h]
    have s2 : kk = 2 -> spellF kk s = pickF (decide (s ∈ keysL)) s := λ h => by unfold spellF; rw [if_neg (by omega), if_pos h]
    have s3 : kk = 3 \/ kk = 4 -> spellF kk s = pickF (numB kk s) s := λ h => by unfold spellF; rw [if_neg (by omega), if_neg (by omega), if_pos h]
    have s6 : kk = 6 -> spellF kk s = pickF (decide (s ∈ signsL)) s := λ h => by unfold spellF; rw [if_neg (by omega), if_neg (by omega), if_neg (by omega), if_pos h]
    have s5 : kk = 5 -> spellF kk s = if (quoteF s).2 = 0 then ((quoteF s).1, 0) else ([], 2) := λ h => by unfold spellF; rw [if_neg (by omega), if_neg (by omega), if_neg (by omega), if_neg (by omega), if_pos h]
    refine ⟨trivial, λ h => ⟨hs, λ g => yes ?_, λ g => no ?_⟩, λ a1 => ⟨trivial, λ h => ⟨λ g => yes ?_, λ g => no ?_⟩, λ a2 => ⟨trivial, λ h => ⟨hs, λ g => yes ?_, λ g => no ?_⟩, λ a3 => ⟨trivial, λ h => ⟨hs, λ g => yes ?_, λ g => no ?_⟩, λ a4 => ⟨trivial, λ h => ⟨⟨trivial, by decide⟩, λ g => yes ?_, λ g => no ?_⟩, λ a6 => ⟨trivial, λ h => ⟨hs, trivial, λ g => no ?_, λ g => ?_⟩, λ a5 => ?_⟩⟩⟩⟩⟩⟩
    ·rw [s1 h, g]; rfl
    ·rw [s1 h, g]; rfl
    ·rw [s2 h, decide_eq_true g]; rfl
    ·rw [s2 h, decide_eq_false g]; rfl
    ·rw [s3 (.inl h), g]; rfl
    ·rw [s3 (.inl h), g]; rfl
    ·rw [s3 (.inr h), g]; rfl
    ·rw [s3 (.inr h), g]; rfl
    ·rw [s6 h, decide_eq_true g]; rfl
    ·rw [s6 h, decide_eq_false g]; rfl
    ·rw [s5 h, if_neg g]
    ·rw [s5 h, if_pos g]; exact ⟨rfl, ⟨rfl, rfl⟩, trivial⟩
    ·have : spellF kk s = ([], 1) := by unfold spellF; rw [if_neg a1, if_neg a2, if_neg (by omega), if_neg a6, if_neg a5]
     rw [this]; exact ⟨rfl, ⟨rfl, rfl⟩, trivial⟩
   exact sum_d (zqv t zqG) rfl ⟨zqo e0, zqi e1, trivial⟩ rfl rfl hk
  ·exact h.elim
 ·exact h.elim
end
end Go.Proofs.YtekioipmhhcbhaaGreatDoor
namespace Go.Proofs.YtekioipmhhcbhaaGreatDoor
open Go Go.Z Go.Q Go.W6
open Go.Y hiding KE KK KR go Task go_sound
noncomputable section
variable [Ext]
abbrev tsL : List Nat := [0, 2, 3, 6, 7]
def leV (s : List UInt8) (e i : Int) : List V := [.sstr s, .sstr [], .sint .i64 e, .sint .i64 (s.length : Nat), .sint .i64 i]
def lQuoL (n : Nat) (rids : List Nat) (fi : FI) (ds : List DV) (env : Tr V) (hp : Mem) (k : KK) : Prop := atV 28 n [] rids fi ds hp λ rc => match pk tsL env with
 | [some v0, some v2, some v3, some v6, some v7] => match strOf v0, strOf v2, int64 v3, int64 v6, int64 v7 with
  | some s, some [], some e, some m, some i => (e = 0 /\ i = 0 /\ m = (s.length : Int) /\ s.length <= 20000) /\
    (s.all quoB = true -> ∀ i : Int, k (.exit 0) [] (ofE (tsL.zip (leV s 0 i))) ⟨n, ofM ([].zip [] ++ rids.zip rc), hp.ro⟩) /\
    (s.all quoB = false -> ∀ i : Int, k .ret [] (ofE (tsL.zip (leV s 2 i))) ⟨n, ofM ([].zip [] ++ rids.zip rc), hp.ro⟩)
  | _, _, _, _, _ => False
 | _ => False
end
end Go.Proofs.YtekioipmhhcbhaaGreatDoor
set_option maxRecDepth 20000
namespace Go.Proofs.YtekioipmhhcbhaaGreatDoor
open Go Go.Z Go.Q Go.W6
open Go.Y hiding KE KK KR go Task go_sound
noncomputable section
variable [Ext]
theorem x_quoL (n : Nat) (s : List UInt8) (i : Int) (N : O -> List (Option V) -> Nat -> List (Option Chunk) -> Prop) : Go.Q.go Tryz.prog ⟨⟨.nil, [], []⟩, [], []⟩ 100 (.code ⟨28, none⟩ (lp Tryz.prog 24 0) [] (ofE (tsL.zip (leV s 0 i))) ⟨n, ofMo ([].zip []), []⟩ (cutM tsL [] N)) =
 (True /\ (decide (i < (s.length : Int)) = true -> (0 <= i /\ i < (s.length : Int)) /\ True /\ (decide ((↑(s.getD i.toNat 0).toNat : Int) < 32) = true -> N O.ret [some (.sstr s), some (.str []), some (.int .i64 2), some (.sint .i64 (s.length : Int)), some (.sint .i64 i)] n []) /\ (decide ((↑(s.getD i.toNat 0).toNat : Int) < 32) = false -> (0 <= i /\ i < (s.length : Int)) /\ True /\ (decide (126 < (↑(s.getD i.toNat 0).toNat : Int)) = true -> N O.ret [some (.sstr s), some (.str []), some (.int .i64 2), some (.sint .i64 (s.length : Int)), some (.sint .i64 i)] n []) /\ (decide (126 < (↑(s.getD i.toNat 0).toNat : Int)) = false -> (-9223372036854775808 <= i + 1 /\ i + 1 <= 9223372036854775807) /\ N O.normal [some (.sstr s), some (.sstr []), some (.sint .i64 0), some (.sint .i64 (s.length : Int)), some (.sint .i64 (i + 1))] n []))) /\ (decide (i < (s.length : Int)) = false -> N (O.exit 0) [some (.sstr s), some (.sstr []), some (.sint .i64 0), some (.sint .i64 (s.length : Int)), some (.sint .i64 i)] n [])) := by kernel_rfl
theorem quoL_ok {gv gf gl} {n : Nat} {rids : List Nat} (hr1 : below n rids = true) (hr2 : okR [] n rids = true) : ∀ fi ds env hp k, lQuoL n rids fi ds env hp k -> TaskOk Tryz.prog ⟨gv, gf, gl⟩ (.code fi (.loop (lp Tryz.prog 24 0)) ds env hp k) := by
 intro fi ds env hp k h
 obtain ⟨rfl, rfl, hn, hlk, rc, hrc, h⟩ := zxZ h
 split at h
 ·rename_i v0 v2 v3 v6 v7 hT
  split at h
  ·rename_i s e m i e0 e2 e3 e6 e7
   obtain ⟨⟨rfl, rfl, rfl, hs⟩, hk1, hk2⟩ := h
   obtain ⟨n', ht, hro⟩ := hp
   dsimp only at hn hlk hrc hk1 hk2
   subst hn
   refine zxG tsL [] [] rids rc n' (λ x : Nat => leV s 0 x) (λ _ => []) (λ x => x <= s.length /\ (s.take x).all quoB = true) (λ x => s.length - x) 0 ⟨Nat.zero_le _, rfl⟩ rfl rfl rfl (Nat.le_refl n') hlk hr1 hr2 (λ x => rfl) (λ x => rfl) ?_ trivial hrc ?_
   ·rw [hT]
    exact ⟨zqi e0, zqi e2, zqo e3, zqo e6, zqo e7, trivial⟩
   ·rintro x ⟨x1, x2⟩
    refine zqL (gf' := []) (gl' := []) ?_
    refine go_sound (G := nilG) qmix qNG zqb (zqt rfl) (zql rfl) 100 _ (Eq.mpr (x_quoL n' s x _) ?_)
    have hb := UInt8.toNat_lt (s.getD x 0)
    have bad : x < s.length -> (((s.getD x 0).toNat : Int) < 32 \/ (126 : Int) < (s.getD x 0).toNat) -> s.all quoB = false := by
     intro h1 h2
     cases ha : s.all quoB with
     | false => rfl
     | true =>
      rw [List.all_eq_true] at ha
      have := ha (s.getD x 0) (by rw [List.getD_eq_getElem?_getD, List.getElem?_eq_getElem h1]; exact List.getElem_mem _)
      unfold quoB at this
      simp only [Bool.and_eq_true, decide_eq_true_eq] at this
      omega
    simp only [decide_eq_true_eq, decide_eq_false_iff_not]
    simp only [Int.toNat_natCast]
    have ret : s.all quoB = false -> rMv hro tsL [] [] rids rc (λ x : Nat => leV s 0 x) (λ _ => []) n' n' (λ x => x <= s.length /\ (s.take x).all quoB = true) (λ x => s.length - x) k x .ret [some (.sstr s), some (.str []), some (.int .i64 2), some (.sint .i64 (s.length : Nat)), some (.sint .i64 x)] n' [] := λ h =>
     ⟨leV s 2 x, [], [], Nat.le_refl n', rfl, rfl, ⟨zqa _, rfl, ⟨rfl, rfl⟩, zqa _, zqa _, trivial⟩, trivial, hk2 h x⟩
    refine ⟨trivial, λ h1 => ⟨⟨by omega, by omega⟩, trivial, λ h2 => ret (bad (by omega) (.inl h2)), λ h2 => ⟨⟨by omega, by omega⟩, trivial, λ h3 => ret (bad (by omega) (.inr h3)), λ h3 => ⟨⟨by omega, by omega⟩, ?_⟩⟩⟩, λ h1 => ?_⟩
    ·refine ⟨x + 1, [], ⟨by omega, ?_⟩, by show s.length - (x + 1) < s.length - x; omega, Nat.le_refl n', rfl, ⟨zqa _, zqa _, zqa _, zqa _, ⟨rfl, by push_cast; rfl⟩, trivial⟩, trivial⟩
     rw [zxA (by omega), List.all_append, x2, Bool.true_and, List.all_cons, List.all_nil, Bool.and_true]
     unfold quoB
     simp only [Bool.and_eq_true, decide_eq_true_eq]
     omega
    ·have hx : x = s.length := by omega
     have ha : s.all quoB = true := by rw [hx, List.take_length] at x2; exact x2
     exact ⟨leV s 0 x, [], [], Nat.le_refl n', rfl, rfl, ⟨zqa _, zqa _, zqa _, zqa _, zqa _, trivial⟩, trivial, hk1 ha x⟩
  ·exact h.elim
 ·exact h.elim
end
end Go.Proofs.YtekioipmhhcbhaaGreatDoor
