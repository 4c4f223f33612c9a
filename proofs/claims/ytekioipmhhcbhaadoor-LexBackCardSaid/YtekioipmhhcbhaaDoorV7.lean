/- lex.single: one token that fills a string: its contract. -/
import Derived.Test.YtekioipmhhcbhaaDoorV4
import Derived.Test.YtekioipmhhcbhaaDoorM9
import Derived.Test.YtekioipmhhcbhaaDoorV6
set_option linter.unusedVariables false
set_option linter.unusedSectionVars false
set_option linter.unusedSimpArgs false
set_option maxRecDepth 20000
namespace Go.Proofs.YtekioipmhhcbhaaDoor
open Go Go.Z Go.Q Go.W6
open Go.Y hiding KE KK KR go Task go_sound
noncomputable section
variable [Ext]
theorem x_single (k : Int) (s : List UInt8) (ty : Nat) (N : E -> Nat -> List (Option Chunk) -> Prop) : Go.Q.go Tryd.prog ⟨⟨varG 0, [], [(0, spaceV)]⟩, [(16, sScan)], []⟩ 200 (.call 42 [.sint .i64 k, .sstr s] ⟨1, ofMo ([0].zip [some (spC ty)]), [wh 0]⟩ (cutA [0] N)) =
 (Chunk.cells spaceV ty 1 = Chunk.cells spaceV ty 1 /\ True /\ (decide ((↑(scanF s).snd.snd : Int) = 0) = true -> True /\ True /\ (decide ((↑(scanF s).fst.length : Int) = (1 : Int)) = true -> ((0 : Int) <= (0 : Int) /\ 0 < (↑(scanF s).fst.length : Int)) /\ True /\ 0 < (List.map (rowTok s) (scanF s).fst).length /\ True /\ (decide (vI (((List.map (rowTok s) (scanF s).fst).getD ((0 : Nat) + Int.toNat (0 : Int)) []).getD (0 : Nat) V.und) = k) = true -> ((0 : Int) <= (0 : Int) /\ 0 < (↑(scanF s).fst.length : Int)) /\ True /\ 0 < (List.map (rowTok s) (scanF s).fst).length /\ True /\ (decide (vS (((List.map (rowTok s) (scanF s).fst).getD ((0 : Nat) + Int.toNat (0 : Int)) []).getD ((0 : Nat) + (1 : Nat)) V.und) = s) = true -> ((0 : Int) <= (0 : Int) /\ 0 < (↑(scanF s).fst.length : Int)) /\ True /\ 0 < (List.map (rowTok s) (scanF s).fst).length /\ ((0 : Int) <= (0 : Int) /\ 0 < (↑(scanF s).fst.length : Int)) /\ True /\ 0 < (List.map (rowTok s) (scanF s).fst).length /\ ((-9223372036854775808 : Int) <= vI (((List.map (rowTok s) (scanF s).fst).getD ((0 : Nat) + Int.toNat (0 : Int)) []).getD ((0 : Nat) + (1 : Nat) + (1 : Nat) + (1 : Nat)) V.und) - vI (((List.map (rowTok s) (scanF s).fst).getD ((0 : Nat) + Int.toNat (0 : Int)) []).getD ((0 : Nat) + (1 : Nat) + (1 : Nat)) V.und) /\ vI (((List.map (rowTok s) (scanF s).fst).getD ((0 : Nat) + Int.toNat (0 : Int)) []).getD ((0 : Nat) + (1 : Nat) + (1 : Nat) + (1 : Nat)) V.und) - vI (((List.map (rowTok s) (scanF s).fst).getD ((0 : Nat) + Int.toNat (0 : Int)) []).getD ((0 : Nat) + (1 : Nat) + (1 : Nat)) V.und) <= (9223372036854775807 : Int)) /\ True /\ True /\ (decide (vI (((List.map (rowTok s) (scanF s).fst).getD ((0 : Nat) + Int.toNat (0 : Int)) []).getD ((0 : Nat) + (1 : Nat) + (1 : Nat) + (1 : Nat)) V.und) - vI (((List.map (rowTok s) (scanF s).fst).getD ((0 : Nat) + Int.toNat (0 : Int)) []).getD ((0 : Nat) + (1 : Nat) + (1 : Nat)) V.und) = (s.length : Int)) = true -> N (E.ret (.bool true)) 2 [some (.cells spaceV ty 1)]) /\ (decide (vI (((List.map (rowTok s) (scanF s).fst).getD ((0 : Nat) + Int.toNat (0 : Int)) []).getD ((0 : Nat) + (1 : Nat) + (1 : Nat) + (1 : Nat)) V.und) - vI (((List.map (rowTok s) (scanF s).fst).getD ((0 : Nat) + Int.toNat (0 : Int)) []).getD ((0 : Nat) + (1 : Nat) + (1 : Nat)) V.und) = (s.length : Int)) = false -> N (E.ret (.bool false)) 2 [some (.cells spaceV ty 1)])) /\ (decide (vS (((List.map (rowTok s) (scanF s).fst).getD ((0 : Nat) + Int.toNat (0 : Int)) []).getD ((0 : Nat) + (1 : Nat)) V.und) = s) = false -> N (E.ret (.bool false)) 2 [some (.cells spaceV ty 1)])) /\ (decide (vI (((List.map (rowTok s) (scanF s).fst).getD (0 + Int.toNat 0) []).getD 0 V.und) = k) = false -> N (E.ret (.bool false)) 2 [some (.cells spaceV ty 1)])) /\ (decide ((↑(scanF s).fst.length : Int) = 1) = false -> N (E.ret (.bool false)) 2 [some (.cells spaceV ty 1)])) /\ (decide ((↑(scanF s).snd.snd : Int) = 0) = false -> N (E.ret (.bool false)) 2 [some (.cells spaceV ty 1)])) := by kernel_rfl
def sSingle (args : List V) (hp : Mem) (k : KE) : Prop := match args with
 | [v0, v1] => match int64 v0, strOf v1, roOk hp.ro, hp.t.get 0, small hp.n, Nat.blt 0 hp.n with
  | some kk, some s, true, some (.cells l ty sz), true, true => (Chunk.cells l ty sz = spC ty) /\ k (.ret (.sbool (zqC kk s))) ⟨hp.n, Tr.set 20 hp.t 0 (some (spC ty)), hp.ro⟩
  | _, _, _, _, _, _ => False
 | _ => False
def kSingle (kk : Int) (s : List UInt8) (ty : Nat) : E -> List (Option Chunk) -> Option Chunk -> Prop := λ e cs nc => cs = [some (spC ty)] /\ nc = none /\ e = .ret (.sbool (zqC kk s))
theorem single_run (kk : Int) (s : List UInt8) (ty : Nat) : TaskOk Tryd.prog ⟨⟨varG 0, [], [(0, spaceV)]⟩, [(16, sScan)], []⟩ (.call 42 [.sint .i64 kk, .sstr s] ⟨1, ofMo ([0].zip [some (spC ty)]), [wh 0]⟩ (cutA [0] (cNn [0] [0] 1 [true] (kSingle kk s ty)))) := by
 refine go_sound (G := ⟨⟨varG 0, [], [(0, spaceV)]⟩, [(16, sScan)], []⟩) qmix qNG zqf (fs_all (by exact ⟨scan_ok, trivial⟩)) (zqz rfl) 200 _ (Eq.mpr (x_single kk s ty _) ?_)
 have fin : ∀ b : Bool, b = zqC kk s -> cNn [0] [0] 1 [true] (kSingle kk s ty) (.ret (.bool b)) 2 [some (Chunk.cells spaceV ty 1)] := λ b h =>
  .inl ⟨.ret (.sbool (zqC kk s)), [some (spC ty)], h, rfl, ⟨zqb _, trivial⟩, rfl, by show coks3 (inI [0]) [some (spC ty)] = true; simp only [coks3, cloC, cok, zjd], rfl, rfl, rfl⟩
 have hlie : (scanF s).2.2 = 0 -> ∀ t, (scanF s).1 = [t] -> t.at_ < t.to /\ t.to <= s.length /\ s.length <= 20000 := by
  intro h0 t ht
  have hs : s.length <= 20000 := by
   rcases Nat.lt_or_ge 20000 s.length with h | h
   ·unfold scanF at h0; rw [if_pos h] at h0; cases h0
   ·exact h
  rcases zxu hs with ⟨x, g1, g2, g3, g4⟩ | ⟨p', e, g1, g2, _⟩
  ·rw [g2] at ht
   have ht : x = [t] := ht
   have := g4 t (by rw [ht]; exact List.mem_singleton.2 rfl)
   exact ⟨this.1, this.2, hs⟩
  ·rw [g2] at ht; cases ht
 generalize hS : scanF s = R at hlie ⊢
 obtain ⟨l, p, e⟩ := R
 dsimp only at hlie ⊢
 simp only [decide_eq_true_eq, decide_eq_false_iff_not]
 refine ⟨trivial, trivial, λ he => ⟨trivial, trivial, λ hl => ?_, λ hl => fin false ?_⟩, λ he => fin false ?_⟩
 ·have he' : e = 0 := by omega
  subst he'
  have hl' : l.length = 1 := by omega
  obtain ⟨t, rfl⟩ := List.length_eq_one_iff.1 hl'
  obtain ⟨b1, b2, b3⟩ := hlie rfl t rfl
  have k0 : vI (((List.map (rowTok s) [t]).getD (0 + Int.toNat 0) []).getD 0 V.und) = t.kind := rfl
  have k1 : vS (((List.map (rowTok s) [t]).getD (0 + Int.toNat 0) []).getD (0 + 1) V.und) = t.text := rfl
  have k2 : vI (((List.map (rowTok s) [t]).getD (0 + Int.toNat 0) []).getD (0 + 1 + 1) V.und) = t.at_ := rfl
  have k3 : vI (((List.map (rowTok s) [t]).getD (0 + Int.toNat 0) []).getD (0 + 1 + 1 + 1) V.und) = t.to := rfl
  have hF : zqC kk s = (decide ((t.kind : Int) = kk) && (decide (t.text = s) && decide ((t.to : Int) - t.at_ = s.length))) := by unfold zqC; rw [hS]; rfl
  rw [k0, k1, k2, k3]
  have z : (0 : Int) <= 0 /\ (0 : Int) < (([t] : List Tok).length : Nat) := ⟨Int.le_refl _, by simp⟩
  have z2 : 0 < (List.map (rowTok s) [t]).length := by simp
  refine ⟨z, trivial, z2, trivial, λ h1 => ⟨z, trivial, z2, trivial, λ h2 => ⟨z, trivial, z2, z, trivial, z2, ⟨by omega, by omega⟩, trivial, trivial, λ h3 => fin true ?_, λ h3 => fin false ?_⟩, λ h2 => fin false ?_⟩, λ h1 => fin false ?_⟩
  ·rw [hF]; simp [h1, h2, h3]
  ·rw [hF]; simp [h3]
  ·rw [hF]; simp [h2]
  ·rw [hF]; simp [h1]
 ·unfold zqC
  rw [hS]
  split
  ·rename_i h
   cases h
   exact absurd rfl hl
  ·rfl
 ·unfold zqC
  rw [hS]
  split
  ·rename_i h
   cases h
   exact absurd rfl he
  ·rfl
theorem single_ok {kn vs gf gl} : ∀ args hp k, sSingle args hp k -> TaskOk Tryd.prog ⟨⟨varG 0, kn, vs⟩, gf, gl⟩ (.call 42 args hp k) := by
 intro args hp k h
 unfold sSingle at h
 split at h
 ·rename_i v0 v1
  split at h
  ·rename_i kk s l ty sz h0 hs hro hg hsm hpos
   obtain ⟨hc, hk⟩ := h
   refine call_nw 1 [0] [] [0] [some (spC ty)] [wh 0] (kSingle kk s ty) (single_run kk s ty) ?_ ?_ (args0 := [.sint .i64 kk, .sstr s]) ⟨zqr h0, zqT hs, trivial⟩ rfl rfl rfl ?_ rfl rfl ?_ ?_ (roOk_lk hro) ?_ hsm ?_ ?_
   ·intro g id e
    have e : (varG 0).get g = some id := e
    obtain ⟨rfl, rfl⟩ := zvJ e
    exact ⟨rfl, rfl⟩
   ·intro l hl; rw [List.mem_singleton.1 hl]; exact Nat.zero_lt_one
   ·show below hp.n [0] = true
    simp only [below, hpos]; rfl
   ·show coks3 (inI [0]) [some (spC ty)] = true
    simp only [coks3, cloC, cok, zjd]
   ·refine ⟨⟨_, hg, ?_⟩, trivial⟩
    rw [hc]
    exact zqb _
   ·intro ρ W hH i hi
    rw [List.mem_singleton.1 hi]
    obtain ⟨b, o, _, h2⟩ := hH.rel 0 _ hg
    obtain ⟨c, h3⟩ := h2.at
    exact ⟨_, h3⟩
   ·rintro e cs' ⟨rfl, _, rfl⟩
    exact hk
   ·rintro e cs' ch ⟨_, h, _⟩; cases h
  ·exact h.elim
 ·exact h.elim
end
end Go.Proofs.YtekioipmhhcbhaaDoor
namespace Go.Proofs.YtekioipmhhcbhaaDoor
open Go Go.Z Go.Q Go.W6
open Go.Y hiding KE KK KR go Task go_sound
noncomputable section
variable [Ext]
def sQuoR (args : List V) (hp : Mem) (k : KE) : Prop := match args with
 | [v] => match strOf v with
  | some s => s.length <= 20000 /\ k (.ret (.tup [.sstr (quoteF s).1, .sint .i64 (quoteF s).2])) hp
  | none => False
 | _ => False
def sUnqR (args : List V) (hp : Mem) (k : KE) : Prop := match args with
 | [v] => match strOf v with
  | some s => s.length <= 20000 /\ k (.ret (.tup [.sstr (unqR s).1, .sint .i64 (unqR s).2])) hp
  | none => False
 | _ => False
end
end Go.Proofs.YtekioipmhhcbhaaDoor
namespace Go.Proofs.YtekioipmhhcbhaaDoor
open Go Go.Z Go.Q Go.W6
open Go.Y hiding KE KK KR go Task go_sound
noncomputable section
variable [Ext]
abbrev tsL : List Nat := [0, 2, 3, 6, 7]
def leV (s : List UInt8) (e i : Int) : List V := [.sstr s, .sstr [], .sint .i64 e, .sint .i64 (s.length : Nat), .sint .i64 i]
def lQuoL (n : Nat) (rids : List Nat) (fi : FI) (ds : List DV) (env : Tr V) (hp : Mem) (k : KK) : Prop := atV 28 n [] rids fi ds hp λ rc => match pk tsL env with
 | [some v0, some v2, some v3, some v6, some v7] => match strOf v0, strOf v2, int64 v3, int64 v6, int64 v7 with
  | some s, some [], some e, some m, some i => (e = 0 /\ i = 0 /\ m = (s.length : Int) /\ s.length <= 20000) /\
    (s.all quoB = true -> ∀ i : Int, k (.exit 0) [] (ofE (tsL.zip (leV s 0 i))) ⟨n, ofM ([].zip [] ++ rids.zip rc), hp.ro⟩) /\
    (s.all quoB = false -> ∀ i : Int, k .ret [] (ofE (tsL.zip (leV s 2 i))) ⟨n, ofM ([].zip [] ++ rids.zip rc), hp.ro⟩)
  | _, _, _, _, _ => False
 | _ => False
end
end Go.Proofs.YtekioipmhhcbhaaDoor
set_option maxRecDepth 20000
namespace Go.Proofs.YtekioipmhhcbhaaDoor
open Go Go.Z Go.Q Go.W6
open Go.Y hiding KE KK KR go Task go_sound
noncomputable section
variable [Ext]
theorem x_quoL (n : Nat) (s : List UInt8) (i : Int) (N : O -> List (Option V) -> Nat -> List (Option Chunk) -> Prop) : Go.Q.go Tryd.prog ⟨⟨.nil, [], []⟩, [], []⟩ 100 (.code ⟨28, none⟩ (lp Tryd.prog 20 0) [] (ofE (tsL.zip (leV s 0 i))) ⟨n, ofMo ([].zip []), []⟩ (cutM tsL [] N)) =
 (True /\ (decide (i < (s.length : Int)) = true -> (0 <= i /\ i < (s.length : Int)) /\ True /\ (decide ((↑(s.getD i.toNat 0).toNat : Int) < 32) = true -> N O.ret [some (.sstr s), some (.str []), some (.int .i64 2), some (.sint .i64 (s.length : Int)), some (.sint .i64 i)] n []) /\ (decide ((↑(s.getD i.toNat 0).toNat : Int) < 32) = false -> (0 <= i /\ i < (s.length : Int)) /\ True /\ (decide (126 < (↑(s.getD i.toNat 0).toNat : Int)) = true -> N O.ret [some (.sstr s), some (.str []), some (.int .i64 2), some (.sint .i64 (s.length : Int)), some (.sint .i64 i)] n []) /\ (decide (126 < (↑(s.getD i.toNat 0).toNat : Int)) = false -> (-9223372036854775808 <= i + 1 /\ i + 1 <= 9223372036854775807) /\ N O.normal [some (.sstr s), some (.sstr []), some (.sint .i64 0), some (.sint .i64 (s.length : Int)), some (.sint .i64 (i + 1))] n []))) /\ (decide (i < (s.length : Int)) = false -> N (O.exit 0) [some (.sstr s), some (.sstr []), some (.sint .i64 0), some (.sint .i64 (s.length : Int)), some (.sint .i64 i)] n [])) := by kernel_rfl
theorem take_snocQ {s : List UInt8} {i : Nat} (h : i < s.length) : s.take (i + 1) = s.take i ++ [s.getD i 0] := by
 rw [List.take_succ_eq_append_getElem h, List.getD_eq_getElem?_getD, List.getElem?_eq_getElem h]; rfl
theorem quoL_ok {gv gf gl} {n : Nat} {rids : List Nat} (hr1 : below n rids = true) (hr2 : okR [] n rids = true) : ∀ fi ds env hp k, lQuoL n rids fi ds env hp k -> TaskOk Tryd.prog ⟨gv, gf, gl⟩ (.code fi (.loop (lp Tryd.prog 20 0)) ds env hp k) := by
 intro fi ds env hp k h
 obtain ⟨rfl, rfl, hn, hlk, rc, hrc, h⟩ := atV_inv h
 split at h
 ·rename_i v0 v2 v3 v6 v7 hT
  split at h
  ·rename_i s e m i e0 e2 e3 e6 e7
   obtain ⟨⟨rfl, rfl, rfl, hs⟩, hk1, hk2⟩ := h
   obtain ⟨n', ht, hro⟩ := hp
   dsimp only at hn hlk hrc hk1 hk2
   subst hn
   refine loop_fv tsL [] [] rids rc n' (λ x : Nat => leV s 0 x) (λ _ => []) (λ x => x <= s.length /\ (s.take x).all quoB = true) (λ x => s.length - x) 0 ⟨Nat.zero_le _, rfl⟩ rfl rfl rfl (Nat.le_refl n') hlk hr1 hr2 (λ x => rfl) (λ x => rfl) ?_ trivial hrc ?_
   ·rw [hT]
    exact ⟨zqT e0, zqT e2, zqr e3, zqr e6, zqr e7, trivial⟩
   ·rintro x ⟨x1, x2⟩
    refine zkZ (gf' := []) (gl' := []) ?_
    refine go_sound (G := nilG) qmix qNG zqf (zxp rfl) (zqz rfl) 100 _ (Eq.mpr (x_quoL n' s x _) ?_)
    have hb := UInt8.toNat_lt (s.getD x 0)
    have bad : x < s.length -> (((s.getD x 0).toNat : Int) < 32 \/ (126 : Int) < (s.getD x 0).toNat) -> s.all quoB = false := by
     intro h1 h2
     cases ha : s.all quoB with
     | false => rfl
     | true =>
      rw [List.all_eq_true] at ha
      have := ha (s.getD x 0) (by rw [List.getD_eq_getElem?_getD, List.getElem?_eq_getElem h1]; exact List.getElem_mem _)
      unfold quoB at this
      simp only [Bool.and_eq_true, decide_eq_true_eq] at this
      omega
    simp only [decide_eq_true_eq, decide_eq_false_iff_not]
    simp only [Int.toNat_natCast]
    have ret : s.all quoB = false -> rMv hro tsL [] [] rids rc (λ x : Nat => leV s 0 x) (λ _ => []) n' n' (λ x => x <= s.length /\ (s.take x).all quoB = true) (λ x => s.length - x) k x .ret [some (.sstr s), some (.str []), some (.int .i64 2), some (.sint .i64 (s.length : Nat)), some (.sint .i64 x)] n' [] := λ h =>
     ⟨leV s 2 x, [], [], Nat.le_refl n', rfl, rfl, ⟨zqa _, rfl, ⟨rfl, rfl⟩, zqa _, zqa _, trivial⟩, trivial, hk2 h x⟩
    refine ⟨trivial, λ h1 => ⟨⟨by omega, by omega⟩, trivial, λ h2 => ret (bad (by omega) (.inl h2)), λ h2 => ⟨⟨by omega, by omega⟩, trivial, λ h3 => ret (bad (by omega) (.inr h3)), λ h3 => ⟨⟨by omega, by omega⟩, ?_⟩⟩⟩, λ h1 => ?_⟩
    ·refine ⟨x + 1, [], ⟨by omega, ?_⟩, by show s.length - (x + 1) < s.length - x; omega, Nat.le_refl n', rfl, ⟨zqa _, zqa _, zqa _, zqa _, ⟨rfl, by push_cast; rfl⟩, trivial⟩, trivial⟩
     rw [take_snocQ (by omega), List.all_append, x2, Bool.true_and, List.all_cons, List.all_nil, Bool.and_true]
     unfold quoB
     simp only [Bool.and_eq_true, decide_eq_true_eq]
     omega
    ·have hx : x = s.length := by omega
     have ha : s.all quoB = true := by rw [hx, List.take_length] at x2; exact x2
     exact ⟨leV s 0 x, [], [], Nat.le_refl n', rfl, rfl, ⟨zqa _, zqa _, zqa _, zqa _, zqa _, trivial⟩, trivial, hk1 ha x⟩
  ·exact h.elim
 ·exact h.elim
end
end Go.Proofs.YtekioipmhhcbhaaDoor
