/- The scanner: summaries of its smaller functions hold. -/
import Derived.Test.YtekioipmhhcbhaaDoorKb
import Derived.Test.YtekioipmhhcbhaaDoorV2
set_option linter.unusedVariables false
set_option linter.unusedSectionVars false
set_option linter.unusedSimpArgs false
namespace Go.Proofs.YtekioipmhhcbhaaDoor
open Go Go.Z Go.Q Go.W6
open Go.Y hiding KE KK KR go Task go_sound
noncomputable section
variable [Ext]
def clsN (n : Nat) : Int := if n = 32 \/ n = 10 then 1 else if letB (UInt8.ofNat n) then 2 else if digB (UInt8.ofNat n) then 3 else if n = 34 then 4 else if n = 36 then 5 else if signB (UInt8.ofNat n) then 6 else 0
theorem cls_all : ((List.range 256).all λ n => decide (clsT.getD n 0 = clsN n)) = true := by kernel_rfl
theorem cls_ok (b : UInt8) : clsT.getD b.toNat 0 = clsN b.toNat := by
 have := List.all_eq_true.1 cls_all b.toNat (List.mem_range.2 b.toNat_lt)
 simpa using this
theorem u8_of (b : UInt8) : UInt8.ofNat b.toNat = b := by simp
theorem cls_let (b : UInt8) : (clsT.getD b.toNat 0 = 2) = (letB b = true) := by
 rw [cls_ok]; unfold clsN; rw [u8_of]
 have h1 : letB b = true -> b.toNat ≠ 32 /\ b.toNat ≠ 10 := by unfold letB; intro h; simp at h; omega
 by_cases h : letB b = true
 ·have := h1 h; simp [h, this]
 ·simp only [h]; simp; split <;> (try split) <;> (try split) <;> (try split) <;> (try split) <;> simp
theorem cls_dig (b : UInt8) : (clsT.getD b.toNat 0 = 3) = (digB b = true) := by
 rw [cls_ok]; unfold clsN; rw [u8_of]
 have h1 : digB b = true -> b.toNat ≠ 32 /\ b.toNat ≠ 10 /\ letB b = false := by
  unfold digB letB; intro h; simp at h; refine ⟨by omega, by omega, ?_⟩; simp; omega
 by_cases h : digB b = true
 ·have := h1 h; simp [h, this]
 ·simp only [h]; simp; split <;> (try split) <;> (try split) <;> (try split) <;> (try split) <;> simp
theorem cls_quo (b : UInt8) : (clsT.getD b.toNat 0 = 4) = (b.toNat = 34) := by
 rw [cls_ok]; unfold clsN; rw [u8_of]
 by_cases h : b.toNat = 34
 ·have h2 : letB b = false := by unfold letB; simp; omega
  have h3 : digB b = false := by unfold digB; simp; omega
  simp [h, h2, h3]
 ·simp only [h]; simp; split <;> (try split) <;> (try split) <;> (try split) <;> (try split) <;> simp
theorem cls_com (b : UInt8) : (clsT.getD b.toNat 0 = 5) = (b.toNat = 36) := by
 rw [cls_ok]; unfold clsN; rw [u8_of]
 by_cases h : b.toNat = 36
 ·have h2 : letB b = false := by unfold letB; simp; omega
  have h3 : digB b = false := by unfold digB; simp; omega
  simp [h, h2, h3]
 ·simp only [h]; simp; split <;> (try split) <;> (try split) <;> (try split) <;> (try split) <;> simp
theorem cls_bla (b : UInt8) : (clsT.getD b.toNat 0 = 1) = (b.toNat = 32 \/ b.toNat = 10) := by
 rw [cls_ok]; unfold clsN
 by_cases h : b.toNat = 32 \/ b.toNat = 10
 ·simp [h]
 ·simp only [h]; simp; split <;> (try split) <;> (try split) <;> (try split) <;> (try split) <;> simp
theorem cls_sig (b : UInt8) : (clsT.getD b.toNat 0 = 6) = (signB b = true) := by
 rw [cls_ok]; unfold clsN; rw [u8_of]
 by_cases h : signB b = true
 ·have h1 : b.toNat ≠ 32 /\ b.toNat ≠ 10 /\ letB b = false /\ digB b = false /\ b.toNat ≠ 34 /\ b.toNat ≠ 36 := by
   unfold signB at h; simp at h
   refine ⟨by omega, by omega, ?_, ?_, by omega, by omega⟩
   ·unfold letB; simp; omega
   ·unfold digB; simp; omega
  simp [h, h1]
 ·simp only [h]; simp; split <;> (try split) <;> (try split) <;> (try split) <;> (try split) <;> simp
theorem tailOk_ok : ∀ {l : List Nat} {r : List V} {a b : Nat}, tailOk l r = some (a, b) -> vles r (ints l ++ [.map a, .map b])
 | [], r, a, b, h => by
  unfold tailOk at h
  split at h
  ·cases h; exact zqo _
  ·rename_i heq; cases heq
  ·cases h
 | n :: l, r, a, b, h => by
  unfold tailOk at h
  split at h
  ·rename_i heq; cases heq
  ·rename_i heq
   cases heq
   split at h
   ·rename_i hn hk
    cases beq_tt hn
    cases zxg hk
    exact ⟨zqa _, tailOk_ok h⟩
   ·cases h
  ·cases h
theorem zqr {v : V} {n : Int} (h : int64 v = some n) : vle v (.sint .i64 n) := by
 unfold int64 at h
 split at h
 ·cases h; exact ⟨rfl, rfl⟩
 ·cases h; exact ⟨rfl, rfl⟩
 ·cases h
theorem zqT {v : V} {l : List UInt8} (h : strOf v = some l) : vle v (.sstr l) := by
 unfold strOf at h
 split at h
 ·cases h; exact rfl
 ·cases h; exact zqa _
 ·cases h
theorem zxc {hp : Mem} {id : Nat} {f : Int -> List UInt8 -> Nat -> Nat -> Prop} (h : scnAt hp id f) : ∃ (c1 : Chunk) (i : Nat) (s : List UInt8) (p q : Nat), hp.t.get id = some c1 /\ chle c1 (.cells (scnL i s p q) 54 262) /\ nodupB [id, p, q] = true /\ below hp.n [id, p, q] = true /\ noLk [id, p, q] hp.ro = true /\ i <= s.length /\ s.length <= 20000 /\ f i s p q := by
 unfold scnAt at h
 split at h
 ·rename_i a l c s r ty sz hg
  split at h
  ·rename_i a' l' c' s' p q ha hl hc hs ht
   split at h
   ·rename_i h1 h2 h3 h4 h5
    obtain ⟨⟨g1, g2, g3, g4, g5⟩, hf⟩ := h
    cases beq_tt h1; cases beq_tt h2
    have ea : ((a'.toNat : Nat) : Int) = a' := by omega
    refine ⟨_, a'.toNat, s', p, q, hg, ⟨rfl, rfl, ?_⟩, h3, h4, h5, by omega, by omega, by rw [ea]; exact hf⟩
    refine ⟨?_, ?_, ?_, zqT hs, tailOk_ok ht⟩
    ·rw [ea]; exact zqr ha
    ·rw [<- g4]; exact zqr hl
    ·rw [<- g5]; exact zqr hc
   ·exact h.elim
  ·exact h.elim
 ·exact h.elim
theorem RL_mem {ρ : Rho} {v : V} : ∀ {vs : List V} {us : List Value}, RL ρ vs us -> v ∈ vs -> ∃ u, Go.Y.R ρ v u
 | [], _, _, h => by cases h
 | w :: vs, us, hr, h => by
  obtain ⟨u, us', h1, h2, rfl⟩ := hr
  cases h with
  | head => exact ⟨u, h1⟩
  | tail _ h => exact RL_mem h2 h
theorem mem_tl {p q : Nat} {a l c : V} {s : V} : V.map p ∈ (a :: l :: c :: s :: tl p q) /\ V.map q ∈ (a :: l :: c :: s :: tl p q) := by
 have : V.map p ∈ tl p q /\ V.map q ∈ tl p q := by unfold tl; constructor <;> exact List.mem_append_right _ (by simp)
 exact ⟨by simp [this.1], by simp [this.2]⟩
theorem scn_men {hp : Mem} {id : Nat} {c1 : Chunk} {i : Nat} {s : List UInt8} {p q : Nat} (hg : hp.t.get id = some c1) (hle : chle c1 (.cells (scnL i s p q) 54 262)) : ∀ (ρ : Rho) W, HR ρ hp W -> ∀ x ∈ [id, p, q], ∃ y, ρ x = some y := by
 intro ρ W hH x hx
 obtain ⟨b, o, h1, h2⟩ := hH.rel id c1 hg
 obtain ⟨c, rl, junk, fr, h3, h4, _⟩ := zxU hle h2
 simp only [List.mem_cons, List.not_mem_nil, or_false] at hx
 rcases hx with rfl | rfl | rfl
 ·exact ⟨_, h3⟩
 ·obtain ⟨u, b, c, h5, _⟩ := RL_mem h4 mem_tl.1; exact ⟨_, h5⟩
 ·obtain ⟨u, b, c, h5, _⟩ := RL_mem h4 mem_tl.2; exact ⟨_, h5⟩
theorem ren_ints {f : Nat -> Nat} : ∀ {l : List Nat} {r : List V}, renVs f (ints l ++ r) = ints l ++ renVs f r
 | [], r => rfl
 | n :: l, r => by show renV f _ :: renVs f (ints l ++ r) = _; rw [ren_ints]; rfl
theorem ren_scn {f : Nat -> Nat} {i : Nat} {s : List UInt8} {p q : Nat} : renVs f (scnL i s p q) = scnL i s (f p) (f q) := by
 show _ :: _ :: _ :: _ :: renVs f (tl p q) = _
 unfold tl
 rw [ren_ints]
 rfl
theorem zvP {i : Nat} {s : List UInt8} {id p q : Nat} (hd : nodupB [id, p, q] = true) : renC (renF [0, 1, 2] [id, p, q]) (scnI i s) = .cells (scnL i s p q) 54 262 := by
 show Chunk.cells (renVs _ _) _ _ = _
 rw [ren_scn]; rfl
theorem zju {G0 G : GQ} {f : Nat} {args : List V} {hp : Mem} {k : KE} {id i : Nat} {s : List UInt8} {p q : Nat} {c1 : Chunk} (ex : List V) (K0 : E -> Nat -> Prop)
  (h : TaskOk Tryd.prog G0 (.call f (.ptr 0 0 :: ex) ⟨3, ofMo ([0, 1, 2].zip [some (scnI i s), none, none]), []⟩ (cutE [0, 1, 2] (cN [0, 1, 2] [true, false, false] (λ e cs => ∃ j, cs = [some (scnI j s), none, none] /\ K0 e j))))) (hg : G0.g.t = .nil)
  (hc : hp.t.get id = some c1) (hle : chle c1 (.cells (scnL i s p q) 54 262)) (hd : nodupB [id, p, q] = true) (hb : below hp.n [id, p, q] = true) (hlk : noLk [id, p, q] hp.ro = true)
  (ha : vles args (.ptr id 0 :: renVs (renF [0, 1, 2] [id, p, q]) ex)) (hex : voks (inI [0, 1, 2]) ex = true)
  (hk : ∀ e j, K0 e j -> k (renE (renF [0, 1, 2] [id, p, q]) e) (putS hp id j s p q)) : TaskOk Tryd.prog G (.call f args hp k) := by
 refine call_fr 3 [0, 1, 2] [id, p, q] [some (scnI i s), none, none] _ h hg (args0 := .ptr 0 0 :: ex) ha ?_ rfl rfl hb rfl hd rfl ?_ hlk (scn_men hc hle) ?_
 ·show voks (inI [0, 1, 2]) (.ptr 0 0 :: ex) = true
  simp only [voks, vok, show inI [0, 1, 2] 0 = true from rfl, hex]
 ·exact ⟨⟨c1, hc, by rw [zvP hd]; exact hle⟩, trivial⟩
 ·rintro e cs' ⟨j, rfl, hK⟩
  have := hk e j hK
  show k _ ⟨hp.n, Tr.set 20 hp.t id (some (renC _ (scnI j s))), hp.ro⟩
  rw [zvP hd]
  exact this
theorem scn_fit {a l c : Int} {s : List UInt8} {i : Nat} (h1 : a = i) (h2 : l = (lc s i).1) (h3 : c = (lc s i).2) : chle (.cells (.sint .i64 a :: .sint .i64 l :: .sint .i64 c :: .sstr s :: tl 1 2) 54 262) (scnI i s) := by
 subst h1 h2 h3
 exact ⟨rfl, rfl, zqo _⟩
theorem scn_coks {j : Nat} {s : List UInt8} : coks3 (inI [0, 1, 2]) [some (scnI j s), none, none] = true := rfl
theorem cN_scn {e e' : E} {i n : Nat} {s : List UInt8} {a l c : Int} {K0 : E -> Nat -> Prop} (h1 : a = i) (h2 : l = (lc s i).1) (h3 : c = (lc s i).2) (he : ele e e') (ho : eok (inI [0, 1, 2]) e' = true) (hK : K0 e' i) :
  cN [0, 1, 2] [true, false, false] (λ e cs => ∃ j, cs = [some (scnI j s), none, none] /\ K0 e j) e n [some (Chunk.cells (.sint .i64 a :: .sint .i64 l :: .sint .i64 c :: .sstr s :: tl 1 2) 54 262), none, none] :=
 ⟨e', [some (scnI i s), none, none], he, ho, ⟨scn_fit h1 h2 h3, trivial⟩, rfl, scn_coks, i, rfl, hK⟩
end
end Go.Proofs.YtekioipmhhcbhaaDoor
set_option maxRecDepth 20000
namespace Go.Proofs.YtekioipmhhcbhaaDoor
open Go Go.Z Go.Q Go.W6
open Go.Y hiding KE KK KR go Task go_sound
noncomputable section
variable [Ext]
abbrev nilG : GQ := ⟨⟨.nil, [], []⟩, [], []⟩
abbrev hpS (i : Nat) (s : List UInt8) : Mem := ⟨3, ofMo ([0, 1, 2].zip [some (scnI i s), none, none]), []⟩
theorem zxf {p : UInt8 -> Bool} {s : List UInt8} {i : Nat} (h : i < s.length) : isAt p s i = p (s.getD i 0) := by
 unfold isAt
 rw [List.getElem?_eq_getElem h, List.getD_eq_getElem?_getD, List.getElem?_eq_getElem h]; rfl
theorem zxQ {p : UInt8 -> Bool} {s : List UInt8} {i : Nat} (h : s.length <= i) : isAt p s i = false := by
 unfold isAt
 rw [List.getElem?_eq_none h]
theorem clsB_ok {c : Nat} (hc : clsOk c = true) (b : UInt8) : (clsT.getD b.toNat 0 = Int.ofNat c) = (clsB c b = true) := by
 unfold clsOk at hc
 split at hc
 ·rw [show (Int.ofNat 2) = (2 : Int) from rfl, cls_let]; rfl
 ·rw [show (Int.ofNat 3) = (3 : Int) from rfl, cls_dig]; rfl
 ·rw [show (Int.ofNat 4) = (4 : Int) from rfl, cls_quo]; simp [clsB]
 ·cases hc
theorem is_run (s : List UInt8) (i : Nat) (n : Int) (c : Nat) (hi : i <= s.length) (hs : s.length <= 20000) (h0 : 0 <= n) (h1 : n <= 20001) (hc : clsOk c = true) : TaskOk Tryd.prog nilG (.call 67 [.ptr 0 0, .sint .i64 n, .int .u8 (.ofNat c)] (hpS i s) (cutE [0, 1, 2] (cN [0, 1, 2] [true, false, false] (λ e cs => ∃ j, cs = [some (scnI j s), none, none] /\ (j = i /\ e = .ret (.sbool (isAt (clsB c) s n.toNat))))))) := by
 refine go_sound qmix qNG zqf (zxp rfl) (zqz rfl) 100 _ ?_
 refine Eq.mpr (f67_eq s n i (lc s i).1 (lc s i).2 c _) ?_
 have hb := UInt8.toNat_lt (s.getD n.toNat 0)
 simp only [decide_eq_true_eq, decide_eq_false_iff_not, Int.toNat_natCast, clsB_ok hc]
 refine ⟨trivial, trivial, λ hlt => ⟨⟨h0, hlt⟩, ⟨by omega, by omega⟩, by omega, trivial, λ hcc => ?_, λ hcc => ?_⟩, λ hge => ?_⟩
 ·refine cN_scn (s := s) rfl rfl rfl (e' := .ret (.sbool true)) rfl rfl ⟨rfl, ?_⟩
  rw [zxf (by omega), hcc]
 ·refine cN_scn (s := s) rfl rfl rfl (e' := .ret (.sbool false)) rfl rfl ⟨rfl, ?_⟩
  rw [zxf (by omega)]; simp only [Bool.not_eq_true] at hcc; rw [hcc]
 ·refine cN_scn (s := s) rfl rfl rfl (e' := .ret (.sbool false)) rfl rfl ⟨rfl, ?_⟩
  rw [zxQ (by omega)]
theorem is_ok {G : GQ} : ∀ args hp k, sIs args hp k -> TaskOk Tryd.prog G (.call 67 args hp k) := by
 intro args hp k h
 unfold sIs at h
 split at h
 ·rename_i id n c
  split at h
  ·rename_i n' hn hc
   obtain ⟨c1, i, s, p, q, hg, hle, hd, hb, hlk, hi, hs, ⟨h0, h1⟩, hk⟩ := zxc h
   refine zju [.sint .i64 n', .int .u8 (.ofNat c)] _ (is_run s i n' c hi hs h0 h1 hc) rfl hg hle hd hb hlk ⟨rfl, zqr hn, zqa _, trivial⟩ rfl ?_
   rintro e j ⟨rfl, rfl⟩
   exact hk
  ·exact h.elim
 ·exact h.elim
theorem zqQ {p : UInt8 -> Bool} {s : List UInt8} {i : Nat} (h : isAt p s i = true) : i < s.length /\ endF p s i = endF p s (i + 1) := by
 have hlt : i < s.length := by
  rcases Nat.lt_or_ge i s.length with h1 | h1
  ·exact h1
  ·rw [zxQ h1] at h; cases h
 rw [zxf hlt] at h
 refine ⟨hlt, ?_⟩
 unfold endF
 rw [List.drop_eq_getElem_cons hlt]
 have : s.getD i 0 = s[i] := by rw [List.getD_eq_getElem?_getD, List.getElem?_eq_getElem hlt]; rfl
 rw [this] at h
 rw [List.takeWhile_cons, if_pos h]
 simp; omega
theorem endF_stop {p : UInt8 -> Bool} {s : List UInt8} {i : Nat} (h : isAt p s i = false) : endF p s i = i := by
 unfold endF
 rcases Nat.lt_or_ge i s.length with hlt | hge
 ·rw [zxf hlt] at h
  rw [List.drop_eq_getElem_cons hlt]
  have : s.getD i 0 = s[i] := by rw [List.getD_eq_getElem?_getD, List.getElem?_eq_getElem hlt]; rfl
  rw [this] at h
  rw [List.takeWhile_cons, if_neg (by simp [h])]
  simp
 ·rw [List.drop_eq_nil_of_le hge]; rfl
theorem zxH {p : UInt8 -> Bool} {s : List UInt8} {i : Nat} (hi : i <= s.length) : i <= endF p s i /\ endF p s i <= s.length := by
 unfold endF
 have : ((s.drop i).takeWhile p).length <= (s.drop i).length := (List.takeWhile_sublist p).length_le
 rw [List.length_drop] at this
 omega
theorem clsB3 : clsB 3 = digB := rfl
theorem clsB2 : clsB 2 = letB := rfl
theorem fs_is {G : GQ} (hl : G.fs = [(67, sIs)]) : FsOk Tryd.prog G := by
 intro f s hf args hp k h
 rw [hl] at hf
 simp only [lookF] at hf
 split at hf
 ·rename_i hb
  cases hf
  rw [<- beq_tt hb]
  exact is_ok args hp k h
 ·cases hf
theorem zjf {hp : Mem} {f : Int -> List UInt8 -> Prop} (h : scn12 hp f) : ∃ (c1 : Chunk) (i : Nat) (s : List UInt8), hp.t.get 0 = some c1 /\ chle c1 (scnI i s) /\ i <= s.length /\ s.length <= 20000 /\ f i s := by
 obtain ⟨c1, i, s, p, q, h1, h2, h3, h4, h5, h6, h7, h8⟩ := zxc h
 split at h8
 ·rename_i hp hq
  cases beq_tt hp; cases beq_tt hq
  exact ⟨c1, i, s, h1, h2, h6, h7, h8⟩
 ·exact h8.elim
theorem zvC {nt n : Nat} {fi : FI} {ds : List DV} {hp : Mem} {p : Prop} (h : atL nt n fi ds hp p) : fi = ⟨nt, none⟩ /\ ds = [] /\ hp.ro = [] /\ hp.n = n /\ p := by
 obtain ⟨a, b⟩ := fi
 unfold atL at h
 split at h
 ·rename_i h2 h3 h4 h5
  dsimp only at h2 h3
  exact ⟨by rw [beq_tt h2, h3], rfl, h4, beq_tt h5, h⟩
 ·exact h.elim
theorem zxO {env : Tr V} {t : Nat} {f : Int -> Prop} (h : numAt env t f) : ∃ v n, env.get t = some v /\ vle v (.sint .i64 n) /\ f n := by
 unfold numAt at h
 split at h
 ·rename_i v hv
  split at h
  ·rename_i n hn; exact ⟨v, n, hv, zqr hn, h⟩
  ·exact h.elim
 ·exact h.elim
theorem zjh {env : Tr V} {t : Nat} {p : Prop} (h : ptrAt env t p) : env.get t = some (.ptr 0 0) /\ p := by
 unfold ptrAt at h
 split at h
 ·rename_i hv; exact ⟨hv, h⟩
 ·exact h.elim
theorem nilAt_inv {env : Tr V} {t : Nat} {p : Prop} (h : nilAt env t p) : env.get t = some .nils /\ p := by
 unfold nilAt at h
 split at h
 ·rename_i hv; exact ⟨hv, h⟩
 ·exact h.elim
theorem fit1 {t : Tr Chunk} {c1 c : Chunk} (h : t.get 0 = some c1) (hle : chle c1 c) : fitE t [0] [some c] := ⟨⟨c1, h, hle⟩, trivial⟩
theorem l70_ok {gf gl} : ∀ fi ds env hp k, l70 fi ds env hp k -> TaskOk Tryd.prog ⟨⟨.nil, [], []⟩, gf, gl⟩ (.code fi (.loop (lp Tryd.prog 70 0)) ds env hp k) := by
 intro fi ds env hp k h
 obtain ⟨rfl, rfl, h3, h4, h⟩ := zvC h
 obtain ⟨e0, h⟩ := zjh h
 obtain ⟨v, n, e1, hv, h⟩ := zxO h
 obtain ⟨c1, i, s, hg, hle, hi, hs, ⟨h0, h1⟩, hk⟩ := zjf h
 obtain ⟨hn, ht, hro⟩ := hp
 dsimp only at h3 h4 hg
 subst h3 h4
 refine zvs [0, 1] [0] [0] [] [] 3 (λ x : Nat => le70 x) (λ _ => [some (scnI i s)]) (λ x => n.toNat <= x /\ x <= s.length /\ digF s x = digF s n.toNat) (λ x => s.length - x) n.toNat ⟨Nat.le_refl _, by omega, rfl⟩ rfl rfl rfl (Nat.le_refl 3) rfl rfl rfl (λ x => rfl) (λ x => rfl) ?_ (fit1 hg hle) rfl ?_
 ·simp only [pk, e0, e1]
  refine ⟨zqa _, ?_, trivial⟩
  rw [show ((n.toNat : Nat) : Int) = n by omega]; exact hv
 ·rintro x ⟨x0, x1, x2⟩
  refine go_sound (G := ⟨⟨.nil, [], []⟩, [(67, sIs)], []⟩) qmix qNG zqf (fs_is rfl) (zqz rfl) 100 _ (Eq.mpr (f70_loop s x i (lc s i).1 (lc s i).2 _) ?_)
  simp only [Int.toNat_natCast, clsB3]
  refine ⟨⟨by omega, by omega, by omega, trivial, trivial⟩, ⟨by omega, by omega⟩, λ hb => ⟨⟨by omega, by omega⟩, ?_⟩, λ hb => ?_⟩
  ·obtain ⟨g1, g2⟩ := zqQ hb
   refine ⟨x + 1, [0], ⟨by omega, by omega, by rw [<- x2]; exact g2.symm⟩, by show s.length - (x + 1) < s.length - x; omega, Nat.le_refl 3, rfl, ⟨zqa _, ⟨rfl, by push_cast; rfl⟩, trivial⟩, ⟨_, rfl, ⟨rfl, rfl, zqo _⟩⟩, trivial⟩
  ·have hx : digF s x = x := endF_stop hb
   refine ⟨le70 x, [0], [scnI i s], Nat.le_refl 3, rfl, rfl, ⟨zqa _, zqa _, trivial⟩, ⟨⟨_, rfl, ⟨rfl, rfl, zqo _⟩⟩, trivial⟩, ?_⟩
   rw [<- x2, hx] at hk
   exact hk
theorem l56_ok {gf gl} : ∀ fi ds env hp k, l56 fi ds env hp k -> TaskOk Tryd.prog ⟨⟨.nil, [], []⟩, gf, gl⟩ (.code fi (.loop (lp Tryd.prog 56 0)) ds env hp k) := by
 intro fi ds env hp k h
 obtain ⟨rfl, rfl, h3, h4, h⟩ := zvC h
 obtain ⟨e0, h⟩ := zjh h
 obtain ⟨v, n, e1, hv, h⟩ := zxO h
 obtain ⟨c1, i, s, hg, hle, hi, hs, ⟨h0, h1⟩, hk⟩ := zjf h
 obtain ⟨hn, ht, hro⟩ := hp
 dsimp only at h3 h4 hg
 subst h3 h4
 refine zvs [0, 3] [0] [0] [] [] 3 (λ x : Nat => le70 x) (λ _ => [some (scnI i s)]) (λ x => n.toNat <= x /\ x <= s.length /\ nameF s x = nameF s n.toNat) (λ x => s.length - x) n.toNat ⟨Nat.le_refl _, by omega, rfl⟩ rfl rfl rfl (Nat.le_refl 3) rfl rfl rfl (λ x => rfl) (λ x => rfl) ?_ (fit1 hg hle) rfl ?_
 ·simp only [pk, e0, e1]
  refine ⟨zqa _, ?_, trivial⟩
  rw [show ((n.toNat : Nat) : Int) = n by omega]; exact hv
 ·rintro x ⟨x0, x1, x2⟩
  refine go_sound (G := ⟨⟨.nil, [], []⟩, [(67, sIs)], []⟩) qmix qNG zqf (fs_is rfl) (zqz rfl) 100 _ (Eq.mpr (f56_loop s x i (lc s i).1 (lc s i).2 _) ?_)
  simp only [Int.toNat_natCast, clsB3, clsB2, decide_eq_true_eq, decide_eq_false_iff_not]
  have on : isAt restB s x = true -> rM [0, 3] [0] [0] [] [] (λ x : Nat => le70 x) (λ _ => [some (scnI i s)]) 3 3 (λ x => n.toNat <= x /\ x <= s.length /\ nameF s x = nameF s n.toNat) (λ x => s.length - x) k x .normal [some (V.ptr 0 0), some (V.sint .i64 ((x : Int) + 1))] 3 [some (Chunk.cells (V.sint .i64 i :: V.sint .i64 (lc s i).1 :: V.sint .i64 (lc s i).2 :: V.sstr s :: tl 1 2) 54 262)] := by
   intro hb
   obtain ⟨g1, g2⟩ := zqQ hb
   exact ⟨x + 1, [0], ⟨by omega, by omega, by rw [<- x2]; exact g2.symm⟩, by show s.length - (x + 1) < s.length - x; omega, Nat.le_refl 3, rfl, ⟨zqa _, ⟨rfl, by push_cast; rfl⟩, trivial⟩, ⟨_, rfl, ⟨rfl, rfl, zqo _⟩⟩, trivial⟩
  have off : isAt restB s x = false -> rM [0, 3] [0] [0] [] [] (λ x : Nat => le70 x) (λ _ => [some (scnI i s)]) 3 3 (λ x => n.toNat <= x /\ x <= s.length /\ nameF s x = nameF s n.toNat) (λ x => s.length - x) k x (.exit 0) [some (V.ptr 0 0), some (V.sint .i64 x)] 3 [some (Chunk.cells (V.sint .i64 i :: V.sint .i64 (lc s i).1 :: V.sint .i64 (lc s i).2 :: V.sstr s :: tl 1 2) 54 262)] := by
   intro hb
   have hx : nameF s x = x := endF_stop hb
   refine ⟨le70 x, [0], [scnI i s], Nat.le_refl 3, rfl, rfl, ⟨zqa _, zqa _, trivial⟩, ⟨⟨_, rfl, ⟨rfl, rfl, zqo _⟩⟩, trivial⟩, ?_⟩
   rw [<- x2, hx] at hk
   exact hk
  have is2 : isAt letB s x = true -> isAt restB s x = true := by
   intro hb
   have hlt := (zqQ hb).1
   rw [zxf hlt] at hb ⊢
   simp only [restB, hb, Bool.true_or, Bool.or_true]
  have is3 : isAt digB s x = true -> isAt restB s x = true := by
   intro hb
   have hlt := (zqQ hb).1
   rw [zxf hlt] at hb ⊢
   simp only [restB, hb, Bool.true_or, Bool.or_true]
  refine ⟨⟨by omega, by omega, by omega, trivial, trivial⟩, ⟨by omega, by omega⟩, λ hb => ⟨⟨by omega, by omega⟩, on (is2 hb)⟩, λ hb => ⟨⟨by omega, by omega, by omega, trivial, trivial⟩, ⟨by omega, by omega⟩, λ hb2 => ⟨⟨by omega, by omega⟩, on (is3 hb2)⟩, λ hb2 => ⟨trivial, trivial, λ hlt => ⟨⟨by omega, hlt⟩, trivial, λ h95 => ⟨⟨by omega, by omega⟩, on ?_⟩, λ h95 => off ?_⟩, λ hge => off (zxQ (by omega))⟩⟩⟩
  ·rw [zxf (by omega)]
   have : (s.getD x 0).toNat = 95 := by exact_mod_cast h95
   simp only [restB, this, beq_self_eq_true, Bool.or_true]
  ·rw [zxf (by omega)] at hb hb2 ⊢
   have : ¬ (s.getD x 0).toNat = 95 := by exact_mod_cast h95
   simp only [restB, hb, hb2]; simpa using this
theorem zjO (s : List UInt8) (x : Nat) : lc s (x + 1) = if (s.getD x 0).toNat = 10 then ((lc s x).1 + 1, 1) else ((lc s x).1, (lc s x).2 + 1) := rfl
theorem l28_ok {gf gl} : ∀ fi ds env hp k, l28 fi ds env hp k -> TaskOk Tryd.prog ⟨⟨.nil, [], []⟩, gf, gl⟩ (.code fi (.loop (lp Tryd.prog 28 0)) ds env hp k) := by
 intro fi ds env hp k h
 obtain ⟨rfl, rfl, h3, h4, h⟩ := zvC h
 obtain ⟨e0, h⟩ := zjh h
 obtain ⟨v, n, e1, hv, h⟩ := zxO h
 obtain ⟨v2, z, e2, hv2, h⟩ := zxO h
 obtain ⟨c1, i, s, hg, hle, hi, hs, ⟨h0, h1, h2⟩, hk⟩ := zjf h
 obtain ⟨hn, ht, hro⟩ := hp
 dsimp only at h3 h4 hg
 subst h3 h4 h0
 refine zvs [0, 4, 5] [0] [0] [] [] 3 (λ x : Nat => le28 n x) (λ x => [some (scnI (i + x) s)]) (λ x => x <= n.toNat) (λ x => n.toNat - x) 0 (Nat.zero_le _) rfl rfl rfl (Nat.le_refl 3) rfl rfl rfl (λ x => rfl) (λ x => rfl) ?_ (fit1 hg hle) rfl ?_
 ·simp only [pk, e0, e1, e2]
  exact ⟨zqa _, hv, hv2, trivial⟩
 ·intro x hx
  have hx : x <= n.toNat := hx
  refine go_sound (G := ⟨⟨.nil, [], []⟩, [], []⟩) qmix qNG zqf (zxp rfl) (zqz rfl) 100 _ (Eq.mpr (f28_loop s n x (i + x : Nat) (lc s (i + x)).1 (lc s (i + x)).2 _) ?_)
  have b := lc_le s (i + x)
  have step := zjO s (i + x)
  simp only [decide_eq_true_eq, decide_eq_false_iff_not, Int.toNat_natCast]
  refine ⟨trivial, λ hlt => ⟨⟨by omega, by omega⟩, ⟨by omega, by omega⟩, trivial, λ h10 => ⟨⟨by omega, by omega⟩, ⟨by omega, by omega⟩, ⟨by omega, by omega⟩, ?_⟩, λ h10 => ⟨⟨by omega, by omega⟩, ⟨by omega, by omega⟩, ?_⟩⟩, λ hge => ?_⟩
  ·have h10 : (s.getD (i + x) 0).toNat = 10 := by exact_mod_cast h10
   rw [if_pos h10] at step
   refine ⟨x + 1, [0], by show x + 1 <= n.toNat; omega, by show n.toNat - (x + 1) < n.toNat - x; omega, Nat.le_refl 3, rfl, ⟨zqa _, zqa _, ⟨rfl, by push_cast; rfl⟩, trivial⟩, ⟨_, rfl, ?_⟩, trivial⟩
   have e : i + (x + 1) = i + x + 1 := by omega
   show chle _ (.cells (renVs _ (scnL (i + (x + 1)) s 1 2)) 54 262)
   rw [ren_scn, e]
   refine ⟨rfl, rfl, ⟨rfl, by push_cast; rfl⟩, ⟨rfl, by rw [step]; push_cast; rfl⟩, ⟨rfl, by rw [step]; rfl⟩, zqa _, zqo _⟩
  ·have h10 : ¬ (s.getD (i + x) 0).toNat = 10 := by exact_mod_cast h10
   rw [if_neg h10] at step
   refine ⟨x + 1, [0], by show x + 1 <= n.toNat; omega, by show n.toNat - (x + 1) < n.toNat - x; omega, Nat.le_refl 3, rfl, ⟨zqa _, zqa _, ⟨rfl, by push_cast; rfl⟩, trivial⟩, ⟨_, rfl, ?_⟩, trivial⟩
   have e : i + (x + 1) = i + x + 1 := by omega
   show chle _ (.cells (renVs _ (scnL (i + (x + 1)) s 1 2)) 54 262)
   rw [ren_scn, e]
   refine ⟨rfl, rfl, ⟨rfl, by push_cast; rfl⟩, ⟨rfl, by rw [step]⟩, ⟨rfl, by rw [step]; push_cast; rfl⟩, zqa _, zqo _⟩
  ·have e : (x : Int) = n := by omega
   refine ⟨le28 n n, [0], [scnI (i + x) s], Nat.le_refl 3, rfl, rfl, ⟨zqa _, zqa _, ⟨rfl, e⟩, trivial⟩, ⟨⟨_, rfl, ⟨rfl, rfl, zqo _⟩⟩, trivial⟩, ?_⟩
   have e2 : ((i : Int) + n).toNat = i + x := by omega
   rw [e2] at hk
   exact hk
end
end Go.Proofs.YtekioipmhhcbhaaDoor
set_option maxRecDepth 20000
namespace Go.Proofs.YtekioipmhhcbhaaDoor
open Go Go.Z Go.Q Go.W6
open Go.Y hiding KE KK KR go Task go_sound
noncomputable section
variable [Ext]
abbrev kN (K0 : E -> Nat -> Prop) (s : List UInt8) : KE := cutE [0, 1, 2] (cN [0, 1, 2] [true, false, false] (λ e cs => ∃ j, cs = [some (scnI j s), none, none] /\ K0 e j))
theorem dig_run (s : List UInt8) (i : Nat) (n : Int) (hi : i <= s.length) (hs : s.length <= 20000) (h0 : 0 <= n) (h1 : n <= s.length) : TaskOk Tryd.prog ⟨⟨.nil, [], []⟩, [], [(11001, lp Tryd.prog 70 0, l70)]⟩ (.call 70 [.ptr 0 0, .sint .i64 n] (hpS i s) (kN (λ e j => j = i /\ e = .ret (.sint .i64 (digF s n.toNat))) s)) := by
 refine go_sound qmix qNG zqf (zxp rfl) (ls_one rfl l70_ok) 100 _ (Eq.mpr (f70_eq s n i (lc s i).1 (lc s i).2 _) ?_)
 simp only [Int.toNat_natCast]
 exact ⟨trivial, ⟨by omega, by omega, by omega, trivial, trivial⟩, ⟨h0, h1⟩, cN_scn (s := s) rfl rfl rfl (e' := .ret (.sint .i64 (digF s n.toNat))) ⟨rfl, rfl⟩ rfl ⟨rfl, rfl⟩⟩
theorem dig_ok {G : GQ} : ∀ args hp k, sDig args hp k -> TaskOk Tryd.prog G (.call 70 args hp k) := by
 intro args hp k h
 unfold sDig at h
 split at h
 ·rename_i id n
  split at h
  ·rename_i n' hn
   obtain ⟨c1, i, s, p, q, hg, hle, hd, hb, hlk, hi, hs, ⟨h0, h1⟩, hk⟩ := zxc h
   refine zju [.sint .i64 n'] _ (dig_run s i n' hi hs h0 h1) rfl hg hle hd hb hlk ⟨rfl, zqr hn, trivial⟩ rfl ?_
   rintro e j ⟨rfl, rfl⟩
   exact hk
  ·exact h.elim
 ·exact h.elim
theorem name_run (s : List UInt8) (i : Nat) (hi : i <= s.length) (hs : s.length <= 20000) : TaskOk Tryd.prog ⟨⟨.nil, [], []⟩, [], [(38002, lp Tryd.prog 56 0, l56)]⟩ (.call 56 [.ptr 0 0] (hpS i s) (kN (λ e j => j = i /\ e = .ret (.sint .i64 (nameF s i))) s)) := by
 refine go_sound qmix qNG zqf (zxp rfl) (ls_one rfl l56_ok) 100 _ (Eq.mpr (f56_eq s 0 i (lc s i).1 (lc s i).2 _) ?_)
 simp only [Int.toNat_natCast]
 exact ⟨trivial, ⟨by omega, by omega, by omega, trivial, trivial⟩, ⟨by omega, by omega⟩, cN_scn (s := s) rfl rfl rfl (e' := .ret (.sint .i64 (nameF s i))) ⟨rfl, rfl⟩ rfl ⟨rfl, rfl⟩⟩
theorem name_ok {G : GQ} : ∀ args hp k, sName args hp k -> TaskOk Tryd.prog G (.call 56 args hp k) := by
 intro args hp k h
 unfold sName at h
 split at h
 ·rename_i id
  obtain ⟨c1, i, s, p, q, hg, hle, hd, hb, hlk, hi, hs, hk⟩ := zxc h
  refine zju [] _ (name_run s i hi hs) rfl hg hle hd hb hlk ⟨rfl, trivial⟩ rfl ?_
  rintro e j ⟨rfl, rfl⟩
  exact hk
 ·exact h.elim
theorem over_run (s : List UInt8) (i : Nat) (n : Int) (hi : i <= s.length) (hs : s.length <= 20000) (h0 : 0 <= n) (h1 : i + n <= s.length) : TaskOk Tryd.prog ⟨⟨.nil, [], []⟩, [], [(51001, lp Tryd.prog 28 0, l28)]⟩ (.call 28 [.ptr 0 0, .sint .i64 n] (hpS i s) (kN (λ e j => j = ((i : Int) + n).toNat /\ e = .ret (.tup [])) s)) := by
 refine go_sound qmix qNG zqf (zxp rfl) (ls_one rfl l28_ok) 100 _ (Eq.mpr (f28_eq s n i (lc s i).1 (lc s i).2 _) ?_)
 simp only [Int.toNat_natCast]
 exact ⟨trivial, ⟨by omega, by omega, by omega, trivial, trivial⟩, ⟨trivial, h0, h1⟩, cN_scn (s := s) rfl rfl rfl (e' := .ret (.tup [])) trivial rfl ⟨rfl, rfl⟩⟩
theorem over_ok {G : GQ} : ∀ args hp k, sOver args hp k -> TaskOk Tryd.prog G (.call 28 args hp k) := by
 intro args hp k h
 unfold sOver at h
 split at h
 ·rename_i id n
  split at h
  ·rename_i n' hn
   obtain ⟨c1, i, s, p, q, hg, hle, hd, hb, hlk, hi, hs, ⟨h0, h1⟩, hk⟩ := zxc h
   refine zju [.sint .i64 n'] _ (over_run s i n' hi hs h0 h1) rfl hg hle hd hb hlk ⟨rfl, zqr hn, trivial⟩ rfl ?_
   rintro e j ⟨rfl, rfl⟩
   exact hk
  ·exact h.elim
 ·exact h.elim
theorem zva {P : Program} {G : GQ} {f : Nat} {args : List V} {hp : Mem} {k k' : KE} (h : TaskOk P G (.call f args hp k)) (up : ∀ e hp, k e hp -> k' e hp) : TaskOk P G (.call f args hp k') :=
 ⟨h.1, λ ρ W us Post hG hH hus hk => h.2 ρ W us Post hG hH hus λ e hp' ρ' W' en nx hen hkk => hk e hp' ρ' W' en nx hen (up e hp' hkk)⟩
theorem zwc {N : E -> Prop} : ∀ e hp, cutE [] (λ e _ _ => N e) e hp -> N e := by
 intro e hp h
 unfold cutE at h
 split at h
 ·exact h
 ·exact h.elim
theorem bs_data (s : List UInt8) : (Z.bs s).data.toList = s := by simp [Z.bs]
theorem zwf {f : Nat} {fn : Func} (h : Tryd.prog.funcs[f]? = some fn) (hb : fn.body.isNone = false) : zqJ Tryd.prog f := ⟨fn, h, hb, qNG f fn h⟩
theorem low_ok {G : GQ} : ∀ args hp k, sLow args hp k -> TaskOk Tryd.prog G (.call 57 args hp k) := by
 intro args hp k h
 unfold sLow at h
 split at h
 ·rename_i s
  obtain ⟨⟨h1, h2⟩, hk⟩ := h
  refine lib_of (zwf Tryd.func57 (by kernel_rfl)) _ hk ?_
  rintro ρ us ⟨u, us', hu, hus, rfl⟩
  cases hus
  have hu : u = .string (Z.bs s) := hu
  subst hu
  refine ⟨_, rfl, λ w => ?_⟩
  have := Go.Proofs.Tryd.strings_ToLower_ascii (Z.bs s) w (by show (Z.bs s).data.size <= _; simpa [Z.bs] using h1) (λ j b hb => by rw [bs_data] at hb; exact h2 b (List.mem_of_getElem? hb))
  rw [bs_data] at this
  exact this
 ·exact h.elim
theorem tl_ok {G : GQ} : ∀ args hp k, sTL args hp k -> TaskOk Tryd.prog G (.call 85 args hp k) := by
 intro args hp k h
 unfold sTL at h
 split at h
 ·rename_i s
  refine lib_of (zwf Tryd.func85 (by kernel_rfl)) _ h ?_
  rintro ρ us ⟨u, us', hu, ⟨u2, us2, hu2, hus, rfl⟩, rfl⟩
  cases hus
  have hu : u = .string (Z.bs s) := hu
  have hu2 : u2 = .string (Z.bs [48]) := hu2
  subst hu hu2
  refine ⟨_, rfl, λ w => ?_⟩
  have := Go.Proofs.Tryd.strings_TrimLeft_one (Z.bs s) 48 (by decide) w
  rw [bs_data] at this
  exact this.mono λ e w' ⟨a, b⟩ => ⟨a, by rw [b]; exact Go.RowKit.Below.refl _ _⟩
 ·exact h.elim
theorem tr_ok {G : GQ} : ∀ args hp k, sTR args hp k -> TaskOk Tryd.prog G (.call 86 args hp k) := by
 intro args hp k h
 unfold sTR at h
 split at h
 ·rename_i s
  obtain ⟨h1, h⟩ := h
  refine lib_of (zwf Tryd.func86 (by kernel_rfl)) _ h ?_
  rintro ρ us ⟨u, us', hu, ⟨u2, us2, hu2, hus, rfl⟩, rfl⟩
  cases hus
  have hu : u = .string (Z.bs s) := hu
  have hu2 : u2 = .string (Z.bs [48]) := hu2
  subst hu hu2
  refine ⟨_, rfl, λ w => ?_⟩
  have := Go.Proofs.Tryd.strings_TrimRight_one (Z.bs s) 48 (by decide) w (by show (Z.bs s).data.size <= _; simpa [Z.bs] using h1)
  rw [bs_data] at this
  exact this.mono λ e w' ⟨a, b⟩ => ⟨a, by rw [b]; exact Go.RowKit.Below.refl _ _⟩
 ·exact h.elim
theorem fs_one {P : Program} {G : GQ} {n : Nat} {s : List V -> Mem -> KE -> Prop} (hl : G.fs = [(n, s)]) (h : ∀ args hp k, s args hp k -> TaskOk P G (.call n args hp k)) : FsOk P G := by
 intro f s' hf args hp k hs
 rw [hl] at hf
 simp only [lookF] at hf
 split at hf
 ·rename_i hb
  cases hf
  rw [<- beq_tt hb]
  exact h args hp k hs
 ·cases hf
theorem trim_ok {G : GQ} : ∀ args hp k, sTrim args hp k -> TaskOk Tryd.prog G (.call 71 args hp k) := by
 intro args hp k h
 unfold sTrim at h
 split at h
 ·rename_i s
  have t := go_sound (G := ⟨⟨.nil, [], []⟩, [(85, sTL)], []⟩) qmix qNG zqf (fs_one rfl tl_ok) (zqz rfl) 100 (.call 71 [.sstr s] nomem (cutE [] λ e _ _ => retV (.sstr (trimF s)) e)) (Eq.mpr (f71_eq s _) (by
   simp only [Bool.not_eq_true', Bool.not_eq_false', decide_eq_true_eq, decide_eq_false_iff_not]
   refine ⟨trivial, λ h => ?_, λ h => ?_⟩
   ·simp only [retV, trimF, if_neg h]; exact zqa _
   ·simp only [retV, trimF, if_pos h]; exact rfl))
  exact sum_of1 (zva t zwc) rfl rfl rfl h
 ·exact h.elim
theorem tail_ok {G : GQ} : ∀ args hp k, sTail args hp k -> TaskOk Tryd.prog G (.call 72 args hp k) := by
 intro args hp k h
 unfold sTail at h
 split at h
 ·rename_i s
  obtain ⟨h1, h⟩ := h
  have t := go_sound (G := ⟨⟨.nil, [], []⟩, [(86, sTR)], []⟩) qmix qNG zqf (fs_one rfl tr_ok) (zqz rfl) 100 (.call 72 [.sstr s] nomem (cutE [] λ e _ _ => retV (.sstr (tailF s)) e)) (Eq.mpr (f72_eq s _) (by
   simp only [Bool.not_eq_true', Bool.not_eq_false', decide_eq_true_eq, decide_eq_false_iff_not]
   refine ⟨by omega, trivial, λ h => ?_, λ h => ?_⟩
   ·simp only [retV, tailF, if_neg h]; exact zqa _
   ·simp only [retV, tailF, if_pos h]; exact rfl))
  exact sum_of1 (zva t zwc) rfl rfl rfl h
 ·exact h.elim
end
end Go.Proofs.YtekioipmhhcbhaaDoor
set_option maxRecDepth 20000
namespace Go.Proofs.YtekioipmhhcbhaaDoor
open Go Go.Z Go.Q Go.W6
open Go.Y hiding KE KK KR go Task go_sound
noncomputable section
variable [Ext]
theorem zxh (n : Nat) : ((n : Int) + 1).toNat = n + 1 := by omega
theorem cut_fold (s : List UInt8) (i j : Nat) : List.drop i (List.take j s) = cutF s i j := rfl
theorem cut_len {s : List UInt8} {i j : Nat} (h : j <= s.length) : (cutF s i j).length = j - i := by
 unfold cutF; rw [List.length_drop, List.length_take]; omega
theorem trim_len (d : List UInt8) : (trimF d).length <= d.length + 1 := by
 unfold trimF
 split
 ·simp
 ·unfold Go.Lib.trimLeftB
  have := (List.dropWhile_sublist (· == (48 : UInt8)) (l := d)).length_le
  omega
theorem tail_len (d : List UInt8) : (tailF d).length <= d.length + 1 := by
 unfold tailF
 split
 ·simp
 ·unfold Go.Lib.trimRightB
  have := (List.dropWhile_sublist (· == (48 : UInt8)) (l := d.reverse)).length_le
  rw [List.length_reverse] at this ⊢
  omega
def kNum (s : List UInt8) (i : Nat) : E -> Nat -> Prop := λ e j => j = i /\ ((∃ x t e', numF s i = some (x, t, e') /\ e = .ret (.tup [.sint .i64 x, .sstr t, .sint .i64 e'])) \/ (numF s i = none /\ e = .pan (wrongV i 122)))
theorem fs_num {G : GQ} (hl : G.fs = [(67, sIs), (70, sDig), (71, sTrim), (72, sTail)]) : FsOk Tryd.prog G := by
 intro f s hf args hp k h
 rw [hl] at hf
 simp only [lookF] at hf
 split at hf
 ·rename_i hb; cases hf; rw [<- beq_tt hb]; exact is_ok args hp k h
 split at hf
 ·rename_i hb; cases hf; rw [<- beq_tt hb]; exact dig_ok args hp k h
 split at hf
 ·rename_i hb; cases hf; rw [<- beq_tt hb]; exact trim_ok args hp k h
 split at hf
 ·rename_i hb; cases hf; rw [<- beq_tt hb]; exact tail_ok args hp k h
 ·cases hf
theorem num_run (s : List UInt8) (i : Nat) (hi : i <= s.length) (hs : s.length <= 20000) : TaskOk Tryd.prog ⟨⟨.nil, [], []⟩, [(67, sIs), (70, sDig), (71, sTrim), (72, sTail)], []⟩ (.call 58 [.ptr 0 0] (hpS i s) (kN (kNum s i) s)) := by
 refine go_sound qmix qNG zqf (fs_num rfl) (zqz rfl) 200 _ (Eq.mpr (f58_eq s i (lc s i).1 (lc s i).2 _) ?_)
 have hJ := zxH (p := digB) hi
 have hJ' : i <= digF s i /\ digF s i <= s.length := hJ
 have hl1 := cut_len (s := s) (i := i) hJ'.2
 have pan : numF s i = none -> cN [0, 1, 2] [true, false, false] (λ e cs => ∃ j, cs = [some (scnI j s), none, none] /\ kNum s i e j) (E.pan (V.ifc 58 (V.agg [V.sint IntKind.i64 i, V.int IntKind.i64 122]))) 3 [some (Chunk.cells (V.sint IntKind.i64 i :: V.sint IntKind.i64 (lc s i).1 :: V.sint IntKind.i64 (lc s i).2 :: V.sstr s :: tl 1 2) 54 262), none, none] := λ hn =>
  cN_scn (s := s) rfl rfl rfl (e' := .pan (wrongV i 122)) rfl rfl ⟨rfl, .inr ⟨hn, rfl⟩⟩
 have ret : ∀ {v : V} {x : Nat} {t : List UInt8} {e : Nat}, numF s i = some (x, t, e) -> vle v (.sint .i64 x) -> cN [0, 1, 2] [true, false, false] (λ e cs => ∃ j, cs = [some (scnI j s), none, none] /\ kNum s i e j) (E.ret (V.tup [v, .sstr t, .sint .i64 e])) 3 [some (Chunk.cells (V.sint IntKind.i64 i :: V.sint IntKind.i64 (lc s i).1 :: V.sint IntKind.i64 (lc s i).2 :: V.sstr s :: tl 1 2) 54 262), none, none] := λ {v x t e} hn hv =>
  cN_scn (s := s) rfl rfl rfl (e' := .ret (.tup [.sint .i64 x, .sstr t, .sint .i64 e])) ⟨by cases v <;> exact hv, rfl, ⟨rfl, rfl⟩, trivial⟩ rfl ⟨rfl, .inl ⟨x, t, e, hn, rfl⟩⟩
 simp only [decide_eq_true_eq, decide_eq_false_iff_not, Bool.not_eq_true', Bool.not_eq_false']
 simp only [Int.toNat_natCast, zxh, cut_fold, clsB3]
 have short : (isAt (λ b => b.toNat == 46) s (digF s i) && isAt digB s (digF s i + 1)) = false -> numF s i = if 380 < digF s i - i then none else some (3, trimF (cutF s i (digF s i)), digF s i) := by
  intro h; unfold numF; simp only [h, if_true]
 have no46 : ¬ ((s.getD (digF s i) 0).toNat : Int) = 46 -> digF s i < s.length -> isAt (λ b => b.toNat == 46) s (digF s i) = false := by
  intro h hlt; rw [zxf hlt]; simp only [beq_eq_false_iff_ne]; intro h2; exact h (by exact_mod_cast h2)
 have yes46 : ((s.getD (digF s i) 0).toNat : Int) = 46 -> digF s i < s.length -> isAt (λ b => b.toNat == 46) s (digF s i) = true := by
  intro h hlt; rw [zxf hlt]; simp only [beq_iff_eq]; exact_mod_cast h
 have short2 : (isAt (λ b => b.toNat == 46) s (digF s i) && isAt digB s (digF s i + 1)) = false -> ((380 : Int) < (cutF s i (digF s i)).length -> numF s i = none) /\ (¬ (380 : Int) < (cutF s i (digF s i)).length -> numF s i = some (3, trimF (cutF s i (digF s i)), digF s i)) := by
  intro h
  rw [short h, hl1]
  exact ⟨λ h2 => if_pos (by omega), λ h2 => if_neg (by omega)⟩
 have v3 : vle (V.int .i64 3) (.sint .i64 (3 : Nat)) := ⟨rfl, rfl⟩
 have v4 : vle (V.int .i64 4) (.sint .i64 (4 : Nat)) := ⟨rfl, rfl⟩
 refine ⟨⟨by omega, by omega, by omega, trivial, trivial⟩, ⟨by omega, by omega⟩, ⟨by omega, by omega, by omega⟩, trivial, trivial, λ hge => ⟨trivial, trivial, λ h => pan ((short2 ?_).1 h), λ h => ret ((short2 ?_).2 h) v3⟩, λ hlt => ⟨⟨by omega, by omega⟩, trivial, λ h46 => ⟨trivial, trivial, λ h => pan ((short2 ?_).1 h), λ h => ret ((short2 ?_).2 h) v3⟩, λ h46 => ⟨⟨by omega, by omega⟩, ⟨by omega, by omega, by omega, trivial, trivial⟩, ⟨by omega, by omega⟩, trivial, λ hd => ⟨trivial, trivial, λ h => pan ((short2 ?_).1 h), λ h => ret ((short2 ?_).2 h) v3⟩, λ hd => ?_⟩⟩⟩
 ·rw [zxQ (by omega)]; rfl
 ·rw [zxQ (by omega)]; rfl
 ·rw [no46 h46 (by omega)]; rfl
 ·rw [no46 h46 (by omega)]; rfl
 ·rw [hd, Bool.and_false]
 ·rw [hd, Bool.and_false]
 ·have hlt1 := (zqQ hd).1
  have hE := zxH (p := digB) (i := digF s i + 1) (Nat.le_of_lt hlt1)
  have hE' : digF s i + 1 <= digF s (digF s i + 1) /\ digF s (digF s i + 1) <= s.length := hE
  have hl2 := cut_len (s := s) (i := digF s i + 1) hE'.2
  have t1 := trim_len (cutF s i (digF s i))
  have t2 := tail_len (cutF s (digF s i + 1) (digF s (digF s i + 1)))
  have long : numF s i = if 380 < (digF s i - i) + (digF s (digF s i + 1) - (digF s i + 1)) \/ 20 < (tailF (cutF s (digF s i + 1) (digF s (digF s i + 1)))).length then none else some (4, trimF (cutF s i (digF s i)) ++ [46] ++ tailF (cutF s (digF s i + 1) (digF s (digF s i + 1))), digF s (digF s i + 1)) := by
   unfold numF; simp only [yes46 h46 (by omega), hd, Bool.and_self, Bool.true_eq_false, if_false]
  refine ⟨⟨by omega, by omega⟩, ⟨by omega, by omega, by omega, trivial, trivial⟩, ⟨by omega, by omega⟩, ⟨by omega, by omega⟩, ⟨by omega, by omega, by omega⟩, trivial, trivial, ⟨by omega, by omega⟩, trivial, λ h => pan ?_, λ h => ⟨by omega, trivial, trivial, λ h2 => pan ?_, λ h2 => ⟨by omega, by omega, ?_, ret ?_ v4⟩⟩⟩
  ·rw [long, if_pos (by omega)]
  ·rw [long, if_pos (by omega)]
  ·rw [List.length_append]; simp; omega
  ·rw [long, if_neg (by omega)]
theorem num_ok {G : GQ} : ∀ args hp k, sNum args hp k -> TaskOk Tryd.prog G (.call 58 args hp k) := by
 intro args hp k h
 unfold sNum at h
 split at h
 ·rename_i id
  obtain ⟨c1, i, s, p, q, hg, hle, hd, hb, hlk, hi, hs, hk1, hk2⟩ := zxc h
  refine zju [] _ (num_run s i hi hs) rfl hg hle hd hb hlk ⟨rfl, trivial⟩ rfl ?_
  rintro e j ⟨rfl, ⟨x, t, e', hn, rfl⟩ | ⟨hn, rfl⟩⟩
  ·exact hk1 x t e' hn
  ·exact hk2 hn
 ·exact h.elim
end
end Go.Proofs.YtekioipmhhcbhaaDoor
set_option maxRecDepth 20000
namespace Go.Proofs.YtekioipmhhcbhaaDoor
open Go Go.Z Go.Q Go.W6
open Go.Y hiding KE KK KR go Task go_sound
noncomputable section
variable [Ext]
theorem zxT {s : List UInt8} {p : Nat} (h : p < s.length) : s.drop p = s.getD p 0 :: s.drop (p + 1) := by
 rw [List.drop_eq_getElem_cons h, List.getD_eq_getElem?_getD, List.getElem?_eq_getElem h]; rfl
theorem text_end {s : List UInt8} {p : Nat} (h : s.length <= p) (b : List UInt8) (bad : Int) : textL (s.drop p) p b bad = none := by
 rw [List.drop_eq_nil_of_le h]; unfold textL; rfl
theorem text_nl {s : List UInt8} {p : Nat} (h : p < s.length) (h10 : (s.getD p 0).toNat = 10) (b : List UInt8) (bad : Int) : textL (s.drop p) p b bad = none := by
 rw [zxT h]; unfold textL; rw [if_pos h10]
theorem text_out {s : List UInt8} {p : Nat} (h : p < s.length) (h34 : (s.getD p 0).toNat = 34) (hn : isAt (clsB 4) s (p + 1) = false) (b : List UInt8) (bad : Int) : textL (s.drop p) p b bad = some (b, p, bad) := by
 rw [zxT h]; unfold textL; rw [if_neg (by omega), if_pos h34]
 rcases Nat.lt_or_ge (p + 1) s.length with hlt | hge
 ·rw [zxT hlt]
  rw [zxf hlt] at hn
  have : ¬ (s.getD (p + 1) 0).toNat = 34 := by
   intro h2; rw [show clsB 4 (s.getD (p + 1) 0) = ((s.getD (p + 1) 0).toNat == 34) from rfl, h2] at hn; cases hn
  dsimp only
  rw [if_neg this]
 ·rw [List.drop_eq_nil_of_le hge]
theorem u8_eq {a b : UInt8} (h : a.toNat = b.toNat) : a = b := UInt8.toNat_inj.1 h
theorem quo_lt {s : List UInt8} {p : Nat} (hn : isAt (clsB 4) s p = true) : p < s.length /\ s.getD p 0 = 34 := by
 have hlt := (zqQ hn).1
 rw [zxf hlt] at hn
 have : (s.getD p 0).toNat = 34 := by simpa [clsB] using hn
 exact ⟨hlt, u8_eq this⟩
theorem text_two {s : List UInt8} {p : Nat} (h : p < s.length) (h34 : (s.getD p 0).toNat = 34) (hn : isAt (clsB 4) s (p + 1) = true) (b : List UInt8) (bad : Int) : textL (s.drop p) p b bad = textL (s.drop (p + 2)) (p + 2) (b ++ [34]) bad := by
 obtain ⟨hlt, h2⟩ := quo_lt hn
 rw [zxT h, zxT hlt, h2]
 conv => lhs; unfold textL
 rw [if_neg (by omega), if_pos h34]
 dsimp only
 rw [if_pos (by decide)]
theorem text_on {s : List UInt8} {p : Nat} (h : p < s.length) (h10 : ¬ (s.getD p 0).toNat = 10) (h34 : ¬ (s.getD p 0).toNat = 34) (b : List UInt8) (bad : Int) : textL (s.drop p) p b bad = textL (s.drop (p + 1)) (p + 1) (b ++ [s.getD p 0]) (if plainB (s.getD p 0) = false /\ bad < 0 then (p : Int) else bad) := by
 rw [zxT h]
 conv => lhs; unfold textL
 rw [if_neg h10, if_neg h34]
theorem plain_t {b : UInt8} (h1 : (32 : Int) <= b.toNat) (h2 : (b.toNat : Int) <= 126) : plainB b = true := by
 unfold plainB; simp; omega
theorem plain_f {b : UInt8} (h0 : ¬ (b.toNat : Int) = 10) (h : ¬ (32 : Int) <= b.toNat \/ ¬ (b.toNat : Int) <= 126) : plainB b = false := by
 unfold plainB; simp; omega
theorem byB_u8 (b : UInt8) : byB (.sint .u8 (b.toNat : Int)) = b := by
 show UInt8.ofNat ((b.toNat : Int)).toNat = b
 rw [Int.toNat_natCast]; simp
theorem byte_mem {b : UInt8} {v : V} (h : v ∈ [V.sint .u8 (b.toNat : Int)]) : ∃ n : Int, 0 <= n /\ n <= 255 /\ (v = .int .u8 n \/ v = .sint .u8 n) := by
 have := UInt8.toNat_lt b
 simp only [List.mem_singleton] at h
 exact ⟨b.toNat, by omega, by omega, .inr h⟩
structure TX where
 p : Nat
 b : List UInt8
 bad : Int
def le59 (x : TX) : List V := [.ptr 0 0, .sint .i64 x.p, .sint .i64 x.bad, byS x.b]
def lm59 (i : Nat) (s : List UInt8) (x : TX) : List (Option Chunk) := match x.b with
 | [] => [some (scnI i s), none]
 | y :: b => [some (scnI i s), some (.byt (y :: b) 5)]
def P59 (s : List UInt8) (i : Nat) (x : TX) : Prop := i < x.p /\ x.p <= s.length /\ x.b.length <= x.p /\ textL (s.drop x.p) x.p x.b x.bad = textL (s.drop (i + 1)) (i + 1) [] (-1)
abbrev R59 (s : List UInt8) (i : Nat) (k : KK) (x : TX) := rM [0, 3, 4, 5] [0, 3] [0, 3, 4, 5] [] [] le59 (lm59 i s) 3 4 (P59 s i) (λ x => s.length - x.p) k x
abbrev sc59 (i : Nat) (s : List UInt8) : Chunk := .cells (V.sint .i64 i :: V.sint .i64 (lc s i).1 :: V.sint .i64 (lc s i).2 :: V.sstr s :: tl 1 2) 54 262
set_option maxHeartbeats 2000000 in
theorem l59_ok {gf gl} : ∀ fi ds env hp k, l59 fi ds env hp k -> TaskOk Tryd.prog ⟨⟨.nil, [], []⟩, gf, gl⟩ (.code fi (.loop (lp Tryd.prog 59 0)) ds env hp k) := by
 intro fi ds env hp k h
 obtain ⟨rfl, rfl, h3, h4, h⟩ := zvC h
 obtain ⟨e0, h⟩ := zjh h
 obtain ⟨v, n, e1, hv, h⟩ := zxO h
 obtain ⟨v2, z, e2, hv2, h⟩ := zxO h
 obtain ⟨e3, h⟩ := nilAt_inv h
 obtain ⟨c1, i, s, hg, hle, hi, hs, ⟨rfl, rfl, h0⟩, hk1, hk2, hk3⟩ := zjf h
 obtain ⟨hn, ht, hro⟩ := hp
 dsimp only at h3 h4 hg
 subst h3 h4
 simp only [Int.toNat_natCast, zxh] at hk1 hk2 hk3
 refine zvs [0, 3, 4, 5] [0, 3] [0, 3, 4, 5] [] [] 4 le59 (lm59 i s) (P59 s i) (λ x => s.length - x.p) ⟨i + 1, [], -1⟩ ⟨by simp, by show i + 1 <= s.length; omega, by simp, rfl⟩ rfl rfl rfl (by show 3 <= 4; decide) rfl rfl rfl (λ x => by rcases x with ⟨p, _ | ⟨y, b⟩, bad⟩ <;> rfl) (λ x => by rcases x with ⟨p, _ | ⟨y, b⟩, bad⟩ <;> rfl) ?_ ⟨⟨c1, hg, hle⟩, trivial⟩ rfl ?_
 ·simp only [pk, e0, e1, e2, e3]
  exact ⟨zqa _, by push_cast; exact hv, hv2, zqa _, trivial⟩
 ·rintro ⟨p, b, bad⟩ ⟨q1, q2, q3, q4⟩
  dsimp only at q1 q2 q3 q4
  have hb256 := UInt8.toNat_lt (s.getD p 0)
  -- how the string goes on
  have on1 : ∀ bad', p < s.length -> ¬ ((s.getD p 0).toNat : Int) = 10 -> ¬ ((s.getD p 0).toNat : Int) = 34 -> bad' = (if plainB (s.getD p 0) = false /\ bad < 0 then (p : Int) else bad) -> P59 s i ⟨p + 1, b ++ [s.getD p 0], bad'⟩ := by
   intro bad' hlt h10 h34 hbad
   refine ⟨by show i < p + 1; omega, hlt, by simp; omega, ?_⟩
   rw [<- q4, text_on hlt (by exact_mod_cast h10) (by exact_mod_cast h34), hbad]
  have on2 : p < s.length -> ((s.getD p 0).toNat : Int) = 34 -> isAt (clsB 4) s (p + 1) = true -> P59 s i ⟨p + 2, b ++ [s.getD (p + 1) 0], bad⟩ := by
   intro hlt h34 hq
   obtain ⟨g1, g2⟩ := quo_lt hq
   refine ⟨by show i < p + 2; omega, g1, by simp; omega, ?_⟩
   show textL (s.drop (p + 2)) (p + 2) (b ++ [s.getD (p + 1) 0]) bad = _
   rw [<- q4, text_two hlt (by exact_mod_cast h34) hq, g2]
  cases b with
  | nil =>
   refine go_sound (G := ⟨⟨.nil, [], []⟩, [(67, sIs)], []⟩) qmix qNG zqf (fs_is rfl) (zqz rfl) 200 _ (Eq.mpr (f59_loop0 s p bad i (lc s i).1 (lc s i).2 _) ?_)
   have pan : textL (s.drop (i + 1)) (i + 1) [] (-1) = none -> R59 s i k ⟨p, [], bad⟩ (.panic (.ifc 58 (.agg [.sint .i64 i, .int .i64 121]))) [some (.ptr 0 0), some (.sint .i64 p), some (.sint .i64 bad), some .nils] 4 [some (sc59 i s), none, none, none] := λ hT =>
    ⟨[0], [scnI i s], Nat.le_refl _, rfl, rfl, ⟨⟨_, rfl, ⟨rfl, rfl, zqo _⟩⟩, trivial⟩, hk1 hT⟩
   have pE : ((s.length : Nat) : Int) <= p -> R59 s i k ⟨p, [], bad⟩ (.panic (.ifc 58 (.agg [.sint .i64 i, .int .i64 121]))) [some (.ptr 0 0), some (.sint .i64 p), some (.sint .i64 bad), some .nils] 4 [some (sc59 i s), none, none, none] := λ h => pan (by rw [<- q4]; exact text_end (by omega) _ _)
   have p10 : p < s.length -> ((s.getD p 0).toNat : Int) = 10 -> R59 s i k ⟨p, [], bad⟩ (.panic (.ifc 58 (.agg [.sint .i64 i, .int .i64 121]))) [some (.ptr 0 0), some (.sint .i64 p), some (.sint .i64 bad), some .nils] 4 [some (sc59 i s), none, none, none] := λ h1 h => pan (by rw [<- q4]; exact text_nl h1 (by exact_mod_cast h) _ _)
   have out : p < s.length -> ((s.getD p 0).toNat : Int) = 34 -> isAt (clsB 4) s (p + 1) = false -> R59 s i k ⟨p, [], bad⟩ (.exit 0) [some (.ptr 0 0), some (.sint .i64 p), some (.sint .i64 bad), some .nils] 4 [some (sc59 i s), none, none, none] := λ h1 h h2 =>
    ⟨[.ptr 0 0, .sint .i64 p, .sint .i64 bad, .nils], [0], [scnI i s], Nat.le_refl _, rfl, rfl, ⟨zqa _, zqa _, zqa _, zqa _, trivial⟩, ⟨⟨_, rfl, ⟨rfl, rfl, zqo _⟩⟩, trivial⟩, hk2 p bad (by rw [<- q4]; exact text_out h1 (by exact_mod_cast h) h2 _ _)⟩
   have nxt : ∀ (p' : Nat) (bad' : Int) (w : UInt8) (z : Int), P59 s i ⟨p', [] ++ [w], bad'⟩ -> p < p' -> z = p' -> R59 s i k ⟨p, [], bad⟩ .normal [some (.ptr 0 0), some (.sint .i64 z), some (.sint .i64 bad'), some (.sl 5 0 0 1 none)] 6 [some (sc59 i s), none, some (.cells [.sint .u8 (w.toNat : Int)] 5 1), some (.cells [.sint .u8 (w.toNat : Int)] 5 1)] := by
    intro p' bad' w z hP hlt hz
    subst hz
    have hq := hP.2.1
    dsimp only at hq
    refine ⟨⟨p', [w], bad'⟩, [0, 5], hP, (by show s.length - p' < s.length - p; omega), by decide, rfl, ⟨zqa _, zqa _, zqa _, ⟨rfl, rfl, rfl, rfl⟩, trivial⟩, ⟨_, rfl, ⟨rfl, rfl, zqo _⟩⟩, ⟨_, rfl, ⟨rfl, rfl, ⟨⟨rfl, rfl⟩, trivial⟩⟩⟩, trivial⟩
   have n1 : p < s.length -> ¬ ((s.getD p 0).toNat : Int) = 10 -> ¬ ((s.getD p 0).toNat : Int) = 34 -> (((32 : Int) <= (s.getD p 0).toNat /\ ((s.getD p 0).toNat : Int) <= 126) \/ ¬ bad < 0) -> R59 s i k ⟨p, [], bad⟩ .normal [some (.ptr 0 0), some (.sint .i64 ((p : Int) + 1)), some (.sint .i64 bad), some (.sl 5 0 0 1 none)] 6 [some (sc59 i s), none, some (.cells [.sint .u8 ((s.getD p 0).toNat : Int)] 5 1), some (.cells [.sint .u8 ((s.getD p 0).toNat : Int)] 5 1)] := by
    intro h1 h2 h3 h4
    refine nxt (p + 1) bad _ _ (on1 bad h1 h2 h3 ?_) (by omega) (by push_cast; rfl)
    rcases h4 with ⟨h4, h5⟩ | h4
    ·rw [plain_t h4 h5]; simp
    ·rw [if_neg (λ h => h4 h.2)]
   have n2 : p < s.length -> ¬ ((s.getD p 0).toNat : Int) = 10 -> ¬ ((s.getD p 0).toNat : Int) = 34 -> (¬ (32 : Int) <= (s.getD p 0).toNat \/ ¬ ((s.getD p 0).toNat : Int) <= 126) -> bad < 0 -> R59 s i k ⟨p, [], bad⟩ .normal [some (.ptr 0 0), some (.sint .i64 ((p : Int) + 1)), some (.sint .i64 p), some (.sl 5 0 0 1 none)] 6 [some (sc59 i s), none, some (.cells [.sint .u8 ((s.getD p 0).toNat : Int)] 5 1), some (.cells [.sint .u8 ((s.getD p 0).toNat : Int)] 5 1)] := by
    intro h1 h2 h3 h4 h5
    refine nxt (p + 1) p _ _ (on1 p h1 h2 h3 ?_) (by omega) (by push_cast; rfl)
    rw [if_pos ⟨plain_f h2 h4, h5⟩]
   have n4 : p < s.length -> ((s.getD p 0).toNat : Int) = 34 -> isAt (clsB 4) s (p + 1) = true -> R59 s i k ⟨p, [], bad⟩ .normal [some (.ptr 0 0), some (.sint .i64 ((p : Int) + 1 + 1)), some (.sint .i64 bad), some (.sl 5 0 0 1 none)] 6 [some (sc59 i s), none, some (.cells [.sint .u8 ((s.getD (p + 1) 0).toNat : Int)] 5 1), some (.cells [.sint .u8 ((s.getD (p + 1) 0).toNat : Int)] 5 1)] := by
    intro h1 h2 h3
    exact nxt (p + 2) bad _ _ (on2 h1 h2 h3) (by omega) (by push_cast; omega)
   have q5 : isAt (clsB 4) s (p + 1) = true -> p + 1 < s.length := λ h => (quo_lt h).1
   simp only [decide_eq_true_eq, decide_eq_false_iff_not, Bool.not_eq_true', Bool.not_eq_false']
   simp only [Int.toNat_natCast, zxh]
   repeat' first | exact trivial | apply And.intro | intro _
   all_goals first
    | exact pE (by assumption)
    | exact p10 (by omega) (by assumption)
    | exact out (by omega) (by assumption) (by assumption)
    | exact n1 (by omega) (by omega) (by omega) (by omega)
    | exact n2 (by omega) (by omega) (by omega) (by omega) (by omega)
    | exact n4 (by omega) (by omega) (by assumption)
    | omega
    | (have := q5 (by assumption); omega)
  | cons y b =>
   refine go_sound (G := ⟨⟨.nil, [], []⟩, [(67, sIs)], []⟩) qmix qNG zqf (fs_is rfl) (zqz rfl) 200 _ (Eq.mpr (f59_loop1 s (y :: b) (b.length + 1) p bad i (lc s i).1 (lc s i).2 _) ?_)
   have pan : textL (s.drop (i + 1)) (i + 1) [] (-1) = none -> R59 s i k ⟨p, y :: b, bad⟩ (.panic (.ifc 58 (.agg [.sint .i64 i, .int .i64 121]))) [some (.ptr 0 0), some (.sint .i64 p), some (.sint .i64 bad), some (.ssl 3 0 (b.length + 1) 1)] 4 [some (sc59 i s), some (.byt (y :: b) 5), none, none] := λ hT =>
    ⟨[0], [scnI i s], Nat.le_refl _, rfl, rfl, ⟨⟨_, rfl, ⟨rfl, rfl, zqo _⟩⟩, trivial⟩, hk1 hT⟩
   have pE : ((s.length : Nat) : Int) <= p -> R59 s i k ⟨p, y :: b, bad⟩ (.panic (.ifc 58 (.agg [.sint .i64 i, .int .i64 121]))) [some (.ptr 0 0), some (.sint .i64 p), some (.sint .i64 bad), some (.ssl 3 0 (b.length + 1) 1)] 4 [some (sc59 i s), some (.byt (y :: b) 5), none, none] := λ h => pan (by rw [<- q4]; exact text_end (by omega) _ _)
   have p10 : p < s.length -> ((s.getD p 0).toNat : Int) = 10 -> R59 s i k ⟨p, y :: b, bad⟩ (.panic (.ifc 58 (.agg [.sint .i64 i, .int .i64 121]))) [some (.ptr 0 0), some (.sint .i64 p), some (.sint .i64 bad), some (.ssl 3 0 (b.length + 1) 1)] 4 [some (sc59 i s), some (.byt (y :: b) 5), none, none] := λ h1 h => pan (by rw [<- q4]; exact text_nl h1 (by exact_mod_cast h) _ _)
   have out : p < s.length -> ((s.getD p 0).toNat : Int) = 34 -> isAt (clsB 4) s (p + 1) = false -> R59 s i k ⟨p, y :: b, bad⟩ (.exit 0) [some (.ptr 0 0), some (.sint .i64 p), some (.sint .i64 bad), some (.ssl 3 0 (b.length + 1) 1)] 4 [some (sc59 i s), some (.byt (y :: b) 5), none, none] := λ h1 h h2 =>
    ⟨[.ptr 0 0, .sint .i64 p, .sint .i64 bad, .ssl 3 0 (b.length + 1) 1], [0, 3], [scnI i s, .byt (y :: b) 5], Nat.le_refl _, rfl, rfl, ⟨zqa _, zqa _, zqa _, zqa _, trivial⟩, ⟨⟨_, rfl, ⟨rfl, rfl, zqo _⟩⟩, ⟨_, rfl, rfl⟩, trivial⟩, hk3 y b p bad (by rw [<- q4]; exact text_out h1 (by exact_mod_cast h) h2 _ _)⟩
   have nxt : ∀ (p' : Nat) (bad' : Int) (w : UInt8) (z : Int), P59 s i ⟨p', y :: b ++ [w], bad'⟩ -> p < p' -> z = p' -> R59 s i k ⟨p, y :: b, bad⟩ .normal [some (.ptr 0 0), some (.sint .i64 z), some (.sint .i64 bad'), some (.ssl 5 0 (b.length + 1 + 1) 1)] 6 [some (sc59 i s), none, some (.cells [.sint .u8 (w.toNat : Int)] 5 1), some (.byt (List.take (b.length + 1) (y :: b) ++ List.map byB [.sint .u8 (w.toNat : Int)]) 5)] := by
    intro p' bad' w z hP hlt hz
    subst hz
    have hq := hP.2.1
    dsimp only at hq
    refine ⟨⟨p', y :: b ++ [w], bad'⟩, [0, 5], hP, (by show s.length - p' < s.length - p; omega), by decide, rfl, ⟨zqa _, zqa _, zqa _, ?_, trivial⟩, ⟨_, rfl, ⟨rfl, rfl, zqo _⟩⟩, ⟨_, rfl, ?_⟩, trivial⟩
    ·show V.ssl 5 0 (b.length + 1 + 1) 1 = V.ssl _ 0 (y :: (b ++ [w])).length 1
     simp; rfl
    ·show Chunk.byt _ 5 = Chunk.byt (y :: (b ++ [w])) 5
     rw [List.take_of_length_le (by simp)]
     simp [byB_u8]
   have n1 : p < s.length -> ¬ ((s.getD p 0).toNat : Int) = 10 -> ¬ ((s.getD p 0).toNat : Int) = 34 -> (((32 : Int) <= (s.getD p 0).toNat /\ ((s.getD p 0).toNat : Int) <= 126) \/ ¬ bad < 0) -> R59 s i k ⟨p, y :: b, bad⟩ .normal [some (.ptr 0 0), some (.sint .i64 ((p : Int) + 1)), some (.sint .i64 bad), some (.ssl 5 0 (b.length + 1 + 1) 1)] 6 [some (sc59 i s), none, some (.cells [.sint .u8 ((s.getD p 0).toNat : Int)] 5 1), some (.byt (List.take (b.length + 1) (y :: b) ++ List.map byB [.sint .u8 ((s.getD p 0).toNat : Int)]) 5)] := by
    intro h1 h2 h3 h4
    refine nxt (p + 1) bad _ _ (on1 bad h1 h2 h3 ?_) (by omega) (by push_cast; rfl)
    rcases h4 with ⟨h4, h5⟩ | h4
    ·rw [plain_t h4 h5]; simp
    ·rw [if_neg (λ h => h4 h.2)]
   have n2 : p < s.length -> ¬ ((s.getD p 0).toNat : Int) = 10 -> ¬ ((s.getD p 0).toNat : Int) = 34 -> (¬ (32 : Int) <= (s.getD p 0).toNat \/ ¬ ((s.getD p 0).toNat : Int) <= 126) -> bad < 0 -> R59 s i k ⟨p, y :: b, bad⟩ .normal [some (.ptr 0 0), some (.sint .i64 ((p : Int) + 1)), some (.sint .i64 p), some (.ssl 5 0 (b.length + 1 + 1) 1)] 6 [some (sc59 i s), none, some (.cells [.sint .u8 ((s.getD p 0).toNat : Int)] 5 1), some (.byt (List.take (b.length + 1) (y :: b) ++ List.map byB [.sint .u8 ((s.getD p 0).toNat : Int)]) 5)] := by
    intro h1 h2 h3 h4 h5
    refine nxt (p + 1) p _ _ (on1 p h1 h2 h3 ?_) (by omega) (by push_cast; rfl)
    rw [if_pos ⟨plain_f h2 h4, h5⟩]
   have n4 : p < s.length -> ((s.getD p 0).toNat : Int) = 34 -> isAt (clsB 4) s (p + 1) = true -> R59 s i k ⟨p, y :: b, bad⟩ .normal [some (.ptr 0 0), some (.sint .i64 ((p : Int) + 1 + 1)), some (.sint .i64 bad), some (.ssl 5 0 (b.length + 1 + 1) 1)] 6 [some (sc59 i s), none, some (.cells [.sint .u8 ((s.getD (p + 1) 0).toNat : Int)] 5 1), some (.byt (List.take (b.length + 1) (y :: b) ++ List.map byB [.sint .u8 ((s.getD (p + 1) 0).toNat : Int)]) 5)] := by
    intro h1 h2 h3
    exact nxt (p + 2) bad _ _ (on2 h1 h2 h3) (by omega) (by push_cast; omega)
   have q5 : isAt (clsB 4) s (p + 1) = true -> p + 1 < s.length := λ h => (quo_lt h).1
   have q6 : b.length + 1 <= p := q3
   simp only [decide_eq_true_eq, decide_eq_false_iff_not, Bool.not_eq_true', Bool.not_eq_false']
   simp only [Int.toNat_natCast, zxh, List.length_cons]
   repeat' first | exact trivial | apply And.intro | intro _
   all_goals first
    | exact pE (by assumption)
    | exact p10 (by omega) (by assumption)
    | exact out (by omega) (by assumption) (by assumption)
    | exact n1 (by omega) (by omega) (by omega) (by omega)
    | exact n2 (by omega) (by omega) (by omega) (by omega) (by omega)
    | exact n4 (by omega) (by omega) (by assumption)
    | exact byte_mem (by assumption)
    | omega
    | (have := q5 (by assumption); omega)
end
end Go.Proofs.YtekioipmhhcbhaaDoor
set_option maxRecDepth 20000
namespace Go.Proofs.YtekioipmhhcbhaaDoor
open Go Go.Z Go.Q Go.W6
open Go.Y hiding KE KK KR go Task go_sound
noncomputable section
variable [Ext]
theorem zkL {s : List UInt8} {p : Nat} (h : s.length <= p) : noteF s p = .ok p := by
 unfold noteF; rw [List.drop_eq_nil_of_le h]; rfl
theorem zkq {s : List UInt8} {p : Nat} (h : p < s.length) : noteF s p = if (s.getD p 0).toNat = 10 then .ok p else if plainB (s.getD p 0) then noteF s (p + 1) else .error p := by
 unfold noteF; rw [zxT h]; rfl
theorem zjW {s : List UInt8} {p : Nat} (h : s.length <= p) : skipF s p = .ok p := by
 unfold skipF; rw [List.drop_eq_nil_of_le h]; rfl
theorem zkl {s : List UInt8} {p : Nat} (h : p < s.length) : skipF s p = if (s.getD p 0).toNat = 32 \/ (s.getD p 0).toNat = 10 then skipF s (p + 1) else if (s.getD p 0).toNat = 36 then skipL true (s.drop (p + 1)) (p + 1) else .ok p := by
 unfold skipF; rw [zxT h]; rfl
theorem skip_note {s : List UInt8} : ∀ (n p : Nat), s.length - p <= n -> skipL true (s.drop p) p = match noteF s p with | .ok j => skipF s j | .error b => .error b := by
 intro n
 induction n with
 | zero =>
  intro p h
  rw [zkL (by omega), List.drop_eq_nil_of_le (by omega)]
  dsimp only
  rw [zjW (by omega)]; rfl
 | succ n ih =>
  intro p h
  rcases Nat.lt_or_ge p s.length with hlt | hge
  ·rw [zkq hlt, zxT hlt]
   unfold skipL
   by_cases h10 : (s.getD p 0).toNat = 10
   ·rw [if_pos h10, if_pos h10]
    dsimp only
    rw [zkl hlt, if_pos (.inr h10)]; rfl
   ·rw [if_neg h10, if_neg h10]
    by_cases hp : plainB (s.getD p 0) = true
    ·rw [if_pos hp, if_pos hp, ih (p + 1) (by omega)]
    ·rw [if_neg hp, if_neg hp]
  ·rw [zkL hge, List.drop_eq_nil_of_le hge]
   dsimp only
   rw [zjW hge]; rfl
theorem note_le {s : List UInt8} : ∀ (n p : Nat), s.length - p <= n -> p <= s.length -> (∀ j, noteF s p = .ok j -> p <= j /\ j <= s.length) /\ (∀ j, noteF s p = .error j -> p <= j /\ j < s.length) := by
 intro n
 induction n with
 | zero => intro p h hp; rw [zkL (by omega)]; exact ⟨λ j hj => by cases hj; omega, λ j hj => by cases hj⟩
 | succ n ih =>
  intro p h hp
  rcases Nat.lt_or_ge p s.length with hlt | hge
  ·rw [zkq hlt]
   split
   ·exact ⟨λ j hj => by cases hj; omega, λ j hj => by cases hj⟩
   ·split
    ·have := ih (p + 1) (by omega) (by omega)
     exact ⟨λ j hj => by have := this.1 j hj; omega, λ j hj => by have := this.2 j hj; omega⟩
    ·exact ⟨λ j hj => (by cases hj), λ j hj => by cases hj; omega⟩
  ·rw [zkL hge]; exact ⟨λ j hj => by cases hj; omega, λ j hj => by cases hj⟩
theorem note_36 {s : List UInt8} {p : Nat} (h : p < s.length) (h36 : (s.getD p 0).toNat = 36) : noteF s p = noteF s (p + 1) := by
 rw [zkq h, if_neg (by omega), if_pos (by unfold plainB; rw [h36]; rfl)]
theorem skip_36 {s : List UInt8} {p : Nat} (h : p < s.length) (h36 : (s.getD p 0).toNat = 36) : skipF s p = match noteF s p with | .ok j => skipF s j | .error b => .error b := by
 rw [zkl h, if_neg (by omega), if_pos h36, skip_note _ _ (Nat.le_refl _), note_36 h h36]
abbrev scx (i : Nat) (s : List UInt8) : Chunk := .cells (V.sint .i64 i :: V.sint .i64 (lc s i).1 :: V.sint .i64 (lc s i).2 :: V.sstr s :: tl 1 2) 54 262
theorem zww {i : Nat} {s : List UInt8} : fitL [0] [some (scx i s)] [0] [scnI i s] := ⟨⟨_, rfl, ⟨rfl, rfl, zqo _⟩⟩, trivial⟩
theorem scx_fitM {i : Nat} {s : List UInt8} : fitM (renF [0] [0]) [0] [some (scx i s)] [0] [0] [some (scnI i s)] := ⟨⟨_, rfl, ⟨rfl, rfl, zqo _⟩⟩, trivial⟩
abbrev R46 (s : List UInt8) (k : KK) (P : Nat -> Prop) (x : Nat) := rM [0] [0] [0] [] [] (λ _ : Nat => [V.ptr 0 0]) (λ x => [some (scnI x s)]) 3 3 P (λ x => s.length - x) k x
theorem l46i_ok {gf gl} : ∀ fi ds env hp k, l46i fi ds env hp k -> TaskOk Tryd.prog ⟨⟨.nil, [], []⟩, gf, gl⟩ (.code fi (.loop (lp Tryd.prog 46 1)) ds env hp k) := by
 intro fi ds env hp k h
 obtain ⟨rfl, rfl, h3, h4, h⟩ := zvC h
 obtain ⟨e0, h⟩ := zjh h
 obtain ⟨c1, i, s, hg, hle, hi, hs, hk1, hk2⟩ := zjf h
 obtain ⟨hn, ht, hro⟩ := hp
 dsimp only at h3 h4 hg
 subst h3 h4
 simp only [Int.toNat_natCast] at hk1 hk2
 refine zvs [0] [0] [0] [] [] 3 (λ _ : Nat => [V.ptr 0 0]) (λ x => [some (scnI x s)]) (λ x => x <= s.length /\ noteF s x = noteF s i) (λ x => s.length - x) i ⟨by omega, rfl⟩ rfl rfl rfl (Nat.le_refl 3) rfl rfl rfl (λ x => rfl) (λ x => rfl) ?_ (fit1 hg hle) rfl ?_
 ·simp only [pk, e0]
  exact ⟨zqa _, trivial⟩
 ·rintro x ⟨x1, x2⟩
  refine go_sound (G := ⟨⟨.nil, [], []⟩, [(28, sOver)], []⟩) qmix qNG zqf (fs_one rfl over_ok) (zqz rfl) 200 _ (Eq.mpr (f46_in s x (lc s x).1 (lc s x).2 _) ?_)
  have on : x < s.length -> noteF s x = noteF s (x + 1) -> R46 s k (λ x => x <= s.length /\ noteF s x = noteF s i) x .normal [some (V.ptr 0 0)] 3 [some (scx (x + 1) s)] := λ h1 h2 =>
   ⟨x + 1, [0], ⟨h1, by rw [<- x2]; exact h2.symm⟩, by show s.length - (x + 1) < s.length - x; omega, Nat.le_refl 3, rfl, ⟨zqa _, trivial⟩, scx_fitM⟩
  have off : noteF s x = .ok x -> R46 s k (λ x => x <= s.length /\ noteF s x = noteF s i) x (.exit 3) [some (V.ptr 0 0)] 3 [some (scx x s)] := λ h2 =>
   ⟨[V.ptr 0 0], [0], [scnI x s], Nat.le_refl 3, rfl, rfl, ⟨zqa _, trivial⟩, zww, hk1 x (by rw [<- x2]; exact h2)⟩
  have bad : noteF s x = .error x -> R46 s k (λ x => x <= s.length /\ noteF s x = noteF s i) x (.panic (.ifc 58 (.agg [.sint .i64 x, .int .i64 120]))) [some (V.ptr 0 0)] 3 [some (scx x s)] := λ h2 =>
   ⟨[0], [scnI x s], Nat.le_refl 3, rfl, rfl, zww, hk2 x (by rw [<- x2]; exact h2)⟩
  simp only [decide_eq_true_eq, decide_eq_false_iff_not, Bool.not_eq_true', Bool.not_eq_false', Int.toNat_natCast, zxh]
  refine ⟨trivial, trivial, λ hlt => ⟨⟨by omega, hlt⟩, trivial, λ h10 => ⟨⟨by omega, hlt⟩, trivial, λ h => absurd h h10, λ _ => ⟨trivial, λ h32 => ⟨trivial, λ h126 => ⟨⟨by omega, by omega, by omega, trivial, trivial⟩, ⟨by omega, by omega⟩, on (by omega) ?_⟩, λ h126 => bad ?_⟩, λ h32 => bad ?_⟩⟩, λ h10 => off ?_⟩, λ hge => off ?_⟩
  ·rw [zkq (by omega), if_neg (by omega), if_pos (plain_t h32 h126)]
  ·rw [zkq (by omega), if_neg (by omega), if_neg (by rw [plain_f h10 (.inr h126)]; simp)]
  ·rw [zkq (by omega), if_neg (by omega), if_neg (by rw [plain_f h10 (.inl h32)]; simp)]
  ·rw [zkq (by omega), if_pos (by omega)]
  ·exact zkL (by omega)
theorem l46_ok {gf gl} : ∀ fi ds env hp k, l46 fi ds env hp k -> TaskOk Tryd.prog ⟨⟨.nil, [], []⟩, gf, gl⟩ (.code fi (.loop (lp Tryd.prog 46 0)) ds env hp k) := by
 intro fi ds env hp k h
 obtain ⟨rfl, rfl, h3, h4, h⟩ := zvC h
 obtain ⟨e0, h⟩ := zjh h
 obtain ⟨c1, i, s, hg, hle, hi, hs, hk1, hk2, hk3⟩ := zjf h
 obtain ⟨hn, ht, hro⟩ := hp
 dsimp only at h3 h4 hg
 subst h3 h4
 simp only [Int.toNat_natCast] at hk1 hk2 hk3
 refine zvs [0] [0] [0] [] [] 3 (λ _ : Nat => [V.ptr 0 0]) (λ x => [some (scnI x s)]) (λ x => x <= s.length /\ skipF s x = skipF s i) (λ x => s.length - x) i ⟨by omega, rfl⟩ rfl rfl rfl (Nat.le_refl 3) rfl rfl rfl (λ x => rfl) (λ x => rfl) ?_ (fit1 hg hle) rfl ?_
 ·simp only [pk, e0]
  exact ⟨zqa _, trivial⟩
 ·rintro x ⟨x1, x2⟩
  refine go_sound (G := ⟨⟨.nil, [], []⟩, [(28, sOver)], [(79005, lp Tryd.prog 46 1, l46i)]⟩) qmix qNG zqf (fs_one rfl over_ok) (ls_one rfl l46i_ok) 200 _ (Eq.mpr (f46_loop s x (lc s x).1 (lc s x).2 _) ?_)
  have hb := UInt8.toNat_lt (s.getD x 0)
  have on : ∀ j, x < j -> j <= s.length -> skipF s x = skipF s j -> R46 s k (λ x => x <= s.length /\ skipF s x = skipF s i) x .normal [some (V.ptr 0 0)] 3 [some (scx j s)] := λ j h0 h1 h2 =>
   ⟨j, [0], ⟨h1, by rw [<- x2]; exact h2.symm⟩, by show s.length - j < s.length - x; omega, Nat.le_refl 3, rfl, ⟨zqa _, trivial⟩, scx_fitM⟩
  simp only [decide_eq_true_eq, decide_eq_false_iff_not, Bool.not_eq_true', Bool.not_eq_false', Int.toNat_natCast, zxh]
  rw [show (clsT.getD (s.getD x 0).toNat 0 = 1) = ((s.getD x 0).toNat = 32 \/ (s.getD x 0).toNat = 10) from cls_bla _, show (clsT.getD (s.getD x 0).toNat 0 = 5) = ((s.getD x 0).toNat = 36) from cls_com _]
  refine ⟨trivial, trivial, λ hlt => ⟨⟨by omega, hlt⟩, ⟨by omega, by omega⟩, by omega, trivial, λ hbl => ⟨⟨by omega, by omega, by omega, trivial, trivial⟩, ⟨by omega, by omega⟩, on (x + 1) (by omega) (by omega) ?_⟩, λ hbl => ⟨trivial, λ hcm => ⟨trivial, ⟨by omega, by omega, by omega, trivial, trivial⟩, λ j hj => ?_, λ b hb => ?_⟩, λ hcm => ?_⟩⟩, λ hge => ?_⟩
  ·rw [zkl (by omega), if_pos hbl]
  ·have hh := skip_36 (by omega) hcm
   have h1 := hj
   rw [note_36 (by omega) hcm] at h1
   have h2 := (note_le _ (x + 1) (Nat.le_refl _) (by omega)).1 j h1
   rw [hj] at hh
   exact on j (by omega) (by omega) hh
  ·have hh := skip_36 (by omega) hcm
   rw [hb] at hh
   exact ⟨[0], [scnI b s], Nat.le_refl 3, rfl, rfl, zww, hk3 b (by rw [<- x2]; exact hh)⟩
  ·exact ⟨[V.ptr 0 0], [0], [scnI x s], Nat.le_refl 3, rfl, rfl, ⟨zqa _, trivial⟩, zww, hk2 x (by rw [<- x2, zkl (by omega), if_neg hbl, if_neg hcm])⟩
  ·exact ⟨[V.ptr 0 0], [0], [scnI x s], Nat.le_refl 3, rfl, rfl, ⟨zqa _, trivial⟩, zww, hk1 x (by rw [<- x2]; exact zjW (by omega))⟩
theorem zkk {s : List UInt8} : ∀ (n p : Nat), s.length - p <= n -> p <= s.length -> (∀ j, skipF s p = .ok j -> p <= j /\ j <= s.length) /\ (∀ j, skipF s p = .error j -> p <= j /\ j < s.length) := by
 intro n
 induction n with
 | zero => intro p h hp; rw [zjW (by omega)]; exact ⟨λ j hj => by cases hj; omega, λ j hj => by cases hj⟩
 | succ n ih =>
  intro p h hp
  rcases Nat.lt_or_ge p s.length with hlt | hge
  ·by_cases hbl : (s.getD p 0).toNat = 32 \/ (s.getD p 0).toNat = 10
   ·rw [zkl hlt, if_pos hbl]
    have := ih (p + 1) (by omega) (by omega)
    exact ⟨λ j hj => by have := this.1 j hj; omega, λ j hj => by have := this.2 j hj; omega⟩
   ·by_cases hcm : (s.getD p 0).toNat = 36
    ·rw [skip_36 hlt hcm]
     have h1 := note_36 hlt hcm
     have h2 := note_le (s := s) _ (p + 1) (Nat.le_refl _) (by omega)
     cases hj : noteF s p with
     | ok j =>
      dsimp only
      have h3 := h2.1 j (by rw [<- h1]; exact hj)
      have := ih j (by omega) (by omega)
      exact ⟨λ j hj => by have := this.1 j hj; omega, λ j hj => by have := this.2 j hj; omega⟩
     | error b =>
      dsimp only
      have h3 := h2.2 b (by rw [<- h1]; exact hj)
      exact ⟨λ j hj => (by cases hj), λ j hj => by cases hj; omega⟩
    ·rw [zkl hlt, if_neg hbl, if_neg hcm]
     exact ⟨λ j hj => by cases hj; omega, λ j hj => by cases hj⟩
  ·rw [zjW hge]; exact ⟨λ j hj => by cases hj; omega, λ j hj => by cases hj⟩
def kSkip (s : List UInt8) (i : Nat) : E -> Nat -> Prop := λ e j => (skipF s i = .ok j /\ e = .ret (.tup [])) \/ (skipF s i = .error j /\ e = .pan (wrongV j 120))
theorem skip_run (s : List UInt8) (i : Nat) (hi : i <= s.length) (hs : s.length <= 20000) : TaskOk Tryd.prog ⟨⟨.nil, [], []⟩, [], [(79000, lp Tryd.prog 46 0, l46)]⟩ (.call 46 [.ptr 0 0] (hpS i s) (kN (kSkip s i) s)) := by
 refine go_sound qmix qNG zqf (zxp rfl) (ls_one rfl l46_ok) 200 _ (Eq.mpr (f46_eq s i (lc s i).1 (lc s i).2 _) ?_)
 simp only [Int.toNat_natCast]
 have out : ∀ j : Nat, skipF s i = .ok j -> cN [0, 1, 2] [true, false, false] (λ e cs => ∃ j, cs = [some (scnI j s), none, none] /\ kSkip s i e j) (E.ret (V.tup [])) 3 [some (scx j s), none, none] := λ j hj =>
  cN_scn (s := s) rfl rfl rfl (e' := .ret (.tup [])) trivial rfl (.inl ⟨hj, rfl⟩)
 exact ⟨trivial, ⟨by omega, by omega, by omega, trivial, trivial⟩, out, out, λ b hb => cN_scn (s := s) rfl rfl rfl (e' := .pan (wrongV b 120)) rfl rfl (.inr ⟨hb, rfl⟩)⟩
theorem skip_ok {G : GQ} : ∀ args hp k, sSkip args hp k -> TaskOk Tryd.prog G (.call 46 args hp k) := by
 intro args hp k h
 unfold sSkip at h
 split at h
 ·rename_i id
  obtain ⟨c1, i, s, p, q, hg, hle, hd, hb, hlk, hi, hs, hk1, hk2⟩ := zxc h
  refine zju [] _ (skip_run s i hi hs) rfl hg hle hd hb hlk ⟨rfl, trivial⟩ rfl ?_
  rintro e j (⟨hj, rfl⟩ | ⟨hj, rfl⟩)
  ·exact hk1 j hj
  ·exact hk2 j hj
 ·exact h.elim
end
end Go.Proofs.YtekioipmhhcbhaaDoor
set_option maxRecDepth 20000
namespace Go.Proofs.YtekioipmhhcbhaaDoor
open Go Go.Z Go.Q Go.W6
open Go.Y hiding KE KK KR go Task go_sound
noncomputable section
variable [Ext]
theorem zxy : ∀ (l : List UInt8) (p : Nat) (acc : List UInt8) (bad : Int) (b : List UInt8) (q : Nat) (z : Int), textL l p acc bad = some (b, q, z) -> p <= q /\ q < p + l.length /\ (-1 <= bad -> bad < p -> -1 <= z /\ z < q) := by
 intro l p acc bad
 induction l, p, acc, bad using textL.induct with
 | case1 p acc bad => intro b q z h; unfold textL at h; cases h
 | case2 p acc bad c l h1 => intro b q z h; unfold textL at h; rw [if_pos h1] at h; cases h
 | case3 p acc bad c h1 h2 d l' h3 ih =>
  intro b q z h
  unfold textL at h; rw [if_neg h1, if_pos h2] at h; dsimp only at h; rw [if_pos h3] at h
  have := ih b q z h
  refine ⟨by omega, by simp; omega, λ a b => this.2.2 a (by omega)⟩
 | case4 p acc bad c h1 h2 d l' h3 =>
  intro b q z h
  unfold textL at h; rw [if_neg h1, if_pos h2] at h; dsimp only at h; rw [if_neg h3] at h
  cases h
  refine ⟨by omega, by simp, λ a b => ⟨a, b⟩⟩
 | case5 p acc bad c h1 h2 =>
  intro b q z h
  unfold textL at h; rw [if_neg h1, if_pos h2] at h; dsimp only at h
  cases h
  refine ⟨by omega, by simp, λ a b => ⟨a, b⟩⟩
 | case6 p acc bad c l h1 h2 ih =>
  intro b q z h
  unfold textL at h; rw [if_neg h1, if_neg h2] at h
  have := ih b q z h
  refine ⟨by omega, by simp; omega, λ a b => ?_⟩
  split at this
  ·exact this.2.2 (by omega) (by omega)
  ·exact this.2.2 a (by omega)
theorem text_le {s : List UInt8} {i : Nat} {t : List UInt8} {e : Nat} {bad : Int} (h : textF s i = .ok (t, e, bad)) : i < e /\ e <= s.length /\ -1 <= bad /\ bad < e := by
 unfold textF at h
 split at h
 ·cases h
 ·rename_i b p z hh
  split at h
  ·cases h
  ·cases h
   have := zxy _ _ _ _ _ _ _ hh
   rw [List.length_drop] at this
   have h3 := this.2.2 (by omega) (by omega)
   refine ⟨by omega, by omega, h3.1, by omega⟩
def kText (s : List UInt8) (i : Nat) : E -> Nat -> Prop := λ e j => j = i /\ ((∃ t e' bad, textF s i = .ok (t, e', bad) /\ e = .ret (.tup [.sstr t, .sint .i64 (e' : Nat), .sint .i64 bad])) \/ (∃ x : Nat, textF s i = .error x /\ e = .pan (wrongV i x)))
theorem text_run (s : List UInt8) (i : Nat) (hi : i < s.length) (hs : s.length <= 20000) : TaskOk Tryd.prog ⟨⟨.nil, [], []⟩, [], [(101003, lp Tryd.prog 59 0, l59)]⟩ (.call 59 [.ptr 0 0] (hpS i s) (kN (kText s i) s)) := by
 refine go_sound qmix qNG zqf (zxp rfl) (ls_one rfl l59_ok) 200 _ (Eq.mpr (f59_eq s i (lc s i).1 (lc s i).2 _) ?_)
 simp only [Int.toNat_natCast, zxh, decide_eq_true_eq, decide_eq_false_iff_not]
 have pan : ∀ x : Nat, textF s i = .error x -> cN [0, 1, 2] [true, false, false] (λ e cs => ∃ j, cs = [some (scnI j s), none, none] /\ kText s i e j) (E.pan (V.ifc 58 (V.agg [V.sint .i64 i, V.int .i64 x]))) 4 [some (scx i s), none, none] := λ x hx =>
  cN_scn (s := s) rfl rfl rfl (e' := .pan (wrongV i x)) rfl rfl ⟨rfl, .inr ⟨x, hx, rfl⟩⟩
 have ret : ∀ (v : V) (t : List UInt8) (e : Nat) (bad z : Int), textF s i = .ok (t, e, bad) -> vle v (.sstr t) -> z = e -> cN [0, 1, 2] [true, false, false] (λ e cs => ∃ j, cs = [some (scnI j s), none, none] /\ kText s i e j) (E.ret (V.tup [v, .sint .i64 z, .sint .i64 bad])) 4 [some (scx i s), none, none] := λ v t e bad z hn hv hz =>
  cN_scn (s := s) rfl rfl rfl (e' := .ret (.tup [.sstr t, .sint .i64 e, .sint .i64 bad])) ⟨by cases v <;> exact hv, ⟨rfl, hz⟩, ⟨rfl, rfl⟩, trivial⟩ rfl ⟨rfl, .inl ⟨t, e, bad, hn, rfl⟩⟩
 have le : ∀ (b : List UInt8) (p : Nat) (bad : Int), textL (s.drop (i + 1)) (i + 1) [] (-1) = some (b, p, bad) -> p < s.length := by
  intro b p bad h
  have := zxy _ _ _ _ _ _ _ h
  rw [List.length_drop] at this
  omega
 refine ⟨⟨by omega, by omega⟩, trivial, ⟨by omega, by omega, by omega, trivial, trivial⟩, ⟨trivial, trivial, by omega⟩, λ h => pan 121 ?_, λ p bad h => ⟨?_, ret _ [] (p + 1) bad _ ?_ rfl (by push_cast; rfl)⟩, λ x b p bad h => ⟨trivial, trivial, λ hl => pan 122 ?_, λ hl => ⟨⟨by omega, by simp⟩, ?_, ret _ (x :: b) (p + 1) bad _ ?_ ?_ (by push_cast; rfl)⟩⟩⟩
 ·unfold textF; rw [h]
 ·have := le _ _ _ h; omega
 ·unfold textF; rw [h]; rfl
 ·unfold textF; rw [h]; dsimp only; rw [if_pos (by simp; omega)]
 ·have := le _ _ _ h; omega
 ·unfold textF; rw [h]; dsimp only; rw [if_neg (by simp; omega)]
 ·rw [List.drop_zero, List.take_of_length_le (by simp)]; exact zqa _
theorem text_ok {G : GQ} : ∀ args hp k, sText args hp k -> TaskOk Tryd.prog G (.call 59 args hp k) := by
 intro args hp k h
 unfold sText at h
 split at h
 ·rename_i id
  obtain ⟨c1, i, s, p, q, hg, hle, hd, hb, hlk, hi, hs, h0, hk1, hk2⟩ := zxc h
  refine zju [] _ (text_run s i (by omega) hs) rfl hg hle hd hb hlk ⟨rfl, trivial⟩ rfl ?_
  rintro e j ⟨rfl, ⟨t, e', bad, hn, rfl⟩ | ⟨x, hn, rfl⟩⟩
  ·exact hk1 t e' bad hn
  ·exact hk2 x hn
 ·exact h.elim
theorem zxF : cloC keysC = true := by kernel_rfl
theorem zxi : cloC signsC = true := by kernel_rfl
theorem zwd {c : Chunk} (h : cloC c = true) : chle c c := by
 cases c <;> first | rfl | cases h
theorem scn_call3 {G0 G : GQ} {f : Nat} {args : List V} {hp : Mem} {k : KE} {id i : Nat} {s : List UInt8} {p q : Nat} {c1 : Chunk} (ex : List V) (K0 : E -> Nat -> Prop)
  (h : TaskOk Tryd.prog G0 (.call f (.ptr 0 0 :: ex) ⟨3, ofMo ([0, 1, 2].zip [some (scnI i s), some keysC, some signsC]), []⟩ (cutE [0, 1, 2] (cN [0, 1, 2] [true, true, true] (λ e cs => ∃ j, cs = [some (scnI j s), some keysC, some signsC] /\ K0 e j))))) (hg : G0.g.t = .nil)
  (hc : hp.t.get id = some c1) (hle : chle c1 (.cells (scnL i s p q) 54 262)) (hkey : isKeys hp p q) (hd : nodupB [id, p, q] = true) (hb : below hp.n [id, p, q] = true) (hlk : noLk [id, p, q] hp.ro = true)
  (ha : vles args (.ptr id 0 :: renVs (renF [0, 1, 2] [id, p, q]) ex)) (hex : voks (inI [0, 1, 2]) ex = true)
  (hk : ∀ e j, K0 e j -> k (renE (renF [0, 1, 2] [id, p, q]) e) (putT hp id j s p q keysC signsC)) : TaskOk Tryd.prog G (.call f args hp k) := by
 refine call_fr 3 [0, 1, 2] [id, p, q] [some (scnI i s), some keysC, some signsC] _ h hg (args0 := .ptr 0 0 :: ex) ha ?_ rfl rfl hb rfl hd ?_ ?_ hlk (scn_men hc hle) ?_
 ·show voks (inI [0, 1, 2]) (.ptr 0 0 :: ex) = true
  simp only [voks, vok, show inI [0, 1, 2] 0 = true from rfl, hex]
 ·show coks3 _ _ = true
  simp only [coks3, zxF, zxi]
  rfl
 ·refine ⟨⟨c1, hc, by rw [zvP hd]; exact hle⟩, ⟨keysC, hkey.1, ?_⟩, ⟨signsC, hkey.2, ?_⟩, trivial⟩
  ·rw [zxd zxF]; exact zwd zxF
  ·rw [zxd zxi]; exact zwd zxi
 ·rintro e cs' ⟨j, rfl, hK⟩
  have := hk e j hK
  show k _ ⟨hp.n, Tr.set 20 (Tr.set 20 (Tr.set 20 hp.t q (some (renC _ signsC))) p (some (renC _ keysC))) id (some (renC _ (scnI j s))), hp.ro⟩
  rw [zvP hd, zxd zxF, zxd zxi]
  exact this
theorem cut_end {p : UInt8 -> Bool} {s : List UInt8} {i : Nat} : cutF s i (endF p s i) = (s.drop i).takeWhile p := by
 unfold cutF endF
 rw [List.drop_take, Nat.add_sub_cancel_left]
 exact (List.prefix_iff_eq_take.1 (List.takeWhile_prefix p)).symm
theorem zwO {p : UInt8 -> Bool} : ∀ {l : List UInt8} {b : UInt8}, b ∈ l.takeWhile p -> p b = true
 | [], _, h => by cases h
 | a :: l, b, h => by
  rw [List.takeWhile_cons] at h
  split at h
  ·rcases List.mem_cons.1 h with rfl | h
   ·assumption
   ·exact zwO h
  ·cases h
def tokV (s : List UInt8) (i : Nat) (x : TokR) : V := .tup [.agg [.sint .i64 x.kind, .sstr x.text, .sint .i64 i, .sint .i64 x.to, .sint .i64 (lc s i).1, .sint .i64 (lc s i).2], .sint .i64 x.bad]
def kTok (s : List UInt8) (i : Nat) : E -> Nat -> Prop := λ e j => j = i /\ ((∃ x, tokF s i = .ok x /\ e = .ret (tokV s i x)) \/ (∃ x : Nat, tokF s i = .error x /\ e = .pan (wrongV i x)))
theorem fs_tok {G : GQ} (hl : G.fs = [(56, sName), (57, sLow), (58, sNum), (59, sText)]) : FsOk Tryd.prog G := by
 intro f s hf args hp k h
 rw [hl] at hf
 simp only [lookF] at hf
 split at hf
 ·rename_i hb; cases hf; rw [<- beq_tt hb]; exact name_ok args hp k h
 split at hf
 ·rename_i hb; cases hf; rw [<- beq_tt hb]; exact low_ok args hp k h
 split at hf
 ·rename_i hb; cases hf; rw [<- beq_tt hb]; exact num_ok args hp k h
 split at hf
 ·rename_i hb; cases hf; rw [<- beq_tt hb]; exact text_ok args hp k h
 ·cases hf
theorem hasK_t {k : List UInt8} {l : List (List UInt8)} : (hasK k l = true) = (k ∈ l) := by unfold hasK; simp
theorem hasK_f {k : List UInt8} {l : List (List UInt8)} : (hasK k l = false) = ¬ (k ∈ l) := by unfold hasK; simp
theorem low_len (l : List UInt8) : (Go.Lib.toLowerA l).length = l.length := by unfold Go.Lib.toLowerA; rw [List.length_map]
theorem restB_128 {b : UInt8} (h : restB b = true) : b.toNat < 128 := by
 unfold restB letB digB at h; simp at h; omega
abbrev cTok (s : List UInt8) (i : Nat) := cN [0, 1, 2] [true, true, true] (λ e cs => ∃ j, cs = [some (scnI j s), some keysC, some signsC] /\ kTok s i e j)
theorem cN_tok {e e' : E} {i n : Nat} {s : List UInt8} (he : ele e e') (ho : eok (inI [0, 1, 2]) e' = true) (hK : kTok s i e' i) :
  cTok s i e n [some (scx i s), some keysC, some signsC] :=
 ⟨e', [some (scnI i s), some keysC, some signsC], he, ho, ⟨⟨rfl, rfl, zqo _⟩, zwd zxF, zwd zxi, trivial⟩, rfl, by simp only [coks3, zxF, zxi]; rfl, i, rfl, hK⟩
theorem tok_run (s : List UInt8) (i : Nat) (hi : i < s.length) (hs : s.length <= 20000) : TaskOk Tryd.prog ⟨⟨.nil, [], []⟩, [(56, sName), (57, sLow), (58, sNum), (59, sText)], []⟩ (.call 47 [.ptr 0 0] ⟨3, ofMo ([0, 1, 2].zip [some (scnI i s), some keysC, some signsC]), []⟩ (cutE [0, 1, 2] (cTok s i))) := by
 refine go_sound qmix qNG zqf (fs_tok rfl) (zqz rfl) 300 _ (Eq.mpr (f47_eq s i (lc s i).1 (lc s i).2 _) ?_)
 have hb := UInt8.toNat_lt (s.getD i 0)
 have pan : ∀ x : Nat, tokF s i = .error x -> cTok s i (E.pan (V.ifc 58 (V.agg [V.sint .i64 i, V.int .i64 x]))) 4 [some (scx i s), some keysC, some signsC] := λ x hx =>
  cN_tok (e' := .pan (wrongV i x)) rfl rfl ⟨rfl, .inr ⟨x, hx, rfl⟩⟩
 have ret : ∀ (x : TokR) (kv bv : V) (t : List UInt8) (z : Int), tokF s i = .ok x -> vle kv (.sint .i64 x.kind) -> t = x.text -> z = x.to -> vle bv (.sint .i64 x.bad) -> cTok s i (E.ret (V.tup [V.agg [kv, .sstr t, .sint .i64 i, .sint .i64 z, .sint .i64 (lc s i).1, .sint .i64 (lc s i).2], bv])) 4 [some (scx i s), some keysC, some signsC] := by
  intro x kv bv t z hx hk ht hz hbv
  subst ht hz
  exact cN_tok (e' := .ret (tokV s i x)) ⟨⟨by cases kv <;> exact hk, rfl, ⟨rfl, rfl⟩, ⟨rfl, rfl⟩, ⟨rfl, rfl⟩, ⟨rfl, rfl⟩, trivial⟩, by cases bv <;> exact hbv, trivial⟩ rfl ⟨rfl, .inl ⟨x, hx, rfl⟩⟩
 have pan3 : tokF s i = .error 122 -> cTok s i (E.pan (V.ifc 58 (V.agg [V.sint .i64 i, V.int .i64 122]))) 4 [some (scx i s), some keysC, some signsC] := pan 122
 have pan0 : tokF s i = .error 120 -> cTok s i (E.pan (V.ifc 58 (V.agg [V.sint .i64 i, V.int .i64 120]))) 4 [some (scx i s), some keysC, some signsC] := pan 120
 have v : ∀ n : Nat, vle (V.int .i64 n) (.sint .i64 n) := λ n => ⟨rfl, rfl⟩
 have vm : vle (V.int .i64 (-1)) (.sint .i64 (-1)) := ⟨rfl, rfl⟩
 have hN := zxH (p := restB) (Nat.le_of_lt hi)
 have hN' : i <= nameF s i /\ nameF s i <= s.length := hN
 simp only [decide_eq_true_eq, decide_eq_false_iff_not, Bool.not_eq_true', Bool.not_eq_false']
 simp only [Int.toNat_natCast, zxh, show ((i : Int) + 2).toNat = i + 2 by omega, cut_fold]
 simp only [hasK_t, hasK_f]
 rw [show (clsT.getD (s.getD i 0).toNat 0 = 2) = (letB (s.getD i 0) = true) from cls_let _, show (clsT.getD (s.getD i 0).toNat 0 = 3) = (digB (s.getD i 0) = true) from cls_dig _, show (clsT.getD (s.getD i 0).toNat 0 = 4) = ((s.getD i 0).toNat = 34) from cls_quo _, show (clsT.getD (s.getD i 0).toNat 0 = 6) = (signB (s.getD i 0) = true) from cls_sig _]
 have hl := cut_len (s := s) (i := i) hN'.2
 have hlow := low_len (cutF s i (nameF s i))
 refine ⟨⟨by omega, by omega⟩, ⟨by omega, by omega⟩, by omega, trivial, λ hlet => ?_, λ hlet => ⟨trivial, λ hdig => ?_, λ hdig => ⟨trivial, λ hq => ?_, λ hq => ⟨trivial, λ hsg => ?_, λ hsg => ?_⟩⟩⟩⟩
 ·-- a letter
  refine ⟨⟨by omega, by omega, by omega, trivial, trivial⟩, ⟨by omega, by omega, by omega⟩, ⟨by omega, λ b hb => ?_⟩, trivial, λ hk => ret ⟨2, Go.Lib.toLowerA (cutF s i (nameF s i)), nameF s i, -1⟩ _ _ _ _ ?_ (v 2) rfl rfl vm, λ hk => ⟨trivial, trivial, λ h24 => pan3 ?_, λ h24 => ret ⟨1, Go.Lib.toLowerA (cutF s i (nameF s i)), nameF s i, -1⟩ _ _ _ _ ?_ (v 1) rfl rfl vm⟩⟩
  ·have hb' : b ∈ cutF s i (nameF s i) := hb
   unfold nameF at hb'
   rw [cut_end] at hb'
   exact restB_128 (zwO hb')
  ·unfold tokF; dsimp only; rw [if_pos hlet, if_pos hk]
  ·unfold tokF; dsimp only; rw [if_pos hlet, if_neg hk, if_pos (by omega)]
  ·unfold tokF; dsimp only; rw [if_pos hlet, if_neg hk, if_neg (by omega)]
 ·-- a digit
  refine ⟨⟨by omega, by omega, by omega, trivial, trivial⟩, λ x t e hn => ret ⟨x, t, e, -1⟩ _ _ _ _ ?_ (zqa _) rfl rfl vm, λ hn => pan3 ?_⟩
  ·unfold tokF; dsimp only; rw [if_neg hlet, if_pos hdig, hn]
  ·unfold tokF; dsimp only; rw [if_neg hlet, if_pos hdig, hn]
 ·-- a string
  refine ⟨⟨by omega, by omega, by omega, trivial, trivial⟩, by omega, λ t e bad hn => ret ⟨5, t, e, bad⟩ _ _ _ _ ?_ (v 5) rfl rfl (zqa _), λ e hn => pan e ?_⟩
  ·unfold tokF; dsimp only; rw [if_neg hlet, if_neg hdig, if_pos hq, hn]
  ·unfold tokF; dsimp only; rw [if_neg hlet, if_neg hdig, if_pos hq, hn]
 ·-- a sign
  have two : i + 2 <= s.length -> cutF s i (i + 2) ∈ signsL -> signN s i = 2 := λ h1 h2 => if_pos ⟨h1, h2⟩
  have one : ¬ (i + 2 <= s.length /\ cutF s i (i + 2) ∈ signsL) -> signN s i = 1 := λ h => if_neg h
  have tk : ∀ n, signN s i = n -> cutF s i (i + n) ∈ signsL -> tokF s i = .ok ⟨6, cutF s i (i + n), i + n, -1⟩ := by
   intro n hn hc
   unfold tokF; dsimp only; rw [if_neg hlet, if_neg hdig, if_neg hq, if_pos hsg, hn, if_pos hc]
  have te : ∀ n, signN s i = n -> ¬ cutF s i (i + n) ∈ signsL -> tokF s i = .error 120 := by
   intro n hn hc
   unfold tokF; dsimp only; rw [if_neg hlet, if_neg hdig, if_neg hq, if_pos hsg, hn, if_neg hc]
  refine ⟨⟨by omega, by omega⟩, trivial, trivial, λ hlt => ⟨⟨by omega, by omega⟩, ⟨by omega, by omega, by omega⟩, trivial, λ hk => ⟨⟨by omega, by omega⟩, ⟨by omega, by omega, by omega⟩, ⟨by omega, by omega⟩, trivial, λ hk2 => ret _ _ _ _ _ (tk 2 (two (by omega) hk) hk2) (v 6) rfl (by push_cast; rfl) vm, λ hk2 => absurd hk hk2⟩, λ hk => ⟨⟨by omega, by omega⟩, ⟨by omega, by omega, by omega⟩, ⟨by omega, by omega⟩, trivial, λ hk2 => ret _ _ _ _ _ (tk 1 (one λ h => hk h.2) hk2) (v 6) rfl (by push_cast; rfl) vm, λ hk2 => pan0 (te 1 (one λ h => hk h.2) hk2)⟩⟩, λ hlt => ⟨⟨by omega, by omega⟩, ⟨by omega, by omega, by omega⟩, ⟨by omega, by omega⟩, trivial, λ hk2 => ret _ _ _ _ _ (tk 1 (one λ h => hlt (by omega)) hk2) (v 6) rfl (by push_cast; rfl) vm, λ hk2 => pan0 (te 1 (one λ h => hlt (by omega)) hk2)⟩⟩
 ·refine pan0 ?_
  unfold tokF; dsimp only; rw [if_neg hlet, if_neg hdig, if_neg hq, if_neg hsg]
theorem tok_ok {G : GQ} : ∀ args hp k, sTok args hp k -> TaskOk Tryd.prog G (.call 47 args hp k) := by
 intro args hp k h
 unfold sTok at h
 split at h
 ·rename_i id
  obtain ⟨c1, i, s, p, q, hg, hle, hd, hb, hlk, hi, hs, hkey, h0, hk1, hk2⟩ := zxc h
  refine scn_call3 [] _ (tok_run s i (by omega) hs) rfl hg hle hkey hd hb hlk ⟨rfl, trivial⟩ rfl ?_
  rintro e j ⟨rfl, ⟨x, hn, rfl⟩ | ⟨x, hn, rfl⟩⟩
  ·exact hk1 x hn
  ·exact hk2 x hn
 ·exact h.elim
end
end Go.Proofs.YtekioipmhhcbhaaDoor
set_option maxRecDepth 20000
namespace Go.Proofs.YtekioipmhhcbhaaDoor
open Go Go.Z Go.Q Go.W6
open Go.Y hiding KE KK KR go Task go_sound
noncomputable section
variable [Ext]
theorem numF_le {s : List UInt8} {i x e : Nat} {t : List UInt8} (hd : isAt digB s i = true) (h : numF s i = some (x, t, e)) : i < e /\ e <= s.length := by
 obtain ⟨h1, h2⟩ := zqQ hd
 have h3 := zxH (p := digB) (s := s) (i := i + 1) h1
 have h4 : digF s i = endF digB s (i + 1) := h2
 unfold numF at h
 dsimp only at h
 split at h
 ·split at h
  ·cases h
  ·cases h; omega
 ·rename_i hh
  split at h
  ·cases h
  ·cases h
   have h5 : isAt digB s (digF s i + 1) = true := by
    cases hq : isAt digB s (digF s i + 1) with
    | true => rfl
    | false => rw [hq, Bool.and_false] at hh; exact absurd rfl hh
   have h6 := (zqQ h5).1
   have h7 := zxH (p := digB) (s := s) (i := digF s i + 1) (by omega)
   have h8 : digF s (digF s i + 1) = endF digB s (digF s i + 1) := rfl
   omega
theorem tok_le {s : List UInt8} {i : Nat} {x : TokR} (hi : i < s.length) (h : tokF s i = .ok x) : i < x.to /\ x.to <= s.length /\ x.bad < x.to := by
 unfold tokF at h
 dsimp only at h
 split at h
 ·rename_i hl
  have h1 : isAt restB s i = true := by rw [zxf hi]; unfold restB; rw [hl]; rfl
  obtain ⟨h2, h3⟩ := zqQ h1
  have h4 := zxH (p := restB) (s := s) (i := i + 1) h2
  have h5 : nameF s i = endF restB s (i + 1) := h3
  split at h
  ·cases h; dsimp only; omega
  ·split at h
   ·cases h
   ·cases h; dsimp only; omega
 ·split at h
  ·rename_i hd
   split at h
   ·rename_i hn; cases h; have := numF_le (by rw [zxf hi]; exact hd) hn; dsimp only; omega
   ·cases h
  ·split at h
   ·split at h
    ·rename_i hn; cases h; have := text_le hn; dsimp only; omega
    ·cases h
   ·split at h
    ·split at h
     ·cases h
      unfold signN
      split <;> dsimp only <;> omega
     ·cases h
    ·cases h
def zqw (s : List UInt8) : Scn := runF s (s.length + 1)
def endB : Scn -> Bool
 | .go _ _ => false
 | _ => true
theorem run_stay {s : List UInt8} {n : Nat} {r : Scn} (hr : endB r = true) (h : runF s n = r) : ∀ m, runF s (n + m) = r := by
 intro m
 induction m with
 | zero => exact h
 | succ m ih =>
  show (match runF s (n + m) with | .go i l => stepF s i l | r => r) = r
  rw [ih]
  cases r with
  | go i l => cases hr
  | _ => rfl
theorem scan_end {s : List UInt8} {i : Nat} {l : List Tok} {r : Scn} (hr : endB r = true) (h : runF s l.length = .go i l) (hl : l.length <= s.length) (hs : stepF s i l = r) : zqw s = r := by
 have h1 : runF s (l.length + 1) = r := by
  show (match runF s l.length with | .go i l => stepF s i l | r => r) = r
  rw [h]; exact hs
 have := run_stay hr h1 (s.length - l.length)
 unfold zqw
 rw [<- this]
 congr 1
 omega
theorem step_skip {s : List UInt8} {i b : Nat} {l : List Tok} (h : skipF s i = .error b) : stepF s i l = .err b 120 := by unfold stepF; rw [h]
theorem zkB {s : List UInt8} {i j : Nat} {l : List Tok} (h : skipF s i = .ok j) (hj : s.length <= j) : stepF s i l = .done l := by unfold stepF; rw [h]; dsimp only; rw [if_pos hj]
theorem step_tok {s : List UInt8} {i j e : Nat} {l : List Tok} (h : skipF s i = .ok j) (hj : ¬ s.length <= j) (ht : tokF s j = .error e) : stepF s i l = .err j e := by unfold stepF; rw [h]; dsimp only; rw [if_neg hj, ht]
theorem step_many {s : List UInt8} {i j : Nat} {x : TokR} {l : List Tok} (h : skipF s i = .ok j) (hj : ¬ s.length <= j) (ht : tokF s j = .ok x) (hn : 6000 <= l.length) : stepF s i l = .err j 3 := by unfold stepF; rw [h]; dsimp only; rw [if_neg hj, ht]; dsimp only; rw [if_pos hn]
theorem step_bad {s : List UInt8} {i j : Nat} {x : TokR} {l : List Tok} (h : skipF s i = .ok j) (hj : ¬ s.length <= j) (ht : tokF s j = .ok x) (hn : ¬ 6000 <= l.length) (hb : 0 <= x.bad) : stepF s i l = .err x.bad 120 := by unfold stepF; rw [h]; dsimp only; rw [if_neg hj, ht]; dsimp only; rw [if_neg hn, if_pos hb]
theorem step_go {s : List UInt8} {i j : Nat} {x : TokR} {l : List Tok} (h : skipF s i = .ok j) (hj : ¬ s.length <= j) (ht : tokF s j = .ok x) (hn : ¬ 6000 <= l.length) (hb : ¬ 0 <= x.bad) : stepF s i l = .go x.to (l ++ [⟨x.kind, x.text, j, x.to⟩]) := by unfold stepF; rw [h]; dsimp only; rw [if_neg hj, ht]; dsimp only; rw [if_neg hn, if_neg hb]
def pkS : List Nat -> Tr Chunk -> Option (List Chunk)
 | [], _ => some []
 | i :: ids, t => match t.get i, pkS ids t with | some c, some l => some (c :: l) | _, _ => none
theorem pkS_ok : ∀ {ids : List Nat} {t : Tr Chunk} {l : List Chunk}, pkS ids t = some l -> pk ids t = l.map some
 | [], t, l, h => by cases h; rfl
 | i :: ids, t, l, h => by
  unfold pkS at h
  split at h
  ·rename_i c l' h1 h2
   cases h
   simp only [pk, h1, pkS_ok h2, List.map_cons]
  ·cases h
abbrev ids45 : List Nat := [1, 4, 5, 6, 7, 9, 10]
abbrev boxC : Chunk := .cells [.ptr 6 0] 48 1
def isLoop (c : Option Chunk) : Prop := match c with
 | some (.loop st pend env nt ps a b d) => env.get 2 = some (.ptr 1 0) /\ some (Chunk.loop st pend (ofE [(2, .ptr 1 0)]) nt ps a b d) = some loopC
 | _ => False
theorem isLoop_inv {c : Option Chunk} (h : isLoop c) : ∃ c1, c = some c1 /\ chle c1 loopC := by
 unfold isLoop at h
 split at h
 ·rename_i st pend env nt ps a b d
  obtain ⟨h1, h2⟩ := h
  refine ⟨_, rfl, ?_⟩
  rw [<- Option.some.inj h2]
  refine ⟨⟨rfl, rfl, rfl, rfl, rfl, rfl, rfl⟩, λ t v e => ?_⟩
  have e : (Tr.set 20 (Tr.nil : Tr V) 2 (some (.ptr 1 0))).get t = some v := e
  rw [Tr.get_set _ _ _ _ _ (by decide)] at e
  split at e
  ·rename_i ht; subst ht; cases e; exact h1
  ·rw [Tr.get_nil] at e; cases e
 ·exact h.elim
def l45 (fi : FI) (ds : List DV) (env : Tr V) (hp : Mem) (k : KK) : Prop := match Nat.beq fi.nt 54, fi.ro, ds, Nat.beq hp.n 10, noLk ids45 hp.ro, pkS [0, 2, 3, 8] hp.t with
 | true, none, [], true, true, some rc =>
  (env.get 0 = some (.yld 9) /\ env.get 1 = some (.ptr 7 0)) /\ numAt env 3 λ n => n = 0 /\
  (hp.t.get 1 = some (.cells [.nils] 30 1) /\ hp.t.get 4 = some keysC /\ hp.t.get 5 = some signsC /\ hp.t.get 7 = some boxC /\ isLoop (hp.t.get 9)) /\
  scnAt hp 6 λ a s p q => match Nat.beq p 4, Nat.beq q 5 with
   | true, true => a = 0 /\
    (zqw s = .done [] -> k .ret [] (ofE ([0, 1, 3].zip (le45 0))) ⟨11, ofM ([1, 9].zip [.cells [.nils] 30 1, loopC] ++ [0, 2, 3, 8].zip rc), hp.ro⟩) /\
    (∀ t l, zqw s = .done (t :: l) -> k .ret [] (ofE ([0, 1, 3].zip (le45 (l.length + 1)))) ⟨11, ofM ([1, 9, 10].zip [.cells [.ssl 10 0 (l.length + 1) 6] 30 1, loopC, .rows ((t :: l).map (rowTok s)) shTok 34] ++ [0, 2, 3, 8].zip rc), hp.ro⟩) /\
    (∀ a e, zqw s = .err a e -> ∀ v, k (.panic (wrongV a e)) [] .nil ⟨11, ofM ([1, 9].zip [.cells [v] 30 1, loopC] ++ [0, 2, 3, 8].zip rc), hp.ro⟩ /\ k (.panic (wrongV a e)) [] .nil ⟨12, ofM ([1, 9].zip [.cells [v] 30 1, loopC] ++ [0, 2, 3, 8].zip rc), hp.ro⟩)
   | _, _ => False
 | _, _, _, _, _, _ => False
theorem zqb (c : Chunk) : chle c c := by
 cases c <;> first | rfl | exact ⟨rfl, rfl, zqo _⟩ | exact ⟨⟨rfl, rfl, rfl, rfl, rfl, rfl, rfl⟩, λ _ _ h => h⟩
theorem loopC_ren (f : Nat -> Nat) : renC f loopC = loopC := by unfold loopC; split <;> rfl
theorem ren_scnC {f : Nat -> Nat} {i : Nat} {s : List UInt8} (h4 : f 4 = 4) (h5 : f 5 = 5) : renC f (scnC i s) = scnC i s := by
 show Chunk.cells (renVs f (scnL i s 4 5)) 54 262 = _
 rw [ren_scn, h4, h5]; rfl
structure S45 where
 i : Nat
 l : List Tok
def P45 (s : List UInt8) (x : S45) : Prop := runF s x.l.length = .go x.i x.l /\ x.i <= s.length /\ x.l.length <= x.i
theorem fs_45 {G : GQ} (hl : G.fs = [(46, sSkip), (47, sTok), (28, sOver)]) : FsOk Tryd.prog G := by
 intro f s hf args hp k h
 rw [hl] at hf
 simp only [lookF] at hf
 split at hf
 ·rename_i hb; cases hf; rw [<- beq_tt hb]; exact skip_ok args hp k h
 split at hf
 ·rename_i hb; cases hf; rw [<- beq_tt hb]; exact tok_ok args hp k h
 split at hf
 ·rename_i hb; cases hf; rw [<- beq_tt hb]; exact over_ok args hp k h
 ·cases hf
theorem scn45_le {c1 : Chunk} {i : Nat} {s : List UInt8} {p q : Nat} (h : chle c1 (.cells (scnL i s p q) 54 262)) (hp : p = 4) (hq : q = 5) : chle c1 (scnC i s) := by subst hp hq; exact h
abbrev look45 : List Nat := [1, 4, 5, 6, 7, 9, 10, 11, 12, 13, 14, 15, 16]
abbrev R45 (ro : List Lk) (s : List UInt8) (rc : List Chunk) (k : KK) (x : S45) := rMv ro [0, 1, 3] ids45 look45 [0, 2, 3, 8] rc (λ x : S45 => le45 x.l.length) (λ x => lm45 s x.i x.l) 10 11 (P45 s) (λ x => s.length - x.i) k x
abbrev tokR (s : List UInt8) (j : Nat) (x : TokR) : List V := [.sint .i64 x.kind, .sstr x.text, .sint .i64 j, .sint .i64 x.to, .sint .i64 (lc s j).1, .sint .i64 (lc s j).2]
theorem row_ok (s : List UInt8) (t : Tok) : shR shTok (rowTok s t) := ⟨_, _, rfl, ⟨_, .inl rfl⟩, _, _, rfl, ⟨_, .inl rfl⟩, _, _, rfl, ⟨_, .inl rfl⟩, _, _, rfl, ⟨_, .inl rfl⟩, _, _, rfl, ⟨_, .inl rfl⟩, _, _, rfl, ⟨_, .inl rfl⟩, rfl⟩
theorem coks45 (s : List UInt8) (x : S45) : coks2 (okI ids45 10) 10 ids45 (lm45 s x.i x.l) = true := by
 obtain ⟨i, l⟩ := x
 cases l with
 | nil => kernel_rfl
 | cons t l => kernel_rfl
theorem onTo {j e : Nat} (h : j <= e) : ((j : Int) + ((e : Int) - j)).toNat = e := by omega
theorem zkZ {P : Program} {gv gf gl gf' gl'} {fi : FI} {c : Code} {ds : List DV} {env : Tr V} {hp : Mem} {k : KK} (h : TaskOk P ⟨⟨.nil, [], []⟩, gf', gl'⟩ (.code fi c ds env hp k)) : TaskOk P ⟨gv, gf, gl⟩ (.code fi c ds env hp k) :=
 λ ρ W ds' L K ro hG hH hE hF hk => h ρ W ds' L K ro (λ g id e => by cases e) hH hE hF hk
set_option maxHeartbeats 2000000 in
theorem l45_ok {gf gl gv} : ∀ fi ds env hp k, l45 fi ds env hp k -> TaskOk Tryd.prog ⟨gv, gf, gl⟩ (.code fi (.loop (lp Tryd.prog 45 0)) ds env hp k) := by
 intro fi ds env hp k h
 unfold l45 at h
 split at h
 ·rename_i rc g1 g2 g3 g4 g5
  obtain ⟨⟨e0, e1⟩, h⟩ := h
  obtain ⟨v, n, e2, hv, rfl, ⟨m1, m4, m5, m7, m9⟩, h⟩ := zxO h
  obtain ⟨c1, i, s, p, q, hg, hle, hd, hb, hlk, hi, hs, h⟩ := zxc h
  split at h
  ·rename_i q1 q2
   obtain ⟨h0, hk0, hk1, hk2⟩ := h
   have q1 := beq_tt q1
   have q2 := beq_tt q2
   have h0 : i = 0 := by omega
   subst h0
   obtain ⟨hn, ht, hro⟩ := hp
   obtain ⟨nt, ro⟩ := fi
   dsimp only at g1 g2 g3 g4 g5 hg m1 m4 m5 m7 m9 hk0 hk1 hk2
   have g3 := beq_tt g3
   have g1 := beq_tt g1
   subst g3 g1 g2
   have e3 := pkS_ok g5
   obtain ⟨c9, m9, m9'⟩ := isLoop_inv m9
   refine loop_fv [0, 1, 3] ids45 look45 [0, 2, 3, 8] rc 11 (λ x : S45 => le45 x.l.length) (λ x => lm45 s x.i x.l) (P45 s) (λ x => s.length - x.i) ⟨0, []⟩ ⟨rfl, Nat.zero_le _, Nat.le_refl _⟩ rfl rfl rfl (Nat.le_succ 10) g4 rfl rfl (λ x => rfl) (coks45 s) ?_ ?_ e3 ?_
   ·simp only [pk, e0, e1, e2]
    exact ⟨zqa _, zqa _, hv, trivial⟩
   ·exact ⟨⟨_, m1, zqb _⟩, ⟨_, m4, zqb _⟩, ⟨_, m5, zqb _⟩, ⟨c1, hg, scn45_le hle q1 q2⟩, ⟨_, m7, zqb _⟩, ⟨_, m9, m9'⟩, trivial⟩
   ·rintro ⟨i, l⟩ ⟨p1, p2, p3⟩
    dsimp only at p1 p2 p3
    have pan : ∀ (a : Int) (e : Nat) (m : Nat) (vs : List (Option V)) (cs : List (Option Chunk)) (v : V), zqw s = .err a e -> (m = 11 \/ m = 12) -> lookC look45 cs 1 = some (.cells [v] 30 1) -> lookC look45 cs 9 = some loopC -> R45 hro s rc k ⟨i, l⟩ (.panic (.ifc 58 (.agg [.sint .i64 a, .int .i64 e]))) vs m cs := by
     intro a e m vs cs v hE hm h1 h9
     rcases hm with rfl | rfl
     ·exact ⟨[1, 9], [.cells [v] 30 1, loopC], by decide, rfl, rfl, ⟨⟨_, h1, zqb _⟩, ⟨_, h9, zqb _⟩, trivial⟩, (hk2 a e hE v).1⟩
     ·exact ⟨[1, 9], [.cells [v] 30 1, loopC], by decide, rfl, rfl, ⟨⟨_, h1, zqb _⟩, ⟨_, h9, zqb _⟩, trivial⟩, (hk2 a e hE v).2⟩
    have fin : ∀ r, endB r = true -> stepF s i l = r -> zqw s = r := λ r h1 h2 => scan_end h1 p1 (by omega) h2
    have nxP : ∀ (j : Nat) (x : TokR), skipF s i = .ok j -> ¬ s.length <= j -> tokF s j = .ok x -> ¬ 6000 <= l.length -> ¬ 0 <= x.bad -> P45 s ⟨x.to, l ++ [⟨x.kind, x.text, j, x.to⟩]⟩ /\ s.length - x.to < s.length - i := by
     intro j x h1 h2 h3 h4 h5
     have h6 := (zkk _ i (Nat.le_refl _) p2).1 j h1
     have h7 := tok_le (by omega) h3
     refine ⟨⟨?_, h7.2.1, ?_⟩, by omega⟩
     ·show runF s (l ++ [_]).length = _
      rw [List.length_append]
      show (match runF s l.length with | .go i l => stepF s i l | r => r) = _
      rw [p1]
      exact step_go h1 h2 h3 h4 h5
     ·show (l ++ [_]).length <= x.to
      rw [List.length_append]; simp; omega
    have lenj : ∀ j, skipF s i = .ok j -> i <= j /\ j <= s.length := λ j h => (zkk _ i (Nat.le_refl _) p2).1 j h
    cases l with
    | nil =>
     refine zkZ (gf' := [(46, sSkip), (47, sTok), (28, sOver)]) (gl' := []) ?_
     refine go_sound (G := ⟨⟨.nil, [], []⟩, [(46, sSkip), (47, sTok), (28, sOver)], []⟩) qmix qNG zqf (fs_45 rfl) (zqz rfl) 200 _ (Eq.mpr (f45_loop0 s ((0 : Nat) : Int) i (lc s i).1 (lc s i).2 _) ?_)
     simp only [decide_eq_true_eq, decide_eq_false_iff_not, Bool.not_eq_true', Bool.not_eq_false']
     simp only [Int.toNat_natCast]
     refine ⟨⟨by omega, by omega, by omega, trivial, trivial⟩, λ j hj => ⟨trivial, trivial, λ hle => ?_, λ hlt => ⟨⟨by omega, by have := lenj j hj; omega, by omega, trivial, trivial⟩, ⟨trivial, trivial⟩, by omega, λ x hx => ⟨trivial, λ h6 => ?_, λ h6 => ⟨trivial, λ hb => ?_, λ hb => ?_⟩⟩, λ e he => ?_⟩⟩, λ b hb => ?_⟩
     ·exact ⟨le45 0, [1, 9], [.cells [.nils] 30 1, loopC], by decide, rfl, rfl, ⟨zqa _, zqa _, zqa _, trivial⟩, ⟨⟨_, rfl, zqb _⟩, ⟨_, rfl, zqb _⟩, trivial⟩, hk0 (fin _ rfl (zkB hj (by omega)))⟩
     ·exact absurd h6 (by decide)
     ·exact pan x.bad 120 12 _ _ .nils (fin _ rfl (step_bad hj (by omega) hx (by simp) hb)) (.inr rfl) rfl rfl
     ·obtain ⟨n1, n2⟩ := nxP j x hj (by omega) hx (by simp) hb
      have h7 := tok_le (by omega) hx
      have h8 := lenj j hj
      rw [onTo (by omega)]
      refine ⟨⟨by omega, by omega⟩, ⟨by omega, by have := lenj j hj; omega, by omega, trivial, trivial⟩, ⟨by omega, by omega⟩, ⟨by omega, by omega⟩, ?_⟩
      refine ⟨⟨x.to, [⟨x.kind, x.text, j, x.to⟩]⟩, [1, 4, 5, 6, 7, 9, 14], n1, n2, by decide, rfl, ⟨zqa _, zqa _, ⟨rfl, rfl⟩, trivial⟩, ⟨_, rfl, ?_⟩, ⟨_, rfl, ?_⟩, ⟨_, rfl, ?_⟩, ⟨_, rfl, ?_⟩, ⟨_, rfl, ?_⟩, ⟨_, rfl, ?_⟩, ⟨_, rfl, ?_⟩, trivial⟩
      ·exact ⟨rfl, rfl, ⟨rfl, rfl, rfl, rfl⟩, trivial⟩
      ·rw [zxd zxF]; exact zqb _
      ·rw [zxd zxi]; exact zqb _
      ·rw [ren_scnC rfl rfl]; exact zqb _
      ·exact zqb _
      ·rw [loopC_ren]; exact zqb _
      ·exact ⟨rfl, rfl, λ r hr => by rw [List.mem_singleton.1 hr]; exact row_ok s _, zqo _⟩
     ·exact pan j e 11 _ _ .nils (fin _ rfl (step_tok hj (by omega) he)) (.inl rfl) rfl rfl
     ·exact pan b 120 11 _ _ .nils (fin _ rfl (step_skip hb)) (.inl rfl) rfl rfl
    | cons t l =>
     have hlen : ((t :: l).map (rowTok s)).length = l.length + 1 := by simp
     have p3' : l.length + 1 <= i := p3
     refine zkZ (gf' := [(46, sSkip), (47, sTok), (28, sOver)]) (gl' := []) ?_
     refine go_sound (G := ⟨⟨.nil, [], []⟩, [(46, sSkip), (47, sTok), (28, sOver)], []⟩) qmix qNG zqf (fs_45 rfl) (zqz rfl) 200 _ (Eq.mpr (f45_loop1 s ((t :: l).map (rowTok s)) (l.length + 1) ((l.length + 1 : Nat) : Int) i (lc s i).1 (lc s i).2 _) ?_)
     simp only [decide_eq_true_eq, decide_eq_false_iff_not, Bool.not_eq_true', Bool.not_eq_false']
     simp only [Int.toNat_natCast]
     refine ⟨⟨by omega, by omega, by omega, trivial, trivial⟩, λ j hj => ⟨trivial, trivial, λ hle => ?_, λ hlt => ⟨⟨by omega, by have := lenj j hj; omega, by omega, trivial, trivial⟩, ⟨trivial, trivial⟩, by omega, λ x hx => ⟨trivial, λ h6 => ?_, λ h6 => ⟨trivial, λ hb => ?_, λ hb => ?_⟩⟩, λ e he => ?_⟩⟩, λ b hb => ?_⟩
     ·exact ⟨le45 (l.length + 1), [1, 9, 10], [.cells [.ssl 10 0 (l.length + 1) 6] 30 1, loopC, .rows ((t :: l).map (rowTok s)) shTok 34], by decide, rfl, rfl, ⟨zqa _, zqa _, ⟨rfl, by push_cast; rfl⟩, trivial⟩, ⟨⟨_, rfl, zqb _⟩, ⟨_, rfl, zqb _⟩, ⟨_, rfl, zqb _⟩, trivial⟩, hk1 t l (fin _ rfl (zkB hj (by omega)))⟩
     ·exact pan j 3 12 _ _ (.ssl 10 0 (l.length + 1) 6) (fin _ rfl (step_many hj (by omega) hx (by show 6000 <= l.length + 1; omega))) (.inr rfl) rfl rfl
     ·exact pan x.bad 120 12 _ _ (.ssl 10 0 (l.length + 1) 6) (fin _ rfl (step_bad hj (by omega) hx (by show ¬ 6000 <= l.length + 1; omega) hb)) (.inr rfl) rfl rfl
     ·obtain ⟨n1, n2⟩ := nxP j x hj (by omega) hx (by show ¬ 6000 <= l.length + 1; omega) hb
      rw [List.cons_append] at n1
      have h7 := tok_le (by omega) hx
      have h8 := lenj j hj
      rw [onTo (by omega)]
      refine ⟨⟨⟨by omega, by omega⟩, trivial, by omega, by omega⟩, ⟨by omega, by omega⟩, ⟨by omega, by have := lenj j hj; omega, by omega, trivial, trivial⟩, ⟨by omega, by omega⟩, ⟨by omega, by omega⟩, ?_⟩
      refine ⟨⟨x.to, t :: (l ++ [⟨x.kind, x.text, j, x.to⟩])⟩, [1, 4, 5, 6, 7, 9, 14], n1, n2, by decide, rfl, ⟨zqa _, zqa _, ⟨rfl, ?_⟩, trivial⟩, ⟨_, rfl, ?_⟩, ⟨_, rfl, ?_⟩, ⟨_, rfl, ?_⟩, ⟨_, rfl, ?_⟩, ⟨_, rfl, ?_⟩, ⟨_, rfl, ?_⟩, ⟨_, rfl, ?_⟩, trivial⟩
      ·simp
      ·refine ⟨rfl, rfl, ?_, trivial⟩
       show V.ssl 14 0 (l.length + 1 + 1) 6 = V.ssl 14 0 ((l ++ [_]).length + 1) 6
       simp
      ·rw [zxd zxF]; exact zqb _
      ·rw [zxd zxi]; exact zqb _
      ·rw [ren_scnC rfl rfl]; exact zqb _
      ·exact zqb _
      ·rw [loopC_ren]; exact zqb _
      ·show Chunk.rows (List.take (l.length + 1) ((t :: l).map (rowTok s)) ++ [tokR s j x]) shTok 34 = Chunk.rows ((t :: (l ++ [⟨x.kind, x.text, j, x.to⟩])).map (rowTok s)) shTok 34
       rw [List.take_of_length_le (by omega)]
       simp [rowTok]
     ·exact pan j e 11 _ _ (.ssl 10 0 (l.length + 1) 6) (fin _ rfl (step_tok hj (by omega) he)) (.inl rfl) rfl rfl
     ·exact pan b 120 11 _ _ (.ssl 10 0 (l.length + 1) 6) (fin _ rfl (step_skip hb)) (.inl rfl) rfl rfl
  ·exact h.elim
 ·exact h.elim
end
end Go.Proofs.YtekioipmhhcbhaaDoor
