/- LexLines: the law's main loop. -/
import Derived.Test.YtekioipmhhcbhaaDoorV7
set_option linter.unusedVariables false
set_option linter.unusedSectionVars false
set_option linter.unusedSimpArgs false
set_option maxRecDepth 100000
set_option maxHeartbeats 8000000
namespace Go.Proofs.YtekioipmhhcbhaaDoor
open Go Go.Z Go.Q Go.W6
open Go.Y hiding KE KK KR go Task go_sound
noncomputable section
variable [Ext]
def bs2 : List UInt8 -> V
 | [] => .nils
 | y :: b => .ssl 2 0 (b.length + 1) 1
def bc2 : List UInt8 -> Option Chunk
 | [] => none
 | y :: b => some (.byt (y :: b) 5)
def leL (s note : List UInt8) (hs : List (List V)) (n : Nat) (x : SL) : List V := leM s note hs [.int .i64] n (bs2 x.b) x.k x.a x.i
def lmL (xs : List (List V)) (x : SL) : List (Option Chunk) := [some (tokC xs), bc2 x.b]
def bcs : List UInt8 -> List Nat × List Chunk
 | [] => ([], [])
 | y :: b => ([2], [.byt (y :: b) 5])
def lMain (fi : FI) (ds : List DV) (env : Tr V) (hp : Mem) (k : KK) : Prop := atV 195 2 [1, 2] [0] fi ds hp λ rc => match pk tsM env, hp.t.get 1 with
 | [some v0, some (.xs hs [.int .i64]), some v2, some (.bool true), some (.ssl 1 0 n 6), some .nils, some v6, some v7, some v8], some (.rowsO xs sh1 t0) => match strOf v0, strOf v2, int64 v6, int64 v7, int64 v8 with
  | some s, some note, some z, some a, some i => (sh1 = shTok /\ t0 = 34 /\ z = 0 /\ a = 0 /\ i = 0 /\ n = xs.length /\ n <= 2000 /\ s.length <= 2000 /\ note.length <= 100) /\
    ∃ l : List Tok, xs = l.map (rowTok s) /\ (∀ (z a i : Int), k (.exit 2) [] (ofE (tsM.zip (leM s note hs [.int .i64] n (bs2 (outF note s 0 l (nsOf hs))) z a i))) ⟨3, ofM ((1 :: (bcs (outF note s 0 l (nsOf hs))).1).zip (tokC xs :: (bcs (outF note s 0 l (nsOf hs))).2) ++ [0].zip rc), hp.ro⟩)
  | _, _, _, _, _ => False
 | _, _ => False
theorem zxE {b : Bool} {i : Nat} {c : UInt8} (h : b = true /\ (97 : Int) <= c.toNat /\ (c.toNat : Int) <= 122 /\ (i : Int).tmod 3 = 0) : upC b i c = byB (.sint .u8 (((c.toNat : Int) - 32) % 256)) := by
 obtain ⟨h1, h2, h3, h4⟩ := h
 unfold upC
 rw [if_pos ⟨h1, by omega, by omega, by rw [Int.tmod_eq_emod_of_nonneg (by omega)] at h4; omega⟩]
 apply UInt8.toNat_inj.1
 rw [sub32 (by omega)]
 show _ = (UInt8.ofNat (((c.toNat : Int) - 32) % 256).toNat).toNat
 rw [UInt8.toNat_ofNat']
 omega
theorem zqh {b : Bool} {i : Nat} {c : UInt8} (h : b = false \/ ¬ (97 : Int) <= c.toNat \/ ¬ (c.toNat : Int) <= 122 \/ ¬ (i : Int).tmod 3 = 0) : upC b i c = byB (.sint .u8 (c.toNat : Int)) := by
 unfold upC
 rw [if_neg, byB_u8]
 rintro ⟨h1, h2, h3, h4⟩
 rcases h with h | h | h | h
 ·rw [h1] at h; cases h
 ·omega
 ·omega
 ·exact h (by rw [Int.tmod_eq_emod_of_nonneg (by omega)]; omega)
theorem zqQ {b : UInt8} {v : V} (h : v ∈ [V.sint .u8 (((b.toNat : Int) - 32) % 256)]) : ∃ n : Int, 0 <= n /\ n <= 255 /\ (v = .int .u8 n \/ v = .sint .u8 n) := by
 simp only [List.mem_singleton] at h
 exact ⟨_, Int.emod_nonneg _ (by decide), by omega, .inr h⟩
def TL (s note : List UInt8) (l : List Tok) (ns : List Int) (i a k' M0 : Nat) (X0 : List UInt8) : Prop :=
 M0 = X0.length /\ M0 <= 300000 /\ (i = s.length -> PL s note l ns ⟨i + 1, k', atF i l a, X0⟩) /\ (i < s.length -> PL s note l ns ⟨i + 1, k', atF i l a, X0 ++ [upC (inT (l.drop (atF i l a)) i) i (s.getD i 0)]⟩)
variable {s note : List UInt8} {l : List Tok} {ns : List Int} {i k a : Nat} {b : List UInt8}
theorem tl_ins (hs2 : s.length <= 2000) (hn : note.length <= 100) (h : PL s note l ns ⟨i, k, a, b⟩) (hi : i = s.length \/ (i < s.length /\ (s.getD i 0).toNat = 10)) {n : Int} (hnn : n = (ns.drop k).headD 0) {M0 : Nat} {X0 : List UInt8} (hX : X0 = b ++ insB note n) (hM : M0 = X0.length) : TL s note l ns i a (k + 1) M0 X0 := by
 have h4 := h.2.2.2.1
 have h1 := h.1
 dsimp only at h4 h1
 have hl := ins_len n hn
 have : X0.length = b.length + (insB note n).length := by rw [hX, List.length_append]
 refine ⟨hM, by omega, λ hi => ?_, λ hi2 => ?_⟩
 ·rw [hX]; exact pl_last hn h hi hnn
 ·rcases hi with hi | hi
  ·omega
  ·rw [hX]; exact pl_line hn h hi2 hi.2 hnn rfl
theorem tl_byte (hs2 : s.length <= 2000) (h : PL s note l ns ⟨i, k, a, b⟩) (hi : i < s.length) (hc : ¬ (s.getD i 0).toNat = 10) {M0 : Nat} (hM : M0 = b.length) : TL s note l ns i a k M0 b := by
 have h4 := h.2.2.2.1
 dsimp only at h4
 exact ⟨hM, by omega, λ h => by omega, λ hi2 => pl_byte h hi hc rfl⟩
abbrev RL (hro : List Lk) (rc : List Chunk) (k0 : KK) (s note : List UInt8) (hs : List (List V)) (l : List Tok) (x : SL) : O -> List (Option V) -> Nat -> List (Option Chunk) -> Prop :=
 rMv hro tsM [1, 2] [1, 2, 3, 4, 5, 6, 7, 8, 9] [0] rc (leL s note hs l.length) (lmL (l.map (rowTok s))) 2 3 (PL s note l (nsOf hs)) (λ x => s.length + 1 - x.i) k0 x
theorem nxtL {hro : List Lk} {rc : List Chunk} {k0 : KK} {hs : List (List V)} {y : List UInt8} {k' : Nat} {Y : List UInt8} (hi : i <= s.length) (hP : PL s note l (nsOf hs) ⟨i + 1, k', atF i l a, Y⟩) (hY : Y ≠ []) (q n M : Nat) (hM : M = Y.length) (cs : List (Option Chunk)) (kk aa ii : Int) (ek : kk = k') (ea : aa = (atF i l a : Nat)) (ei : ii = (i : Int) + 1) (ha : actsOk 2 n [1, 2] [1, q] = true) (hn : 3 <= n) (hc1 : lookC [1, 2, 3, 4, 5, 6, 7, 8, 9] cs 1 = some (tokC (l.map (rowTok s)))) (hc : lookC [1, 2, 3, 4, 5, 6, 7, 8, 9] cs q = some (.byt Y 5)) (hq : renF [1, 2] [1, q] 1 = 1 /\ renF [1, 2] [1, q] 2 = q) :
  RL hro rc k0 s note hs l ⟨i, k, a, y⟩ .normal [some (.sstr s), some (.xs hs [.int .i64]), some (.sstr note), some (.bool true), some (.ssl 1 0 l.length 6), some (.ssl q 0 M 1), some (.sint .i64 kk), some (.sint .i64 aa), some (.sint .i64 ii)] n cs := by
 subst hM ek ea ei
 cases Y with
 | nil => exact absurd rfl hY
 | cons z Y =>
  refine ⟨⟨i + 1, k', atF i l a, z :: Y⟩, [1, q], hP, (by show s.length + 1 - (i + 1) < s.length + 1 - i; omega), hn, ha, ⟨zqa _, zqa _, zqa _, zqa _, ?_, ?_, zqa _, zqa _, ⟨rfl, by push_cast; rfl⟩, trivial⟩, ⟨_, hc1, zqd _⟩, ⟨_, hc, zqd _⟩, trivial⟩
  ·show vle (.ssl 1 0 l.length 6) (.ssl (renF [1, 2] [1, q] 1) 0 l.length 6)
   rw [hq.1]; exact zqa _
  ·show vle (.ssl q 0 (z :: Y).length 1) (.ssl (renF [1, 2] [1, q] 2) 0 (Y.length + 1) 1)
   rw [hq.2]; exact zqa _
def lgP (hro : List Lk) (rc : List Chunk) (k0 : KK) (s note : List UInt8) (hs : List (List V)) (l : List Tok) (x : SL) (v : V) (M0 : Nat) (X0 : List UInt8) (q n : Nat) (kk aa ii : Int) (cs : List (Option Chunk)) : Prop :=
 (((0 < M0 /\ M0 <= X0.length) /\ (∀ w, w ∈ [v] -> ∃ n : Int, 0 <= n /\ n <= 255 /\ (w = .int .u8 n \/ w = .sint .u8 n)) /\ (M0 + 1) * 1 <= 140737488355328 /\ 0 < M0 + 1) /\ I64 ii /\
  RL hro rc k0 s note hs l x .normal [some (.sstr s), some (.xs hs [.int .i64]), some (.sstr note), some (.bool true), some (.ssl 1 0 l.length 6), some (.ssl q 0 (M0 + 1) 1), some (.sint .i64 kk), some (.sint .i64 aa), some (.sint .i64 ii)] n cs)
theorem lg_ok {hro : List Lk} {rc : List Chunk} {k0 : KK} {hs : List (List V)} {y : List UInt8} {k' : Nat} {M0 : Nat} {X0 : List UInt8} {v : V} {q n : Nat} {kk aa ii : Int} {cs : List (Option Chunk)} (hs2 : s.length <= 2000) (hi : i < s.length) (hQ : TL s note l (nsOf hs) i a k' M0 X0) (h0 : 0 < M0) (hv : upC (inT (l.drop (atF i l a)) i) i (s.getD i 0) = byB v) (hb : ∀ w, w ∈ [v] -> ∃ n : Int, 0 <= n /\ n <= 255 /\ (w = .int .u8 n \/ w = .sint .u8 n))
  (ek : kk = k') (ea : aa = (atF i l a : Nat)) (ei : ii = (i : Int) + 1) (ha : actsOk 2 n [1, 2] [1, q] = true) (hn : 3 <= n) (hc1 : lookC [1, 2, 3, 4, 5, 6, 7, 8, 9] cs 1 = some (tokC (l.map (rowTok s)))) (hc : lookC [1, 2, 3, 4, 5, 6, 7, 8, 9] cs q = some (.byt (X0.take M0 ++ [byB v]) 5)) (hq : renF [1, 2] [1, q] 1 = 1 /\ renF [1, 2] [1, q] 2 = q) : lgP hro rc k0 s note hs l ⟨i, k, a, y⟩ v M0 X0 q n kk aa ii cs := by
 obtain ⟨q1, q2, q3, q4⟩ := hQ
 refine ⟨⟨⟨h0, by omega⟩, hb, by omega, by omega⟩, by unfold I64; omega, ?_⟩
 rw [q1, List.take_length] at hc
 have hP := q4 hi
 rw [hv] at hP
 exact nxtL (by omega) hP (by simp) q n (M0 + 1) (by rw [List.length_append, q1]; rfl) cs kk aa ii ek ea ei ha hn hc1 hc hq
theorem in_yes {kd : Nat} (hk : kd = 1 \/ kd = 2) (h2 : ((atR i (l.map (rowTok s)) a : Nat) : Int) < l.length) (h3 : vI (((l.map (rowTok s)).getD (0 + ((atR i (l.map (rowTok s)) a : Nat) : Int).toNat) []).getD 2 .und) <= i) (h4 : vI (((l.map (rowTok s)).getD (0 + ((atR i (l.map (rowTok s)) a : Nat) : Int).toNat) []).getD 0 .und) = kd) : inT (l.drop (atF i l a)) i = true := by
 rw [atR_F] at h2 h3 h4
 have e : 0 + ((atF i l a : Nat) : Int).toNat = atF i l a := by omega
 have hlt : atF i l a < l.length := by omega
 rw [e, List.getD_eq_getElem?_getD (l := l.map (rowTok s)), List.getElem?_map, List.getElem?_eq_getElem hlt] at h3 h4
 have h3 : ((l[atF i l a].at_ : Nat) : Int) <= i := h3
 have h4 : ((l[atF i l a].kind : Nat) : Int) = kd := h4
 rw [List.drop_eq_getElem_cons hlt]
 unfold inT
 dsimp only
 rw [decide_eq_true (by omega)]
 rcases hk with rfl | rfl
 ·have : l[atF i l a].kind = 1 := by omega
  rw [this]; rfl
 ·have : l[atF i l a].kind = 2 := by omega
  rw [this]; rfl
theorem in_not (h : ((atR i (l.map (rowTok s)) a : Nat) : Int) < l.length -> vI (((l.map (rowTok s)).getD (0 + ((atR i (l.map (rowTok s)) a : Nat) : Int).toNat) []).getD 2 .und) <= i -> ¬ vI (((l.map (rowTok s)).getD (0 + ((atR i (l.map (rowTok s)) a : Nat) : Int).toNat) []).getD 0 .und) = 1 /\ ¬ vI (((l.map (rowTok s)).getD (0 + ((atR i (l.map (rowTok s)) a : Nat) : Int).toNat) []).getD 0 .und) = 2) : inT (l.drop (atF i l a)) i = false := by
 rw [atR_F] at h
 have e : 0 + ((atF i l a : Nat) : Int).toNat = atF i l a := by omega
 rcases Nat.lt_or_ge (atF i l a) l.length with hlt | hge
 ·rw [e, List.getD_eq_getElem?_getD (l := l.map (rowTok s)), List.getElem?_map, List.getElem?_eq_getElem hlt] at h
  have h : ((atF i l a : Nat) : Int) < l.length -> ((l[atF i l a].at_ : Nat) : Int) <= i -> ¬ ((l[atF i l a].kind : Nat) : Int) = 1 /\ ¬ ((l[atF i l a].kind : Nat) : Int) = 2 := h
  rw [List.drop_eq_getElem_cons hlt]
  unfold inT
  dsimp only
  by_cases h3 : l[atF i l a].at_ <= i
  ·have := h (by omega) (by omega)
   have k1 : (l[atF i l a].kind == 1) = false := by simp; omega
   have k2 : (l[atF i l a].kind == 2) = false := by simp; omega
   rw [k1, k2]; simp
  ·rw [decide_eq_false h3, Bool.false_and]
 ·rw [List.drop_eq_nil_iff.2 hge]; rfl
theorem k_facts {hs : List (List V)} {k : Nat} (h : decide ((k : Int) < hs.length) = true) : ((0 : Int) <= k /\ (k : Int) < hs.length) /\ (k : Int).toNat < hs.length /\ m4 (vI ((hs.getD (k : Int).toNat []).getD 0 .und)) = ((nsOf hs).drop k).headD 0 := by
 have h := of_decide_eq_true h
 have e : (k : Int).toNat = k := by omega
 refine ⟨by omega, by omega, ?_⟩
 rw [e, ns_head (by omega)]
theorem k_none {hs : List (List V)} {k : Nat} (h : decide ((k : Int) < hs.length) = false) : (0 : Int) = ((nsOf hs).drop k).headD 0 := by
 have h := of_decide_eq_false h
 rw [ns_none (by omega)]
theorem m4_rng (v : Int) : I64 (v.tmod 4 + 4) /\ 0 <= m4 v := by
 have h1 : v.tmod 4 < 4 := Int.tmod_lt_of_pos v (by decide)
 have h2 : -4 < v.tmod 4 := Int.lt_tmod_of_pos v (by decide)
 refine ⟨by unfold I64; omega, ?_⟩
 unfold m4
 rw [Int.tmod_eq_emod_of_nonneg (by omega)]
 exact Int.emod_nonneg _ (by decide)
theorem ins_1 (note : List UInt8) : insB note 1 = [32, 36] ++ note := rfl
theorem ins_o (note : List UInt8) {n : Int} (h1 : ¬ n = 1) (h2 : ¬ n = 2) (h3 : ¬ n = 3) : insB note n = [] := by unfold insB; rw [if_neg h1, if_neg h2, if_neg h3]
theorem round_cons (hro : List Lk) (rc : List Chunk) (k0 : KK) (s note : List UInt8) (hs : List (List V)) (l : List Tok) (hs2 : s.length <= 2000) (hn : note.length <= 100) (hl2 : l.length <= 2000) (i k a : Nat) (y : UInt8) (b : List UInt8) (hP : PL s note l (nsOf hs) ⟨i, k, a, y :: b⟩)
  (hk0 : ¬ i <= s.length -> RL hro rc k0 s note hs l ⟨i, k, a, y :: b⟩ (.exit 2) [some (.sstr s), some (.xs hs [.int .i64]), some (.sstr note), some (.bool true), some (.ssl 1 0 l.length 6), some (.ssl 2 0 (b.length + 1) 1), some (.sint .i64 k), some (.sint .i64 a), some (.sint .i64 i)] 3 [some (tokC (l.map (rowTok s))), some (.byt (y :: b) 5), none, none, none, none, none, none, none]) :
  TaskOk Tryd.prog ⟨⟨.nil, [], []⟩, [], [(195018, lp Tryd.prog 5 2, lAt true)]⟩ (.code ⟨195, none⟩ (lp Tryd.prog 5 1) [] (ofE (tsM.zip (leL s note hs l.length ⟨i, k, a, y :: b⟩))) ⟨3, ofMo ([1, 2].zip (lmL (l.map (rowTok s)) ⟨i, k, a, y :: b⟩)), []⟩ (cutM tsM [1, 2, 3, 4, 5, 6, 7, 8, 9] (RL hro rc k0 s note hs l ⟨i, k, a, y :: b⟩))) := by
 refine go_sound qmix qNG zqk (zxf rfl) (ls_one rfl (at_ok true)) 200 _ ?_
 have h2 := hP.2.1
 have h3 := hP.2.2.1
 dsimp only at h2 h3
 have hL : (l.map (rowTok s)).length = l.length := List.length_map ..
 have ea' : ((atR i (l.map (rowTok s)) (a : Int).toNat : Nat) : Int) = (atF i l a : Nat) := by rw [Int.toNat_natCast, atR_F]
 have ba : ∀ {x : Nat}, decide ((x : Int) < l.length) = true -> (0 : Int) <= x /\ (x : Int) < l.length := λ h => ⟨by omega, of_decide_eq_true h⟩
 have ia : ∀ {x : Nat}, decide ((x : Int) < l.length) = true -> 0 + (x : Int).toNat < (l.map (rowTok s)).length := λ h => by have := of_decide_eq_true h; omega
 have hm : (b.length + 1) = (y :: b).length := rfl
 have hlen : b.length + 1 <= 103 * i := hP.2.2.2.1
 have ap : ∀ {i' : Nat} (x : Nat), i <= s.length -> x <= 10 -> ((0 < b.length + 1 /\ b.length + 1 <= (y :: b).length) /\ True /\ (b.length + 1 + x) * 1 <= 140737488355328 /\ 0 < b.length + 1 + x) := λ x hi hx => ⟨⟨Nat.succ_pos _, Nat.le_refl _⟩, trivial, by omega, by omega⟩
 have ik : i <= s.length -> I64 ((k : Int) + 1) := λ hi => by unfold I64; omega
 have tk : (y :: b).take (b.length + 1) = y :: b := List.take_length (l := y :: b)
 have e1 : (((y :: b).take (b.length + 1) ++ [32, 36]).take (b.length + 1 + 2)) ++ note = (y :: b) ++ insB note 1 := by
  rw [tk, ins_1, List.take_of_length_le (by simp), List.append_assoc]
 have q1 : ((0 < b.length + 1 + 2 /\ b.length + 1 + 2 <= ((y :: b).take (b.length + 1) ++ [32, 36]).length) /\ True /\ (b.length + 1 + 2 + note.length) * 1 <= 140737488355328 /\ 0 < b.length + 1 + 2 + note.length) \/ 2000 < i := by
  rcases Nat.lt_or_ge 2000 i with h | h
  ·exact .inr h
  ·exact .inl ⟨⟨by omega, by rw [tk]; simp⟩, trivial, by omega, by omega⟩
 refine ⟨trivial, trivial, λ h0 => ?_, λ h0 => hk0 (λ h => of_decide_eq_false h0 (Int.ofNat_le.2 h))⟩
 have h0 : (i : Int) <= s.length := of_decide_eq_true h0
 have hi : i <= s.length := by omega
 have q1 := q1.resolve_right (by omega)
 have ik := ik hi
 have c5 : I64 ((i : Int) + 1) := by unfold I64; omega
 refine ⟨rfl, ⟨rfl, rfl, hL.symm, (by show l.length <= 30000; omega), Int.natCast_nonneg _, (by show ((a : Nat) : Int) <= (l.length : Nat); omega)⟩, trivial, trivial, λ h1 => ?_, λ h1 => ⟨by have h1 : ¬ (i : Int) = s.length := of_decide_eq_false h1; (show (0 : Int) <= i /\ (i : Int) < s.length); omega, trivial, λ h3 => ?_, λ h3 => ?_⟩⟩
 ·have h1 : (i : Int) = s.length := of_decide_eq_true h1
  have no : ∀ {q : Prop}, decide ((i : Int) < s.length) = true -> q := λ h => absurd (of_decide_eq_true h) (by omega)
  have hor : i = s.length \/ (i < s.length /\ (s.getD i 0).toNat = 10) := .inl (by omega)
  have nx : ∀ {k' M0 : Nat} {X0 : List UInt8}, TL s note l (nsOf hs) i a k' M0 X0 -> PL s note l (nsOf hs) ⟨i + 1, k', atF i l a, X0⟩ := λ hQ => hQ.2.2.1 (by omega)
  refine ⟨trivial, trivial, λ g => ?_, λ g => ⟨ik, trivial, trivial, no, λ _ => ⟨c5, ?_⟩⟩⟩
  ·obtain ⟨g1, g2, g3⟩ := k_facts g
   have g4 := m4_rng (vI ((hs.getD (k : Int).toNat []).getD 0 .und))
   refine ⟨g1, g2, by decide, g4.1, by decide, ik, trivial, λ n1 => ⟨ap (i' := 0) 2 hi (by decide), q1, trivial, trivial, no, λ _ => ⟨c5, ?_⟩⟩, λ n1 => ⟨trivial, λ n2 => ⟨ap (i' := 0) 4 hi (by decide), trivial, trivial, no, λ _ => ⟨c5, ?_⟩⟩, λ n2 => ⟨trivial, λ n3 => ⟨ap (i' := 0) 4 hi (by decide), trivial, trivial, no, λ _ => ⟨c5, ?_⟩⟩, λ n3 => ⟨trivial, trivial, no, λ _ => ⟨c5, ?_⟩⟩⟩⟩⟩
   ·have n1 : m4 _ = 1 := of_decide_eq_true n1
    rw [n1] at g3
    exact nxtL (hro := hro) (rc := rc) (k0 := k0) (k := k) (y := y :: b) hi (nx (tl_ins hs2 hn hP hor g3 e1 rfl)) (by simp) _ _ _ (by rw [e1, ins_1]; simp; omega) _ _ _ _ rfl ea' rfl rfl (Nat.le_of_ble_eq_true rfl) rfl rfl ⟨rfl, rfl⟩
   ·have n2 : m4 _ = 2 := of_decide_eq_true n2
    rw [n2] at g3
    exact nxtL (hro := hro) (rc := rc) (k0 := k0) (k := k) (y := y :: b) hi (nx (tl_ins hs2 hn hP hor g3 (X0 := (y :: b).take (b.length + 1) ++ [32, 32, 10, 32]) (by rw [tk]; rfl) rfl)) (by simp) _ _ _ (by rw [tk]; simp) _ _ _ _ rfl ea' rfl rfl (Nat.le_of_ble_eq_true rfl) rfl rfl ⟨rfl, rfl⟩
   ·have n3 : m4 _ = 3 := of_decide_eq_true n3
    rw [n3] at g3
    exact nxtL (hro := hro) (rc := rc) (k0 := k0) (k := k) (y := y :: b) hi (nx (tl_ins hs2 hn hP hor g3 (X0 := (y :: b).take (b.length + 1) ++ [32, 10, 10, 36]) (by rw [tk]; rfl) rfl)) (by simp) _ _ _ (by rw [tk]; simp) _ _ _ _ rfl ea' rfl rfl (Nat.le_of_ble_eq_true rfl) rfl rfl ⟨rfl, rfl⟩
   ·have n1 : ¬ m4 _ = 1 := of_decide_eq_false n1
    have n2 : ¬ m4 _ = 2 := of_decide_eq_false n2
    have n3 : ¬ m4 _ = 3 := of_decide_eq_false n3
    exact nxtL (hro := hro) (rc := rc) (k0 := k0) (k := k) (y := y :: b) hi (nx (tl_ins hs2 hn hP hor g3 (X0 := y :: b) (by rw [ins_o _ n1 n2 n3, List.append_nil]) rfl)) (by simp) _ _ _ rfl _ _ _ _ rfl ea' rfl rfl (Nat.le_of_ble_eq_true rfl) rfl rfl ⟨rfl, rfl⟩
  ·exact nxtL (hro := hro) (rc := rc) (k0 := k0) (k := k) (y := y :: b) hi (nx (tl_ins hs2 hn hP hor (k_none g) (X0 := y :: b) (by rw [ins_o _ (by decide) (by decide) (by decide), List.append_nil]) rfl)) (by simp) _ _ _ rfl _ _ _ _ rfl ea' rfl rfl (Nat.le_of_ble_eq_true rfl) rfl rfl ⟨rfl, rfl⟩
 ·have h1 : ¬ (i : Int) = s.length := of_decide_eq_false h1
  have h3 : ((s.getD (i : Int).toNat 0).toNat : Int) = 10 := of_decide_eq_true h3
  rw [Int.toNat_natCast] at h3
  have hor : i = s.length \/ (i < s.length /\ (s.getD i 0).toNat = 10) := .inr ⟨by omega, by omega⟩
  have hM0 : ∀ x, 0 < b.length + 1 + x := λ x => by omega
  refine ⟨trivial, trivial, λ g => ?_, λ g => ⟨ik, ?_⟩⟩
  rotate_left
  focus
   have hQ := tl_ins hs2 hn hP hor (k_none g) (X0 := y :: b) (M0 := b.length + 1) (by rw [ins_o _ (by decide) (by decide) (by decide), List.append_nil]) rfl
   have hM0 := hM0 0
  rotate_left
  obtain ⟨g1, g2, g3⟩ := k_facts g
  have g4 := m4_rng (vI ((hs.getD (k : Int).toNat []).getD 0 .und))
  refine ⟨g1, g2, by decide, g4.1, by decide, ik, trivial, λ n1 => ⟨ap (i' := 0) 2 hi (by decide), q1, ?_⟩, λ n1 => ⟨trivial, λ n2 => ⟨ap (i' := 0) 4 hi (by decide), ?_⟩, λ n2 => ⟨trivial, λ n3 => ⟨ap (i' := 0) 4 hi (by decide), ?_⟩, λ n3 => ?_⟩⟩⟩
  focus
   have n1 : m4 _ = 1 := of_decide_eq_true n1
   rw [n1] at g3
   have hQ := tl_ins hs2 hn hP hor g3 e1 (M0 := b.length + 1 + 2 + note.length) (by rw [e1, ins_1]; simp; omega)
   have hM0 : 0 < b.length + 1 + 2 + note.length := by omega
  rotate_left
  focus
   have n2 : m4 _ = 2 := of_decide_eq_true n2
   rw [n2] at g3
   have hQ := tl_ins hs2 hn hP hor g3 (X0 := (y :: b).take (b.length + 1) ++ [32, 32, 10, 32]) (M0 := b.length + 1 + 4) (by rw [tk]; rfl) (by rw [tk]; simp)
   have hM0 := hM0 4
  rotate_left
  focus
   have n3 : m4 _ = 3 := of_decide_eq_true n3
   rw [n3] at g3
   have hQ := tl_ins hs2 hn hP hor g3 (X0 := (y :: b).take (b.length + 1) ++ [32, 10, 10, 36]) (M0 := b.length + 1 + 4) (by rw [tk]; rfl) (by rw [tk]; simp)
   have hM0 := hM0 4
  rotate_left
  focus
   have n1 : ¬ m4 _ = 1 := of_decide_eq_false n1
   have n2 : ¬ m4 _ = 2 := of_decide_eq_false n2
   have n3 : ¬ m4 _ = 3 := of_decide_eq_false n3
   have hQ := tl_ins hs2 hn hP hor g3 (X0 := y :: b) (M0 := b.length + 1) (by rw [ins_o _ n1 n2 n3, List.append_nil]) rfl
   have hM0 := hM0 0
  all_goals
   have t1 : i < s.length := by omega
   have bi : (0 : Int) <= i /\ (i : Int) < s.length := by omega
   have h0' := hQ.2.1
   refine ⟨trivial, trivial, λ _ => ⟨bi, trivial, trivial, λ t2 => ⟨ba t2, trivial, ia t2, trivial, λ t3 => ⟨ba t2, trivial, ia t2, trivial, λ t4 => ⟨trivial, λ u1 => ⟨trivial, λ u2 => ⟨by decide, trivial, λ u3 => ⟨trivial, ?_⟩, λ u3 => ?_⟩, λ u2 => ?_⟩, λ u1 => ?_⟩, λ t4 => ⟨ba t2, trivial, ia t2, trivial, λ t5 => ⟨trivial, λ u1 => ⟨trivial, λ u2 => ⟨by decide, trivial, λ u3 => ⟨trivial, ?_⟩, λ u3 => ?_⟩, λ u2 => ?_⟩, λ u1 => ?_⟩, λ t5 => ?_⟩⟩, λ t3 => ?_⟩, λ t2 => ?_⟩, λ t1' => absurd bi.2 (of_decide_eq_false t1')⟩
   ·exact lg_ok (hro := hro) (rc := rc) (k0 := k0) (k := k) (y := y :: b) hs2 t1 hQ hM0 (zxE ⟨in_yes (kd := 1) (.inl rfl) (of_decide_eq_true t2) (of_decide_eq_true t3) (of_decide_eq_true t4), of_decide_eq_true u1, of_decide_eq_true u2, of_decide_eq_true u3⟩) (λ v hv => zqQ hv) rfl ea' rfl rfl (Nat.le_of_ble_eq_true rfl) rfl rfl ⟨rfl, rfl⟩
   ·exact lg_ok (hro := hro) (rc := rc) (k0 := k0) (k := k) (y := y :: b) hs2 t1 hQ hM0 (zqh (.inr (.inr (.inr (of_decide_eq_false u3))))) (λ v hv => zqe hv) rfl ea' rfl rfl (Nat.le_of_ble_eq_true rfl) rfl rfl ⟨rfl, rfl⟩
   ·exact lg_ok (hro := hro) (rc := rc) (k0 := k0) (k := k) (y := y :: b) hs2 t1 hQ hM0 (zqh (.inr (.inr (.inl (of_decide_eq_false u2))))) (λ v hv => zqe hv) rfl ea' rfl rfl (Nat.le_of_ble_eq_true rfl) rfl rfl ⟨rfl, rfl⟩
   ·exact lg_ok (hro := hro) (rc := rc) (k0 := k0) (k := k) (y := y :: b) hs2 t1 hQ hM0 (zqh (.inr (.inl (of_decide_eq_false u1)))) (λ v hv => zqe hv) rfl ea' rfl rfl (Nat.le_of_ble_eq_true rfl) rfl rfl ⟨rfl, rfl⟩
   ·exact lg_ok (hro := hro) (rc := rc) (k0 := k0) (k := k) (y := y :: b) hs2 t1 hQ hM0 (zxE ⟨in_yes (kd := 2) (.inr rfl) (of_decide_eq_true t2) (of_decide_eq_true t3) (of_decide_eq_true t5), of_decide_eq_true u1, of_decide_eq_true u2, of_decide_eq_true u3⟩) (λ v hv => zqQ hv) rfl ea' rfl rfl (Nat.le_of_ble_eq_true rfl) rfl rfl ⟨rfl, rfl⟩
   ·exact lg_ok (hro := hro) (rc := rc) (k0 := k0) (k := k) (y := y :: b) hs2 t1 hQ hM0 (zqh (.inr (.inr (.inr (of_decide_eq_false u3))))) (λ v hv => zqe hv) rfl ea' rfl rfl (Nat.le_of_ble_eq_true rfl) rfl rfl ⟨rfl, rfl⟩
   ·exact lg_ok (hro := hro) (rc := rc) (k0 := k0) (k := k) (y := y :: b) hs2 t1 hQ hM0 (zqh (.inr (.inr (.inl (of_decide_eq_false u2))))) (λ v hv => zqe hv) rfl ea' rfl rfl (Nat.le_of_ble_eq_true rfl) rfl rfl ⟨rfl, rfl⟩
   ·exact lg_ok (hro := hro) (rc := rc) (k0 := k0) (k := k) (y := y :: b) hs2 t1 hQ hM0 (zqh (.inr (.inl (of_decide_eq_false u1)))) (λ v hv => zqe hv) rfl ea' rfl rfl (Nat.le_of_ble_eq_true rfl) rfl rfl ⟨rfl, rfl⟩
   ·exact lg_ok (hro := hro) (rc := rc) (k0 := k0) (k := k) (y := y :: b) hs2 t1 hQ hM0 (zqh (.inl (in_not λ _ _ => ⟨of_decide_eq_false t4, of_decide_eq_false t5⟩))) (λ v hv => zqe hv) rfl ea' rfl rfl (Nat.le_of_ble_eq_true rfl) rfl rfl ⟨rfl, rfl⟩
   ·exact lg_ok (hro := hro) (rc := rc) (k0 := k0) (k := k) (y := y :: b) hs2 t1 hQ hM0 (zqh (.inl (in_not λ _ h => absurd h (of_decide_eq_false t3)))) (λ v hv => zqe hv) rfl ea' rfl rfl (Nat.le_of_ble_eq_true rfl) rfl rfl ⟨rfl, rfl⟩
   ·exact lg_ok (hro := hro) (rc := rc) (k0 := k0) (k := k) (y := y :: b) hs2 t1 hQ hM0 (zqh (.inl (in_not λ h _ => absurd h (of_decide_eq_false t2)))) (λ v hv => zqe hv) rfl ea' rfl rfl (Nat.le_of_ble_eq_true rfl) rfl rfl ⟨rfl, rfl⟩
 ·have h1 : ¬ (i : Int) = s.length := of_decide_eq_false h1
  have h3 : ¬ ((s.getD (i : Int).toNat 0).toNat : Int) = 10 := of_decide_eq_false h3
  rw [Int.toNat_natCast] at h3
  have hQ := tl_byte (k := k) hs2 hP (by omega) (by omega) (M0 := b.length + 1) rfl
  have hM0 : 0 < b.length + 1 := by omega
  all_goals
   have t1 : i < s.length := by omega
   have bi : (0 : Int) <= i /\ (i : Int) < s.length := by omega
   have h0' := hQ.2.1
   refine ⟨trivial, trivial, λ _ => ⟨bi, trivial, trivial, λ t2 => ⟨ba t2, trivial, ia t2, trivial, λ t3 => ⟨ba t2, trivial, ia t2, trivial, λ t4 => ⟨trivial, λ u1 => ⟨trivial, λ u2 => ⟨by decide, trivial, λ u3 => ⟨trivial, ?_⟩, λ u3 => ?_⟩, λ u2 => ?_⟩, λ u1 => ?_⟩, λ t4 => ⟨ba t2, trivial, ia t2, trivial, λ t5 => ⟨trivial, λ u1 => ⟨trivial, λ u2 => ⟨by decide, trivial, λ u3 => ⟨trivial, ?_⟩, λ u3 => ?_⟩, λ u2 => ?_⟩, λ u1 => ?_⟩, λ t5 => ?_⟩⟩, λ t3 => ?_⟩, λ t2 => ?_⟩, λ t1' => absurd bi.2 (of_decide_eq_false t1')⟩
   ·exact lg_ok (hro := hro) (rc := rc) (k0 := k0) (k := k) (y := y :: b) hs2 t1 hQ hM0 (zxE ⟨in_yes (kd := 1) (.inl rfl) (of_decide_eq_true t2) (of_decide_eq_true t3) (of_decide_eq_true t4), of_decide_eq_true u1, of_decide_eq_true u2, of_decide_eq_true u3⟩) (λ v hv => zqQ hv) rfl ea' rfl rfl (Nat.le_of_ble_eq_true rfl) rfl rfl ⟨rfl, rfl⟩
   ·exact lg_ok (hro := hro) (rc := rc) (k0 := k0) (k := k) (y := y :: b) hs2 t1 hQ hM0 (zqh (.inr (.inr (.inr (of_decide_eq_false u3))))) (λ v hv => zqe hv) rfl ea' rfl rfl (Nat.le_of_ble_eq_true rfl) rfl rfl ⟨rfl, rfl⟩
   ·exact lg_ok (hro := hro) (rc := rc) (k0 := k0) (k := k) (y := y :: b) hs2 t1 hQ hM0 (zqh (.inr (.inr (.inl (of_decide_eq_false u2))))) (λ v hv => zqe hv) rfl ea' rfl rfl (Nat.le_of_ble_eq_true rfl) rfl rfl ⟨rfl, rfl⟩
   ·exact lg_ok (hro := hro) (rc := rc) (k0 := k0) (k := k) (y := y :: b) hs2 t1 hQ hM0 (zqh (.inr (.inl (of_decide_eq_false u1)))) (λ v hv => zqe hv) rfl ea' rfl rfl (Nat.le_of_ble_eq_true rfl) rfl rfl ⟨rfl, rfl⟩
   ·exact lg_ok (hro := hro) (rc := rc) (k0 := k0) (k := k) (y := y :: b) hs2 t1 hQ hM0 (zxE ⟨in_yes (kd := 2) (.inr rfl) (of_decide_eq_true t2) (of_decide_eq_true t3) (of_decide_eq_true t5), of_decide_eq_true u1, of_decide_eq_true u2, of_decide_eq_true u3⟩) (λ v hv => zqQ hv) rfl ea' rfl rfl (Nat.le_of_ble_eq_true rfl) rfl rfl ⟨rfl, rfl⟩
   ·exact lg_ok (hro := hro) (rc := rc) (k0 := k0) (k := k) (y := y :: b) hs2 t1 hQ hM0 (zqh (.inr (.inr (.inr (of_decide_eq_false u3))))) (λ v hv => zqe hv) rfl ea' rfl rfl (Nat.le_of_ble_eq_true rfl) rfl rfl ⟨rfl, rfl⟩
   ·exact lg_ok (hro := hro) (rc := rc) (k0 := k0) (k := k) (y := y :: b) hs2 t1 hQ hM0 (zqh (.inr (.inr (.inl (of_decide_eq_false u2))))) (λ v hv => zqe hv) rfl ea' rfl rfl (Nat.le_of_ble_eq_true rfl) rfl rfl ⟨rfl, rfl⟩
   ·exact lg_ok (hro := hro) (rc := rc) (k0 := k0) (k := k) (y := y :: b) hs2 t1 hQ hM0 (zqh (.inr (.inl (of_decide_eq_false u1)))) (λ v hv => zqe hv) rfl ea' rfl rfl (Nat.le_of_ble_eq_true rfl) rfl rfl ⟨rfl, rfl⟩
   ·exact lg_ok (hro := hro) (rc := rc) (k0 := k0) (k := k) (y := y :: b) hs2 t1 hQ hM0 (zqh (.inl (in_not λ _ _ => ⟨of_decide_eq_false t4, of_decide_eq_false t5⟩))) (λ v hv => zqe hv) rfl ea' rfl rfl (Nat.le_of_ble_eq_true rfl) rfl rfl ⟨rfl, rfl⟩
   ·exact lg_ok (hro := hro) (rc := rc) (k0 := k0) (k := k) (y := y :: b) hs2 t1 hQ hM0 (zqh (.inl (in_not λ _ h => absurd h (of_decide_eq_false t3)))) (λ v hv => zqe hv) rfl ea' rfl rfl (Nat.le_of_ble_eq_true rfl) rfl rfl ⟨rfl, rfl⟩
   ·exact lg_ok (hro := hro) (rc := rc) (k0 := k0) (k := k) (y := y :: b) hs2 t1 hQ hM0 (zqh (.inl (in_not λ h _ => absurd h (of_decide_eq_false t2)))) (λ v hv => zqe hv) rfl ea' rfl rfl (Nat.le_of_ble_eq_true rfl) rfl rfl ⟨rfl, rfl⟩
end
end Go.Proofs.YtekioipmhhcbhaaDoor
