/- lex.Join: its second loop's summary, its contract. -/
import Derived.Test.YtekioipmhhcbhaaDoorVa
import Derived.Test.YtekioipmhhcbhaaDoorVb
import Derived.Test.YtekioipmhhcbhaaDoorV9
import Derived.Test.YtekioipmhhcbhaaDoorKk
set_option linter.unusedVariables false
set_option linter.unusedSectionVars false
set_option linter.unusedSimpArgs false
set_option maxRecDepth 100000
set_option maxHeartbeats 8000000
namespace Go.Proofs.YtekioipmhhcbhaaDoor
open Go Go.Z Go.Q Go.W6
open Go.Y hiding KE KK KR go Task go_sound
noncomputable section
variable [Ext]
theorem put_coks (ty : Nat) (xs : List (List V)) : ∀ x, coks2 (okI idJ 4) 4 idJ (lmX ty xs x) = true
 | .z => by kernel_rfl
 | .s ⟨i, st, .a, r0, r1, r2, r3⟩ => by kernel_rfl
 | .s ⟨i, st, .b, r0, r1, r2, r3⟩ => by kernel_rfl
 | .s ⟨i, st, .c, r0, r1, r2, r3⟩ => by kernel_rfl
 | .s ⟨i, st, .d, r0, r1, r2, r3⟩ => by kernel_rfl
 | .s ⟨i, st, .e, r0, r1, r2, r3⟩ => by kernel_rfl
theorem put_loop {kn vs gf gl} (hX : MaxOk) : ∀ fi ds env hp k, lPutJ fi ds env hp k -> TaskOk Tryd.prog ⟨⟨varG 0, kn, vs⟩, gf, gl⟩ (.code fi (.loop (lp Tryd.prog 23 1)) ds env hp k) := by
 intro fi ds env hp k h
 unfold lPutJ at h
 split at h
 ·rename_i g1 g2 g3 g4
  split at h
  ·rename_i v2 v3 m n v5 v6 l ty sz xs sh ty' ws tw tj hT hC
   split at h
   ·rename_i z j i q2 q3 q5 q6
    obtain ⟨⟨rfl, rfl, rfl, rfl, rfl, hpos, hc, rfl, rfl, rfl, rfl, rfl, hR, hE⟩, hk1, hk2⟩ := h
    obtain ⟨n', ht, hro⟩ := hp
    obtain ⟨nt, ro⟩ := fi
    dsimp only at g1 g2 g3 g4 hC hk1 hk2
    have g1 := beq_tt g1
    have g3 := beq_tt g3
    subst g1 g2 g3 g4
    rw [hc] at hC
    have hC0 : ht.get 0 = some (spC ty) := (List.cons.inj hC).1
    have hC1 : ht.get 1 = some (tokC xs) := (List.cons.inj (List.cons.inj hC).2).1
    have hC2 : ht.get 2 = some (.rows (xs.map wR) [.str] 9) := (List.cons.inj (List.cons.inj (List.cons.inj hC).2).2).1
    have hC3 : ht.get 3 = some (joC [.nilp, .nils, .nils, .str []]) := (List.cons.inj (List.cons.inj (List.cons.inj (List.cons.inj hC).2).2).2).1
    have hok := zvj hE
    refine loop_fw ts1J idJ lk19 [] [] [(0, 0, 0)] 6 (leX xs.length) (lmX ty xs) (InvX xs) (muX xs.length) .z trivial rfl rfl rfl (Nat.le_of_ble_eq_true rfl) (λ l hl => .inr hl) (λ l hl => by rw [List.mem_singleton.1 hl]; exact Nat.succ_pos 3) rfl rfl (λ x => by cases x <;> rfl) (put_coks ty xs) ?_ ⟨⟨_, hC0, zqb _⟩, ⟨_, hC1, zqb _⟩, ⟨_, hC2, zqb _⟩, ⟨_, hC3, zqb _⟩, trivial⟩ rfl ?_
    ·rw [hT]
     exact ⟨zqT q2, zqr q3, zqa _, zqa _, zqa _, zqr q5, zqr q6, trivial⟩
    ·intro x hx
     refine zvA (kn' := []) (vs' := []) (gf' := [(16, sScan), (18, sSameG), (37, sSpell)]) (gl' := []) ?_
     cases x with
     | z => exact round_z hX hpos hR hok hk2
     | s x =>
      obtain ⟨i, st, f, r0, r1, r2, r3⟩ := x
      have hx : InvS xs ⟨i, st, f, r0, r1, r2, r3⟩ := hx
      have hJ : RoundJ xs ⟨i, st, f, r0, r1, r2, r3⟩ := ⟨hx, hR, hok⟩
      have hk1' : i = xs.length -> ∀ (w : V) (tl : List UInt8), k (.exit 2) [] (ofE (ts1J.zip (leJ xs.length 0 (.ssl 2 0 xs.length 1) xs.length))) ⟨6, ofM ([0, 1, 3, 4].zip [spC ty, tokC xs, joC [.ptr 3 0, .ssl 4 0 (txt st.1).length 1, w, .sstr tl], .byt (txt st.1) 5]), [(0, 0, 0)]⟩ := by
       rintro rfl w tl
       have e := hx.2.2.2.2.2
       dsimp only at e
       rw [List.drop_length] at e
       have e : runJ (xs.map kt) ([], []) = (txt st.1, 0) := e.symm
       rw [e] at hk1
       exact hk1 rfl w tl
      cases f with
      | a => exact round_ab hX i st .a (.inl rfl) r0 r1 r2 r3 hJ hk1' hk2
      | b => exact round_ab hX i st .b (.inr rfl) r0 r1 r2 r3 hJ hk1' hk2
      | c => exact zwy hX i st .c (.inl rfl) r0 r1 r2 r3 hJ hk1' hk2
      | d => exact zwy hX i st .d (.inr (.inl rfl)) r0 r1 r2 r3 hJ hk1' hk2
      | e => exact zwy hX i st .e (.inr (.inr rfl)) r0 r1 r2 r3 hJ hk1' hk2
   ·exact h.elim
  ·exact h.elim
 ·exact h.elim
end
end Go.Proofs.YtekioipmhhcbhaaDoor
set_option maxRecDepth 100000
set_option maxHeartbeats 8000000
namespace Go.Proofs.YtekioipmhhcbhaaDoor
open Go Go.Z Go.Q Go.W6
open Go.Y hiding KE KK KR go Task go_sound
noncomputable section
variable [Ext]
def lPut0 (fi : FI) (ds : List DV) (env : Tr V) (hp : Mem) (k : KK) : Prop := match Nat.beq fi.nt 56, fi.ro, ds, Nat.beq hp.n 4, hp.ro with
 | true, none, [], true, [(0, 0, 0)] => (match pk ts1J env, pk [0, 1, 3] hp.t with
  | [some v2, some v3, some .nils, some (.ptr 3 0), some (.ssl 1 0 0 6), some v5, some v6], [some (.cells l ty sz), some (.rowsO xs sh ty'), some (.cells [.nilp, .nils, .nils, .str []] tj 4)] => match strOf v2, int64 v3, int64 v5, int64 v6 with
   | some [], some z, some j, some i => (z = 0 /\ i = 0 /\ j = 0 /\ Chunk.cells l ty sz = spC ty /\ sh = shTok /\ ty' = 34 /\ xs = [] /\ tj = 74) /\
     k (.exit 2) [] (ofE (ts1J.zip [.sstr [], .sint .i64 0, .nils, .ptr 3 0, .ssl 1 0 0 6, .sint .i64 0, .sint .i64 0])) ⟨4, ofM ([0, 1, 3].zip [spC ty, tokC [], joC [.nilp, .nils, .nils, .str []]]), [wh 0]⟩
   | _, _, _, _ => False
  | _, _ => False)
 | _, _, _, _, _ => False
theorem p0_coks (ty : Nat) : coks2 (okI [0, 1, 3] 4) 4 [0, 1, 3] [some (spC ty), some (tokC []), some (joC [.nilp, .nils, .nils, .str []])] = true := by kernel_rfl
theorem put0_loop {kn vs gf gl} : ∀ fi ds env hp k, lPut0 fi ds env hp k -> TaskOk Tryd.prog ⟨⟨varG 0, kn, vs⟩, gf, gl⟩ (.code fi (.loop (lp Tryd.prog 23 1)) ds env hp k) := by
 intro fi ds env hp k h
 unfold lPut0 at h
 split at h
 ·rename_i g1 g2 g3 g4
  split at h
  ·rename_i v2 v3 v5 v6 l ty sz xs sh ty' tj hT hC
   split at h
   ·rename_i z j i q2 q3 q5 q6
    obtain ⟨⟨rfl, rfl, rfl, hc, rfl, rfl, rfl, rfl⟩, hk⟩ := h
    obtain ⟨n', ht, hro⟩ := hp
    obtain ⟨nt, ro⟩ := fi
    dsimp only at g1 g2 g3 g4 hC hk
    have g1 := beq_tt g1
    have g3 := beq_tt g3
    subst g1 g2 g3 g4
    rw [hc] at hC
    have hC0 : ht.get 0 = some (spC ty) := (List.cons.inj hC).1
    have hC1 : ht.get 1 = some (tokC []) := (List.cons.inj (List.cons.inj hC).2).1
    have hC3 : ht.get 3 = some (joC [.nilp, .nils, .nils, .str []]) := (List.cons.inj (List.cons.inj (List.cons.inj hC).2).2).1
    refine loop_fw ts1J [0, 1, 3] [0, 1, 3] [] [] [(0, 0, 0)] 4 (λ _ : Unit => [.sstr [], .sint .i64 0, .nils, .ptr 3 0, .ssl 1 0 0 6, .sint .i64 0, .sint .i64 0]) (λ _ => [some (spC ty), some (tokC []), some (joC [.nilp, .nils, .nils, .str []])]) (λ _ => True) (λ _ => 0) () trivial rfl rfl rfl (Nat.le_refl 4) (λ l hl => .inr hl) (λ l hl => by rw [List.mem_singleton.1 hl]; exact Nat.succ_pos 3) rfl rfl (λ x => rfl) (λ _ => p0_coks ty) ?_ ⟨⟨_, hC0, zqb _⟩, ⟨_, hC1, zqb _⟩, ⟨_, hC3, zqb _⟩, trivial⟩ rfl ?_
    ·rw [hT]
     exact ⟨zqT q2, zqr q3, zqa _, zqa _, zqa _, zqr q5, zqr q6, trivial⟩
    ·intro x hx
     refine zvA (kn' := []) (vs' := []) (gf' := []) (gl' := []) ?_
     refine go_sound (G := ⟨⟨varG 0, [], []⟩, [], []⟩) qmix qNG zqf (zxp rfl) (zqz rfl) 200 _ ?_
     refine ⟨trivial, λ h => absurd h (by decide), λ h => ⟨[.sstr [], .sint .i64 0, .nils, .ptr 3 0, .ssl 1 0 0 6, .sint .i64 0, .sint .i64 0], [0, 1, 3], [spC ty, tokC [], joC [.nilp, .nils, .nils, .str []]], Nat.le_refl 4, rfl, rfl, ⟨zqa _, zqa _, zqa _, zqa _, zqa _, zqa _, zqa _, trivial⟩, ⟨⟨_, rfl, zqb _⟩, ⟨_, rfl, zqb _⟩, ⟨_, rfl, zqb _⟩, trivial⟩, hk⟩⟩
   ·exact h.elim
  ·exact h.elim
 ·exact h.elim
end
end Go.Proofs.YtekioipmhhcbhaaDoor
set_option maxRecDepth 100000
set_option maxHeartbeats 4000000
namespace Go.Proofs.YtekioipmhhcbhaaDoor
open Go Go.Z Go.Q Go.W6
open Go.Y hiding KE KK KR go Task go_sound
noncomputable section
variable [Ext]
theorem runJ_max : ∀ (l : List KT) (st : JS), (txt st.1).length <= 20000 -> (runJ l st).1.length <= 20000
 | [], st, h => h
 | t :: l, st, h => by
  show (if _ then _ else _ : List UInt8 × Int).1.length <= 20000
  split
  ·exact Nat.zero_le _
  ·exact runJ_max l _ (by omega)
theorem stepJ_len (st : JS) (t : KT) : (txt st.1).length + (spW t).length <= (txt (stepJ st t).1).length := by
 unfold stepJ
 split <;> rw [zxs, List.length_append] <;> simp [txt] <;> omega
theorem runJ_pos : ∀ (l : List KT) (st : JS), (runJ l st).2 = 0 -> (txt st.1).length <= (runJ l st).1.length
 | [], st, _ => Nat.le_refl _
 | t :: l, st, h => by
  rcases Nat.lt_or_ge 20000 (txt (stepJ st t).1).length with g | g
  ·rw [zwx g] at h; cases h
  ·rw [zjJ g] at h ⊢
   have := runJ_pos l _ h
   have := stepJ_len st t
   omega
def kJ (xs : List (List V)) (ty : Nat) (v : V) : E -> List (Option Chunk) -> Option Chunk -> Prop := λ e cs nc => cs = [some (spC ty), some (tokC xs)] /\ nc = none /\ e = .ret v
theorem j_coks (ty : Nat) (xs : List (List V)) : coks3 (inI [0, 1]) [some (spC ty), some (tokC xs)] = true := by kernel_rfl
theorem cN_j {xs : List (List V)} {v : V} {ty n : Nat} {e : E} (h : ele e (.ret v)) (he : eok (inI [0, 1]) (.ret v) = true) : cNn [0, 1] [0, 1] 2 [true, true] (kJ xs ty v) e n [some (spC ty), some (tokC xs)] :=
 .inl ⟨.ret v, [some (spC ty), some (tokC xs)], h, he, ⟨zqb _, zqb _, trivial⟩, rfl, j_coks ty xs, rfl, rfl, rfl⟩
def joinV (xs : List (List V)) : V := .tup [.sstr (joinX xs).1, .sint .i64 (joinX xs).2]
@[reducible] noncomputable def LJ : List (List V) -> List (Nat × Code × (FI -> List DV -> Tr V -> Mem -> KK -> Prop))
 | [] => [(56003, lp Tryd.prog 23 0, lSpJ), (56014, lp Tryd.prog 23 1, lPut0)]
 | _ :: _ => [(56003, lp Tryd.prog 23 0, lSpJ), (56014, lp Tryd.prog 23 1, lPutJ)]
theorem join_run (hX : MaxOk) (ty : Nat) : ∀ xs : List (List V), RowsOk xs -> TaskOk Tryd.prog ⟨⟨varG 0, [], [(0, spaceV)]⟩, [], LJ xs⟩ (.call 23 [.ssl 1 0 xs.length 6] ⟨2, ofMo ([0, 1].zip [some (spC ty), some (tokC xs)]), [wh 0]⟩ (cutA [0, 1] (cNn [0, 1] [0, 1] 2 [true, true] (kJ xs ty (joinV xs)))))
 | [], hR => by
  refine go_sound (G := ⟨⟨varG 0, [], [(0, spaceV)]⟩, [], [(56003, lp Tryd.prog 23 0, lSpJ), (56014, lp Tryd.prog 23 1, lPut0)]⟩) qmix qNG zqf (zxp rfl) (ls_all (by exact ⟨zyg hX, put0_loop, trivial⟩)) 300 _ ?_
  exact ⟨trivial, rfl, ⟨rfl, rfl, rfl, rfl, rfl, rfl, rfl, rfl, hR⟩, λ _ => ⟨trivial, trivial, λ h => (by cases h), λ _ => ⟨trivial, rfl, ⟨rfl, rfl, rfl, rfl, rfl, rfl, rfl, rfl⟩, cN_j (v := joinV []) ⟨rfl, ⟨rfl, rfl⟩, trivial⟩ rfl⟩⟩, λ h => absurd rfl h⟩
 | r :: l, hR => by
  have hR' : RowsOk (r :: l) := hR
  refine go_sound (G := ⟨⟨varG 0, [], [(0, spaceV)]⟩, [], [(56003, lp Tryd.prog 23 0, lSpJ), (56014, lp Tryd.prog 23 1, lPutJ)]⟩) qmix qNG zqf (zxp rfl) (ls_all (by exact ⟨zyg hX, put_loop hX, trivial⟩)) 300 _ ?_
  have out : ∀ {p : List UInt8 × Int} {a b : V} {n : Nat}, joinX (r :: l) = p -> dle a (.sstr p.1) -> dle b (.sint .i64 p.2) -> cNn [0, 1] [0, 1] 2 [true, true] (kJ (r :: l) ty (joinV (r :: l))) (.ret (.tup [a, b])) n [some (spC ty), some (tokC (r :: l))] := λ {p a b n} h h1 h2 =>
   cN_j (v := joinV (r :: l)) (by show dle (.tup [_, _]) (joinV (r :: l)); unfold joinV; rw [h]; exact ⟨h1, h2, trivial⟩) rfl
  have bad : spErr (r :: l) ≠ 0 -> joinX (r :: l) = ([], spErr (r :: l)) := λ h => by unfold joinX; rw [if_pos h]
  have big : spErr (r :: l) = 0 -> 6000 < (r :: l).length -> joinX (r :: l) = ([], 3) := λ h h1 => by unfold joinX; rw [if_neg (by omega), if_pos h1]
  have run : spErr (r :: l) = 0 -> ¬ 6000 < (r :: l).length -> joinX (r :: l) = runJ ((r :: l).map kt) ([], []) := λ h h1 => by unfold joinX; rw [if_neg (by omega), if_neg h1]
  have hmax := runJ_max ((r :: l).map kt) ([], []) (Nat.zero_le _)
  have pos : spErr (r :: l) = 0 -> (runJ ((r :: l).map kt) ([], [])).2 = 0 -> 0 < (runJ ((r :: l).map kt) ([], [])).1.length := λ h h0 => by
   have t := row_tokS (r := r) (by have := hR'.2 _ List.mem_cons_self; omega) (zvj h _ List.mem_cons_self)
   have e : runJ ((r :: l).map kt) ([], []) = runJ (kt r :: l.map kt) ([], []) := rfl
   rw [e] at h0 ⊢
   rcases Nat.lt_or_ge 20000 (txt (stepJ ([], []) (kt r)).1).length with g | g
   ·rw [zwx g] at h0; cases h0
   ·rw [zjJ g] at h0 ⊢
    have h1 := runJ_pos _ _ h0
    have h2 := stepJ_len ([], []) (kt r)
    have h3 : 0 < (spW (kt r)).length := t.2.2.1
    omega
  have tk : ((r :: l).take (l.length + 1)).map wR = (r :: l).map wR := by rw [List.take_of_length_le (l := r :: l) (i := l.length + 1) (Nat.le_refl _)]
  have ci : ∀ {n : Nat}, 0 < n -> (0 : Int) < (n : Int) := λ h => by omega
  refine ⟨trivial, rfl, ⟨rfl, rfl, rfl, rfl, rfl, rfl, rfl, rfl, hR'⟩, λ h2 => ⟨trivial, trivial, λ h3 => out (big h2 (by have := of_decide_eq_true h3; omega)) rfl ⟨rfl, rfl⟩, λ h4 => ⟨trivial, rfl, ⟨rfl, rfl, rfl, rfl, rfl, Nat.succ_pos _, rfl, rfl, rfl, tk, rfl, rfl, hR', h2⟩, λ h6 => λ w tl => ⟨trivial, pos h2 h6, ⟨⟨ci (pos h2 h6), Int.le_refl _⟩, Nat.le_trans hmax (by decide)⟩, out (run h2 (by have := of_decide_eq_false h4; omega)) ?_ ?_⟩, λ h7 => λ i m => out (p := ([], 3)) ((run h2 (by have := of_decide_eq_false h4; omega)).trans h7) rfl ⟨rfl, rfl⟩⟩⟩, λ h8 => λ w i => out (bad h8) rfl ⟨rfl, rfl⟩⟩
  ·rw [Int.toNat_natCast, List.take_of_length_le (Nat.le_refl _)]
   rfl
  ·first | exact ⟨rfl, h6⟩ | exact ⟨rfl, h6.symm⟩
theorem roOk_lk2 (a : Nat) : ∀ {ls : List Lk}, roOk ls = true -> lkOk [0, 1] [0, a] [wh 0] ls
 | [], _ => trivial
 | l :: ls, h => by
  unfold roOk at h
  split at h
  ·rename_i hb
   have hb := beq_tt hb
   refine ⟨?_, roOk_lk2 a h⟩
   rw [<- hb]
   exact List.mem_singleton.2 rfl
  ·cases h
def sJoin (args : List V) (hp : Mem) (k : KE) : Prop := match args with
 | [va] => match asL va hp.t, hp.t.get 0, roOk hp.ro, small hp.n with
  | some (a, n, xs, sh, t0), some (.cells l ty sz), true, true => match below hp.n [0, a], nodupB [0, a] with
   | true, true => (sh = shTok /\ t0 = 34 /\ n = xs.length /\ Chunk.cells l ty sz = spC ty /\ RowsOk xs) /\
    k (.ret (.tup [.sstr (joinX xs).1, .sint .i64 (joinX xs).2])) ⟨hp.n, Tr.set 20 (Tr.set 20 hp.t a (some (tokC xs))) 0 (some (spC ty)), hp.ro⟩
   | _, _ => False
  | _, _, _, _ => False
 | _ => False
theorem join_ok {kn vs gf gl} (hX : MaxOk) : ∀ args hp k, sJoin args hp k -> TaskOk Tryd.prog ⟨⟨varG 0, kn, vs⟩, gf, gl⟩ (.call 23 args hp k) := by
 intro args hp k h
 unfold sJoin at h
 split at h
 ·split at h
  ·rename_i va a n xs sh t0 l ty sz ga gs hro hsm
   split at h
   ·rename_i hb hd
    obtain ⟨⟨rfl, rfl, rfl, hc, hR⟩, hk⟩ := h
    obtain ⟨va1, c0, ga, la⟩ := asL_ok ga
    refine call_nw 2 [0, 1] [] [0, a] [some (spC ty), some (tokC xs)] [wh 0] (kJ xs ty (joinV xs)) (join_run hX ty xs hR) ?_ ?_ (args0 := [.ssl 1 0 xs.length 6]) ⟨va1, trivial⟩ rfl rfl rfl hb rfl hd (j_coks ty xs) ?_ (roOk_lk2 a hro) ?_ hsm ?_ ?_
    ·intro g id e
     have e : (varG 0).get g = some id := e
     obtain ⟨rfl, rfl⟩ := zvJ e
     exact ⟨rfl, rfl⟩
    ·intro l hl; rw [List.mem_singleton.1 hl]; exact Nat.succ_pos 1
    ·refine ⟨⟨_, gs, ?_⟩, ⟨_, ga, la⟩, trivial⟩
     rw [hc]
     exact zqb _
    ·intro ρ W hH i hi
     have get : ∀ {i c}, hp.t.get i = some c -> ∃ x, ρ i = some x := λ {i c} hg => by
      obtain ⟨b, o, _, h2⟩ := hH.rel i _ hg
      obtain ⟨c, h3⟩ := h2.at
      exact ⟨_, h3⟩
     rcases List.mem_cons.1 hi with rfl | hi
     ·exact get gs
     ·rw [List.mem_singleton.1 hi]; exact get ga
    ·rintro e cs' ⟨rfl, _, rfl⟩
     exact hk
    ·rintro e cs' ch ⟨_, h, _⟩; cases h
   ·exact h.elim
  ·exact h.elim
 ·exact h.elim
end
end Go.Proofs.YtekioipmhhcbhaaDoor
set_option maxRecDepth 100000
set_option maxHeartbeats 4000000
namespace Go.Proofs.YtekioipmhhcbhaaDoor
open Go Go.Z Go.Q Go.W6
open Go.Y hiding KE KK KR go Task go_sound
noncomputable section
variable [Ext]
abbrev GBk : GQ := ⟨⟨varG 0, kn9, [(0, spaceV)]⟩, [(16, sScan), (20, sQuoR), (21, sUnqR), (23, sJoin), (18, sSameG)], []⟩
theorem spW_ge (t : KT) : t.2.length <= (spW t).length := by
 unfold spW
 split
 ·have := (zvy t.2).1
  simp only [List.length_cons, List.length_append, List.length_nil]
  omega
 ·exact Nat.le_refl _
theorem wp_spell {i : Nat} {u : List UInt8} {l : List Tok} (h : Wp i u l) : u.length <= 20000 -> ∀ t ∈ l, spellF t.kind t.text = (spW (ktT t), 0) /\ t.text.length <= u.length := by
 induction h with
 | nil i => exact λ _ t ht => by cases ht
 | @blank i c r l hc _ ih =>
  intro hb t ht
  simp only [List.length_cons] at hb ⊢
  obtain ⟨a, b⟩ := ih (by omega) t ht
  exact ⟨a, by omega⟩
 | @note i b r l hb' hr _ ih =>
  intro hb t ht
  simp only [List.length_cons, List.length_append] at hb ⊢
  obtain ⟨a, b⟩ := ih (by omega) t ht
  exact ⟨a, by omega⟩
 | @tok i w r x l hw hx he hb' _ ih =>
  intro hb t ht
  rw [List.length_append] at hb ⊢
  rcases List.mem_cons.1 ht with rfl | ht
  ·obtain ⟨t1, t2, t3, t4, _⟩ := src_tok hw (by omega) hx he hb'
   have := spW_ge (x.kind, x.text)
   exact ⟨t4, by show x.text.length <= _; dsimp only at this; omega⟩
  ·obtain ⟨a, b⟩ := ih (by omega) t ht
   exact ⟨a, by omega⟩
abbrev rowsB (s : List UInt8) : List (List V) := (scanF s).1.map (rowTok s)
theorem rows_kt (s : List UInt8) : (rowsB s).map kt = (scanF s).1.map ktT := by
 rw [List.map_map]; rfl
theorem zym {s : List UInt8} (hs : s.length <= 2000) (h : (scanF s).2.2 = 0) : RowsOk (rowsB s) /\ joinX (rowsB s) = runJ ((scanF s).1.map ktT) ([], []) := by
 have hw := scan_ws (by omega) h
 have hl := wp_len hw
 have hp := wp_spell hw (by omega)
 have h0 : spErr (rowsB s) = 0 := spErr_all λ r hr => by
  obtain ⟨t, ht, rfl⟩ := List.mem_map.1 hr
  show (spellF t.kind t.text).2 = 0
  rw [(hp t ht).1]
 refine ⟨⟨by rw [List.length_map]; omega, λ r hr => ?_⟩, ?_⟩
 ·obtain ⟨t, ht, rfl⟩ := List.mem_map.1 hr
  have := (hp t ht).2
  show t.text.length <= 2000
  omega
 ·unfold joinX
  rw [if_neg (λ g => g h0), if_neg (by rw [List.length_map]; omega), rows_kt]
theorem back_facts {a : List UInt8} (ha : a.length <= 2000) (h : (scanF a).2.2 = 0) :
  (joinX (rowsB a)).2 = 0 /\ RowsOk (rowsB a) /\ (scanF (joinX (rowsB a)).1).2.2 = 0 /\ RowsOk (rowsB (joinX (rowsB a)).1) /\ (joinX (rowsB (joinX (rowsB a)).1)).2 = 0 /\ (joinX (rowsB a)).1 = (joinX (rowsB (joinX (rowsB a)).1)).1 /\ sameG (rowsB a) (rowsB (joinX (rowsB a)).1) = true /\ (joinX (rowsB a)).1.length <= a.length := by
 obtain ⟨t, e1, e2, e3, e4⟩ := join_scan ha h
 obtain ⟨r1, r2⟩ := zym ha h
 obtain ⟨r3, r4⟩ := zym (by omega) e2
 rw [e1] at r2
 rw [e3, e1] at r4
 rw [r2]
 dsimp only
 rw [r4]
 refine ⟨rfl, r1, e2, r3, rfl, rfl, ?_, e4⟩
 rw [sameG_kt, rows_kt, e3]
 ·exact decide_eq_true rfl
 ·intro r hr
  obtain ⟨x, _, rfl⟩ := List.mem_map.1 hr
  show (x.kind : Int) = ((x.kind : Int).toNat : Nat)
  omega
theorem quote_tok {b : List UInt8} (hb : (quoteF b).2 = 0) : ∃ t, (scanF (quoteF b).1).1 = [t] /\ t.kind = 5 /\ t.text = b /\ (scanF (quoteF b).1).2.2 = 0 /\ unqR (quoteF b).1 = (b, 0) /\ (quoteF b).1.length <= 4002 := by
 have h1 : b.all quoB = true := by
  by_cases h : b.all quoB = true
  ·exact h
  ·unfold quoteF at hb; rw [if_pos (by simpa using h)] at hb; cases hb
 have h2 : b.length <= 1000 := by
  by_cases h : 1000 < b.length
  ·unfold quoteF at hb; rw [if_neg (by rw [h1]; simp), if_pos h] at hb; cases hb
  ·omega
 have e : (quoteF b).1 = 34 :: (dblB b ++ [34]) := by unfold quoteF; rw [if_neg (by rw [h1]; simp), if_neg (by omega)]
 obtain ⟨t1, t2⟩ := quo_tokS h1 h2
 have hl : (34 :: (dblB b ++ [34])).length <= 4002 := by
  have := (zvy b).2
  simp only [List.length_cons, List.length_append, List.length_nil]
  omega
 have ec : cat [((5 : Nat), b)] = 34 :: (dblB b ++ [34]) := by rw [zwe, t2]; exact List.append_nil _
 obtain ⟨a1, a2⟩ := adj_scan (l := [(5, b)]) ⟨t1, zkw t1, trivial⟩ (by rw [ec]; omega) (by show 1 <= 6000; decide)
 rw [ec] at a1 a2
 rw [e]
 obtain ⟨t, ht, hk⟩ : ∃ t, (scanF (34 :: (dblB b ++ [34]))).1 = [t] /\ ktT t = (5, b) := by
  generalize (scanF (34 :: (dblB b ++ [34]))).1 = L at a2
  cases L with
  | nil => cases a2
  | cons t L =>
   obtain ⟨h5, h6⟩ := List.cons.inj a2
   cases L with
   | nil => exact ⟨t, rfl, h5⟩
   | cons _ _ => cases h6
 exact ⟨t, ht, congrArg (·.1) hk, congrArg (·.2) hk, a1, unqR_yes ⟨rfl, h1, h2⟩, hl⟩
theorem back_run (hX : MaxOk) (a b : List UInt8) (ty : Nat) : TaskOk Tryd.prog GBk (.call 7 [.sstr a, .sstr b] (varM spaceV ty) λ e _ => e = .ret (.bool true)) := by
 refine go_sound (G := GBk) qmix qNG known9 (fs_all (by exact ⟨scan_ok, lquo_ok hX, lunq_ok hX, join_ok hX, sameGs_ok, trivial⟩)) (zqz rfl) 500 _ ?_
 have no : ∀ {p : Prop} [Decidable p] {q : Prop}, p -> decide p = false -> q := λ hp h => absurd hp (of_decide_eq_false h)
 have no2 : ∀ {p : Prop} [Decidable p] {q : Prop}, p -> (!decide p) = true -> q := λ hp h => absurd hp (nT h)
 have ff : ∀ {x : Bool} {q : Prop}, x = true -> x = false -> q := λ h1 h2 => by rw [h1] at h2; cases h2
 have lm : ∀ s : List UInt8, (scanF s).1.length = (rowsB s).length := λ s => (List.length_map ..).symm
 refine ⟨trivial, trivial, λ h1 => ⟨trivial, trivial, λ h2 => ?_, λ _ => rfl⟩, λ _ => rfl⟩
 have h1 : (a.length : Int) <= 2000 := of_decide_eq_true h1
 have h2 : (b.length : Int) <= 2000 := of_decide_eq_true h2
 have ha : a.length <= 2000 := by omega
 have la := scan_le2 a
 have lb : b.length <= 20000 := by omega
 have tail := λ h : ((scanF a).2.2 : Int) = 0 => back_facts ha (by omega)
 have ci : ∀ {n : Nat}, n = 0 -> (n : Int) = 0 := λ h => by omega
 refine ⟨lb, trivial, λ h3 => ?_, λ h32 => ⟨rfl, trivial, λ _ => rfl, λ h15 => ?_⟩⟩
 ·obtain ⟨t, q1, q2, q3, q4, q5, q6⟩ := quote_tok (of_decide_eq_true h3)
  have u1 : (unqR (quoteF b).1).2 = 0 := by rw [q5]
  have u2 : (unqR (quoteF b).1).1 = b := by rw [q5]
  have u3 : ((scanF (quoteF b).1).2.2 : Int) = 0 := ci q4
  have u4 : ((scanF (quoteF b).1).1.length : Int) = 1 := by rw [q1]; rfl
  have u5 : 0 < (rowsB (quoteF b).1).length := by unfold rowsB; rw [q1]; exact Nat.zero_lt_one
  have u6 : vI (((rowsB (quoteF b).1).getD (0 + Int.toNat 0) []).getD 0 .und) = 5 := by unfold rowsB; rw [q1]; show (t.kind : Int) = 5; omega
  have u7 : vS (((rowsB (quoteF b).1).getD (0 + Int.toNat 0) []).getD (0 + 1) .und) = b := by unfold rowsB; rw [q1]; exact q3
  refine ⟨Nat.le_trans q6 (by decide), rfl, trivial, no2 u1, λ _ => ⟨trivial, no2 u2, λ _ => ⟨trivial, no2 u3, λ _ => ⟨trivial, trivial, no2 u4, λ _ => ⟨⟨Int.le_refl 0, by rw [u4]; decide⟩, u5, trivial, λ _ => ⟨trivial, λ _ => ⟨rfl, trivial, λ _ => rfl, λ h15 => ?_⟩, no u7⟩, no u6⟩⟩⟩⟩⟩
  obtain ⟨b1, b2, b3, b4, b5, b6, b7, b8⟩ := tail (nF h15)
  exact ⟨⟨rfl, rfl, lm a, rfl, b2⟩, rfl, ⟨rfl, rfl, lm _, rfl, b4⟩, trivial, λ _ => ⟨trivial, λ _ => ⟨trivial, λ _ => ⟨⟨rfl, rfl, rfl, rfl, lm a, lm _, by omega⟩, λ _ => ⟨trivial, λ _ => ⟨trivial, trivial, trivial, λ _ => rfl, no (Int.ofNat_le.2 b8)⟩, no b6⟩, ff b7⟩, no b5⟩, no (ci b3)⟩, no b1⟩
 ·obtain ⟨b1, b2, b3, b4, b5, b6, b7, b8⟩ := tail (nF h15)
  exact ⟨⟨rfl, rfl, lm a, rfl, b2⟩, rfl, ⟨rfl, rfl, lm _, rfl, b4⟩, trivial, λ _ => ⟨trivial, λ _ => ⟨trivial, λ _ => ⟨⟨rfl, rfl, rfl, rfl, lm a, lm _, by omega⟩, λ _ => ⟨trivial, λ _ => ⟨trivial, trivial, trivial, λ _ => rfl, no (Int.ofNat_le.2 b8)⟩, no b6⟩, ff b7⟩, no b5⟩, no (ci b3)⟩, no b1⟩
end
end Go.Proofs.YtekioipmhhcbhaaDoor
