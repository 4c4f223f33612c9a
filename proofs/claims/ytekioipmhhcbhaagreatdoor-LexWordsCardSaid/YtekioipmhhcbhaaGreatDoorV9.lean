/- strings.ReplaceAll's summary; lex.Quote, lex.Unquote, lex.Spell: summaries. -/
import Derived.Test.YtekioipmhhcbhaaGreatDoorV8
import Derived.Test.YtekioipmhhcbhaaGreatDoorKr
import Derived.Test.YtekioipmhhcbhaaGreatDoorM9
set_option linter.unusedVariables false
set_option linter.unusedSectionVars false
set_option linter.unusedSimpArgs false
namespace Go.Proofs.YtekioipmhhcbhaaGreatDoor
open Go Go.Z Go.Q Go.W6
open Go.Y hiding KE KK KR go Task go_sound
noncomputable section
variable [Ext]
def MaxOk : Prop := ∃ cs ty fr m, Ext.x 2 = some (.cells cs ty fr) /\ cs[0]? = some (.int .i64 m)
def sRepl (args : List V) (hp : Mem) (k : KE) : Prop := match args with
 | [v, .str a, .str b] => match strOf v with
  | some s => (s.length <= 20000 /\ 1 <= a.length /\ b.length <= 2) /\ k (.ret (.sstr (Go.Lib.replaceAll s a b))) hp
  | none => False
 | _ => False
theorem repl_ok {G : GQ} (hX : MaxOk) : ∀ args hp k, sRepl args hp k -> TaskOk Tryz.prog G (.call 51 args hp k) := by
 intro args hp k h
 unfold sRepl at h
 split at h
 ·rename_i v a b
  split at h
  ·rename_i s hs
   obtain ⟨⟨h1, h2, h3⟩, hk⟩ := h
   refine lib_ofX (callable Tryz.func51 (by kernel_rfl)) _ hk ?_
   rintro ρ us ⟨u, us', hu, ⟨u2, us2, hu2, ⟨u3, us3, hu3, hus, rfl⟩, rfl⟩, rfl⟩
   cases hus
   have hu2 : u2 = .string (Z.bs a) := hu2
   have hu3 : u3 = .string (Z.bs b) := hu3
   cases zxw hs hu
   subst hu2 hu3
   refine ⟨_, rfl, λ w hw => ?_⟩
   obtain ⟨cs, ty, fr, m, hc, hm⟩ := hX
   have hcell : w.cell? ⟨2, 0, none⟩ = some (.int .i64 m) := by
    unfold World.cell?
    rw [hw _ _ hc]
    exact hm
   have sz : ∀ l : List UInt8, (Z.bs l).size = l.length := λ l => by show (Z.bs l).data.size = _; simp [Z.bs]
   have := Go.Proofs.Tryz.strings_ReplaceAll (Z.bs s) (Z.bs a) (Z.bs b) m w (by rw [sz]; omega) hcell (by rw [sz]; exact h2) (by
    have := Go.Lib.countB_le (Z.bs a) (by rw [sz]; exact h2) (Z.bs s).size (Z.bs s) (Nat.le_refl _)
    rw [sz] at this ⊢
    rw [sz]
    have h4 : Go.Lib.countB (Z.bs s) (Z.bs a) * b.length <= 20001 * 2 := Nat.mul_le_mul (by omega) h3
    omega)
   rw [bs_data, bs_data, bs_data] at this
   exact this
  ·exact h.elim
 ·exact h.elim
end
end Go.Proofs.YtekioipmhhcbhaaGreatDoor
set_option maxRecDepth 100000
set_option maxHeartbeats 4000000
namespace Go.Proofs.YtekioipmhhcbhaaGreatDoor
open Go Go.Z Go.Q Go.W6
open Go.Y hiding KE KK KR go Task go_sound
noncomputable section
variable [Ext]
theorem nT {p : Prop} [Decidable p] (h : (!decide p) = true) : ¬ p := by simpa using h
theorem nF {p : Prop} [Decidable p] (h : (!decide p) = false) : p := by simpa using h
abbrev retQ (r : List UInt8 × Int) : E -> Prop := retD (.tup [.sstr r.1, .sint .i64 r.2])
theorem zkT {r : List UInt8 × Int} {n : Int} (h : r = ([], n)) : retQ r (.ret (.tup [.str [], .int .i64 n])) := by rw [h]; exact ⟨rfl, ⟨rfl, rfl⟩, trivial⟩
theorem retQ_yes {r : List UInt8 × Int} {s : List UInt8} (h : r = (s, 0)) : retQ r (.ret (.tup [.sstr s, .int .i64 0])) := by rw [h]; exact ⟨rfl, ⟨rfl, rfl⟩, trivial⟩
theorem lquo_ok {G : GQ} (hX : MaxOk) : ∀ args hp k, sQuoR args hp k -> TaskOk Tryz.prog G (.call 24 args hp k) := by
 intro args hp k h
 unfold sQuoR at h
 split at h
 ·split at h
  ·rename_i v s e0
   obtain ⟨hs, hk⟩ := h
   have t : TaskOk Tryz.prog ⟨⟨.nil, [], []⟩, [(51, sRepl)], [(28002, lp Tryz.prog 24 0, lQuoL 0 [])]⟩ (.call 24 [.sstr s] nomem (cutE [] λ e _ _ => retQ (quoteF s) e)) := by
    refine go_sound qmix qNG zqb (fs_one rfl (repl_ok hX)) (ls_one rfl (quoL_ok rfl rfl)) 200 _ ?_
    have hd := dbl_repl s
    have hd2 := dbl_len s
    refine ⟨trivial, rfl, ⟨rfl, rfl, rfl, hs⟩, λ hq i => ⟨trivial, trivial, λ h1 => ?_, λ h1 => ⟨⟨hs, by decide, by decide⟩, ?_, ?_, ?_⟩⟩, λ hq i => ?_⟩
    ·have h1 : (1000 : Int) < s.length := of_decide_eq_true h1
     exact zkT (by unfold quoteF; rw [hq, if_neg (by simp), if_pos (by omega)])
    all_goals try (have h1 : ¬ (1000 : Int) < s.length := of_decide_eq_false h1)
    ·show 1 + (Go.Lib.replaceAll s [34] [34, 34]).length <= 9223372036854775807
     rw [hd]; omega
    ·show ([34] ++ Go.Lib.replaceAll s [34] [34, 34]).length + 1 <= 9223372036854775807
     rw [hd, List.length_append, List.length_singleton]; omega
    ·show retQ (quoteF s) (.ret (.tup [.sstr ([34] ++ Go.Lib.replaceAll s [34] [34, 34] ++ [34]), .int .i64 0]))
     rw [hd]
     exact retQ_yes (quote_ok hq (by omega))
    ·show retQ (quoteF s) (.ret (.tup [.sstr [], .sint .i64 2]))
     have : quoteF s = ([], 2) := by unfold quoteF; rw [hq, if_pos rfl]
     rw [this]; exact ⟨rfl, ⟨rfl, rfl⟩, trivial⟩
   exact sum_d (zqv t zqG) rfl ⟨zqi e0, trivial⟩ rfl rfl hk
  ·exact h.elim
 ·exact h.elim
theorem half_len : ∀ (n : Nat) (s : List UInt8), s.length <= n -> (Go.Lib.replaceAll s [34, 34] [34]).length <= s.length
 | _, [], _ => by rw [repl_nil (by simp) (by decide)]; exact Nat.le_refl _
 | 0, _ :: _, h => by simp at h
 | n + 1, b :: l, h => by
  by_cases hp : ([34, 34] : List UInt8).isPrefixOf (b :: l) = true
  ·obtain ⟨r, hr⟩ := List.isPrefixOf_iff_prefix.1 hp
   rw [<- hr, repl_pre (by simp) (by decide)]
   have h2 := congrArg List.length hr
   simp only [List.length_append, List.length_cons, List.length_nil] at h h2 ⊢
   have := half_len n r (by omega)
   omega
  ·rw [repl_cons (by simp) (by decide) (Bool.eq_false_iff.2 hp)]
   simp only [List.length_cons] at h ⊢
   have := half_len n l (by omega)
   omega
theorem lunq_ok {G : GQ} (hX : MaxOk) : ∀ args hp k, sUnqR args hp k -> TaskOk Tryz.prog G (.call 26 args hp k) := by
 intro args hp k h
 unfold sUnqR at h
 split at h
 ·split at h
  ·rename_i v s e0
   obtain ⟨hs, hk⟩ := h
   have t : TaskOk Tryz.prog ⟨⟨.nil, [], []⟩, [(51, sRepl), (24, sQuoR)], []⟩ (.call 26 [.sstr s] nomem (cutE [] λ e _ _ => retQ (unqR s) e)) := by
    refine go_sound qmix qNG zqb (fs_all (by exact ⟨repl_ok hX, lquo_ok hX, trivial⟩)) (zql rfl) 200 _ ?_
    rw [<- unq_same]
    have hl := half_len _ (cutF s 1 (s.length - 1)) (Nat.le_refl _)
    have hc : (cutF s 1 (s.length - 1)).length <= s.length := by unfold cutF; rw [List.length_drop, List.length_take]; omega
    have eT : ((s.length : Int) - 1).toNat = s.length - 1 := by omega
    refine ⟨trivial, trivial, λ h1 => ?_, λ h1 => ⟨?_, trivial, λ h2 => ?_, λ h2 => ⟨trivial, ?_, ?_, trivial, λ h3 => ?_, λ h3 => ⟨trivial, ?_, ?_, ?_, ?_, trivial, λ h4 => ?_, λ h4 => ⟨trivial, λ h5 => ?_, λ h5 => ?_⟩⟩⟩⟩⟩
    ·have h1 : (s.length : Int) < 2 := of_decide_eq_true h1
     exact zkT (by unfold unqL; rw [if_pos (.inl (by omega))])
    all_goals have h1 : ¬ (s.length : Int) < 2 := of_decide_eq_false h1
    ·exact ⟨Int.le_refl _, (by omega : (0 : Int) < s.length)⟩
    ·have h2 : ¬ ((s.getD 0 0).toNat : Int) = 34 := nT h2
     exact zkT (by unfold unqL; rw [if_pos (.inr (.inl (by omega)))])
    all_goals have h2 : ((s.getD 0 0).toNat : Int) = 34 := nF h2
    ·exact ⟨(by omega : (-9223372036854775808 : Int) <= (s.length : Int) - 1), (by omega : (s.length : Int) - 1 <= 9223372036854775807)⟩
    ·exact ⟨(by omega : (0 : Int) <= (s.length : Int) - 1), (by omega : (s.length : Int) - 1 < s.length)⟩
    ·have h3 : ¬ ((s.getD ((s.length : Int) - 1).toNat 0).toNat : Int) = 34 := nT h3
     rw [eT] at h3
     exact zkT (by unfold unqL; rw [if_pos (.inr (.inr (by omega)))])
    all_goals have h3 : ((s.getD ((s.length : Int) - 1).toNat 0).toNat : Int) = 34 := nF h3
    all_goals rw [eT] at h3
    ·exact ⟨(by omega : (-9223372036854775808 : Int) <= (s.length : Int) - 1), (by omega : (s.length : Int) - 1 <= 9223372036854775807)⟩
    ·exact ⟨(by omega : (0 : Int) <= 1), (by omega : (1 : Int) <= (s.length : Int) - 1), (by omega : (s.length : Int) - 1 <= s.length)⟩
    ·refine ⟨?_, by decide, by decide⟩
     show (cutF s 1 ((s.length : Int) - 1).toNat).length <= 20000
     rw [eT]; omega
    ·show (Go.Lib.replaceAll (cutF s 1 ((s.length : Int) - 1).toNat) [34, 34] [34]).length <= 20000
     rw [eT]; omega
    all_goals have hu : unqL s = if (quoteF (Go.Lib.replaceAll (cutF s 1 (s.length - 1)) [34, 34] [34])).2 ≠ 0 \/ (quoteF (Go.Lib.replaceAll (cutF s 1 (s.length - 1)) [34, 34] [34])).1 ≠ s then ([], 2) else (Go.Lib.replaceAll (cutF s 1 (s.length - 1)) [34, 34] [34], 0) := by unfold unqL; rw [if_neg (by omega)]
    ·have h4 : ¬ (quoteF (Go.Lib.replaceAll (cutF s 1 ((s.length : Int) - 1).toNat) [34, 34] [34])).2 = 0 := nT h4
     rw [eT] at h4
     exact zkT (by rw [hu, if_pos (.inl h4)])
    all_goals have h4 : (quoteF (Go.Lib.replaceAll (cutF s 1 ((s.length : Int) - 1).toNat) [34, 34] [34])).2 = 0 := nF h4
    all_goals rw [eT] at h4
    ·have h5 : ¬ (quoteF (Go.Lib.replaceAll (cutF s 1 ((s.length : Int) - 1).toNat) [34, 34] [34])).1 = s := nT h5
     rw [eT] at h5
     exact zkT (by rw [hu, if_pos (.inr h5)])
    ·have h5 : (quoteF (Go.Lib.replaceAll (cutF s 1 ((s.length : Int) - 1).toNat) [34, 34] [34])).1 = s := nF h5
     show retQ (unqL s) (.ret (.tup [.sstr (Go.Lib.replaceAll (cutF s 1 ((s.length : Int) - 1).toNat) [34, 34] [34]), .int .i64 0]))
     rw [eT] at h5 ⊢
     exact retQ_yes (by rw [hu, if_neg (by rintro (h | h); exact h h4; exact h h5)])
   exact sum_d (zqv t zqG) rfl ⟨zqi e0, trivial⟩ rfl rfl hk
  ·exact h.elim
 ·exact h.elim
end
end Go.Proofs.YtekioipmhhcbhaaGreatDoor
set_option maxRecDepth 100000
set_option maxHeartbeats 4000000
namespace Go.Proofs.YtekioipmhhcbhaaGreatDoor
open Go Go.Z Go.Q Go.W6
open Go.Y hiding KE KK KR go Task go_sound
noncomputable section
variable [Ext]
def kR (v : V) (ty : Nat) : E -> List (Option Chunk) -> Option Chunk -> Prop := λ e cs nc => cs = [some (spC ty)] /\ nc = none /\ e = .ret v
theorem sp_call {f : Nat} {args args0 : List V} {hp : Mem} {k : KE} {v : V} {ty sz : Nat} {l : List V} {kn0 : List (Nat × List V × KRes)} {vs0 fs ls kn vs gf gl} (h : TaskOk Tryz.prog ⟨⟨varG 0, kn0, vs0⟩, fs, ls⟩ (.call f args0 ⟨1, ofMo ([0].zip [some (spC ty)]), [wh 0]⟩ (cutA [0] (cNn [0] [0] 1 [true] (kR v ty)))))
  (ha : vles args args0) (hr : ∀ g, renVs g args0 = args0) (hao : voks (inI [0]) args0 = true) (hv : ∀ g, renE g (.ret v) = .ret v) (hro : roOk hp.ro = true) (hg : hp.t.get 0 = some (.cells l ty sz)) (hc : Chunk.cells l ty sz = spC ty) (hsm : small hp.n = true) (hpos : Nat.blt 0 hp.n = true)
  (hk : k (.ret v) ⟨hp.n, Tr.set 20 hp.t 0 (some (spC ty)), hp.ro⟩) : TaskOk Tryz.prog ⟨⟨varG 0, kn, vs⟩, gf, gl⟩ (.call f args hp k) := by
 refine call_nw 1 [0] [] [0] [some (spC ty)] [wh 0] (kR v ty) h ?_ ?_ (args0 := args0) (by rw [hr]; exact ha) hao rfl rfl ?_ rfl rfl ?_ ?_ (roOk_lk hro) ?_ hsm ?_ ?_
 ·intro g id e
  have e : (varG 0).get g = some id := e
  obtain ⟨rfl, rfl⟩ := varG_get e
  exact ⟨rfl, rfl⟩
 ·intro l hl; rw [List.mem_singleton.1 hl]; exact Nat.zero_lt_one
 ·show below hp.n [0] = true
  simp only [below, hpos]; rfl
 ·show coks3 (inI [0]) [some (spC ty)] = true
  simp only [coks3, cloC, cok, zxB]
 ·refine ⟨⟨_, hg, ?_⟩, trivial⟩
  rw [hc]
  exact zqc _
 ·intro ρ W hH i hi
  rw [List.mem_singleton.1 hi]
  obtain ⟨b, o, _, h2⟩ := hH.rel 0 _ hg
  obtain ⟨c, h3⟩ := h2.at
  exact ⟨_, h3⟩
 ·rintro e cs' ⟨rfl, _, rfl⟩
  rw [hv]
  exact hk
 ·rintro e cs' ch ⟨_, h, _⟩; cases h
theorem cN_sp {v : V} {ty n : Nat} {e : E} (h : ele e (.ret v)) (he : eok (inI [0]) (.ret v) = true) : cNn [0] [0] 1 [true] (kR v ty) e n [some (spC ty)] :=
 .inl ⟨.ret v, [some (spC ty)], h, he, ⟨zqc _, trivial⟩, rfl, by show coks3 (inI [0]) [some (spC ty)] = true; simp only [coks3, cloC, cok, zxB], rfl, rfl, rfl⟩
def spelV (kk : Int) (s : List UInt8) : V := .tup [.sstr (spellF kk s).1, .sint .i64 (spellF kk s).2]
def sSpell (args : List V) (hp : Mem) (k : KE) : Prop := match args with
 | [v0, v1] => match int64 v0, strOf v1, roOk hp.ro, hp.t.get 0, small hp.n, Nat.blt 0 hp.n with
  | some kk, some s, true, some (.cells l ty sz), true, true => (s.length <= 20000 /\ Chunk.cells l ty sz = spC ty) /\ k (.ret (.tup [.sstr (spellF kk s).1, .sint .i64 (spellF kk s).2])) ⟨hp.n, Tr.set 20 hp.t 0 (some (spC ty)), hp.ro⟩
  | _, _, _, _, _, _ => False
 | _ => False
theorem spell_one {kk : Int} {s : List UInt8} (hs : s.length <= 20000) (h : kk = 1 \/ kk = 2 \/ kk = 3 \/ kk = 4 \/ kk = 6) : spellF kk s = pickF (zqQ kk s) s := by
 unfold spellF
 rcases h with rfl | rfl | rfl | rfl | rfl
 ·rw [name_one]; rfl
 ·rw [key_one]; rfl
 ·rw [num_one (.inl rfl) hs]; rfl
 ·rw [num_one (.inr rfl) hs]; rfl
 ·rw [sign_one]; rfl
theorem spell_run (hX : MaxOk) (kk : Int) (s : List UInt8) (ty : Nat) (hs : s.length <= 20000) : TaskOk Tryz.prog ⟨⟨varG 0, [], [(0, spaceV)]⟩, [(46, sSingle), (24, sQuoR)], []⟩ (.call 28 [.sint .i64 kk, .sstr s] ⟨1, ofMo ([0].zip [some (spC ty)]), [wh 0]⟩ (cutA [0] (cNn [0] [0] 1 [true] (kR (spelV kk s) ty)))) := by
 refine go_sound (G := ⟨⟨varG 0, [], [(0, spaceV)]⟩, _, _⟩) qmix qNG zqb (fs_all (by exact ⟨single_ok, lquo_ok hX, trivial⟩)) (zql rfl) 200 _ ?_
 have out : ∀ {r : List UInt8 × Int} {a b : V}, spellF kk s = r -> dle a (.sstr r.1) -> dle b (.sint .i64 r.2) -> cNn [0] [0] 1 [true] (kR (spelV kk s) ty) (.ret (.tup [a, b])) 1 [some (spC ty)] := λ {r a b} h h1 h2 =>
  cN_sp (v := spelV kk s) (by show dle (.tup [_, _]) (spelV kk s); unfold spelV; rw [h]; exact ⟨h1, h2, trivial⟩) rfl
 have ok : (kk = 1 \/ kk = 2 \/ kk = 3 \/ kk = 4 \/ kk = 6) -> ((!zqQ kk s) = true -> cNn [0] [0] 1 [true] (kR (spelV kk s) ty) (.ret (.tup [.str [], .int .i64 2])) 1 [some (spC ty)]) /\ ((!zqQ kk s) = false -> cNn [0] [0] 1 [true] (kR (spelV kk s) ty) (.ret (.tup [.sstr s, .int .i64 0])) 1 [some (spC ty)]) := λ h => by
  have h := spell_one hs h
  cases hb : zqQ kk s <;> rw [hb] at h
  ·exact ⟨λ _ => out h rfl ⟨rfl, rfl⟩, λ h => by cases h⟩
  ·exact ⟨λ h => by (cases h), λ _ => out h rfl ⟨rfl, rfl⟩⟩
 refine ⟨trivial, λ h => ⟨hs, trivial, λ g => out (r := ([], 2)) ?_ rfl ⟨rfl, rfl⟩, λ g => out (r := ((quoteF s).1, 0)) ?_ rfl ⟨rfl, rfl⟩⟩, λ a5 => ⟨trivial, λ h => ⟨rfl, trivial, (ok ?_).1, (ok ?_).2⟩, λ a1 => ⟨trivial, λ h => ⟨rfl, trivial, (ok ?_).1, (ok ?_).2⟩, λ a2 => ⟨trivial, λ h => ⟨rfl, trivial, (ok ?_).1, (ok ?_).2⟩, λ a3 => ⟨trivial, λ h => ⟨rfl, trivial, (ok ?_).1, (ok ?_).2⟩, λ a4 => ⟨trivial, λ h => ⟨rfl, trivial, (ok ?_).1, (ok ?_).2⟩, λ a6 => out (r := ([], 1)) ?_ rfl ⟨rfl, rfl⟩⟩⟩⟩⟩⟩⟩
 ·have h : kk = 5 := of_decide_eq_true h
  have g : ¬ (quoteF s).2 = 0 := nT g
  unfold spellF; rw [if_neg (by omega), if_neg (by omega), if_neg (by omega), if_neg (by omega), if_pos h, if_neg g]
 ·have h : kk = 5 := of_decide_eq_true h
  have g : (quoteF s).2 = 0 := nF g
  unfold spellF; rw [if_neg (by omega), if_neg (by omega), if_neg (by omega), if_neg (by omega), if_pos h, if_pos g]
 ·exact .inl (of_decide_eq_true h)
 ·exact .inl (of_decide_eq_true h)
 ·exact .inr (.inl (of_decide_eq_true h))
 ·exact .inr (.inl (of_decide_eq_true h))
 ·exact .inr (.inr (.inl (of_decide_eq_true h)))
 ·exact .inr (.inr (.inl (of_decide_eq_true h)))
 ·exact .inr (.inr (.inr (.inl (of_decide_eq_true h))))
 ·exact .inr (.inr (.inr (.inl (of_decide_eq_true h))))
 ·exact .inr (.inr (.inr (.inr (of_decide_eq_true h))))
 ·exact .inr (.inr (.inr (.inr (of_decide_eq_true h))))
 ·have b5 : ¬ kk = 5 := of_decide_eq_false a5
  have b1 : ¬ kk = 1 := of_decide_eq_false a1
  have b2 : ¬ kk = 2 := of_decide_eq_false a2
  have b3 : ¬ kk = 3 := of_decide_eq_false a3
  have b4 : ¬ kk = 4 := of_decide_eq_false a4
  have b6 : ¬ kk = 6 := of_decide_eq_false a6
  unfold spellF; rw [if_neg b1, if_neg b2, if_neg (by omega), if_neg b6, if_neg b5]
theorem spell_ok {kn vs gf gl} (hX : MaxOk) : ∀ args hp k, sSpell args hp k -> TaskOk Tryz.prog ⟨⟨varG 0, kn, vs⟩, gf, gl⟩ (.call 28 args hp k) := by
 intro args hp k h
 unfold sSpell at h
 split at h
 ·split at h
  ·rename_i v0 v1 kk s l ty sz h0 h1 hro hg hsm hpos
   obtain ⟨⟨hs, hc⟩, hk⟩ := h
   exact sp_call (spell_run hX kk s ty hs) ⟨zqo h0, zqi h1, trivial⟩ (λ _ => rfl) rfl (λ _ => rfl) hro hg hc hsm hpos hk
  ·exact h.elim
 ·exact h.elim
end
end Go.Proofs.YtekioipmhhcbhaaGreatDoor
