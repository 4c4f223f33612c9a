/- strings.ReplaceAll's summary; lex.Quote, lex.Unquote, lex.Spell: summaries. -/
import Derived.Test.YtekioipmhhcbhaaDoorV7
import Derived.Test.YtekioipmhhcbhaaDoorKr
import Derived.Test.YtekioipmhhcbhaaDoorM9
import Derived.Test.YtekioipmhhcbhaaDoorV6
set_option linter.unusedVariables false
set_option linter.unusedSectionVars false
set_option linter.unusedSimpArgs false
namespace Go.Proofs.YtekioipmhhcbhaaDoor
open Go Go.Z Go.Q Go.W6
open Go.Y hiding KE KK KR go Task go_sound
noncomputable section
variable [Ext]
def MaxOk : Prop := ∃ cs ty fr m, Ext.x 1 = some (.cells cs ty fr) /\ cs[0]? = some (.int .i64 m)
def sRepl (args : List V) (hp : Mem) (k : KE) : Prop := match args with
 | [v, .str a, .str b] => match strOf v with
  | some s => (s.length <= 20000 /\ 1 <= a.length /\ b.length <= 2) /\ k (.ret (.sstr (Go.Lib.replaceAll s a b))) hp
  | none => False
 | _ => False
theorem repl_ok {G : GQ} (hX : MaxOk) : ∀ args hp k, sRepl args hp k -> TaskOk Tryd.prog G (.call 36 args hp k) := by
 intro args hp k h
 unfold sRepl at h
 split at h
 ·rename_i v a b
  split at h
  ·rename_i s hs
   obtain ⟨⟨h1, h2, h3⟩, hk⟩ := h
   refine lib_ofX (zwf Tryd.func36 (by kernel_rfl)) _ hk ?_
   rintro ρ us ⟨u, us', hu, ⟨u2, us2, hu2, ⟨u3, us3, hu3, hus, rfl⟩, rfl⟩, rfl⟩
   cases hus
   have hu2 : u2 = .string (Z.bs a) := hu2
   have hu3 : u3 = .string (Z.bs b) := hu3
   cases zxz hs hu
   subst hu2 hu3
   refine ⟨_, rfl, λ w hw => ?_⟩
   obtain ⟨cs, ty, fr, m, hc, hm⟩ := hX
   have hcell : w.cell? ⟨1, 0, none⟩ = some (.int .i64 m) := by
    unfold World.cell?
    rw [hw _ _ hc]
    exact hm
   have sz : ∀ l : List UInt8, (Z.bs l).size = l.length := λ l => by show (Z.bs l).data.size = _; simp [Z.bs]
   have := Go.Proofs.Tryd.strings_ReplaceAll (Z.bs s) (Z.bs a) (Z.bs b) m w (by rw [sz]; omega) hcell (by rw [sz]; exact h2) (by
    have := Go.Lib.countB_le (Z.bs a) (by rw [sz]; exact h2) (Z.bs s).size (Z.bs s) (Nat.le_refl _)
    rw [sz] at this ⊢
    rw [sz]
    have h4 : Go.Lib.countB (Z.bs s) (Z.bs a) * b.length <= 20001 * 2 := Nat.mul_le_mul (by omega) h3
    omega)
   rw [bs_data, bs_data, bs_data] at this
   exact this
  ·exact h.elim
 ·exact h.elim
end
end Go.Proofs.YtekioipmhhcbhaaDoor
set_option maxRecDepth 100000
set_option maxHeartbeats 4000000
namespace Go.Proofs.YtekioipmhhcbhaaDoor
open Go Go.Z Go.Q Go.W6
open Go.Y hiding KE KK KR go Task go_sound
noncomputable section
variable [Ext]
abbrev retQ (r : List UInt8 × Int) : E -> Prop := retD (.tup [.sstr r.1, .sint .i64 r.2])
theorem zvm {r : List UInt8 × Int} {n : Int} (h : r = ([], n)) : retQ r (.ret (.tup [.str [], .int .i64 n])) := by rw [h]; exact ⟨rfl, ⟨rfl, rfl⟩, trivial⟩
theorem retQ_yes {r : List UInt8 × Int} {s : List UInt8} (h : r = (s, 0)) : retQ r (.ret (.tup [.sstr s, .int .i64 0])) := by rw [h]; exact ⟨rfl, ⟨rfl, rfl⟩, trivial⟩
theorem lquo_ok {G : GQ} (hX : MaxOk) : ∀ args hp k, sQuoR args hp k -> TaskOk Tryd.prog G (.call 20 args hp k) := by
 intro args hp k h
 unfold sQuoR at h
 split at h
 ·split at h
  ·rename_i v s e0
   obtain ⟨hs, hk⟩ := h
   have t : TaskOk Tryd.prog ⟨⟨.nil, [], []⟩, [(36, sRepl)], [(28002, lp Tryd.prog 20 0, lQuoL 0 [])]⟩ (.call 20 [.sstr s] nomem (cutE [] λ e _ _ => retQ (quoteF s) e)) := by
    refine go_sound qmix qNG zqf (fs_one rfl (repl_ok hX)) (ls_one rfl (quoL_ok rfl rfl)) 200 _ ?_
    have hd := dbl_repl s
    have hd2 := zvy s
    refine ⟨trivial, rfl, ⟨rfl, rfl, rfl, hs⟩, λ hq i => ⟨trivial, trivial, λ h1 => ?_, λ h1 => ⟨⟨hs, by decide, by decide⟩, ?_, ?_, ?_⟩⟩, λ hq i => ?_⟩
    ·have h1 : (1000 : Int) < s.length := of_decide_eq_true h1
     exact zvm (by unfold quoteF; rw [hq, if_neg (by simp), if_pos (by omega)])
    all_goals try (have h1 : ¬ (1000 : Int) < s.length := of_decide_eq_false h1)
    ·show 1 + (Go.Lib.replaceAll s [34] [34, 34]).length <= 9223372036854775807
     rw [hd]; omega
    ·show ([34] ++ Go.Lib.replaceAll s [34] [34, 34]).length + 1 <= 9223372036854775807
     rw [hd, List.length_append, List.length_singleton]; omega
    ·show retQ (quoteF s) (.ret (.tup [.sstr ([34] ++ Go.Lib.replaceAll s [34] [34, 34] ++ [34]), .int .i64 0]))
     rw [hd]
     exact retQ_yes (quote_ok hq (by omega))
    ·show retQ (quoteF s) (.ret (.tup [.sstr [], .sint .i64 2]))
     have : quoteF s = ([], 2) := by unfold quoteF; rw [hq, if_pos rfl]
     rw [this]; exact ⟨rfl, ⟨rfl, rfl⟩, trivial⟩
   exact sum_d (zva t zwc) rfl ⟨zqT e0, trivial⟩ rfl rfl hk
  ·exact h.elim
 ·exact h.elim
theorem half_len : ∀ (n : Nat) (s : List UInt8), s.length <= n -> (Go.Lib.replaceAll s [34, 34] [34]).length <= s.length
 | _, [], _ => by rw [repl_nil (by simp) (by decide)]; exact Nat.le_refl _
 | 0, _ :: _, h => by simp at h
 | n + 1, b :: l, h => by
  by_cases hp : ([34, 34] : List UInt8).isPrefixOf (b :: l) = true
  ·obtain ⟨r, hr⟩ := List.isPrefixOf_iff_prefix.1 hp
   rw [<- hr, repl_pre (by simp) (by decide)]
   have h2 := congrArg List.length hr
   simp only [List.length_append, List.length_cons, List.length_nil] at h h2 ⊢
   have := half_len n r (by omega)
   omega
  ·rw [zwB (by simp) (by decide) (Bool.eq_false_iff.2 hp)]
   simp only [List.length_cons] at h ⊢
   have := half_len n l (by omega)
   omega
theorem lunq_ok {G : GQ} (hX : MaxOk) : ∀ args hp k, sUnqR args hp k -> TaskOk Tryd.prog G (.call 21 args hp k) := by
 intro args hp k h
 unfold sUnqR at h
 split at h
 ·split at h
  ·rename_i v s e0
   obtain ⟨hs, hk⟩ := h
   have t : TaskOk Tryd.prog ⟨⟨.nil, [], []⟩, [(36, sRepl), (20, sQuoR)], []⟩ (.call 21 [.sstr s] nomem (cutE [] λ e _ _ => retQ (unqR s) e)) := by
    refine go_sound qmix qNG zqf (fs_all (by exact ⟨repl_ok hX, lquo_ok hX, trivial⟩)) (zqz rfl) 200 _ ?_
    rw [<- unq_same]
    have hl := half_len _ (cutF s 1 (s.length - 1)) (Nat.le_refl _)
    have hc : (cutF s 1 (s.length - 1)).length <= s.length := by unfold cutF; rw [List.length_drop, List.length_take]; omega
    have eT : ((s.length : Int) - 1).toNat = s.length - 1 := by omega
    refine ⟨trivial, trivial, λ h1 => ?_, λ h1 => ⟨?_, trivial, λ h2 => ?_, λ h2 => ⟨trivial, ?_, ?_, trivial, λ h3 => ?_, λ h3 => ⟨trivial, ?_, ?_, ?_, ?_, trivial, λ h4 => ?_, λ h4 => ⟨trivial, λ h5 => ?_, λ h5 => ?_⟩⟩⟩⟩⟩
    ·have h1 : (s.length : Int) < 2 := of_decide_eq_true h1
     exact zvm (by unfold unqL; rw [if_pos (.inl (by omega))])
    all_goals have h1 : ¬ (s.length : Int) < 2 := of_decide_eq_false h1
    ·exact ⟨Int.le_refl _, (by omega : (0 : Int) < s.length)⟩
    ·have h2 : ¬ ((s.getD 0 0).toNat : Int) = 34 := nT h2
     exact zvm (by unfold unqL; rw [if_pos (.inr (.inl (by omega)))])
    all_goals have h2 : ((s.getD 0 0).toNat : Int) = 34 := nF h2
    ·exact ⟨(by omega : (-9223372036854775808 : Int) <= (s.length : Int) - 1), (by omega : (s.length : Int) - 1 <= 9223372036854775807)⟩
    ·exact ⟨(by omega : (0 : Int) <= (s.length : Int) - 1), (by omega : (s.length : Int) - 1 < s.length)⟩
    ·have h3 : ¬ ((s.getD ((s.length : Int) - 1).toNat 0).toNat : Int) = 34 := nT h3
     rw [eT] at h3
     exact zvm (by unfold unqL; rw [if_pos (.inr (.inr (by omega)))])
    all_goals have h3 : ((s.getD ((s.length : Int) - 1).toNat 0).toNat : Int) = 34 := nF h3
    all_goals rw [eT] at h3
    ·exact ⟨(by omega : (-9223372036854775808 : Int) <= (s.length : Int) - 1), (by omega : (s.length : Int) - 1 <= 9223372036854775807)⟩
    ·exact ⟨(by omega : (0 : Int) <= 1), (by omega : (1 : Int) <= (s.length : Int) - 1), (by omega : (s.length : Int) - 1 <= s.length)⟩
    ·refine ⟨?_, by decide, by decide⟩
     show (cutF s 1 ((s.length : Int) - 1).toNat).length <= 20000
     rw [eT]; omega
    ·show (Go.Lib.replaceAll (cutF s 1 ((s.length : Int) - 1).toNat) [34, 34] [34]).length <= 20000
     rw [eT]; omega
    all_goals have hu : unqL s = if (quoteF (Go.Lib.replaceAll (cutF s 1 (s.length - 1)) [34, 34] [34])).2 ≠ 0 \/ (quoteF (Go.Lib.replaceAll (cutF s 1 (s.length - 1)) [34, 34] [34])).1 ≠ s then ([], 2) else (Go.Lib.replaceAll (cutF s 1 (s.length - 1)) [34, 34] [34], 0) := by unfold unqL; rw [if_neg (by omega)]
    ·have h4 : ¬ (quoteF (Go.Lib.replaceAll (cutF s 1 ((s.length : Int) - 1).toNat) [34, 34] [34])).2 = 0 := nT h4
     rw [eT] at h4
     exact zvm (by rw [hu, if_pos (.inl h4)])
    all_goals have h4 : (quoteF (Go.Lib.replaceAll (cutF s 1 ((s.length : Int) - 1).toNat) [34, 34] [34])).2 = 0 := nF h4
    all_goals rw [eT] at h4
    ·have h5 : ¬ (quoteF (Go.Lib.replaceAll (cutF s 1 ((s.length : Int) - 1).toNat) [34, 34] [34])).1 = s := nT h5
     rw [eT] at h5
     exact zvm (by rw [hu, if_pos (.inr h5)])
    ·have h5 : (quoteF (Go.Lib.replaceAll (cutF s 1 ((s.length : Int) - 1).toNat) [34, 34] [34])).1 = s := nF h5
     show retQ (unqL s) (.ret (.tup [.sstr (Go.Lib.replaceAll (cutF s 1 ((s.length : Int) - 1).toNat) [34, 34] [34]), .int .i64 0]))
     rw [eT] at h5 ⊢
     exact retQ_yes (by rw [hu, if_neg (by rintro (h | h); exact h h4; exact h h5)])
   exact sum_d (zva t zwc) rfl ⟨zqT e0, trivial⟩ rfl rfl hk
  ·exact h.elim
 ·exact h.elim
end
end Go.Proofs.YtekioipmhhcbhaaDoor
set_option maxRecDepth 100000
set_option maxHeartbeats 4000000
namespace Go.Proofs.YtekioipmhhcbhaaDoor
open Go Go.Z Go.Q Go.W6
open Go.Y hiding KE KK KR go Task go_sound
noncomputable section
variable [Ext]
def kR (v : V) (ty : Nat) : E -> List (Option Chunk) -> Option Chunk -> Prop := λ e cs nc => cs = [some (spC ty)] /\ nc = none /\ e = .ret v
theorem sp_call {f : Nat} {args args0 : List V} {hp : Mem} {k : KE} {v : V} {ty sz : Nat} {l : List V} {kn0 : List (Nat × List V × KRes)} {vs0 fs ls kn vs gf gl} (h : TaskOk Tryd.prog ⟨⟨varG 0, kn0, vs0⟩, fs, ls⟩ (.call f args0 ⟨1, ofMo ([0].zip [some (spC ty)]), [wh 0]⟩ (cutA [0] (cNn [0] [0] 1 [true] (kR v ty)))))
  (ha : vles args args0) (hr : ∀ g, renVs g args0 = args0) (hao : voks (inI [0]) args0 = true) (hv : ∀ g, renE g (.ret v) = .ret v) (hro : roOk hp.ro = true) (hg : hp.t.get 0 = some (.cells l ty sz)) (hc : Chunk.cells l ty sz = spC ty) (hsm : small hp.n = true) (hpos : Nat.blt 0 hp.n = true)
  (hk : k (.ret v) ⟨hp.n, Tr.set 20 hp.t 0 (some (spC ty)), hp.ro⟩) : TaskOk Tryd.prog ⟨⟨varG 0, kn, vs⟩, gf, gl⟩ (.call f args hp k) := by
 refine call_nw 1 [0] [] [0] [some (spC ty)] [wh 0] (kR v ty) h ?_ ?_ (args0 := args0) (by rw [hr]; exact ha) hao rfl rfl ?_ rfl rfl ?_ ?_ (roOk_lk hro) ?_ hsm ?_ ?_
 ·intro g id e
  have e : (varG 0).get g = some id := e
  obtain ⟨rfl, rfl⟩ := zvJ e
  exact ⟨rfl, rfl⟩
 ·intro l hl; rw [List.mem_singleton.1 hl]; exact Nat.zero_lt_one
 ·show below hp.n [0] = true
  simp only [below, hpos]; rfl
 ·show coks3 (inI [0]) [some (spC ty)] = true
  simp only [coks3, cloC, cok, zjd]
 ·refine ⟨⟨_, hg, ?_⟩, trivial⟩
  rw [hc]
  exact zqb _
 ·intro ρ W hH i hi
  rw [List.mem_singleton.1 hi]
  obtain ⟨b, o, _, h2⟩ := hH.rel 0 _ hg
  obtain ⟨c, h3⟩ := h2.at
  exact ⟨_, h3⟩
 ·rintro e cs' ⟨rfl, _, rfl⟩
  rw [hv]
  exact hk
 ·rintro e cs' ch ⟨_, h, _⟩; cases h
theorem cN_sp {v : V} {ty n : Nat} {e : E} (h : ele e (.ret v)) (he : eok (inI [0]) (.ret v) = true) : cNn [0] [0] 1 [true] (kR v ty) e n [some (spC ty)] :=
 .inl ⟨.ret v, [some (spC ty)], h, he, ⟨zqb _, trivial⟩, rfl, by show coks3 (inI [0]) [some (spC ty)] = true; simp only [coks3, cloC, cok, zjd], rfl, rfl, rfl⟩
def spelV (kk : Int) (s : List UInt8) : V := .tup [.sstr (spellF kk s).1, .sint .i64 (spellF kk s).2]
def sSpell (args : List V) (hp : Mem) (k : KE) : Prop := match args with
 | [v0, v1] => match int64 v0, strOf v1, roOk hp.ro, hp.t.get 0, small hp.n, Nat.blt 0 hp.n with
  | some kk, some s, true, some (.cells l ty sz), true, true => (s.length <= 20000 /\ Chunk.cells l ty sz = spC ty) /\ k (.ret (.tup [.sstr (spellF kk s).1, .sint .i64 (spellF kk s).2])) ⟨hp.n, Tr.set 20 hp.t 0 (some (spC ty)), hp.ro⟩
  | _, _, _, _, _, _ => False
 | _ => False
theorem spell_run (hX : MaxOk) (kk : Int) (s : List UInt8) (ty : Nat) (hs : s.length <= 20000) : TaskOk Tryd.prog ⟨⟨varG 0, [], [(0, spaceV)]⟩, [(42, sSingle), (20, sQuoR)], []⟩ (.call 37 [.sint .i64 kk, .sstr s] ⟨1, ofMo ([0].zip [some (spC ty)]), [wh 0]⟩ (cutA [0] (cNn [0] [0] 1 [true] (kR (spelV kk s) ty)))) := by
 refine go_sound (G := ⟨⟨varG 0, [], [(0, spaceV)]⟩, _, _⟩) qmix qNG zqf (fs_all (by exact ⟨single_ok, lquo_ok hX, trivial⟩)) (zqz rfl) 200 _ ?_
 have out : ∀ {r : List UInt8 × Int} {a b : V}, spellF kk s = r -> dle a (.sstr r.1) -> dle b (.sint .i64 r.2) -> cNn [0] [0] 1 [true] (kR (spelV kk s) ty) (.ret (.tup [a, b])) 1 [some (spC ty)] := λ {r a b} h h1 h2 =>
  cN_sp (v := spelV kk s) (by show dle (.tup [_, _]) (spelV kk s); unfold spelV; rw [h]; exact ⟨h1, h2, trivial⟩) rfl
 have ok : (kk = 1 \/ kk = 2 \/ kk = 3 \/ kk = 4 \/ kk = 6) -> ((!zqC kk s) = true -> cNn [0] [0] 1 [true] (kR (spelV kk s) ty) (.ret (.tup [.str [], .int .i64 2])) 1 [some (spC ty)]) /\ ((!zqC kk s) = false -> cNn [0] [0] 1 [true] (kR (spelV kk s) ty) (.ret (.tup [.sstr s, .int .i64 0])) 1 [some (spC ty)]) := λ h => by
  have h := zwu hs h
  cases hb : zqC kk s <;> rw [hb] at h
  ·exact ⟨λ _ => out h rfl ⟨rfl, rfl⟩, λ h => by cases h⟩
  ·exact ⟨λ h => by (cases h), λ _ => out h rfl ⟨rfl, rfl⟩⟩
 refine ⟨trivial, λ h => ⟨hs, trivial, λ g => out (r := ([], 2)) ?_ rfl ⟨rfl, rfl⟩, λ g => out (r := ((quoteF s).1, 0)) ?_ rfl ⟨rfl, rfl⟩⟩, λ a5 => ⟨trivial, λ h => ⟨rfl, trivial, (ok ?_).1, (ok ?_).2⟩, λ a1 => ⟨trivial, λ h => ⟨rfl, trivial, (ok ?_).1, (ok ?_).2⟩, λ a2 => ⟨trivial, λ h => ⟨rfl, trivial, (ok ?_).1, (ok ?_).2⟩, λ a3 => ⟨trivial, λ h => ⟨rfl, trivial, (ok ?_).1, (ok ?_).2⟩, λ a4 => ⟨trivial, λ h => ⟨rfl, trivial, (ok ?_).1, (ok ?_).2⟩, λ a6 => out (r := ([], 1)) ?_ rfl ⟨rfl, rfl⟩⟩⟩⟩⟩⟩⟩
 ·have h : kk = 5 := of_decide_eq_true h
  have g : ¬ (quoteF s).2 = 0 := nT g
  unfold spellF; rw [if_neg (by omega), if_neg (by omega), if_neg (by omega), if_neg (by omega), if_pos h, if_neg g]
 ·have h : kk = 5 := of_decide_eq_true h
  have g : (quoteF s).2 = 0 := nF g
  unfold spellF; rw [if_neg (by omega), if_neg (by omega), if_neg (by omega), if_neg (by omega), if_pos h, if_pos g]
 ·exact .inl (of_decide_eq_true h)
 ·exact .inl (of_decide_eq_true h)
 ·exact .inr (.inl (of_decide_eq_true h))
 ·exact .inr (.inl (of_decide_eq_true h))
 ·exact .inr (.inr (.inl (of_decide_eq_true h)))
 ·exact .inr (.inr (.inl (of_decide_eq_true h)))
 ·exact .inr (.inr (.inr (.inl (of_decide_eq_true h))))
 ·exact .inr (.inr (.inr (.inl (of_decide_eq_true h))))
 ·exact .inr (.inr (.inr (.inr (of_decide_eq_true h))))
 ·exact .inr (.inr (.inr (.inr (of_decide_eq_true h))))
 ·have b5 : ¬ kk = 5 := of_decide_eq_false a5
  have b1 : ¬ kk = 1 := of_decide_eq_false a1
  have b2 : ¬ kk = 2 := of_decide_eq_false a2
  have b3 : ¬ kk = 3 := of_decide_eq_false a3
  have b4 : ¬ kk = 4 := of_decide_eq_false a4
  have b6 : ¬ kk = 6 := of_decide_eq_false a6
  unfold spellF; rw [if_neg b1, if_neg b2, if_neg (by omega), if_neg b6, if_neg b5]
theorem spell_ok {kn vs gf gl} (hX : MaxOk) : ∀ args hp k, sSpell args hp k -> TaskOk Tryd.prog ⟨⟨varG 0, kn, vs⟩, gf, gl⟩ (.call 37 args hp k) := by
 intro args hp k h
 unfold sSpell at h
 split at h
 ·split at h
  ·rename_i v0 v1 kk s l ty sz h0 h1 hro hg hsm hpos
   obtain ⟨⟨hs, hc⟩, hk⟩ := h
   exact sp_call (spell_run hX kk s ty hs) ⟨zqr h0, zqT h1, trivial⟩ (λ _ => rfl) rfl (λ _ => rfl) hro hg hc hsm hpos hk
  ·exact h.elim
 ·exact h.elim
end
end Go.Proofs.YtekioipmhhcbhaaDoor
namespace Go.Proofs.YtekioipmhhcbhaaDoor
open Go Go.Z Go.Q Go.W6
open Go.Y hiding KE KK KR go Task go_sound
noncomputable section
def kI (r : List V) : Int := vI (r.getD 0 .und)
def tS (r : List V) : List UInt8 := vS (r.getD 1 .und)
def spR (r : List V) : List UInt8 × Int := spellF (kI r) (tS r)
def spErr : List (List V) -> Int
 | [] => 0
 | r :: l => if (spR r).2 = 0 then spErr l else (spR r).2
def kt (r : List V) : KT := ((kI r).toNat, tS r)
def joinX (xs : List (List V)) : List UInt8 × Int := if spErr xs ≠ 0 then ([], spErr xs) else if 6000 < xs.length then ([], 3) else runJ (xs.map kt) ([], [])
theorem spErr_all {xs : List (List V)} (h : ∀ r ∈ xs, (spR r).2 = 0) : spErr xs = 0 := by
 induction xs with
 | nil => rfl
 | cons r l ih => unfold spErr; rw [if_pos (h r List.mem_cons_self)]; exact ih λ r hr => h r (List.mem_cons_of_mem _ hr)
theorem spErr_at : ∀ {xs : List (List V)} {i : Nat}, i < xs.length -> (∀ j, j < i -> (spR (xs.getD j [])).2 = 0) -> (spR (xs.getD i [])).2 ≠ 0 -> spErr xs = (spR (xs.getD i [])).2
 | [], i, hi, _, _ => absurd hi (Nat.not_lt_zero _)
 | r :: l, 0, _, _, h => by
  unfold spErr
  rw [if_neg (show ¬ (spR r).2 = 0 from h)]; rfl
 | r :: l, i + 1, hi, ha, h => by
  unfold spErr
  rw [if_pos (show (spR r).2 = 0 from ha 0 (Nat.succ_pos _))]
  exact spErr_at (xs := l) (Nat.lt_of_succ_lt_succ hi) (λ j hj => ha (j + 1) (Nat.succ_lt_succ hj)) h
theorem zvj : ∀ {xs : List (List V)}, spErr xs = 0 -> ∀ r ∈ xs, (spR r).2 = 0
 | [], _, r, hr => by cases hr
 | a :: l, h, r, hr => by
  unfold spErr at h
  split at h
  ·rename_i h0
   rcases List.mem_cons.1 hr with rfl | hr
   ·exact h0
   ·exact zvj h r hr
  ·rename_i h0; exact absurd h h0
theorem row_tokS {r : List V} (hl : (tS r).length <= 20000) (h : (spR r).2 = 0) : kI r = ((kt r).1 : Nat) /\ (spR r).1 = spW (kt r) /\ TokS (kt r) := by
 obtain ⟨n, h1, h2, h3⟩ := spell_tokS hl h
 have e : kt r = (n, tS r) := by unfold kt; rw [h1]; rfl
 refine ⟨by rw [e]; exact h1, by rw [e]; unfold spR; rw [h2], by rw [e]; exact h3⟩
theorem sameG_kt {s : List UInt8} {l : List Tok} {ys : List (List V)} (hy : ∀ r ∈ ys, kI r = ((kt r).1 : Nat)) : sameG (l.map (rowTok s)) ys = decide (l.map ktT = ys.map kt) := by
 have one : ∀ (t : Tok) (r : List V), kI r = ((kt r).1 : Nat) -> sameR (rowTok s t) r = decide (ktT t = kt r) := by
  intro t r hr
  have e : sameR (rowTok s t) r = (decide ((t.kind : Int) = kI r) && decide (t.text = tS r)) := rfl
  rw [e, hr, Bool.eq_iff_iff]
  simp only [Bool.and_eq_true, decide_eq_true_eq]
  constructor
  ·rintro ⟨h1, h2⟩
   have h1 : t.kind = (kt r).1 := by omega
   exact Prod.ext h1 h2
  ·intro h
   exact ⟨by have := congrArg Prod.fst h; have h1 : t.kind = (kt r).1 := this; rw [h1], congrArg Prod.snd h⟩
 have len : (l.map (rowTok s)).length = l.length := List.length_map ..
 by_cases hl : l.length = ys.length
 ·have key : (∀ j, j < l.length -> sameR ((l.map (rowTok s)).getD j []) (ys.getD j []) = true) ↔ l.map ktT = ys.map kt := by
   constructor
   ·intro h
    refine List.ext_getElem (by rw [List.length_map, List.length_map, hl]) λ j h1 h2 => ?_
    rw [List.length_map] at h1 h2
    have hj := h j h1
    have hm : ys[j] ∈ ys := List.getElem_mem h2
    rw [List.getD_eq_getElem?_getD, List.getElem?_map, List.getElem?_eq_getElem h1, List.getD_eq_getElem?_getD, List.getElem?_eq_getElem h2] at hj
    have hj : sameR (rowTok s l[j]) ys[j] = true := hj
    rw [one _ _ (hy _ hm)] at hj
    rw [List.getElem_map, List.getElem_map]
    exact of_decide_eq_true hj
   ·intro h j hj
    have h2 : j < ys.length := by omega
    have hm : ys[j] ∈ ys := List.getElem_mem h2
    rw [List.getD_eq_getElem?_getD, List.getElem?_map, List.getElem?_eq_getElem hj, List.getD_eq_getElem?_getD, List.getElem?_eq_getElem h2]
    show sameR (rowTok s l[j]) ys[j] = true
    rw [one _ _ (hy _ hm)]
    have := congrArg (λ z : List KT => z[j]?) h
    simp only [List.getElem?_map, List.getElem?_eq_getElem hj, List.getElem?_eq_getElem h2, Option.map_some, Option.some.injEq] at this
    exact decide_eq_true this
  by_cases hk : l.map ktT = ys.map kt
  ·rw [decide_eq_true hk]
   exact sameG_t (by rw [len, hl]) λ j hj => key.2 hk j (by rwa [len] at hj)
  ·rw [decide_eq_false hk]
   cases hb : sameG (l.map (rowTok s)) ys with
   | false => rfl
   | true =>
    refine absurd (key.1 λ j hj => ?_) hk
    unfold sameG at hb
    rw [Bool.and_eq_true] at hb
    exact List.all_eq_true.1 hb.2 j (List.mem_range.2 (by rw [len]; exact hj))
 ·rw [sameG_l (by rw [len]; exact hl), decide_eq_false]
  intro h
  have := congrArg List.length h
  rw [List.length_map, List.length_map] at this
  exact hl this
theorem zjJ {l : List KT} {t : KT} {st : JS} (h : (txt (stepJ st t).1).length <= 20000) : runJ (t :: l) st = runJ l (stepJ st t) := by
 show (if 20000 < (txt (stepJ st t).1).length then ([], 3) else runJ l (stepJ st t)) = _
 rw [if_neg (by omega)]
theorem zwx {l : List KT} {t : KT} {st : JS} (h : 20000 < (txt (stepJ st t).1).length) : runJ (t :: l) st = ([], 3) := by
 show (if 20000 < (txt (stepJ st t).1).length then ([], 3) else runJ l (stepJ st t)) = _
 rw [if_pos h]
end
end Go.Proofs.YtekioipmhhcbhaaDoor
namespace Go.Proofs.YtekioipmhhcbhaaDoor
open Go Go.Z Go.Q Go.W6
open Go.Y hiding KE KK KR go Task go_sound
noncomputable section
variable [Ext]
abbrev ts0J : List Nat := [0, 2, 3, 4, 12, 13, 14]
def leSJ (n : Nat) (e : Int) (w : V) (i : Int) : List V := [.ssl 1 0 n 6, .sstr [], .sint .i64 e, w, .ssl 1 0 n 6, .sint .i64 n, .sint .i64 i]
def wR (r : List V) : List V := [.sstr (spR r).1]
def txV : Nat -> V
 | 0 => .nils
 | m + 1 => .ssl 2 0 (m + 1) 1
def txC (xs : List (List V)) : Nat -> Option Chunk
 | 0 => none
 | m + 1 => some (.rows ((xs.take (m + 1)).map wR) [.str] 9)
def idT : Nat -> List Nat
 | 0 => []
 | _ + 1 => [2]
def chT (xs : List (List V)) : Nat -> List Chunk
 | 0 => []
 | m + 1 => [.rows ((xs.take (m + 1)).map wR) [.str] 9]
def RowsOk (xs : List (List V)) : Prop := xs.length <= 30000 /\ ∀ r ∈ xs, (tS r).length <= 2000
def lSpJ (fi : FI) (ds : List DV) (env : Tr V) (hp : Mem) (k : KK) : Prop := match Nat.beq fi.nt 56, fi.ro, ds, Nat.beq hp.n 2, hp.ro with
 | true, none, [], true, [(0, 0, 0)] => (match pk ts0J env, pk [0, 1] hp.t with
  | [some (.ssl 1 0 n 6), some v2, some v3, some .nils, some (.ssl 1 0 m 6), some v5, some v6], [some (.cells l ty sz), some (.rowsO xs sh ty')] => match strOf v2, int64 v3, int64 v5, int64 v6 with
   | some [], some z, some j, some i => (z = 0 /\ i = 0 /\ n = xs.length /\ m = xs.length /\ j = (xs.length : Nat) /\ Chunk.cells l ty sz = spC ty /\ sh = shTok /\ ty' = 34 /\ RowsOk xs) /\
     (spErr xs = 0 -> k (.exit 0) [] (ofE (ts0J.zip (leSJ xs.length 0 (txV xs.length) xs.length))) ⟨3, ofM ((0 :: 1 :: idT xs.length).zip (spC ty :: tokC xs :: chT xs xs.length)), [wh 0]⟩) /\
     (spErr xs ≠ 0 -> ∀ (w : V) (i : Int), k .ret [] (ofE (ts0J.zip (leSJ xs.length (spErr xs) w i))) ⟨4, ofM ([0, 1].zip [spC ty, tokC xs]), [wh 0]⟩)
   | _, _, _, _ => False
  | _, _ => False)
 | _, _, _, _, _ => False
inductive FJ where
 | a | b | c | d | e
def rV (r : List V) : List V := [.sint .i64 (vI (r.getD 0 .und)), .sstr (vS (r.getD 1 .und)), .sint .i64 (vI (r.getD 2 .und)), .sint .i64 (vI (r.getD 3 .und)), .sint .i64 (vI (r.getD 4 .und)), .sint .i64 (vI (r.getD 5 .und))]
structure SJ where
 i : Nat
 st : JS
 f : FJ
 r0 : List V
 r1 : List V
 r2 : List V
 r3 : List V
def lastV : FJ -> V
 | .a => .sl 5 0 0 1 none
 | .b => .sl 5 0 0 2 none
 | .c => .sl 5 0 0 3 none
 | .d => .sl 5 1 6 3 none
 | .e => .slh 5 1 6 3
def lastC (x : SJ) : Chunk := match x.f with
 | .a => .cells (rV x.r3) 34 6
 | .b => .cells (rV x.r2 ++ rV x.r3) 34 6
 | .c => .cells (rV x.r1 ++ (rV x.r2 ++ rV x.r3)) 34 6
 | .d => .cells (rV x.r0 ++ (rV x.r1 ++ (rV x.r2 ++ rV x.r3))) 34 6
 | .e => .cellsH (rV x.r0 ++ (rV x.r1 ++ (rV x.r2 ++ rV x.r3))) 34 6
def rowsJ (x : SJ) : List (List V) := match x.f with
 | .a => [x.r3]
 | .b => [x.r2, x.r3]
 | _ => [x.r1, x.r2, x.r3]
abbrev ts1J : List Nat := [2, 3, 4, 9, 37, 38, 39]
def leJ (n : Nat) (e : Int) (w : V) (i : Int) : List V := [.sstr [], .sint .i64 e, w, .ptr 3 0, .ssl 1 0 n 6, .sint .i64 n, .sint .i64 i]
abbrev joC (l : List V) : Chunk := .cells l 74 4
def bufB (x : SJ) : List UInt8 := txt x.st.1
def tailB (x : SJ) : List UInt8 := cat x.st.2
def lmJ (ty : Nat) (xs : List (List V)) (x : SJ) : List (Option Chunk) := [some (spC ty), some (tokC xs), some (.rows (xs.map wR) [.str] 9), some (joC [.ptr 3 0, .ssl 4 0 (bufB x).length 1, lastV x.f, .sstr (tailB x)]), some (.byt (bufB x) 5), some (lastC x)]
inductive XJ where
 | z
 | s (x : SJ)
def leX (n : Nat) : XJ -> List V
 | .z => leJ n 0 (.ssl 2 0 n 1) 0
 | .s x => leJ n 0 (.ssl 2 0 n 1) x.i
def lmX (ty : Nat) (xs : List (List V)) : XJ -> List (Option Chunk)
 | .z => [some (spC ty), some (tokC xs), some (.rows (xs.map wR) [.str] 9), some (joC [.nilp, .nils, .nils, .str []]), none, none]
 | .s x => lmJ ty xs x
def InvS (xs : List (List V)) (x : SJ) : Prop :=
 (1 <= x.i /\ x.i <= xs.length) /\ 0 < (bufB x).length /\ (bufB x).length <= 20000 /\ x.st.2 = (rowsJ x).map kt /\ (∀ r ∈ rowsJ x, r ∈ xs) /\ runJ ((xs.drop x.i).map kt) x.st = runJ (xs.map kt) ([], [])
def InvX (xs : List (List V)) : XJ -> Prop
 | .z => True
 | .s x => InvS xs x
def muX (n : Nat) : XJ -> Nat
 | .z => n + 1
 | .s x => n - x.i
def lPutJ (fi : FI) (ds : List DV) (env : Tr V) (hp : Mem) (k : KK) : Prop := match Nat.beq fi.nt 56, fi.ro, ds, Nat.beq hp.n 4, hp.ro with
 | true, none, [], true, [(0, 0, 0)] => (match pk ts1J env, pk [0, 1, 2, 3] hp.t with
  | [some v2, some v3, some (.ssl 2 0 m 1), some (.ptr 3 0), some (.ssl 1 0 n 6), some v5, some v6], [some (.cells l ty sz), some (.rowsO xs sh ty'), some (.rows ws [.str] tw), some (.cells [.nilp, .nils, .nils, .str []] tj 4)] => match strOf v2, int64 v3, int64 v5, int64 v6 with
   | some [], some z, some j, some i => (z = 0 /\ i = 0 /\ n = xs.length /\ m = xs.length /\ j = (xs.length : Nat) /\ 0 < xs.length /\ Chunk.cells l ty sz = spC ty /\ sh = shTok /\ ty' = 34 /\ ws = xs.map wR /\ tw = 9 /\ tj = 74 /\ RowsOk xs /\ spErr xs = 0) /\
     ((runJ (xs.map kt) ([], [])).2 = 0 -> ∀ (w : V) (tl : List UInt8), k (.exit 2) [] (ofE (ts1J.zip (leJ xs.length 0 (.ssl 2 0 xs.length 1) xs.length))) ⟨6, ofM ([0, 1, 3, 4].zip [spC ty, tokC xs, joC [.ptr 3 0, .ssl 4 0 (runJ (xs.map kt) ([], [])).1.length 1, w, .sstr tl], .byt (runJ (xs.map kt) ([], [])).1 5]), [wh 0]⟩) /\
     (runJ (xs.map kt) ([], []) = ([], 3) -> ∀ (i : Int) (m : Nat), k .ret [] (ofE (ts1J.zip (leJ xs.length 3 (.ssl 2 0 xs.length 1) i))) ⟨m, ofM ([0, 1].zip [spC ty, tokC xs]), [wh 0]⟩)
   | _, _, _, _ => False
  | _, _ => False)
 | _, _, _, _, _ => False
def nextF : FJ -> FJ
 | .a => .b
 | .b => .c
 | .c => .d
 | .d => .e
 | .e => .e
theorem spw_len {t : KT} (h : t.2.length <= 2000) : (spW t).length <= 4002 := by
 unfold spW
 split
 ·have := (zvy t.2).2
  simp only [List.length_cons, List.length_append, List.length_nil]
  omega
 ·omega
theorem cat_len {l : List KT} (h : ∀ t ∈ l, t.2.length <= 2000) : (cat l).length <= 4002 * l.length := by
 induction l with
 | nil => exact Nat.le_refl _
 | cons t l ih =>
  have := ih λ t ht => h t (List.mem_cons_of_mem _ ht)
  have := spw_len (h t List.mem_cons_self)
  rw [zwe, List.length_append, List.length_cons]
  omega
theorem scan_le2 (s : List UInt8) : (scanF s).1.length <= s.length := by
 rcases Nat.lt_or_ge 20000 s.length with h | h
 ·unfold scanF; rw [if_pos h]; exact Nat.zero_le _
 ·rcases zxu h with ⟨x, _, h2, h3, _⟩ | ⟨p, e, _, h2, _⟩
  ·rw [h2]; exact h3
  ·rw [h2]; exact Nat.zero_le _
theorem rowsJ_len (x : SJ) : (rowsJ x).length <= 3 := by
 unfold rowsJ; split <;> simp
theorem inv_fit {xs : List (List V)} {x : SJ} (h : InvS xs x) (hi : x.i < xs.length) (hf : fitsF x.st.2 (kt (xs.getD x.i [])) = true) (hb : (txt (stepJ x.st (kt (xs.getD x.i []))).1).length <= 20000) : InvS xs ⟨x.i + 1, stepJ x.st (kt (xs.getD x.i [])), nextF x.f, x.r1, x.r2, x.r3, xs.getD x.i []⟩ := by
 obtain ⟨h1, h2, h3, h4, h5, h6⟩ := h
 have e : stepJ x.st (kt (xs.getD x.i [])) = (x.st.1 ++ [(false, kt (xs.getD x.i []))], lastN (x.st.2 ++ [kt (xs.getD x.i [])])) := by
  unfold stepJ
  rw [if_neg (by rw [hf]; simp)]
 have ed : (xs.drop x.i).map kt = kt (xs.getD x.i []) :: (xs.drop (x.i + 1)).map kt := by
  rw [List.drop_eq_getElem_cons hi, List.map_cons, List.getD_eq_getElem?_getD, List.getElem?_eq_getElem hi]; rfl
 have hm : xs.getD x.i [] ∈ xs := by rw [List.getD_eq_getElem?_getD, List.getElem?_eq_getElem hi]; exact List.getElem_mem hi
 refine ⟨⟨by show 1 <= x.i + 1; omega, hi⟩, ?_, hb, ?_, ?_, ?_⟩
 ·show 0 < (txt (stepJ x.st (kt (xs.getD x.i []))).1).length
  rw [e]
  have h2 : 0 < (txt x.st.1).length := h2
  rw [zxs, List.length_append]; omega
 ·show (stepJ x.st (kt (xs.getD x.i []))).2 = _
  rw [e]
  show lastN (x.st.2 ++ [kt (xs.getD x.i [])]) = _
  rw [h4]
  obtain ⟨i, st, f, r0, r1, r2, r3⟩ := x
  cases f <;> rfl
 ·intro r hr
  have : r ∈ rowsJ x \/ r = xs.getD x.i [] := by
   obtain ⟨i, st, f, r0, r1, r2, r3⟩ := x
   cases f <;> simp [rowsJ, nextF] at hr ⊢ <;> grind
  rcases this with h | rfl
  ·exact h5 r h
  ·exact hm
 ·show runJ ((xs.drop (x.i + 1)).map kt) (stepJ x.st (kt (xs.getD x.i []))) = _
  rw [<- h6, ed, zjJ hb]
theorem inv_sep {xs : List (List V)} {x : SJ} (h : InvS xs x) (hi : x.i < xs.length) (hf : fitsF x.st.2 (kt (xs.getD x.i [])) = false) (hb : (txt (stepJ x.st (kt (xs.getD x.i []))).1).length <= 20000) : InvS xs ⟨x.i + 1, stepJ x.st (kt (xs.getD x.i [])), .a, x.r1, x.r2, x.r3, xs.getD x.i []⟩ := by
 obtain ⟨h1, h2, h3, h4, h5, h6⟩ := h
 have hne : x.st.1 ≠ [] := λ h0 => by
  have h2 : 0 < (txt x.st.1).length := h2
  rw [h0] at h2; cases h2
 have e : stepJ x.st (kt (xs.getD x.i [])) = (x.st.1 ++ [(true, kt (xs.getD x.i []))], [kt (xs.getD x.i [])]) := by
  unfold stepJ
  rw [if_pos ⟨hne, hf⟩]
 have ed : (xs.drop x.i).map kt = kt (xs.getD x.i []) :: (xs.drop (x.i + 1)).map kt := by
  rw [List.drop_eq_getElem_cons hi, List.map_cons, List.getD_eq_getElem?_getD, List.getElem?_eq_getElem hi]; rfl
 have hm : xs.getD x.i [] ∈ xs := by rw [List.getD_eq_getElem?_getD, List.getElem?_eq_getElem hi]; exact List.getElem_mem hi
 refine ⟨⟨by show 1 <= x.i + 1; omega, hi⟩, ?_, hb, ?_, ?_, ?_⟩
 ·show 0 < (txt (stepJ x.st (kt (xs.getD x.i []))).1).length
  rw [e]
  have h2 : 0 < (txt x.st.1).length := h2
  rw [zxs, List.length_append]; omega
 ·show (stepJ x.st (kt (xs.getD x.i []))).2 = _
  rw [e]; rfl
 ·intro r hr
  rw [List.mem_singleton.1 hr]; exact hm
 ·show runJ ((xs.drop (x.i + 1)).map kt) (stepJ x.st (kt (xs.getD x.i []))) = _
  rw [<- h6, ed, zjJ hb]
theorem inv_one {xs : List (List V)} (hi : 0 < xs.length) (ht : TokS (kt (xs.getD 0 []))) (hb : (txt (stepJ ([], []) (kt (xs.getD 0 []))).1).length <= 20000) (r0 r1 r2 : List V) : InvS xs ⟨1, stepJ ([], []) (kt (xs.getD 0 [])), .a, r0, r1, r2, xs.getD 0 []⟩ := by
 have e : stepJ ([], []) (kt (xs.getD 0 [])) = ([(false, kt (xs.getD 0 []))], [kt (xs.getD 0 [])]) := by
  unfold stepJ
  rw [if_neg (by simp)]; rfl
 have ed : xs.map kt = kt (xs.getD 0 []) :: (xs.drop 1).map kt := by
  cases xs with
  | nil => cases hi
  | cons r l => rfl
 have hm : xs.getD 0 [] ∈ xs := by rw [List.getD_eq_getElem?_getD, List.getElem?_eq_getElem hi]; exact List.getElem_mem hi
 refine ⟨⟨Nat.le_refl 1, hi⟩, ?_, hb, ?_, ?_, ?_⟩
 ·show 0 < (txt (stepJ ([], []) (kt (xs.getD 0 []))).1).length
  rw [e]
  have := ht.1
  show 0 < (txt [(false, kt (xs.getD 0 []))]).length
  simp only [txt, Bool.false_eq_true, if_false, List.nil_append, List.append_nil]
  exact this
 ·show (stepJ ([], []) (kt (xs.getD 0 []))).2 = _
  rw [e]; rfl
 ·intro r hr
  rw [List.mem_singleton.1 hr]; exact hm
 ·show runJ ((xs.drop 1).map kt) (stepJ ([], []) (kt (xs.getD 0 []))) = _
  rw [ed, zjJ hb]
end
end Go.Proofs.YtekioipmhhcbhaaDoor
