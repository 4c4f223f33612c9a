/- Chapter 8: 'awake' answers true wherever the table of spaces is laid. -/
import Derived.Test.YtiilaimcmkdfjaaGreatDoorKc
import Derived.Test.YtiilaimcmkdfjaaGreatDoorC1
set_option linter.unusedVariables false
set_option linter.unusedSectionVars false
set_option linter.unusedSimpArgs false
set_option maxRecDepth 100000
set_option maxHeartbeats 8000000
namespace Go.Proofs.YtiilaimcmkdfjaaGreatDoor
open Go Go.Z Go.Q
open Go.Y hiding KE KK KR go Task go_sound
noncomputable section
theorem known_ops (kn' : List (Nat × List V × KRes)) : ∀ l : List (List UInt8 × Nat), (∀ ty, (l.all λ p => Go.Y.go Tryz.prog ⟨varG 0, [], []⟩ 5000 (.call 224 [.str p.1] (varM spaceV ty) (isRes (.val (.int .i64 (.ofNat p.2)))))) = true) ->
  ∀ f' a r', lookK (l.map (λ p => (224, [V.str p.1], KRes.val (.int .i64 (.ofNat p.2))))) f' a = some r' -> KnC Tryz.prog ⟨varG 0, kn', [(0, spaceV)]⟩ f' a r'
 | [], _ => λ f a r h => by cases h
 | p :: l, h => by
  have h1 : ∀ ty, Go.Y.go Tryz.prog ⟨varG 0, [], []⟩ 5000 (.call 224 [.str p.1] (varM spaceV ty) (isRes (.val (.int .i64 (.ofNat p.2))))) = true := λ ty => by
   have := h ty
   rw [List.all_cons, Bool.and_eq_true] at this
   exact this.1
  have h2 : ∀ ty, (l.all λ p => Go.Y.go Tryz.prog ⟨varG 0, [], []⟩ 5000 (.call 224 [.str p.1] (varM spaceV ty) (isRes (.val (.int .i64 (.ofNat p.2)))))) = true := λ ty => by
   have := h ty
   rw [List.all_cons, Bool.and_eq_true] at this
   exact this.2
  have har : eqPs [V.str p.1] [V.str p.1] = true := by
   simp only [eqPs, eqP, eqB_ok, decide_true]
  exact kn_one (zkc mixed noNG rfl zqh (by kernel_rfl) har h1 _) (known_ops kn' l h2)
theorem zkE : KnOk Tryz.prog G08 :=
 kn_one (zkc mixed noNG rfl zqh (by kernel_rfl) (by kernel_rfl) words_run _) (kn_one (zkc mixed noNG rfl zqh (by kernel_rfl) (by kernel_rfl) signs_run _) (kn_one (zkc mixed noNG rfl zqh (by kernel_rfl) (by kernel_rfl) class_run _) (known_ops _ opW op_run)))
def hasV (hp : Mem) (p : Prop) : Prop := match hp.t.get 0 with
 | some (.cells l ty 1) => l = spaceV /\ p
 | _ => False
theorem zkX {hp : Mem} {p : Prop} (h : hasV hp p) : (∃ ty, hp.t.get 0 = some (.cells spaceV ty 1)) /\ p := by
 unfold hasV at h
 split at h
 ·rename_i l ty hh
  obtain ⟨rfl, h⟩ := h
  exact ⟨⟨ty, hh⟩, h⟩
 ·exact h.elim
def sEx (args : List V) (hp : Mem) (k : KE) : Prop := match args with
 | [.str s] => hasV hp (match eqB s e1S with
  | true => k (.ret (.tup e1R)) hp
  | false => match eqB s e2S with
   | true => k (.ret (.tup e2R)) hp
   | false => match eqB s e3S with
    | true => k (.ret (.tup e3R)) hp
    | false => match eqB s e4S with
     | true => k (.ret (.tup e4R)) hp
     | false => False)
 | _ => False
def sBo (args : List V) (hp : Mem) (k : KE) : Prop := match args with
 | [.str s] => hasV hp (match eqB s e5S with
  | true => k (.ret (.tup e5R)) hp
  | false => False)
 | _ => False
def sUn (args : List V) (hp : Mem) (k : KE) : Prop := match args with
 | [.str s] => hasV hp (match eqB s e6S with
  | true => k (.ret (.tup e6R)) hp
  | false => False)
 | _ => False
theorem eqB_eq {a b : List UInt8} (h : eqB a b = true) : a = b := by rw [eqB_ok, decide_eq_true_eq] at h; exact h
theorem ex_ok {gf gl kn vs} : ∀ args hp k, sEx args hp k -> TaskOk Tryz.prog ⟨⟨varG 0, kn, vs⟩, gf, gl⟩ (.call 31 args hp k) := by
 intro args hp k h
 unfold sEx at h
 split at h
 ·obtain ⟨⟨ty, hm⟩, g⟩ := zkX h
  split at g
  ·rename_i h0; obtain rfl := eqB_eq h0
   exact zjA qmix qNG rfl zkE (by kernel_rfl) (by kernel_rfl) e1_run rfl hm g
  ·split at g
   ·rename_i h0; obtain rfl := eqB_eq h0
    exact zjA qmix qNG rfl zkE (by kernel_rfl) (by kernel_rfl) e2_run rfl hm g
   ·split at g
    ·rename_i h0; obtain rfl := eqB_eq h0
     exact zjA qmix qNG rfl zkE (by kernel_rfl) (by kernel_rfl) e3_run rfl hm g
    ·split at g
     ·rename_i h0; obtain rfl := eqB_eq h0
      exact zjA qmix qNG rfl zkE (by kernel_rfl) (by kernel_rfl) e4_run rfl hm g
     ·exact g.elim
 ·exact h.elim
theorem bo_ok {gf gl kn vs} : ∀ args hp k, sBo args hp k -> TaskOk Tryz.prog ⟨⟨varG 0, kn, vs⟩, gf, gl⟩ (.call 32 args hp k) := by
 intro args hp k h
 unfold sBo at h
 split at h
 ·obtain ⟨⟨ty, hm⟩, g⟩ := zkX h
  split at g
  ·rename_i h0; obtain rfl := eqB_eq h0
   exact zjA qmix qNG rfl zkE (by kernel_rfl) (by kernel_rfl) e5_run rfl hm g
  ·exact g.elim
 ·exact h.elim
theorem un_ok {gf gl kn vs} : ∀ args hp k, sUn args hp k -> TaskOk Tryz.prog ⟨⟨varG 0, kn, vs⟩, gf, gl⟩ (.call 33 args hp k) := by
 intro args hp k h
 unfold sUn at h
 split at h
 ·obtain ⟨⟨ty, hm⟩, g⟩ := zkX h
  split at g
  ·rename_i h0; obtain rfl := eqB_eq h0
   exact zjA qmix qNG rfl zkE (by kernel_rfl) (by kernel_rfl) e6_run rfl hm g
  ·exact g.elim
 ·exact h.elim
theorem awake_q (ty : Nat) : TaskOk Tryz.prog ⟨⟨varG 0, [], []⟩, [(31, sEx), (32, sBo), (33, sUn)], []⟩ (.call 6 [] (varM spaceV ty) λ e _ => retV (.bool true) e) := by
 refine go_sound qmix qNG zqh (fs_all (by exact ⟨ex_ok, bo_ok, un_ok, trivial⟩)) (zqN rfl) 200 _ ?_
 repeat' first
  | exact trivial
  | exact ⟨by decide, by decide⟩
  | refine ⟨?_, ?_⟩
  | (intro h; exact absurd h (by decide))
  | intro _
  | decide
  | exact rfl
end
end Go.Proofs.YtiilaimcmkdfjaaGreatDoor
