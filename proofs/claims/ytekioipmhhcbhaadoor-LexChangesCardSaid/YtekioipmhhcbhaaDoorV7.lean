/- LexChanges: the law's run. -/
import Derived.Test.YtekioipmhhcbhaaDoorV6
import Derived.Test.YtekioipmhhcbhaaDoorKk
set_option linter.unusedVariables false
set_option linter.unusedSectionVars false
set_option linter.unusedSimpArgs false
set_option maxRecDepth 100000
set_option maxHeartbeats 4000000
namespace Go.Proofs.YtekioipmhhcbhaaDoor
open Go Go.Z Go.Q Go.W6
open Go.Y hiding KE KK KR go Task go_sound
noncomputable section
abbrev G8 : GQ := ⟨⟨varG 0, kn9, [(0, spaceV)]⟩, [(16, sScan), (18, sSame1), (41, sEq2), (25, sEq2), (19, sLineOf)],
 [(143013, lp Tryd.prog 24 0, lEd true), (143015, lp Tryd.prog 24 1, lEd false), (245021, lp Tryd.prog 8 0, lCnt), (245028, lp Tryd.prog 8 1, lPre), (245033, lp Tryd.prog 8 2, lSuf)]⟩
def AllF (P : Program) (G : GQ) : List (Nat × (List V -> Mem -> KE -> Prop)) -> Prop
 | [] => True
 | (n, s) :: l => (∀ args hp k, s args hp k -> TaskOk P G (.call n args hp k)) /\ AllF P G l
theorem fs_allF {P : Program} {G : GQ} (h : AllF P G G.fs) : FsOk P G := by
 intro f s hf
 generalize hl : G.fs = l at hf h
 clear hl
 induction l with
 | nil => cases hf
 | cons a l ih =>
  obtain ⟨n, s0⟩ := a
  simp only [lookF] at hf
  split at hf
  ·rename_i hb
   cases hf
   intro args hp k hs
   rw [<- beq_tt hb]
   exact h.1 args hp k hs
  ·exact ih hf h.2
abbrev chT (s put : List UInt8) (a g : Int) : List UInt8 := s.take a.toNat ++ put ++ s.drop (a + g).toNat
abbrev rowsT (s : List UInt8) : List (List V) := (scanF s).1.map (rowTok s)
theorem ls_all5 {P : Program} {G : GQ} {i1 i2 i3 i4 i5 : Nat} {c1 c2 c3 c4 c5 : Code} {s1 s2 s3 s4 s5 : FI -> List DV -> Tr V -> Mem -> KK -> Prop} (hl : G.ls = [(i1, c1, s1), (i2, c2, s2), (i3, c3, s3), (i4, c4, s4), (i5, c5, s5)])
  (h1 : ∀ fi ds env hp k, s1 fi ds env hp k -> TaskOk P G (.code fi (.loop c1) ds env hp k)) (h2 : ∀ fi ds env hp k, s2 fi ds env hp k -> TaskOk P G (.code fi (.loop c2) ds env hp k)) (h3 : ∀ fi ds env hp k, s3 fi ds env hp k -> TaskOk P G (.code fi (.loop c3) ds env hp k))
  (h4 : ∀ fi ds env hp k, s4 fi ds env hp k -> TaskOk P G (.code fi (.loop c4) ds env hp k)) (h5 : ∀ fi ds env hp k, s5 fi ds env hp k -> TaskOk P G (.code fi (.loop c5) ds env hp k)) : LsOk P G := by
 intro j c s' hj
 rw [hl] at hj
 simp only [lookL] at hj
 split at hj
 ·cases hj; exact h1
 ·split at hj
  ·cases hj; exact h2
  ·split at hj
   ·cases hj; exact h3
   ·split at hj
    ·cases hj; exact h4
    ·split at hj
     ·cases hj; exact h5
     ·cases hj
theorem scan_le (s : List UInt8) : (scanF s).1.length <= s.length := by
 rcases Nat.lt_or_ge 20000 s.length with h | h
 ·unfold scanF; rw [if_pos h]; exact Nat.zero_le _
 ·rcases zjk h with ⟨x, _, h2, h3, _⟩ | ⟨p, e, _, h2, _⟩
  ·rw [h2]; exact h3
  ·rw [h2]; exact Nat.zero_le _
theorem ch_run (s put : List UInt8) (at_ gone : Int) (ty : Nat) : TaskOk Tryd.prog G8 (.call 8 [.sstr s, .sint .i64 at_, .sint .i64 gone, .sstr put] (varM spaceV ty) λ e _ => e = .ret (.bool true)) := by
 refine go_sound (G := G8) qmix qNG known9 (fs_allF (by exact ⟨scan_ok, same1_ok, eq2_ok equal_run, eq2_ok tokens_run, lineOf_ok, trivial⟩)) (ls_all5 rfl ed0_ok ed1_ok cnt_ok pre_ok suf_ok) 400 _ ?_
 have no : ∀ {p : Prop} [Decidable p] {q : Prop}, ¬ p -> decide p = true -> q := λ hp h => absurd (of_decide_eq_true h) hp
 have ye : ∀ {p : Prop} [Decidable p] {q : Prop}, p -> decide p = false -> q := λ hp h => absurd hp (of_decide_eq_false h)
 have nye : ∀ {p : Prop} [Decidable p] {q : Prop}, p -> (!decide p) = true -> q := λ hp h => absurd hp (nT h)
 refine ⟨trivial, trivial, λ h1 => ⟨trivial, trivial, λ h2 => ⟨trivial, λ _ => rfl, λ h3 => ⟨trivial, λ _ => rfl, λ h4 => ⟨trivial, trivial, λ _ => rfl, λ h5 => ⟨trivial, ?_, trivial, λ _ => rfl, λ h6 => ⟨rfl, trivial, λ _ => rfl, λ h7 => ?_⟩⟩⟩⟩⟩, λ _ => rfl⟩, λ _ => rfl⟩
 all_goals
  have h1 : (s.length : Int) <= 2000 := of_decide_eq_true h1
  have h2 : (put.length : Int) <= 2000 := of_decide_eq_true h2
  have h3 : ¬ at_ < 0 := of_decide_eq_false h3
  have h4 : ¬ gone < 0 := of_decide_eq_false h4
  have h5 : ¬ (s.length : Int) < at_ := of_decide_eq_false h5
  have q1 : I64 ((s.length : Int) - at_) := by unfold I64; omega
 ·exact q1
 have h6 : ¬ (s.length : Int) - at_ < gone := of_decide_eq_false h6
 have h7 : ((scanF s).2.2 : Int) = 0 := nF h7
 obtain ⟨i, rfl⟩ : ∃ i : Nat, at_ = i := ⟨at_.toNat, by omega⟩
 obtain ⟨g, rfl⟩ : ∃ g : Nat, gone = g := ⟨gone.toNat, by omega⟩
 have q2 : (0 : Int) <= i /\ (i : Int) <= s.length := by omega
 have q3 : (s.take (i : Int).toNat).length + put.length <= 9223372036854775807 := by rw [List.length_take]; omega
 have q4 : I64 ((i : Int) + g) := by unfold I64; omega
 have q5 : (0 : Int) <= (i : Int) + g /\ (i : Int) + g <= s.length := by omega
 have q6 : (s.take (i : Int).toNat ++ put).length + (s.drop ((i : Int) + g).toNat).length <= 9223372036854775807 := by rw [List.length_append, List.length_take, List.length_drop]; omega
 have z1 : ¬ (20000 : Int) < s.length := by omega
 have tl : (chT s put i g).length <= 4000 := by unfold chT; rw [List.length_append, List.length_append, List.length_take, List.length_drop]; omega
 have la := scan_le s
 have lb := scan_le (chT s put i g)
 have lx : (scanF s).1.length = (rowsT s).length := by simp
 have ly : (scanF (chT s put i g)).1.length = (rowsT (chT s put i g)).length := by simp
 have ux : (scanF s).1.length <= 30000 := by omega
 have uy : (scanF (chT s put i g)).1.length <= 30000 := by omega
 refine ⟨q2, q3, q4, q5, q6, rfl, trivial, trivial, λ c => no z1 c, λ _ => ⟨trivial, λ c => no h3 c, λ _ => ⟨trivial, λ c => no h4 c, λ _ => ⟨trivial, trivial, λ c => no h5 c, λ _ => ⟨trivial, q1, trivial, λ c => no h6 c, λ _ => ⟨rfl, trivial, λ c => nye h7 c, λ _ => ⟨⟨rfl, rfl, rfl, rfl, rfl, lx, lx, ux⟩, q2, q3, q4, q5, q6, rfl, trivial, λ d => ?_, λ d => ?_⟩⟩⟩⟩⟩⟩⟩
 ·exact ⟨trivial, λ c => nye rfl c, λ _ => ⟨trivial, λ _ => ⟨trivial, λ _ => rfl, λ c => ye rfl c⟩, λ f => absurd (nF f) (nT d)⟩⟩
 ·have d : ((scanF (chT s put i g)).2.2 : Int) = 0 := nF d
  refine ⟨rfl, ⟨rfl, rfl, rfl, rfl, lx, ly, ux, uy, rfl⟩, rfl, λ b hb => ⟨rfl, ⟨rfl, rfl, rfl, rfl, lx, ly, ux, uy, rfl⟩, ⟨Int.natCast_nonneg b, Int.ofNat_le.2 hb.1⟩, λ e he => ?_⟩⟩
  have hb : preP (rowsT s) (rowsT (chT s put i g)) b := hb
  have he : sufP (rowsT s) (rowsT (chT s put i g)) b e := he
  have eT : chT s put i g = s.take i ++ put ++ s.drop (i + g) := rfl
  obtain ⟨m1, m2⟩ := ch_law (s := s) (put := put) (i := i) (g := g) (by omega) (by omega) (by omega) (by omega) (by rw [<- eT]; omega) hb he
  have b1 := hb.1
  have e1 := he.1
  rw [<- lx, <- ly] at b1 e1
  have w1 : I64 ((b : Int) + e) := by unfold I64; omega
  have k1 : ¬ (b : Int) < 0 := by omega
  have k2 : ¬ (e : Int) < 0 := by omega
  have k3 : ¬ ((scanF s).1.length : Int) < (b : Int) + e := by omega
  have k4 : ¬ ((scanF (chT s put i g)).1.length : Int) < (b : Int) + e := by omega
  have v1 : (0 : Int) <= i /\ (i : Int) <= s.length /\ (s.length : Int) <= 20000 := by omega
  have v2 : (0 : Int) <= (i : Int) + g /\ (i : Int) + g <= s.length /\ (s.length : Int) <= 20000 := by omega
  have n1 : ((cntP (λ x => decide (x < ((lc s i).1 : Int))) (rowsT s) : Nat) : Int) <= b := by exact_mod_cast m1
  have n2 : ((cntP (λ x => decide (x < ((lc s i).1 : Int))) (rowsT s) : Nat) : Int) + (cntP (λ x => decide (((lc s (i + g)).1 : Int) < x)) (rowsT s) : Nat) <= (b : Int) + e := by exact_mod_cast m2
  have w2 : I64 (((cntP (λ x => decide (x < ((lc s i).1 : Int))) (rowsT s) : Nat) : Int) + (cntP (λ x => decide (((lc s (i + g)).1 : Int) < x)) (rowsT s) : Nat)) := by unfold I64; omega
  refine ⟨trivial, λ c => nye d c, λ _ => ⟨trivial, λ c => nye d c, λ _ => ⟨trivial, λ c => nye rfl c, λ _ => ⟨⟨rfl, rfl, rfl, rfl, rfl, ly, ly, uy⟩, trivial, λ c => no k1 c, λ _ => ⟨trivial, λ c => no k2 c, λ _ => ⟨w1, trivial, trivial, λ c => no k3 c, λ _ => ⟨w1, trivial, trivial, λ c => no k4 c, λ _ => ⟨v1, q4, v2, rfl, ⟨rfl, rfl, lx, ux, rfl, rfl, rfl⟩, rfl, ?_, rfl, ?_, trivial, λ _ => ⟨w1, w2, trivial, λ _ => rfl, λ c => ye n2 c⟩, λ c => ye n1 c⟩⟩⟩⟩⟩⟩⟩⟩
  ·exact ⟨rfl, rfl, rfl, rfl, lx, ly, ux, uy, rfl, Int.natCast_nonneg b, Int.ofNat_le.2 hb.1, λ j hj => hb.2.1 j (by omega)⟩
  ·refine ⟨rfl, rfl, rfl, rfl, lx, ly, ux, uy, rfl, Int.natCast_nonneg e, Int.ofNat_le.2 (Nat.le_trans he.1 (Nat.sub_le _ _)), λ j hj => he.2.1 j (by omega)⟩
theorem ch_fn (s : List UInt8) (a g : Int) (put : List UInt8) (junk : List Value) (ty : Nat) : Z.Fn Tryd.prog 8 [.string (Z.bs s), .int .i64 a, .int .i64 g, .string (Z.bs put)] [pt 0 (varO (spaceL.map λ n => Value.int .u8 (.ofNat n)) junk ty (0, 0))] (TrulyV 0 (varO (spaceL.map λ n => Value.int .u8 (.ofNat n)) junk ty (0, 0))) :=
 var_fn (by rfl) rfl (λ ty => ch_run s put a g ty) space_rel (by refine ⟨_, _, rfl, ⟨_, _, rfl, ⟨_, _, rfl, ⟨_, _, rfl, rfl, rfl⟩, rfl⟩, rfl⟩, rfl⟩) junk ty
end
end Go.Proofs.YtekioipmhhcbhaaDoor
