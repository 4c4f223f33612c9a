/- The law LexPlaces as a contract: wherever the table of spaces is laid it answers true. -/
import Derived.Test.YtekioipmhhcbhaaDoorWd
import Derived.Test.YtekioipmhhcbhaaDoorM8
import Derived.Test.YtekioipmhhcbhaaDoorM7
set_option linter.unusedVariables false
set_option linter.unusedSimpArgs false
namespace Go.Proofs.YtekioipmhhcbhaaDoor
open Go Go.Z Go.Q Go.W6
open Go.Y hiding KE KK KR go Task go_sound
noncomputable section
def kn9 : List (Nat × List V × KRes) := [(9, [], .val (.bool true))]
def sumW : List V → Mem → KE → Prop := fun args hp k => match args with | [.sstr s, .sint .i64 a] => k (.ret (.tup (whereR s a))) hp | _ => False
def sumRW : List V → Mem → KE → Prop := fun args hp k => match args with | [.sstr s, .sint .i64 a] => s.length ≤ 20000 ∧ k (.ret (.tup (whereR s a))) hp | _ => False
def sumO : List V → Mem → KE → Prop := fun args hp k => match args with | [.sstr s, .sint .i64 l, .sint .i64 c] => k (.ret (.tup (offsetR s l c))) hp | _ => False
def sumRO : List V → Mem → KE → Prop := fun args hp k => match args with | [.sstr s, .sint .i64 l, .sint .i64 c] => s.length ≤ 20000 ∧ k (.ret (.tup (offsetR s l c))) hp | _ => False
def G3 : GQ := ⟨⟨varG 0, kn9, [(0, spaceV)]⟩, [(11, sumW), (12, sumO), (13, sumRW), (14, sumRO)], []⟩
theorem f3_eq (s : List UInt8) (at_ line col : Int) (ty : Nat) (K : E → Prop) : Go.Q.go Tryd.prog G3 200 (.call 3 [.sstr s, .sint .i64 at_, .sint .i64 line, .sint .i64 col] (varM spaceV ty) fun e _ => K e) =
  (
    True ∧
      True ∧
        (decide ((↑(List.length s) : Int) ≤ (6000 : Int)) = true →
            True ∧
              True ∧
                (decide ((20000 : Int) < (↑(List.length s) : Int)) = true →
                    True ∧
                      (decide (Prod.snd (Prod.snd (whereF s at_)) = (3 : Int)) = true →
                          True ∧
                            (decide (Prod.snd (offsetF s line col) = (3 : Int)) = true → K (E.ret (V.bool true))) ∧
                              (decide (Prod.snd (offsetF s line col) = (3 : Int)) = false → K (E.ret (V.bool false)))) ∧
                        (decide (Prod.snd (Prod.snd (whereF s at_)) = (3 : Int)) = false → K (E.ret (V.bool false)))) ∧
                  (decide ((20000 : Int) < (↑(List.length s) : Int)) = false →
                    List.length s ≤ (20000 : Nat) ∧
                      List.length s ≤ (20000 : Nat) ∧
                        True ∧
                          (decide (Prod.fst (whereF s at_) = Prod.fst (whereF s at_)) = true →
                              True ∧
                                (decide (Prod.fst (Prod.snd (whereF s at_)) = Prod.fst (Prod.snd (whereF s at_))) = true →
                                    True ∧
                                      (decide (Prod.snd (Prod.snd (whereF s at_)) = Prod.snd (Prod.snd (whereF s at_))) =
                                            true →
                                          True ∧
                                            (decide (Prod.fst (offsetF s line col) = Prod.fst (offsetF s line col)) =
                                                  true →
                                                True ∧
                                                  (decide
                                                          (Prod.snd (offsetF s line col) =
                                                            Prod.snd (offsetF s line col)) =
                                                        true →
                                                      K (E.ret (V.bool true))) ∧
                                                    (decide
                                                          (Prod.snd (offsetF s line col) =
                                                            Prod.snd (offsetF s line col)) =
                                                        false →
                                                      K (E.ret (V.bool false)))) ∧
                                              (decide (Prod.fst (offsetF s line col) = Prod.fst (offsetF s line col)) =
                                                  false →
                                                K (E.ret (V.bool false)))) ∧
                                        (decide
                                              (Prod.snd (Prod.snd (whereF s at_)) = Prod.snd (Prod.snd (whereF s at_))) =
                                            false →
                                          K (E.ret (V.bool false)))) ∧
                                  (decide (Prod.fst (Prod.snd (whereF s at_)) = Prod.fst (Prod.snd (whereF s at_))) =
                                      false →
                                    K (E.ret (V.bool false)))) ∧
                            (decide (Prod.fst (whereF s at_) = Prod.fst (whereF s at_)) = false →
                              K (E.ret (V.bool false))))) ∧
          (decide ((↑(List.length s) : Int) ≤ (6000 : Int)) = false →
            True ∧
              True ∧
                (decide ((20000 : Int) < (↑(List.length s) : Int)) = true →
                    True ∧
                      True ∧
                        (decide ((20000 : Int) < (↑(List.length s) : Int)) = true →
                            True ∧
                              (decide (Prod.snd (Prod.snd (whereF s at_)) = (3 : Int)) = true →
                                  True ∧
                                    (decide (Prod.snd (offsetF s line col) = (3 : Int)) = true →
                                        K (E.ret (V.bool true))) ∧
                                      (decide (Prod.snd (offsetF s line col) = (3 : Int)) = false →
                                        K (E.ret (V.bool false)))) ∧
                                (decide (Prod.snd (Prod.snd (whereF s at_)) = (3 : Int)) = false →
                                  K (E.ret (V.bool false)))) ∧
                          (decide ((20000 : Int) < (↑(List.length s) : Int)) = false →
                            List.length s ≤ (20000 : Nat) ∧
                              List.length s ≤ (20000 : Nat) ∧
                                True ∧
                                  (decide (Prod.fst (whereF s at_) = Prod.fst (whereF s at_)) = true →
                                      True ∧
                                        (decide
                                                (Prod.fst (Prod.snd (whereF s at_)) =
                                                  Prod.fst (Prod.snd (whereF s at_))) =
                                              true →
                                            True ∧
                                              (decide
                                                      (Prod.snd (Prod.snd (whereF s at_)) =
                                                        Prod.snd (Prod.snd (whereF s at_))) =
                                                    true →
                                                  True ∧
                                                    (decide
                                                            (Prod.fst (offsetF s line col) =
                                                              Prod.fst (offsetF s line col)) =
                                                          true →
                                                        True ∧
                                                          (decide
                                                                  (Prod.snd (offsetF s line col) =
                                                                    Prod.snd (offsetF s line col)) =
                                                                true →
                                                              K (E.ret (V.bool true))) ∧
                                                            (decide
                                                                  (Prod.snd (offsetF s line col) =
                                                                    Prod.snd (offsetF s line col)) =
                                                                false →
                                                              K (E.ret (V.bool false)))) ∧
                                                      (decide
                                                            (Prod.fst (offsetF s line col) =
                                                              Prod.fst (offsetF s line col)) =
                                                          false →
                                                        K (E.ret (V.bool false)))) ∧
                                                (decide
                                                      (Prod.snd (Prod.snd (whereF s at_)) =
                                                        Prod.snd (Prod.snd (whereF s at_))) =
                                                    false →
                                                  K (E.ret (V.bool false)))) ∧
                                          (decide
                                                (Prod.fst (Prod.snd (whereF s at_)) =
                                                  Prod.fst (Prod.snd (whereF s at_))) =
                                              false →
                                            K (E.ret (V.bool false)))) ∧
                                    (decide (Prod.fst (whereF s at_) = Prod.fst (whereF s at_)) = false →
                                      K (E.ret (V.bool false))))) ∧
                  (decide ((20000 : Int) < (↑(List.length s) : Int)) = false → K (E.ret (V.bool true))))) := by kernel_rfl
theorem known06 : KnOk Tryd.prog G06 := 
  kn_one (known_run mixed noNG rfl known_nil (by kernel_rfl) (by kernel_rfl) words_run _) (kn_one (known_run mixed noNG rfl known_nil (by kernel_rfl) (by kernel_rfl) signs_run _) (kn_one (known_run mixed noNG rfl known_nil (by kernel_rfl) (by kernel_rfl) class_run _) (fun f a r h => by cases h)))
theorem known9 : KnOk Tryd.prog G3.g :=
  kn_one (known_run mixed noNG rfl known06 (by kernel_rfl) (by kernel_rfl) awake_run _) (fun f a r h => by cases h)
theorem fs3_ok : FsOk Tryd.prog G3 := by
  intro f s hl args hp k h
  simp only [G3, lookF] at hl
  split at hl
  · rename_i hb
    obtain rfl := Nat.eq_of_beq_eq_true hb
    cases hl
    unfold sumW at h
    split at h
    · exact sum_of (where_run _ _) rfl rfl rfl h
    · exact h.elim
  split at hl
  · rename_i hb
    obtain rfl := Nat.eq_of_beq_eq_true hb
    cases hl
    unfold sumO at h
    split at h
    · exact sum_of (offset_run _ _ _) rfl rfl rfl h
    · exact h.elim
  split at hl
  · rename_i hb
    obtain rfl := Nat.eq_of_beq_eq_true hb
    cases hl
    unfold sumRW at h
    split at h
    · exact sum_of (rwhere_run _ _ h.1) rfl rfl rfl h.2
    · exact h.elim
  split at hl
  · rename_i hb
    obtain rfl := Nat.eq_of_beq_eq_true hb
    cases hl
    unfold sumRO at h
    split at h
    · exact sum_of (roffset_run _ _ _ h.1) rfl rfl rfl h.2
    · exact h.elim
  cases hl
theorem places_run (s : List UInt8) (a line col : Int) (ty : Nat) : TaskOk Tryd.prog G3 (.call 3 [.sstr s, .sint .i64 a, .sint .i64 line, .sint .i64 col] (varM spaceV ty) fun e _ => e = .ret (.bool true)) := by
  refine go_sound qmix qNG known9 fs3_ok (ls_none rfl) 200 _ ?_
  rw [f3_eq]
  have w3 : 20000 < s.length → (whereF s a).2.2 = 3 := fun h => by unfold whereF; rw [if_pos h]
  have o3 : 20000 < s.length → (offsetF s line col).2 = 3 := fun h => by unfold offsetF; rw [if_pos h]
  simp only [decide_eq_true_eq, decide_eq_false_iff_not]
  repeat' first | exact trivial | (intro h) | apply And.intro
  all_goals first
    | rfl
    | omega
    | (exfalso; rename_i h1 h2; exact h2 (w3 (by omega)))
    | (exfalso; rename_i h1 h2; exact h2 (o3 (by omega)))
    | contradiction
    | (exfalso; simp_all; done)
    | (exfalso; simp_all; omega)
theorem ints_rel : ∀ l : List Nat, RL norho (ints l) (l.map fun n => Value.int .u8 (.ofNat n))
  | [] => .nil
  | n :: l => .cons rfl (ints_rel l)
theorem space_rel : RL norho spaceV (spaceL.map fun n => Value.int .u8 (.ofNat n)) := ints_rel spaceL
theorem places_fn (s : List UInt8) (a line col : Int) (junk : List Value) (ty : Nat) : Z.Fn Tryd.prog 3 [.string (Z.bs s), .int .i64 a, .int .i64 line, .int .i64 col] [Z.pt 0 (varO (spaceL.map fun n => Value.int .u8 (.ofNat n)) junk ty (0, 0))] (TrulyV 0 (varO (spaceL.map fun n => Value.int .u8 (.ofNat n)) junk ty (0, 0))) :=
  var_fn rfl rfl (places_run s a line col) space_rel (.cons rfl (.cons rfl (.cons rfl (.cons rfl .nil)))) junk ty
end
end Go.Proofs.YtekioipmhhcbhaaDoor
