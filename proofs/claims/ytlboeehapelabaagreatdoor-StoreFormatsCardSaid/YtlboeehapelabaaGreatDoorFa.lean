/- Checksums: what the program's and the reference's compute, each run once by the machine over open terms. -/
import Derived.Test.YtlboeehapelabaaGreatDoorM9
import Derived.Test.YtlboeehapelabaaGreatDoorProg
set_option linter.unusedVariables false
set_option linter.unusedSimpArgs false
namespace Go.Proofs.YtlboeehapelabaaGreatDoor
open Go Go.Z Go.Q
open Go.Y hiding KE KK KR go Task go_sound
noncomputable section
theorem qmix : Tryz.prog.follows .mixedOrders = true := by kernel_rfl
theorem qNG0 : (Tryz.prog.funcs.all fun fn => !(fn.name == "runtime.NumGoroutine")) = true := by kernel_rfl
theorem qNG : ∀ (f : Nat) (fn : Func), Tryz.prog.funcs[f]? = some fn → (fn.name == "runtime.NumGoroutine") = false := by
  intro f fn hf
  have h1 := Array.all_eq_true.1 qNG0 f (Array.getElem?_eq_some_iff.1 hf).1
  rw [(Array.getElem?_eq_some_iff.1 hf).2] at h1
  simpa using h1
theorem imin : IntKind.min .i64 = -9223372036854775808 := rfl
theorem imax : IntKind.max .i64 = 9223372036854775807 := rfl
/-- the two sums of the first bytes -/
def ab (s : List UInt8) : Nat → Nat × Nat
  | 0 => (1, 0)
  | i + 1 => ((((ab s i).1 + (s.getD i 0).toNat) % 65521), ((ab s i).2 + ((ab s i).1 + (s.getD i 0).toNat) % 65521) % 65521)
theorem ab_lt (s : List UInt8) : ∀ i, (ab s i).1 < 65521 ∧ (ab s i).2 < 65521
  | 0 => by simp [ab]
  | i + 1 => by
    unfold ab
    exact ⟨Nat.mod_lt _ (by decide), Nat.mod_lt _ (by decide)⟩
def sumF (s : List UInt8) : Int := (ab s s.length).2 * 65536 + (ab s s.length).1
def leA (s : List UInt8) (i : Nat) : List V := [.sint .u32 (ab s i).1, .sint .u32 (ab s i).2, .ssl 0 0 s.length 1, .sint .i64 s.length, .sint .i64 i]
def leR (s : List UInt8) (i : Nat) : List V := [.sstr s, .sint .u32 (ab s i).1, .sint .u32 (ab s i).2, .sint .i64 i]
def sA (s : List UInt8) : FI → List DV → Tr V → Mem → KK → Prop := fun fi ds env hp k => match Nat.beq fi.nt 27, fi.ro, ds, hp.ro, Nat.beq hp.n 1 with | true, none, [], [], true => (0 < s.length ∧ fitV (pk [3,4,7,8,9] env) (leA s 0) ∧ fitC (pk [0] hp.t) [.byt s 5] ∧ k (.exit 0) [] (ofE ([3,4,7,8,9].zip (leA s s.length))) ⟨1, ofM ([0].zip [.byt s 5]), []⟩) | _, _, _, _, _ => False
def sR (s : List UInt8) : FI → List DV → Tr V → Mem → KK → Prop := fun fi ds env hp k => match Nat.beq fi.nt 27, fi.ro, ds, hp.ro, Nat.beq hp.n 0 with | true, none, [], [], true => (fitV (pk [0,3,4,5] env) (leR s 0) ∧ k (.exit 0) [] (ofE ([0,3,4,5].zip (leR s s.length))) ⟨0, ofM ([].zip []), []⟩) | _, _, _, _, _ => False
theorem fa_loop (s : List UInt8) (a b i : Int) (N : O → List (Option V) → Nat → List (Option Chunk) → Prop) : Go.Q.go Tryz.prog ⟨⟨.nil, [], []⟩, [], []⟩ 100 (.code ⟨27, none⟩ (lp Tryz.prog 49 0) [] (ofE ([3,4,7,8,9].zip [.sint .u32 a, .sint .u32 b, .ssl 0 0 s.length 1, .sint .i64 s.length, .sint .i64 i])) ⟨1, ofM ([0].zip [.byt s 5]), []⟩ (cutK [3,4,7,8,9] [0] N)) =
  (
    True ∧
      (decide (i < (↑s.length : Int)) = true →
          ((0 : Int) ≤ i ∧ i < (↑s.length : Int)) ∧
            (0 : Nat) + i.toNat < s.length ∧
              True ∧
                True ∧
                  ((0 : Int) ≤
                        (a + (↑(s.getD ((0 : Nat) + i.toNat) (0 : UInt8)).toNat : Int) % (4294967296 : Int)) %
                          (4294967296 : Int) ∧
                      (0 : Int) < (65521 : Int)) ∧
                    True ∧
                      ((0 : Int) ≤
                            (b +
                                (a +
                                      (↑(s.getD ((0 : Nat) + i.toNat) (0 : UInt8)).toNat : Int) %
                                        (4294967296 : Int)) %
                                    (4294967296 : Int) %
                                  (65521 : Int)) %
                              (4294967296 : Int) ∧
                          (0 : Int) < (65521 : Int)) ∧
                        ((-9223372036854775808 : Int) ≤ i + (1 : Int) ∧
                            i + (1 : Int) ≤ (9223372036854775807 : Int)) ∧
                          N O.normal
                            [some
                                (V.sint IntKind.u32
                                  ((a +
                                        (↑(s.getD ((0 : Nat) + i.toNat) (0 : UInt8)).toNat : Int) %
                                          (4294967296 : Int)) %
                                      (4294967296 : Int) %
                                    (65521 : Int))),
                              some
                                (V.sint IntKind.u32
                                  ((b +
                                        (a +
                                              (↑(s.getD ((0 : Nat) + i.toNat) (0 : UInt8)).toNat : Int) %
                                                (4294967296 : Int)) %
                                            (4294967296 : Int) %
                                          (65521 : Int)) %
                                      (4294967296 : Int) %
                                    (65521 : Int))),
                              some (V.ssl (0 : Nat) (0 : Nat) s.length (1 : Nat)),
                              some (V.sint IntKind.i64 (↑s.length : Int)), some (V.sint IntKind.i64 (i + (1 : Int)))]
                            (1 : Nat) [some (Chunk.byt s (5 : Nat))]) ∧
        (decide (i < (↑s.length : Int)) = false →
          N (O.exit (0 : Nat))
            [some (V.sint IntKind.u32 a), some (V.sint IntKind.u32 b),
              some (V.ssl (0 : Nat) (0 : Nat) s.length (1 : Nat)), some (V.sint IntKind.i64 (↑s.length : Int)),
              some (V.sint IntKind.i64 i)]
            (1 : Nat) [some (Chunk.byt s (5 : Nat))])) := by kernel_rfl
theorem fr_loop (s : List UInt8) (a b i : Int) (N : O → List (Option V) → Nat → List (Option Chunk) → Prop) : Go.Q.go Tryz.prog ⟨⟨.nil, [], []⟩, [], []⟩ 100 (.code ⟨27, none⟩ (lp Tryz.prog 17 0) [] (ofE ([0,3,4,5].zip [.sstr s, .sint .u32 a, .sint .u32 b, .sint .i64 i])) ⟨0, ofM ([].zip []), []⟩ (cutK [0,3,4,5] [] N)) =
  (
    True ∧
      True ∧
        (decide (i < (↑s.length : Int)) = true →
            ((0 : Int) ≤ i ∧ i < (↑s.length : Int)) ∧
              True ∧
                True ∧
                  ((0 : Int) ≤
                        (a + (↑(s.getD i.toNat (0 : UInt8)).toNat : Int) % (4294967296 : Int)) %
                          (4294967296 : Int) ∧
                      (0 : Int) < (65521 : Int)) ∧
                    True ∧
                      ((0 : Int) ≤
                            (b +
                                (a + (↑(s.getD i.toNat (0 : UInt8)).toNat : Int) % (4294967296 : Int)) %
                                    (4294967296 : Int) %
                                  (65521 : Int)) %
                              (4294967296 : Int) ∧
                          (0 : Int) < (65521 : Int)) ∧
                        ((-9223372036854775808 : Int) ≤ i + (1 : Int) ∧
                            i + (1 : Int) ≤ (9223372036854775807 : Int)) ∧
                          N O.normal
                            [some (V.sstr s),
                              some
                                (V.sint IntKind.u32
                                  ((a + (↑(s.getD i.toNat (0 : UInt8)).toNat : Int) % (4294967296 : Int)) %
                                      (4294967296 : Int) %
                                    (65521 : Int))),
                              some
                                (V.sint IntKind.u32
                                  ((b +
                                        (a +
                                              (↑(s.getD i.toNat (0 : UInt8)).toNat : Int) %
                                                (4294967296 : Int)) %
                                            (4294967296 : Int) %
                                          (65521 : Int)) %
                                      (4294967296 : Int) %
                                    (65521 : Int))),
                              some (V.sint IntKind.i64 (i + (1 : Int)))]
                            (0 : Nat) []) ∧
          (decide (i < (↑s.length : Int)) = false →
            N (O.exit (0 : Nat))
              [some (V.sstr s), some (V.sint IntKind.u32 a), some (V.sint IntKind.u32 b), some (V.sint IntKind.i64 i)]
              (0 : Nat) [])) := by kernel_rfl
theorem f16_eq (s : List UInt8) (K : E → Prop) : Go.Q.go Tryz.prog ⟨⟨.nil, [], []⟩, [], [(27003, lp Tryz.prog 49 0, sA s)]⟩ 100 (.call 16 [.sstr s] nomem fun e _ => K e) =
  (
    (decide ((0 : Nat) < s.length) = true →
        True ∧
          True ∧
            lp Tryz.prog (49 : Nat) (0 : Nat) = lp Tryz.prog (49 : Nat) (0 : Nat) ∧
              (0 : Nat) < s.length ∧
                ((IntKind.u32 = IntKind.u32 ∧ (1 : Int) = (↑(1 : Nat) : Int)) ∧
                    (IntKind.u32 = IntKind.u32 ∧ (0 : Int) = (↑(0 : Nat) : Int)) ∧
                      V.ssl nomem.n (0 : Nat) s.length (1 : Nat) = V.ssl (0 : Nat) (0 : Nat) s.length (1 : Nat) ∧
                        (IntKind.i64 = IntKind.i64 ∧ (↑s.length : Int) = (↑s.length : Int)) ∧
                          (IntKind.i64 = IntKind.i64 ∧ (0 : Int) = (0 : Int)) ∧ True) ∧
                  (Chunk.byt s (5 : Nat) = Chunk.byt s (5 : Nat) ∧ True) ∧
                    True ∧
                      ((0 : Int) ≤
                            (↑(ab s s.length).snd : Int) * (65536 : Int) % (4294967296 : Int) ∧
                          (0 : Int) ≤ (↑(ab s s.length).fst : Int) ∧
                            (↑(ab s s.length).snd : Int) * (65536 : Int) % (4294967296 : Int) ≤
                                (4294967295 : Int) ∧
                              (↑(ab s s.length).fst : Int) ≤ (4294967295 : Int) ∧
                                (↑(((↑(ab s s.length).snd : Int) * (65536 : Int) %
                                            (4294967296 : Int)).toNat |||
                                        (↑(ab s s.length).fst : Int).toNat) :
                                    Int) ≤
                                  (4294967295 : Int)) ∧
                        K
                          (E.ret
                            (V.sint IntKind.u32
                              (↑(((↑(ab s s.length).snd : Int) * (65536 : Int) %
                                        (4294967296 : Int)).toNat |||
                                    (↑(ab s s.length).fst : Int).toNat) :
                                Int)))) ∧
      (decide ((0 : Nat) < s.length) = false →
        True ∧ lp Tryz.prog (49 : Nat) (0 : Nat) = lp Tryz.prog (49 : Nat) (0 : Nat) ∧ False)) := by kernel_rfl
theorem f17_eq (s : List UInt8) (K : E → Prop) : Go.Q.go Tryz.prog ⟨⟨.nil, [], []⟩, [], [(27004, lp Tryz.prog 17 0, sR s)]⟩ 100 (.call 17 [.sstr s] nomem fun e _ => K e) =
  (
    lp Tryz.prog (17 : Nat) (0 : Nat) = lp Tryz.prog (17 : Nat) (0 : Nat) ∧
      (s = s ∧
          (IntKind.u32 = IntKind.u32 ∧ (1 : Int) = (↑(1 : Nat) : Int)) ∧
            (IntKind.u32 = IntKind.u32 ∧ (0 : Int) = (↑(0 : Nat) : Int)) ∧
              (IntKind.i64 = IntKind.i64 ∧ (0 : Int) = (0 : Int)) ∧ True) ∧
        True ∧
          True ∧
            K
              (E.ret
                (V.sint IntKind.u32
                  (((65536 : Int) * (↑(ab s s.length).snd : Int) % (4294967296 : Int) +
                      (↑(ab s s.length).fst : Int)) %
                    (4294967296 : Int))))) := by kernel_rfl
theorem f16_nil (K : E → Prop) : Go.Q.go Tryz.prog ⟨⟨.nil, [], []⟩, [], []⟩ 100 (.call 16 [.str []] nomem fun e _ => K e) =
  ( K (E.ret (V.int IntKind.u32 ((1 : Int))))) := by kernel_rfl
theorem sA_ok (s : List UInt8) (hs : s.length ≤ 4000) {gf gl} : ∀ fi ds env hp k, sA s fi ds env hp k → TaskOk Tryz.prog ⟨⟨.nil, [], []⟩, gf, gl⟩ (.code fi (.loop (lp Tryz.prog 49 0)) ds env hp k) := by
  intro fi ds env hp k h
  unfold sA at h
  split at h
  · rename_i h1 h2 h3 h4
    obtain ⟨g1, g4, g5, hk⟩ := h
    obtain ⟨nt, ro⟩ := fi
    obtain ⟨hn, ht, hro⟩ := hp
    replace h1 := Nat.eq_of_beq_eq_true h1
    replace h4 := Nat.eq_of_beq_eq_true h4
    dsimp only at h1 h2 h3 h4
    subst h1 h2 h3 h4
    refine loop_cut [3, 4, 7, 8, 9] [0] (leA s) (fun _ => [.byt s 5]) (fun i => i ≤ s.length) (fun i => s.length - i) 0 (Nat.zero_le _) rfl rfl rfl (fun x => rfl) (fun x => rfl) g4 g5 ?_
    intro i hi
    have hi : i ≤ s.length := hi
    have t := go_sound (G := ⟨⟨.nil, [], []⟩, [], []⟩) qmix qNG known_nil (fs_none rfl) (ls_none rfl) 100 (.code ⟨27, none⟩ (lp Tryz.prog 49 0) [] (ofE ([3, 4, 7, 8, 9].zip (leA s i))) ⟨1, ofM ([0].zip [.byt s 5]), []⟩ (cutK [3, 4, 7, 8, 9] [0] (rN [3, 4, 7, 8, 9] [0] (leA s) (fun _ => [.byt s 5]) 1 (fun i => i ≤ s.length) (fun i => s.length - i) k i))) ?_
    · exact t
    rw [show Go.Q.go Tryz.prog ⟨⟨.nil, [], []⟩, [], []⟩ 100 (.code ⟨27, none⟩ (lp Tryz.prog 49 0) [] (ofE ([3, 4, 7, 8, 9].zip (leA s i))) ⟨1, ofM ([0].zip [.byt s 5]), []⟩ (cutK [3, 4, 7, 8, 9] [0] (rN [3, 4, 7, 8, 9] [0] (leA s) (fun _ => [.byt s 5]) 1 (fun i => i ≤ s.length) (fun i => s.length - i) k i))) = _ from fa_loop s (ab s i).1 (ab s i).2 i _]
    obtain ⟨l1, l2⟩ := ab_lt s i
    have hb : (s.getD i 0).toNat < 256 := (s.getD i 0).toNat_lt
    have s1 : (ab s (i + 1)).1 = ((ab s i).1 + (s.getD i 0).toNat) % 65521 := rfl
    have s2 : (ab s (i + 1)).2 = ((ab s i).2 + ((ab s i).1 + (s.getD i 0).toNat) % 65521) % 65521 := rfl
    simp only [decide_eq_true_eq, decide_eq_false_iff_not, Int.toNat_natCast, Nat.zero_add]
    refine ⟨trivial, fun h => ⟨by omega, by omega, trivial, trivial, by omega, trivial, by omega, by omega, ?_⟩, fun h => ?_⟩
    · refine ⟨Nat.le_refl _, i + 1, (by show i + 1 ≤ s.length; omega), (by show s.length - (i + 1) < s.length - i; omega), ⟨⟨rfl, ?_⟩, ⟨rfl, ?_⟩, vle_refl _, vle_refl _, ⟨rfl, ?_⟩, trivial⟩, ⟨rfl, trivial⟩⟩
      · omega
      · omega
      · push_cast; rfl
    · have e : i = s.length := by omega
      subst e
      exact ⟨leA s s.length, [.byt s 5], Nat.le_refl _, rfl, rfl, rfl, ⟨vle_refl _, vle_refl _, vle_refl _, vle_refl _, vle_refl _, trivial⟩, ⟨rfl, trivial⟩, hk⟩
  · exact h.elim
theorem sR_ok (s : List UInt8) (hs : s.length ≤ 4000) {gf gl} : ∀ fi ds env hp k, sR s fi ds env hp k → TaskOk Tryz.prog ⟨⟨.nil, [], []⟩, gf, gl⟩ (.code fi (.loop (lp Tryz.prog 17 0)) ds env hp k) := by
  intro fi ds env hp k h
  unfold sR at h
  split at h
  · rename_i h1 h2 h3 h4
    obtain ⟨g4, hk⟩ := h
    obtain ⟨nt, ro⟩ := fi
    obtain ⟨hn, ht, hro⟩ := hp
    replace h1 := Nat.eq_of_beq_eq_true h1
    replace h4 := Nat.eq_of_beq_eq_true h4
    dsimp only at h1 h2 h3 h4
    subst h1 h2 h3 h4
    refine loop_cut [0, 3, 4, 5] [] (leR s) (fun _ => []) (fun i => i ≤ s.length) (fun i => s.length - i) 0 (Nat.zero_le _) rfl rfl rfl (fun x => rfl) (fun x => rfl) g4 trivial ?_
    intro i hi
    have hi : i ≤ s.length := hi
    have t := go_sound (G := ⟨⟨.nil, [], []⟩, [], []⟩) qmix qNG known_nil (fs_none rfl) (ls_none rfl) 100 (.code ⟨27, none⟩ (lp Tryz.prog 17 0) [] (ofE ([0, 3, 4, 5].zip (leR s i))) ⟨0, ofM ([].zip []), []⟩ (cutK [0, 3, 4, 5] [] (rN [0, 3, 4, 5] [] (leR s) (fun _ => []) 0 (fun i => i ≤ s.length) (fun i => s.length - i) k i))) ?_
    · exact t
    rw [show Go.Q.go Tryz.prog ⟨⟨.nil, [], []⟩, [], []⟩ 100 (.code ⟨27, none⟩ (lp Tryz.prog 17 0) [] (ofE ([0, 3, 4, 5].zip (leR s i))) ⟨0, ofM ([].zip []), []⟩ (cutK [0, 3, 4, 5] [] (rN [0, 3, 4, 5] [] (leR s) (fun _ => []) 0 (fun i => i ≤ s.length) (fun i => s.length - i) k i))) = _ from fr_loop s (ab s i).1 (ab s i).2 i _]
    obtain ⟨l1, l2⟩ := ab_lt s i
    have hb : (s.getD i 0).toNat < 256 := (s.getD i 0).toNat_lt
    have s1 : (ab s (i + 1)).1 = ((ab s i).1 + (s.getD i 0).toNat) % 65521 := rfl
    have s2 : (ab s (i + 1)).2 = ((ab s i).2 + ((ab s i).1 + (s.getD i 0).toNat) % 65521) % 65521 := rfl
    simp only [decide_eq_true_eq, decide_eq_false_iff_not, Int.toNat_natCast, Nat.zero_add]
    refine ⟨trivial, trivial, fun h => ⟨by omega, trivial, trivial, by omega, trivial, by omega, by omega, ?_⟩, fun h => ?_⟩
    · refine ⟨Nat.le_refl _, i + 1, (by show i + 1 ≤ s.length; omega), (by show s.length - (i + 1) < s.length - i; omega), ⟨vle_refl _, ⟨rfl, ?_⟩, ⟨rfl, ?_⟩, ⟨rfl, ?_⟩, trivial⟩, trivial⟩
      · omega
      · omega
      · push_cast; rfl
    · have e : i = s.length := by omega
      subst e
      exact ⟨leR s s.length, [], Nat.le_refl _, rfl, rfl, rfl, ⟨vle_refl _, vle_refl _, vle_refl _, vle_refl _, trivial⟩, trivial, hk⟩
  · exact h.elim
theorem sum_run (s : List UInt8) (hs : s.length ≤ 4000) : TaskOk Tryz.prog ⟨⟨.nil, [], []⟩, [], [(27003, lp Tryz.prog 49 0, sA s)]⟩ (.call 16 [.sstr s] nomem fun e _ => retV (.sint .u32 (sumF s)) e) := by
  rcases Nat.eq_zero_or_pos s.length with h0 | h0
  · obtain rfl := List.eq_nil_of_length_eq_zero h0
    have t := go_sound (G := ⟨⟨.nil, [], []⟩, [], []⟩) qmix qNG known_nil (fs_none rfl) (ls_none rfl) 100 (.call 16 [.str []] nomem fun e _ => retV (.sint .u32 (sumF [])) e) (by rw [f16_nil]; exact ⟨rfl, rfl⟩)
    exact t
  · refine go_sound qmix qNG known_nil (fs_none rfl) (ls_one rfl (sA_ok s hs)) 100 _ ?_
    rw [f16_eq]
    obtain ⟨l1, l2⟩ := ab_lt s s.length
    have e1 : ((ab s s.length).2 : Int) * 65536 % 4294967296 = (((ab s s.length).2 * 65536 : Nat) : Int) := by omega
    have e2 : ((ab s s.length).2 * 65536) ||| (ab s s.length).1 = (ab s s.length).2 * 65536 + (ab s s.length).1 := by
      have := Nat.shiftLeft_add_eq_or_of_lt (b := (ab s s.length).1) (i := 16) (by omega) (ab s s.length).2
      rw [Nat.shiftLeft_eq] at this
      exact this.symm
    rw [e1, Int.toNat_natCast, Int.toNat_natCast, e2]
    refine ⟨fun _ => ⟨trivial, trivial, rfl, h0, ⟨⟨rfl, rfl⟩, ⟨rfl, rfl⟩, rfl, ⟨rfl, rfl⟩, ⟨rfl, rfl⟩, trivial⟩, ⟨rfl, trivial⟩, trivial, by omega, ⟨rfl, ?_⟩⟩, fun h => absurd h0 (of_decide_eq_false h)⟩
    unfold sumF; omega
theorem rsum_run (s : List UInt8) (hs : s.length ≤ 4000) : TaskOk Tryz.prog ⟨⟨.nil, [], []⟩, [], [(27004, lp Tryz.prog 17 0, sR s)]⟩ (.call 17 [.sstr s] nomem fun e _ => retV (.sint .u32 (sumF s)) e) := by
  refine go_sound qmix qNG known_nil (fs_none rfl) (ls_one rfl (sR_ok s hs)) 100 _ ?_
  rw [f17_eq]
  obtain ⟨l1, l2⟩ := ab_lt s s.length
  refine ⟨rfl, ⟨rfl, ⟨rfl, rfl⟩, ⟨rfl, rfl⟩, ⟨rfl, rfl⟩, trivial⟩, trivial, trivial, ⟨rfl, ?_⟩⟩
  unfold sumF
  omega
end
end Go.Proofs.YtlboeehapelabaaGreatDoor
