/- Format: the loop that tells a disk's sectors as strings. -/
import Derived.Test.YtlboeehapelabaaGreatDoorFa
set_option linter.unusedVariables false
set_option linter.unusedSimpArgs false
namespace Go.Proofs.YtlboeehapelabaaGreatDoor
open Go Go.Z Go.Q
open Go.Y hiding KE KK KR go Task go_sound
noncomputable section
def sh64 : List Sh := [.int .u8, .int .u8, .int .u8, .int .u8, .int .u8, .int .u8, .int .u8, .int .u8, .int .u8, .int .u8, .int .u8, .int .u8, .int .u8, .int .u8, .int .u8, .int .u8, .int .u8, .int .u8, .int .u8, .int .u8, .int .u8, .int .u8, .int .u8, .int .u8, .int .u8, .int .u8, .int .u8, .int .u8, .int .u8, .int .u8, .int .u8, .int .u8, .int .u8, .int .u8, .int .u8, .int .u8, .int .u8, .int .u8, .int .u8, .int .u8, .int .u8, .int .u8, .int .u8, .int .u8, .int .u8, .int .u8, .int .u8, .int .u8, .int .u8, .int .u8, .int .u8, .int .u8, .int .u8, .int .u8, .int .u8, .int .u8, .int .u8, .int .u8, .int .u8, .int .u8, .int .u8, .int .u8, .int .u8, .int .u8]
/-- a sector's bytes -/
def secB (r : List V) : List UInt8 := (rowV r sh64 0).map byB
def BB (secs : List (List V)) : Prop := ∀ r ∈ secs, ∀ v ∈ rowV r sh64 0, isB v
/-- sectors as strings -/
def strs (secs : List (List V)) (i : Nat) : List (List V) := (List.range i).map fun j => [V.sstr (secB (secs.getD j []))]
def leT (n i : Nat) : List V := [.ptr 38 0, .ptr 39 0, .ssl 1 0 n 64, .sint .i64 n, .sint .i64 i]
def lmT (secs : List (List V)) : Nat → List (Option Chunk)
  | 0 => [some (.rows secs sh64 95), some (.cells [.nils] 25 1), none]
  | i + 1 => [some (.rows secs sh64 95), some (.cells [.ssl 40 0 (i + 1) 1] 25 1), some (.rows (strs secs (i + 1)) [.str] 9)]
def sT : FI → List DV → Tr V → Mem → KK → Prop := fun fi ds env hp k => match Nat.beq fi.nt 21, fi.ro, ds, hp.ro, Nat.beq hp.n 40 with | true, none, [], [], true => (∃ (secs : List (List V)) (n : Nat), 8 ≤ n ∧ n ≤ 1024 ∧ secs.length = n ∧ BB secs ∧ fitV (pk [2,3,6,7,8] env) (leT n 0) ∧ pk [0,38,39] hp.t = [some (.cells [.nils] 25 1), some (.cells [.nils] 25 1), some (.cells [.nils] 25 1)] ∧ fitC (pk [1] hp.t) [.rows secs sh64 95] ∧ k (.exit 0) [] (ofE ([2,3,6,7,8].zip (leT n n))) ⟨41, ofM ([39,40].zip [.cells [.ssl 40 0 n 1] 25 1, .rows (strs secs n) [.str] 9] ++ [0,38].zip [.cells [.nils] 25 1, .cells [.nils] 25 1]), []⟩) | _, _, _, _, _ => False
theorem told0 (secs : List (List V)) (n : Nat) (i : Int) (N : O → List (Option V) → Nat → List (Option Chunk) → Prop) : Go.Q.go Tryz.prog ⟨⟨.nil, [], []⟩, [], []⟩ 100 (.code ⟨21, none⟩ (lp Tryz.prog 44 0) [] (ofE ([2,3,6,7,8].zip [.ptr 38 0, .ptr 39 0, .ssl 1 0 n 64, .sint .i64 n, .sint .i64 i])) ⟨41, ofMo ([1,39,40].zip [some (.rows secs sh64 95), some (.cells [.nils] 25 1), none]), []⟩ (cutM [2,3,6,7,8] [1,39,40,41,42,43] N)) =
  (
    True ∧
      (decide (i < (↑n : Int)) = true →
          ((0 : Int) ≤ i ∧ i < (↑n : Int)) ∧
            (0 : Nat) + i.toNat < secs.length ∧
              (∀ (v : V),
                  v ∈
                      rowV (secs.getD ((0 : Nat) + i.toNat) [])
                        sh64
                        (0 : Nat) →
                    ∃ n, (0 : Int) ≤ n ∧ n ≤ (255 : Int) ∧ (v = V.int IntKind.u8 n ∨ v = V.sint IntKind.u8 n)) ∧
                ((-9223372036854775808 : Int) ≤ i + (1 : Int) ∧
                    i + (1 : Int) ≤ (9223372036854775807 : Int)) ∧
                  N O.normal
                    [some (V.ptr (38 : Nat) (0 : Nat)), some (V.ptr (39 : Nat) (0 : Nat)),
                      some (V.ssl (1 : Nat) (0 : Nat) n (64 : Nat)), some (V.sint IntKind.i64 (↑n : Int)),
                      some (V.sint IntKind.i64 (i + (1 : Int)))]
                    (44 : Nat)
                    [some
                        (Chunk.rows secs
                          sh64
                          (95 : Nat)),
                      some (Chunk.cells [V.sl (43 : Nat) (0 : Nat) (0 : Nat) (1 : Nat) none] (25 : Nat) (1 : Nat)), none,
                      some
                        (Chunk.cells
                          (rowV (secs.getD ((0 : Nat) + i.toNat) [])
                            sh64
                            (0 : Nat))
                          (95 : Nat) (64 : Nat)),
                      some
                        (Chunk.cells
                          [V.sstr
                              (List.map byB
                                (rowV (secs.getD ((0 : Nat) + i.toNat) [])
                                  sh64
                                  (0 : Nat)))]
                          (9 : Nat) (1 : Nat)),
                      some
                        (Chunk.cells
                          [V.sstr
                              (List.map byB
                                (rowV (secs.getD ((0 : Nat) + i.toNat) [])
                                  sh64
                                  (0 : Nat)))]
                          (9 : Nat) (1 : Nat))]) ∧
        (decide (i < (↑n : Int)) = false →
          N (O.exit (0 : Nat))
            [some (V.ptr (38 : Nat) (0 : Nat)), some (V.ptr (39 : Nat) (0 : Nat)),
              some (V.ssl (1 : Nat) (0 : Nat) n (64 : Nat)), some (V.sint IntKind.i64 (↑n : Int)),
              some (V.sint IntKind.i64 i)]
            (41 : Nat)
            [some
                (Chunk.rows secs
                  sh64
                  (95 : Nat)),
              some (Chunk.cells [V.nils] (25 : Nat) (1 : Nat)), none, none, none, none])) := by kernel_rfl
theorem told1 (secs out : List (List V)) (n m : Nat) (i : Int) (N : O → List (Option V) → Nat → List (Option Chunk) → Prop) : Go.Q.go Tryz.prog ⟨⟨.nil, [], []⟩, [], []⟩ 100 (.code ⟨21, none⟩ (lp Tryz.prog 44 0) [] (ofE ([2,3,6,7,8].zip [.ptr 38 0, .ptr 39 0, .ssl 1 0 n 64, .sint .i64 n, .sint .i64 i])) ⟨41, ofMo ([1,39,40].zip [some (.rows secs sh64 95), some (.cells [.ssl 40 0 m 1] 25 1), some (.rows out [.str] 9)]), []⟩ (cutM [2,3,6,7,8] [1,39,40,41,42,43] N)) =
  (
    True ∧
      (decide (i < (↑n : Int)) = true →
          ((0 : Int) ≤ i ∧ i < (↑n : Int)) ∧
            (0 : Nat) + i.toNat < secs.length ∧
              (∀ (v : V),
                  v ∈
                      rowV (secs.getD ((0 : Nat) + i.toNat) [])
                        sh64
                        (0 : Nat) →
                    ∃ n, (0 : Int) ≤ n ∧ n ≤ (255 : Int) ∧ (v = V.int IntKind.u8 n ∨ v = V.sint IntKind.u8 n)) ∧
                (((0 : Nat) < m ∧ m ≤ out.length) ∧
                    True ∧ (m + (1 : Nat)) * (16 : Nat) ≤ (140737488355328 : Nat) ∧ (0 : Nat) < m + (1 : Nat)) ∧
                  ((-9223372036854775808 : Int) ≤ i + (1 : Int) ∧
                      i + (1 : Int) ≤ (9223372036854775807 : Int)) ∧
                    N O.normal
                      [some (V.ptr (38 : Nat) (0 : Nat)), some (V.ptr (39 : Nat) (0 : Nat)),
                        some (V.ssl (1 : Nat) (0 : Nat) n (64 : Nat)), some (V.sint IntKind.i64 (↑n : Int)),
                        some (V.sint IntKind.i64 (i + (1 : Int)))]
                      (44 : Nat)
                      [some
                          (Chunk.rows secs
                            sh64
                            (95 : Nat)),
                        some (Chunk.cells [V.ssl (43 : Nat) (0 : Nat) (m + (1 : Nat)) (1 : Nat)] (25 : Nat) (1 : Nat)),
                        none,
                        some
                          (Chunk.cells
                            (rowV (secs.getD ((0 : Nat) + i.toNat) [])
                              sh64
                              (0 : Nat))
                            (95 : Nat) (64 : Nat)),
                        some
                          (Chunk.cells
                            [V.sstr
                                (List.map byB
                                  (rowV (secs.getD ((0 : Nat) + i.toNat) [])
                                    sh64
                                    (0 : Nat)))]
                            (9 : Nat) (1 : Nat)),
                        some
                          (Chunk.rows
                            (List.take m out ++
                              [[V.sstr
                                    (List.map byB
                                      (rowV (secs.getD ((0 : Nat) + i.toNat) [])
                                        sh64
                                        (0 : Nat)))]])
                            [Sh.str] (9 : Nat))]) ∧
        (decide (i < (↑n : Int)) = false →
          N (O.exit (0 : Nat))
            [some (V.ptr (38 : Nat) (0 : Nat)), some (V.ptr (39 : Nat) (0 : Nat)),
              some (V.ssl (1 : Nat) (0 : Nat) n (64 : Nat)), some (V.sint IntKind.i64 (↑n : Int)),
              some (V.sint IntKind.i64 i)]
            (41 : Nat)
            [some
                (Chunk.rows secs
                  sh64
                  (95 : Nat)),
              some (Chunk.cells [V.ssl (40 : Nat) (0 : Nat) m (1 : Nat)] (25 : Nat) (1 : Nat)),
              some (Chunk.rows out [Sh.str] (9 : Nat)), none, none, none])) := by kernel_rfl
theorem strs_succ (secs : List (List V)) (i : Nat) : strs secs (i + 1) = strs secs i ++ [[.sstr (secB (secs.getD i []))]] := by
  unfold strs; rw [List.range_succ, List.map_append]; rfl
theorem strs_len (secs : List (List V)) (i : Nat) : (strs secs i).length = i := by unfold strs; simp
theorem BB_at {secs : List (List V)} (h : BB secs) {i : Nat} (hi : i < secs.length) : ∀ v ∈ rowV (secs.getD i []) sh64 0, isB v := by
  rw [List.getD_eq_getElem?_getD, List.getElem?_eq_getElem hi]
  exact h _ (List.getElem_mem hi)
theorem str_rows (s : List UInt8) : shR [.str] [V.sstr s] := ⟨_, _, rfl, ⟨_, .inl rfl⟩, rfl⟩
theorem sT_ok {gf gl} : ∀ fi ds env hp k, sT fi ds env hp k → TaskOk Tryz.prog ⟨⟨.nil, [], []⟩, gf, gl⟩ (.code fi (.loop (lp Tryz.prog 44 0)) ds env hp k) := by
  intro fi ds env hp k h
  unfold sT at h
  split at h
  · rename_i h1 h2 h3 h4
    obtain ⟨secs, n, g1, g2, g3, g4, g5, g6, g7, hk⟩ := h
    obtain ⟨nt, ro⟩ := fi
    obtain ⟨hn, ht, hro⟩ := hp
    replace h1 := Nat.eq_of_beq_eq_true h1
    replace h4 := Nat.eq_of_beq_eq_true h4
    dsimp only at h1 h2 h3 h4 g6 g7
    subst h1 h2 h3 h4
    simp only [pk, List.cons.injEq, and_true] at g6
    refine loop_fr [2, 3, 6, 7, 8] [1, 39, 40] [1, 39, 40, 41, 42, 43] [0, 38] [.cells [.nils] 25 1, .cells [.nils] 25 1] 41 (leT n) (lmT secs) (fun i => i ≤ n) (fun i => n - i) 0 (Nat.zero_le _) rfl rfl rfl (by show 40 ≤ 41; decide) rfl rfl rfl (fun x => rfl) (fun x => by cases x <;> rfl) g5 ?_ ?_ ?_
    · simp only [pk] at g7
      cases hc : ht.get 1 with
      | none => rw [hc] at g7; exact g7.elim
      | some c =>
        rw [hc] at g7
        exact ⟨⟨c, hc, g7.1⟩, ⟨_, g6.2.2, ⟨rfl, rfl, vles_refl _⟩⟩, trivial⟩
    · show [ht.get 0, ht.get 38] = _
      rw [g6.1, g6.2.1]; rfl
    · intro i hi
      have hi : i ≤ n := hi
      cases i with
      | zero =>
        have t := go_sound (G := ⟨⟨.nil, [], []⟩, [], []⟩) qmix qNG known_nil (fs_none rfl) (ls_none rfl) 100 (.code ⟨21, none⟩ (lp Tryz.prog 44 0) [] (ofE ([2, 3, 6, 7, 8].zip (leT n 0))) ⟨41, ofMo ([1, 39, 40].zip (lmT secs 0)), []⟩ (cutM [2, 3, 6, 7, 8] [1, 39, 40, 41, 42, 43] (rM [2, 3, 6, 7, 8] [1, 39, 40] [1, 39, 40, 41, 42, 43] [0, 38] [.cells [.nils] 25 1, .cells [.nils] 25 1] (leT n) (lmT secs) 40 41 (fun i => i ≤ n) (fun i => n - i) k 0))) ?_
        · exact t
        rw [show Go.Q.go Tryz.prog ⟨⟨.nil, [], []⟩, [], []⟩ 100 (.code ⟨21, none⟩ (lp Tryz.prog 44 0) [] (ofE ([2, 3, 6, 7, 8].zip (leT n 0))) ⟨41, ofMo ([1, 39, 40].zip (lmT secs 0)), []⟩ (cutM [2, 3, 6, 7, 8] [1, 39, 40, 41, 42, 43] (rM [2, 3, 6, 7, 8] [1, 39, 40] [1, 39, 40, 41, 42, 43] [0, 38] [.cells [.nils] 25 1, .cells [.nils] 25 1] (leT n) (lmT secs) 40 41 (fun i => i ≤ n) (fun i => n - i) k 0))) = _ from told0 secs n (0 : Nat) _]
        simp only [decide_eq_true_eq, decide_eq_false_iff_not, Int.toNat_natCast, Nat.zero_add]
        refine ⟨trivial, fun h => ⟨by omega, by omega, BB_at g4 (by omega), by omega, ?_⟩, fun h => absurd h (by omega)⟩
        refine ⟨1, [1, 39, 43], (by show 1 ≤ n; omega), (by show n - 1 < n - 0; omega), by decide, rfl, ⟨vle_refl _, vle_refl _, vle_refl _, vle_refl _, ⟨rfl, rfl⟩, trivial⟩, ⟨⟨_, rfl, rfl⟩, ⟨_, rfl, ⟨rfl, rfl, ⟨⟨rfl, rfl, rfl, rfl⟩, trivial⟩⟩⟩, ⟨_, rfl, ⟨rfl, rfl, fun r hr => ?_, ?_⟩⟩, trivial⟩⟩
        · obtain ⟨j, _, rfl⟩ := List.mem_map.1 hr
          exact str_rows _
        · exact ⟨rfl, trivial⟩
      | succ i =>
        have t := go_sound (G := ⟨⟨.nil, [], []⟩, [], []⟩) qmix qNG known_nil (fs_none rfl) (ls_none rfl) 100 (.code ⟨21, none⟩ (lp Tryz.prog 44 0) [] (ofE ([2, 3, 6, 7, 8].zip (leT n (i + 1)))) ⟨41, ofMo ([1, 39, 40].zip (lmT secs (i + 1))), []⟩ (cutM [2, 3, 6, 7, 8] [1, 39, 40, 41, 42, 43] (rM [2, 3, 6, 7, 8] [1, 39, 40] [1, 39, 40, 41, 42, 43] [0, 38] [.cells [.nils] 25 1, .cells [.nils] 25 1] (leT n) (lmT secs) 40 41 (fun i => i ≤ n) (fun i => n - i) k (i + 1)))) ?_
        · exact t
        rw [show Go.Q.go Tryz.prog ⟨⟨.nil, [], []⟩, [], []⟩ 100 (.code ⟨21, none⟩ (lp Tryz.prog 44 0) [] (ofE ([2, 3, 6, 7, 8].zip (leT n (i + 1)))) ⟨41, ofMo ([1, 39, 40].zip (lmT secs (i + 1))), []⟩ (cutM [2, 3, 6, 7, 8] [1, 39, 40, 41, 42, 43] (rM [2, 3, 6, 7, 8] [1, 39, 40] [1, 39, 40, 41, 42, 43] [0, 38] [.cells [.nils] 25 1, .cells [.nils] 25 1] (leT n) (lmT secs) 40 41 (fun i => i ≤ n) (fun i => n - i) k (i + 1)))) = _ from told1 secs (strs secs (i + 1)) n (i + 1) ((i + 1 : Nat) : Int) _]
        simp only [decide_eq_true_eq, decide_eq_false_iff_not, Int.toNat_natCast, Nat.zero_add, strs_len, List.take_of_length_le (Nat.le_of_eq (strs_len secs (i + 1)))]
        refine ⟨trivial, fun h => ⟨by omega, by omega, BB_at g4 (by omega), ⟨by omega, trivial, by omega, by omega⟩, by omega, ?_⟩, fun h => ?_⟩
        · refine ⟨i + 2, [1, 39, 43], (by show i + 2 ≤ n; omega), (by show n - (i + 2) < n - (i + 1); omega), by decide, rfl, ⟨vle_refl _, vle_refl _, vle_refl _, vle_refl _, ⟨rfl, by push_cast; omega⟩, trivial⟩, ⟨⟨_, rfl, rfl⟩, ⟨_, rfl, ⟨rfl, rfl, ⟨rfl, trivial⟩⟩⟩, ⟨_, rfl, ?_⟩, trivial⟩⟩
          show Chunk.rows _ _ _ = Chunk.rows (strs secs (i + 1 + 1)) _ _
          rw [strs_succ secs (i + 1)]; rfl
        · have e : i + 1 = n := by omega
          subst e
          exact ⟨leT (i + 1) (i + 1), [39, 40], [.cells [.ssl 40 0 (i + 1) 1] 25 1, .rows (strs secs (i + 1)) [.str] 9], by decide, rfl, rfl, ⟨vle_refl _, vle_refl _, vle_refl _, vle_refl _, vle_refl _, trivial⟩, ⟨⟨_, rfl, ⟨rfl, rfl, vles_refl _⟩⟩, ⟨_, rfl, rfl⟩, trivial⟩, hk⟩
  · exact h.elim
end
end Go.Proofs.YtlboeehapelabaaGreatDoor
/- Format: the loop by which the reference makes a disk. -/
namespace Go.Proofs.YtlboeehapelabaaGreatDoor
open Go Go.Z Go.Q
open Go.Y hiding KE KK KR go Task go_sound
noncomputable section
def z64 : List UInt8 := [0, 0, 0, 0, 0, 0, 0, 0, 0, 0, 0, 0, 0, 0, 0, 0, 0, 0, 0, 0, 0, 0, 0, 0, 0, 0, 0, 0, 0, 0, 0, 0, 0, 0, 0, 0, 0, 0, 0, 0, 0, 0, 0, 0, 0, 0, 0, 0, 0, 0, 0, 0, 0, 0, 0, 0, 0, 0, 0, 0, 0, 0, 0, 0]
def bI (l : List Int) : List V := l.map fun n => V.int .u8 n
def zrow : List V := bI [0, 0, 0, 0, 0, 0, 0, 0, 0, 0, 0, 0, 0, 0, 0, 0, 0, 0, 0, 0, 0, 0, 0, 0, 0, 0, 0, 0, 0, 0, 0, 0, 0, 0, 0, 0, 0, 0, 0, 0, 0, 0, 0, 0, 0, 0, 0, 0, 0, 0, 0, 0, 0, 0, 0, 0, 0, 0, 0, 0, 0, 0, 0, 0]
/-- zero sectors as strings -/
def zs (n : Nat) : List (List V) := List.replicate n [V.str z64]
def leF (n i : Nat) : List V := [.sint .i64 n, .ptr 42 0, .ptr 43 0, .sint .i64 i]
def lmF : Nat → List (Option Chunk)
  | 0 => [some (.cells [.nils] 25 1), none]
  | i + 1 => [some (.cells [.ssl 44 0 (i + 1) 1] 25 1), some (.rows (zs (i + 1)) [.str] 9)]
def sF : FI → List DV → Tr V → Mem → KK → Prop := fun fi ds env hp k => match Nat.beq fi.nt 37, fi.ro, ds, hp.ro, Nat.beq hp.n 44, hp.t.get 40, hp.t.get 41, hp.t.get 42 with | true, none, [], [], true, some c40, some c41, some c42 => (∃ (n : Nat), 8 ≤ n ∧ n ≤ 1024 ∧ fitV (pk [0,2,3,4] env) (leF n 0) ∧ pk [43] hp.t = [some (.cells [.nils] 25 1)] ∧ k (.exit 0) [] (ofE ([0,2,3,4].zip (leF n n))) ⟨45, ofM ([43,44].zip [.cells [.ssl 44 0 n 1] 25 1, .rows (zs n) [.str] 9] ++ [40,41,42].zip [c40, c41, c42]), []⟩) | _, _, _, _, _, _, _, _ => False
theorem rf0 (n i : Int) (N : O → List (Option V) → Nat → List (Option Chunk) → Prop) : Go.Q.go Tryz.prog ⟨⟨.nil, [], []⟩, [], []⟩ 200 (.code ⟨37, none⟩ (lp Tryz.prog 14 0) [] (ofE ([0,2,3,4].zip [.sint .i64 n, .ptr 42 0, .ptr 43 0, .sint .i64 i])) ⟨45, ofMo ([43,44].zip [some (.cells [.nils] 25 1), none]), []⟩ (cutM [0,2,3,4] [43,44,45,46,47,48,49,50] N)) =
  (
    True ∧
      (decide (i < n) = true →
          ((-9223372036854775808 : Int) ≤ i + (1 : Int) ∧
              i + (1 : Int) ≤ (9223372036854775807 : Int)) ∧
            N O.normal
              [some (V.sint IntKind.i64 n), some (V.ptr (42 : Nat) (0 : Nat)), some (V.ptr (43 : Nat) (0 : Nat)),
                some (V.sint IntKind.i64 (i + (1 : Int)))]
              (48 : Nat)
              [some (Chunk.cells [V.sl (47 : Nat) (0 : Nat) (0 : Nat) (1 : Nat) none] (25 : Nat) (1 : Nat)), none,
                some
                  (Chunk.cells
                    zrow
                    (5 : Nat) (1 : Nat)),
                some
                  (Chunk.cells
                    [V.str
                        z64]
                    (9 : Nat) (1 : Nat)),
                some
                  (Chunk.cells
                    [V.str
                        z64]
                    (9 : Nat) (1 : Nat)),
                none, none, none]) ∧
        (decide (i < n) = false →
          N (O.exit (0 : Nat))
            [some (V.sint IntKind.i64 n), some (V.ptr (42 : Nat) (0 : Nat)), some (V.ptr (43 : Nat) (0 : Nat)),
              some (V.sint IntKind.i64 i)]
            (45 : Nat) [some (Chunk.cells [V.nils] (25 : Nat) (1 : Nat)), none, none, none, none, none, none, none])) := by kernel_rfl
theorem rf1 (out : List (List V)) (m : Nat) (n i : Int) (N : O → List (Option V) → Nat → List (Option Chunk) → Prop) : Go.Q.go Tryz.prog ⟨⟨.nil, [], []⟩, [], []⟩ 200 (.code ⟨37, none⟩ (lp Tryz.prog 14 0) [] (ofE ([0,2,3,4].zip [.sint .i64 n, .ptr 42 0, .ptr 43 0, .sint .i64 i])) ⟨45, ofMo ([43,44].zip [some (.cells [.ssl 44 0 m 1] 25 1), some (.rows out [.str] 9)]), []⟩ (cutM [0,2,3,4] [43,44,45,46,47,48,49,50] N)) =
  (
    True ∧
      (decide (i < n) = true →
          (((0 : Nat) < m ∧ m ≤ out.length) ∧
              True ∧ (m + (1 : Nat)) * (16 : Nat) ≤ (140737488355328 : Nat) ∧ (0 : Nat) < m + (1 : Nat)) ∧
            ((-9223372036854775808 : Int) ≤ i + (1 : Int) ∧
                i + (1 : Int) ≤ (9223372036854775807 : Int)) ∧
              N O.normal
                [some (V.sint IntKind.i64 n), some (V.ptr (42 : Nat) (0 : Nat)), some (V.ptr (43 : Nat) (0 : Nat)),
                  some (V.sint IntKind.i64 (i + (1 : Int)))]
                (48 : Nat)
                [some (Chunk.cells [V.ssl (47 : Nat) (0 : Nat) (m + (1 : Nat)) (1 : Nat)] (25 : Nat) (1 : Nat)), none,
                  some
                    (Chunk.cells
                      zrow
                      (5 : Nat) (1 : Nat)),
                  some
                    (Chunk.cells
                      [V.str
                          z64]
                      (9 : Nat) (1 : Nat)),
                  some
                    (Chunk.rows
                      (List.take m out ++
                        [[V.str
                              z64]])
                      [Sh.str] (9 : Nat)),
                  none, none, none]) ∧
        (decide (i < n) = false →
          N (O.exit (0 : Nat))
            [some (V.sint IntKind.i64 n), some (V.ptr (42 : Nat) (0 : Nat)), some (V.ptr (43 : Nat) (0 : Nat)),
              some (V.sint IntKind.i64 i)]
            (45 : Nat)
            [some (Chunk.cells [V.ssl (44 : Nat) (0 : Nat) m (1 : Nat)] (25 : Nat) (1 : Nat)),
              some (Chunk.rows out [Sh.str] (9 : Nat)), none, none, none, none, none, none])) := by kernel_rfl
theorem zs_succ (i : Nat) : zs (i + 1) = zs i ++ [[.str z64]] := by unfold zs; rw [List.replicate_succ']
theorem zs_len (i : Nat) : (zs i).length = i := by unfold zs; simp
theorem sF_ok {gf gl} : ∀ fi ds env hp k, sF fi ds env hp k → TaskOk Tryz.prog ⟨⟨.nil, [(12, [], .val (.bool true))], []⟩, gf, gl⟩ (.code fi (.loop (lp Tryz.prog 14 0)) ds env hp k) := by
  intro fi ds env hp k h
  unfold sF at h
  split at h
  · rename_i c40 c41 c42 h1 h2 h3 h4 k40 k41 k42
    obtain ⟨n, g1, g2, g5, g6, hk⟩ := h
    obtain ⟨nt, ro⟩ := fi
    obtain ⟨hn, ht, hro⟩ := hp
    replace h1 := Nat.eq_of_beq_eq_true h1
    replace h4 := Nat.eq_of_beq_eq_true h4
    dsimp only at h1 h2 h3 h4 g6 k40 k41 k42
    subst h1 h2 h3 h4
    simp only [pk, List.cons.injEq, and_true] at g6
    refine loop_fr [0, 2, 3, 4] [43, 44] [43, 44, 45, 46, 47, 48, 49, 50] [40, 41, 42] [c40, c41, c42] 45 (leF n) lmF (fun i => i ≤ n) (fun i => n - i) 0 (Nat.zero_le _) rfl rfl rfl (by show 44 ≤ 45; decide) rfl rfl rfl (fun x => rfl) (fun x => by cases x <;> rfl) g5 ⟨⟨_, g6, ⟨rfl, rfl, vles_refl _⟩⟩, trivial⟩ (by show [ht.get 40, ht.get 41, ht.get 42] = _; rw [k40, k41, k42]; rfl) ?_
    intro i hi
    have hi : i ≤ n := hi
    cases i with
    | zero =>
      have t := go_sound (G := ⟨⟨.nil, [], []⟩, [], []⟩) qmix qNG known_nil (fs_none rfl) (ls_none rfl) 200 (.code ⟨37, none⟩ (lp Tryz.prog 14 0) [] (ofE ([0, 2, 3, 4].zip (leF n 0))) ⟨45, ofMo ([43, 44].zip (lmF 0)), []⟩ (cutM [0, 2, 3, 4] [43, 44, 45, 46, 47, 48, 49, 50] (rM [0, 2, 3, 4] [43, 44] [43, 44, 45, 46, 47, 48, 49, 50] [40, 41, 42] [c40, c41, c42] (leF n) lmF 44 45 (fun i => i ≤ n) (fun i => n - i) k 0))) ?_
      · exact t
      rw [show Go.Q.go Tryz.prog ⟨⟨.nil, [], []⟩, [], []⟩ 200 (.code ⟨37, none⟩ (lp Tryz.prog 14 0) [] (ofE ([0, 2, 3, 4].zip (leF n 0))) ⟨45, ofMo ([43, 44].zip (lmF 0)), []⟩ (cutM [0, 2, 3, 4] [43, 44, 45, 46, 47, 48, 49, 50] (rM [0, 2, 3, 4] [43, 44] [43, 44, 45, 46, 47, 48, 49, 50] [40, 41, 42] [c40, c41, c42] (leF n) lmF 44 45 (fun i => i ≤ n) (fun i => n - i) k 0))) = _ from rf0 n (0 : Nat) _]
      simp only [decide_eq_true_eq, decide_eq_false_iff_not]
      refine ⟨trivial, fun h => ⟨by omega, ?_⟩, fun h => absurd h (by omega)⟩
      refine ⟨1, [43, 47], (by show 1 ≤ n; omega), (by show n - 1 < n - 0; omega), by decide, rfl, ⟨vle_refl _, vle_refl _, vle_refl _, ⟨rfl, rfl⟩, trivial⟩, ⟨⟨_, rfl, ⟨rfl, rfl, ⟨⟨rfl, rfl, rfl, rfl⟩, trivial⟩⟩⟩, ⟨_, rfl, ⟨rfl, rfl, fun r hr => ?_, ⟨rfl, trivial⟩⟩⟩, trivial⟩⟩
      rw [List.eq_of_mem_replicate hr]
      exact ⟨_, _, rfl, ⟨_, .inr rfl⟩, rfl⟩
    | succ i =>
      have t := go_sound (G := ⟨⟨.nil, [], []⟩, [], []⟩) qmix qNG known_nil (fs_none rfl) (ls_none rfl) 200 (.code ⟨37, none⟩ (lp Tryz.prog 14 0) [] (ofE ([0, 2, 3, 4].zip (leF n (i + 1)))) ⟨45, ofMo ([43, 44].zip (lmF (i + 1))), []⟩ (cutM [0, 2, 3, 4] [43, 44, 45, 46, 47, 48, 49, 50] (rM [0, 2, 3, 4] [43, 44] [43, 44, 45, 46, 47, 48, 49, 50] [40, 41, 42] [c40, c41, c42] (leF n) lmF 44 45 (fun i => i ≤ n) (fun i => n - i) k (i + 1)))) ?_
      · exact t
      rw [show Go.Q.go Tryz.prog ⟨⟨.nil, [], []⟩, [], []⟩ 200 (.code ⟨37, none⟩ (lp Tryz.prog 14 0) [] (ofE ([0, 2, 3, 4].zip (leF n (i + 1)))) ⟨45, ofMo ([43, 44].zip (lmF (i + 1))), []⟩ (cutM [0, 2, 3, 4] [43, 44, 45, 46, 47, 48, 49, 50] (rM [0, 2, 3, 4] [43, 44] [43, 44, 45, 46, 47, 48, 49, 50] [40, 41, 42] [c40, c41, c42] (leF n) lmF 44 45 (fun i => i ≤ n) (fun i => n - i) k (i + 1)))) = _ from rf1 (zs (i + 1)) (i + 1) n ((i + 1 : Nat) : Int) _]
      simp only [decide_eq_true_eq, decide_eq_false_iff_not, zs_len, List.take_of_length_le (Nat.le_of_eq (zs_len (i + 1)))]
      refine ⟨trivial, fun h => ⟨⟨by omega, trivial, by omega, by omega⟩, by omega, ?_⟩, fun h => ?_⟩
      · refine ⟨i + 2, [43, 47], (by show i + 2 ≤ n; omega), (by show n - (i + 2) < n - (i + 1); omega), by decide, rfl, ⟨vle_refl _, vle_refl _, vle_refl _, ⟨rfl, by push_cast; omega⟩, trivial⟩, ⟨⟨_, rfl, ⟨rfl, rfl, ⟨rfl, trivial⟩⟩⟩, ⟨_, rfl, ?_⟩, trivial⟩⟩
        show Chunk.rows _ _ _ = Chunk.rows (zs (i + 1 + 1)) _ _
        rw [zs_succ (i + 1)]
      · have e : i + 1 = n := by omega
        subst e
        exact ⟨leF (i + 1) (i + 1), [43, 44], [.cells [.ssl 44 0 (i + 1) 1] 25 1, .rows (zs (i + 1)) [.str] 9], by decide, rfl, rfl, ⟨vle_refl _, vle_refl _, vle_refl _, vle_refl _, trivial⟩, ⟨⟨_, rfl, ⟨rfl, rfl, vles_refl _⟩⟩, ⟨_, rfl, rfl⟩, trivial⟩, hk⟩
  · exact h.elim
end
end Go.Proofs.YtlboeehapelabaaGreatDoor
/- Format: the loop that compares two disks; the law's run. -/
namespace Go.Proofs.YtlboeehapelabaaGreatDoor
open Go Go.Z Go.Q
open Go.Y hiding KE KK KR go Task go_sound
noncomputable section
def leD (i : Nat) : List V := [.ptr 59 0, .ptr 60 0, .sint .i64 i]
def lmD (A B : List (List V)) (n : Nat) (_ : Nat) : List (Option Chunk) := [some (.rows A [.str] 9), some (.rows B [.str] 9), some (.cells [.ssl 40 0 n 1] 25 1), some (.cells [.ssl 44 0 n 1] 25 1)]
def eqR (A B : List (List V)) (n : Nat) : Prop := ∀ i, i < n → vS ((A.getD i []).getD 0 .und) = vS ((B.getD i []).getD 0 .und)
def sD0 : FI → List DV → Tr V → Mem → KK → Prop := fun fi ds env hp k => match Nat.beq fi.nt 31, fi.ro, ds, hp.ro, Nat.beq hp.n 6 with | true, none, [], [], true => (fitC (pk [4,5] hp.t) [.cells [.nils] 25 1, .cells [.nils] 25 1] ∧ fitV (pk [2,3,5] env) [.ptr 4 0, .ptr 5 0, .sint .i64 0] ∧ k (.exit 0) [] (ofE ([2,3,5].zip [.ptr 4 0, .ptr 5 0, .sint .i64 0])) ⟨6, ofM ([].zip [] ++ [].zip []), []⟩) | _, _, _, _, _ => False
def sD1 : FI → List DV → Tr V → Mem → KK → Prop := fun fi ds env hp k => match Nat.beq fi.nt 31, fi.ro, ds, hp.ro, Nat.beq hp.n 61 with | true, none, [], [], true => (∃ (A B : List (List V)) (n : Nat), n ≤ 1024 ∧ fitC (pk [40,44] hp.t) [.rows A [.str] 9, .rows B [.str] 9] ∧ A.length = n ∧ B.length = n ∧ fitC (pk [59,60] hp.t) [.cells [.ssl 40 0 n 1] 25 1, .cells [.ssl 44 0 n 1] 25 1] ∧ fitV (pk [2,3,5] env) (leD 0) ∧ (∀ i, i < n → vS ((A.getD i []).getD 0 .und) = vS ((B.getD i []).getD 0 .und)) ∧ k (.exit 0) [] (ofE ([2,3,5].zip (leD n))) ⟨61, ofM ([].zip [] ++ [].zip []), []⟩) | _, _, _, _, _ => False
def sD : FI → List DV → Tr V → Mem → KK → Prop := fun fi ds env hp k => match Nat.beq hp.n 6 with | true => sD0 fi ds env hp k | false => sD1 fi ds env hp k
theorem sd_loop (A B : List (List V)) (n : Nat) (i : Int) (N : O → List (Option V) → Nat → List (Option Chunk) → Prop) : Go.Q.go Tryz.prog ⟨⟨.nil, [], []⟩, [], []⟩ 200 (.code ⟨31, none⟩ (lp Tryz.prog 15 0) [] (ofE ([2,3,5].zip [.ptr 59 0, .ptr 60 0, .sint .i64 i])) ⟨61, ofMo ([40,44,59,60].zip [some (.rows A [.str] 9), some (.rows B [.str] 9), some (.cells [.ssl 40 0 n 1] 25 1), some (.cells [.ssl 44 0 n 1] 25 1)]), []⟩ (cutM [2,3,5] [40,44,59,60] N)) =
  (True ∧
  True ∧
  (decide (i < (↑n : Int)) = true → ((0 : Int) ≤ i ∧
  i < (↑n : Int)) ∧
  (0 : Nat) + i.toNat < A.length ∧
  ((0 : Int) ≤ i ∧
  i < (↑n : Int)) ∧
  (0 : Nat) + i.toNat < B.length ∧
  True ∧
  ((!decide (vS ((A.getD ((0 : Nat) + i.toNat) []).getD (0 : Nat) V.und) = vS ((B.getD ((0 : Nat) + i.toNat) []).getD (0 : Nat) V.und))) = true → N O.ret [some (V.ptr (59 : Nat) (0 : Nat)), some (V.ptr (60 : Nat) (0 : Nat)), some (V.sint IntKind.i64 i)] (61 : Nat) [some (Chunk.rows A [Sh.str] (9 : Nat)), some (Chunk.rows B [Sh.str] (9 : Nat)), some (Chunk.cells [V.ssl (40 : Nat) (0 : Nat) n (1 : Nat)] (25 : Nat) (1 : Nat)), some (Chunk.cells [V.ssl (44 : Nat) (0 : Nat) n (1 : Nat)] (25 : Nat) (1 : Nat))]) ∧
  ((!decide (vS ((A.getD ((0 : Nat) + i.toNat) []).getD (0 : Nat) V.und) = vS ((B.getD ((0 : Nat) + i.toNat) []).getD (0 : Nat) V.und))) = false → ((-9223372036854775808 : Int) ≤ i + (1 : Int) ∧
  i + (1 : Int) ≤ (9223372036854775807 : Int)) ∧
  N O.normal [some (V.ptr (59 : Nat) (0 : Nat)), some (V.ptr (60 : Nat) (0 : Nat)), some (V.sint IntKind.i64 (i + (1 : Int)))] (61 : Nat) [some (Chunk.rows A [Sh.str] (9 : Nat)), some (Chunk.rows B [Sh.str] (9 : Nat)), some (Chunk.cells [V.ssl (40 : Nat) (0 : Nat) n (1 : Nat)] (25 : Nat) (1 : Nat)), some (Chunk.cells [V.ssl (44 : Nat) (0 : Nat) n (1 : Nat)] (25 : Nat) (1 : Nat))])) ∧
  (decide (i < (↑n : Int)) = false → N (O.exit (0 : Nat)) [some (V.ptr (59 : Nat) (0 : Nat)), some (V.ptr (60 : Nat) (0 : Nat)), some (V.sint IntKind.i64 i)] (61 : Nat) [some (Chunk.rows A [Sh.str] (9 : Nat)), some (Chunk.rows B [Sh.str] (9 : Nat)), some (Chunk.cells [V.ssl (40 : Nat) (0 : Nat) n (1 : Nat)] (25 : Nat) (1 : Nat)), some (Chunk.cells [V.ssl (44 : Nat) (0 : Nat) n (1 : Nat)] (25 : Nat) (1 : Nat))])) := by kernel_rfl
theorem sd_nil (N : O → List (Option V) → Nat → List (Option Chunk) → Prop) : Go.Q.go Tryz.prog ⟨⟨.nil, [], []⟩, [], []⟩ 200 (.code ⟨31, none⟩ (lp Tryz.prog 15 0) [] (ofE ([2,3,5].zip [.ptr 4 0, .ptr 5 0, .sint .i64 0])) ⟨6, ofMo ([4,5].zip [some (.cells [.nils] 25 1), some (.cells [.nils] 25 1)]), []⟩ (cutM [2,3,5] [4,5] N)) =
  (True ∧
  (false = true → False) ∧
  (false = false → N (O.exit (0 : Nat)) [some (V.ptr (4 : Nat) (0 : Nat)), some (V.ptr (5 : Nat) (0 : Nat)), some (V.sint IntKind.i64 (0 : Int))] (6 : Nat) [some (Chunk.cells [V.nils] (25 : Nat) (1 : Nat)), some (Chunk.cells [V.nils] (25 : Nat) (1 : Nat))])) := by kernel_rfl
theorem fitC_fitE {t : Tr Chunk} : ∀ {ids : List Nat} {l : List Chunk}, fitC (pk ids t) l → fitE t ids (l.map some)
  | [], [], _ => trivial
  | i :: ids, [], h => by simp only [pk] at h; cases hh : t.get i <;> rw [hh] at h <;> exact h.elim
  | [], _ :: _, h => h.elim
  | i :: ids, c :: l, h => by
    simp only [pk] at h
    cases hh : t.get i with
    | none => rw [hh] at h; exact h.elim
    | some c1 => rw [hh] at h; exact ⟨⟨c1, hh, h.1⟩, fitC_fitE h.2⟩
theorem fitC_two {t : Tr Chunk} {a b : List Nat} {l m : List Chunk} (h1 : fitC (pk a t) l) (h2 : fitC (pk b t) m) : fitC (pk (a ++ b) t) (l ++ m) := by
  induction a generalizing l with
  | nil => cases l with
    | nil => exact h2
    | cons => exact h1.elim
  | cons i a ih => cases l with
    | nil => simp only [pk] at h1; cases hh : t.get i <;> rw [hh] at h1 <;> exact h1.elim
    | cons c l =>
      simp only [pk] at h1
      cases hh : t.get i with
      | none => rw [hh] at h1; exact h1.elim
      | some c1 =>
        rw [hh] at h1
        show fitC (t.get i :: pk (a ++ b) t) (c :: (l ++ m))
        rw [hh]
        exact ⟨h1.1, ih h1.2⟩
theorem sD1_ok {gf gl} : ∀ fi ds env hp k, sD1 fi ds env hp k → TaskOk Tryz.prog ⟨⟨.nil, [(12, [], .val (.bool true))], []⟩, gf, gl⟩ (.code fi (.loop (lp Tryz.prog 15 0)) ds env hp k) := by
  intro fi ds env hp k h
  unfold sD1 at h
  split at h
  · rename_i h1 h2 h3 h4
    obtain ⟨A, B, n, g1, g2, gA, gB, g3, g4, gE, hk⟩ := h
    obtain ⟨nt, ro⟩ := fi
    obtain ⟨hn, ht, hro⟩ := hp
    replace h1 := Nat.eq_of_beq_eq_true h1
    replace h4 := Nat.eq_of_beq_eq_true h4
    dsimp only at h1 h2 h3 h4 g2 g3
    subst h1 h2 h3 h4
    refine loop_fr [2, 3, 5] [40, 44, 59, 60] [40, 44, 59, 60] [] [] 61 leD (lmD A B n) (fun i => i ≤ n) (fun i => n - i) 0 (Nat.zero_le _) rfl rfl rfl (Nat.le_refl _) rfl rfl rfl (fun x => rfl) (fun x => rfl) g4 (fitC_fitE (fitC_two g2 g3)) rfl ?_
    intro i hi
    have hi : i ≤ n := hi
    have t := go_sound (G := ⟨⟨.nil, [], []⟩, [], []⟩) qmix qNG known_nil (fs_none rfl) (ls_none rfl) 200 (.code ⟨31, none⟩ (lp Tryz.prog 15 0) [] (ofE ([2, 3, 5].zip (leD i))) ⟨61, ofMo ([40, 44, 59, 60].zip (lmD A B n i)), []⟩ (cutM [2, 3, 5] [40, 44, 59, 60] (rM [2, 3, 5] [40, 44, 59, 60] [40, 44, 59, 60] [] [] leD (lmD A B n) 61 61 (fun i => i ≤ n) (fun i => n - i) k i))) ?_
    · exact t
    rw [show Go.Q.go Tryz.prog ⟨⟨.nil, [], []⟩, [], []⟩ 200 (.code ⟨31, none⟩ (lp Tryz.prog 15 0) [] (ofE ([2, 3, 5].zip (leD i))) ⟨61, ofMo ([40, 44, 59, 60].zip (lmD A B n i)), []⟩ (cutM [2, 3, 5] [40, 44, 59, 60] (rM [2, 3, 5] [40, 44, 59, 60] [40, 44, 59, 60] [] [] leD (lmD A B n) 61 61 (fun i => i ≤ n) (fun i => n - i) k i))) = _ from sd_loop A B n i _]
    simp only [decide_eq_true_eq, decide_eq_false_iff_not, Int.toNat_natCast, Nat.zero_add, Bool.not_eq_true', Bool.not_eq_false']
    refine ⟨trivial, trivial, fun h => ⟨by omega, by omega, by omega, by omega, trivial, fun h2 => absurd (gE i (by omega)) h2, fun _ => ⟨by omega, ?_⟩⟩, fun h => ?_⟩
    · exact ⟨i + 1, [40, 44, 59, 60], (by show i + 1 ≤ n; omega), (by show n - (i + 1) < n - i; omega), by decide, rfl, ⟨vle_refl _, vle_refl _, ⟨rfl, by push_cast; rfl⟩, trivial⟩, ⟨⟨_, rfl, rfl⟩, ⟨_, rfl, rfl⟩, ⟨_, rfl, ⟨rfl, rfl, vles_refl _⟩⟩, ⟨_, rfl, ⟨rfl, rfl, vles_refl _⟩⟩, trivial⟩⟩
    · have e : i = n := by omega
      subst e
      exact ⟨leD i, [], [], by decide, rfl, rfl, ⟨vle_refl _, vle_refl _, vle_refl _, trivial⟩, trivial, hk⟩
  · exact h.elim
theorem sD0_ok {gf gl} : ∀ fi ds env hp k, sD0 fi ds env hp k → TaskOk Tryz.prog ⟨⟨.nil, [(12, [], .val (.bool true))], []⟩, gf, gl⟩ (.code fi (.loop (lp Tryz.prog 15 0)) ds env hp k) := by
  intro fi ds env hp k h
  unfold sD0 at h
  split at h
  · rename_i h1 h2 h3 h4
    obtain ⟨g2, g4, hk⟩ := h
    obtain ⟨nt, ro⟩ := fi
    obtain ⟨hn, ht, hro⟩ := hp
    replace h1 := Nat.eq_of_beq_eq_true h1
    replace h4 := Nat.eq_of_beq_eq_true h4
    dsimp only at h1 h2 h3 h4 g2
    subst h1 h2 h3 h4
    refine loop_fr [2, 3, 5] [4, 5] [4, 5] [] [] 6 (fun _ : Unit => [.ptr 4 0, .ptr 5 0, .sint .i64 0]) (fun _ => [some (.cells [.nils] 25 1), some (.cells [.nils] 25 1)]) (fun _ => True) (fun _ => 0) () trivial rfl rfl rfl (Nat.le_refl _) rfl rfl rfl (fun x => rfl) (fun x => rfl) g4 (fitC_fitE g2) rfl ?_
    intro i _
    have t := go_sound (G := ⟨⟨.nil, [], []⟩, [], []⟩) qmix qNG known_nil (fs_none rfl) (ls_none rfl) 200 (.code ⟨31, none⟩ (lp Tryz.prog 15 0) [] (ofE ([2, 3, 5].zip [.ptr 4 0, .ptr 5 0, .sint .i64 0])) ⟨6, ofMo ([4, 5].zip [some (.cells [.nils] 25 1), some (.cells [.nils] 25 1)]), []⟩ (cutM [2, 3, 5] [4, 5] (rM [2, 3, 5] [4, 5] [4, 5] [] [] (fun _ : Unit => [.ptr 4 0, .ptr 5 0, .sint .i64 0]) (fun _ => [some (.cells [.nils] 25 1), some (.cells [.nils] 25 1)]) 6 6 (fun _ => True) (fun _ => 0) k ()))) ?_
    · exact t
    rw [show Go.Q.go Tryz.prog ⟨⟨.nil, [], []⟩, [], []⟩ 200 (.code ⟨31, none⟩ (lp Tryz.prog 15 0) [] (ofE ([2, 3, 5].zip [.ptr 4 0, .ptr 5 0, .sint .i64 0])) ⟨6, ofMo ([4, 5].zip [some (.cells [.nils] 25 1), some (.cells [.nils] 25 1)]), []⟩ (cutM [2, 3, 5] [4, 5] (rM [2, 3, 5] [4, 5] [4, 5] [] [] (fun _ : Unit => [.ptr 4 0, .ptr 5 0, .sint .i64 0]) (fun _ => [some (.cells [.nils] 25 1), some (.cells [.nils] 25 1)]) 6 6 (fun _ => True) (fun _ => 0) k ()))) = _ from sd_nil _]
    first
      | exact ⟨[.ptr 4 0, .ptr 5 0, .sint .i64 0], [], [], by decide, rfl, rfl, ⟨vle_refl _, vle_refl _, vle_refl _, trivial⟩, trivial, hk⟩
      | exact ⟨trivial, fun h => (nomatch h), fun _ => ⟨[.ptr 4 0, .ptr 5 0, .sint .i64 0], [], [], by decide, rfl, rfl, ⟨vle_refl _, vle_refl _, vle_refl _, trivial⟩, trivial, hk⟩⟩
  · exact h.elim
theorem sD_ok {gf gl} : ∀ fi ds env hp k, sD fi ds env hp k → TaskOk Tryz.prog ⟨⟨.nil, [(12, [], .val (.bool true))], []⟩, gf, gl⟩ (.code fi (.loop (lp Tryz.prog 15 0)) ds env hp k) := by
  intro fi ds env hp k h
  unfold sD at h
  split at h
  · exact sD0_ok fi ds env hp k h
  · exact sD1_ok fi ds env hp k h
end
end Go.Proofs.YtlboeehapelabaaGreatDoor
