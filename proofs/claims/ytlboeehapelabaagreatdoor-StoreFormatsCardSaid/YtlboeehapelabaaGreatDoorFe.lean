/- The law StoreFormats, run by the machine over open terms. -/
import Derived.Test.YtlboeehapelabaaGreatDoorF1
set_option linter.unusedVariables false
set_option linter.unusedSimpArgs false
namespace Go.Proofs.YtlboeehapelabaaGreatDoor
open Go Go.Z Go.Q
open Go.Y hiding KE KK KR go Task go_sound
noncomputable section
/-- the two sums, in a form that is quickly reckoned -/
noncomputable def abGo : List UInt8 → Nat → Nat → Nat × Nat
  | [], a, b => (a, b)
  | c :: l, a, b => abGo l ((a + c.toNat) % 65521) ((b + (a + c.toNat) % 65521) % 65521)
noncomputable def sumT (s : List UInt8) : Int := (abGo s 1 0).2 * 65536 + (abGo s 1 0).1
noncomputable def sumS : List V → Mem → KE → Prop := fun args hp k => match args with
  | [.sstr s] => s.length ≤ 4000 ∧ k (.ret (.sint .u32 (sumF s))) hp
  | [.str s] => s.length ≤ 4000 ∧ k (.ret (.int .u32 (sumT s))) hp
  | _ => False
noncomputable def rowS : List V := (bI [0, 0, 0, 1, 72, 0, 0, 0, 0, 0, 0, 0, 0, 0, 0, 0, 0, 0, 0, 0, 0, 0, 0, 0, 0, 0, 0, 0, 0, 0, 0, 0, 0, 0, 0, 0, 0, 0, 0, 0, 0, 0, 0, 0, 0, 0, 0, 0, 0, 0, 0, 0, 0, 0, 0, 0, 15, 13, 0, 74, 0, 0, 0, 1])
noncomputable def rowH : List V := (bI [0, 0, 0, 1, 90, 83, 84, 79, 0, 0, 0, 1, 0, 0, 0, 0, 0, 0, 0, 0, 0, 0, 0, 0, 0, 0, 0, 0, 0, 0, 0, 0, 0, 0, 0, 0, 0, 0, 0, 0, 0, 0, 0, 0, 0, 0, 0, 0, 0, 0, 0, 0, 0, 0, 0, 0, 66, 242, 1, 83, 0, 0, 0, 1])
noncomputable def strS : List UInt8 := [0, 0, 0, 1, 72, 0, 0, 0, 0, 0, 0, 0, 0, 0, 0, 0, 0, 0, 0, 0, 0, 0, 0, 0, 0, 0, 0, 0, 0, 0, 0, 0, 0, 0, 0, 0, 0, 0, 0, 0, 0, 0, 0, 0, 0, 0, 0, 0, 0, 0, 0, 0, 0, 0, 0, 0, 15, 13, 0, 74, 0, 0, 0, 1]
noncomputable def strH : List UInt8 := [0, 0, 0, 1, 90, 83, 84, 79, 0, 0, 0, 1, 0, 0, 0, 0, 0, 0, 0, 0, 0, 0, 0, 0, 0, 0, 0, 0, 0, 0, 0, 0, 0, 0, 0, 0, 0, 0, 0, 0, 0, 0, 0, 0, 0, 0, 0, 0, 0, 0, 0, 0, 0, 0, 0, 0, 66, 242, 1, 83, 0, 0, 0, 1]
theorem f3_eq (n : Int) (t : List UInt8) (K : E → Prop) : Go.Q.go Tryz.prog ⟨⟨.nil, [(12, [], .val (.bool true))], []⟩, [(16, sumS), (17, sumS)], [(21003, lp Tryz.prog 44 0, sT), (37005, lp Tryz.prog 14 0, sF), (31004, lp Tryz.prog 15 0, sD)]⟩ 600 (.call 3 [.sint .i64 n, .sstr t] nomem fun e _ => K e) =
  (True ∧
  True ∧
  (decide ((4000 : Int) < (↑t.length : Int)) = true → K (E.ret (V.bool true))) ∧
  (decide ((4000 : Int) < (↑t.length : Int)) = false → True ∧
  (decide (n < (8 : Int)) = true → True ∧
  (decide (n < (8 : Int)) = true → lp Tryz.prog (15 : Nat) (0 : Nat) = lp Tryz.prog (15 : Nat) (0 : Nat) ∧
  (((25 : Nat) = (25 : Nat) ∧
  (1 : Nat) = (1 : Nat) ∧
  V.nils = V.nils ∧
  True) ∧
  ((25 : Nat) = (25 : Nat) ∧
  (1 : Nat) = (1 : Nat) ∧
  V.nils = V.nils ∧
  True) ∧
  True) ∧
  (V.ptr (4 : Nat) (0 : Nat) = V.ptr (4 : Nat) (0 : Nat) ∧
  V.ptr (5 : Nat) (0 : Nat) = V.ptr (5 : Nat) (0 : Nat) ∧
  (IntKind.i64 = IntKind.i64 ∧
  (0 : Int) = (0 : Int)) ∧
  True) ∧
  t.length ≤ (4000 : Nat) ∧
  t.length ≤ (4000 : Nat) ∧
  True ∧
  (decide (sumF t = sumF t) = true → K (E.ret (V.bool true))) ∧
  (decide (sumF t = sumF t) = false → K (E.ret (V.bool false)))) ∧
  (decide (n < (8 : Int)) = false → True ∧
  (decide ((1024 : Int) < n) = true → lp Tryz.prog (15 : Nat) (0 : Nat) = lp Tryz.prog (15 : Nat) (0 : Nat) ∧
  (((25 : Nat) = (25 : Nat) ∧
  (1 : Nat) = (1 : Nat) ∧
  V.nils = V.nils ∧
  True) ∧
  ((25 : Nat) = (25 : Nat) ∧
  (1 : Nat) = (1 : Nat) ∧
  V.nils = V.nils ∧
  True) ∧
  True) ∧
  (V.ptr (4 : Nat) (0 : Nat) = V.ptr (4 : Nat) (0 : Nat) ∧
  V.ptr (5 : Nat) (0 : Nat) = V.ptr (5 : Nat) (0 : Nat) ∧
  (IntKind.i64 = IntKind.i64 ∧
  (0 : Int) = (0 : Int)) ∧
  True) ∧
  t.length ≤ (4000 : Nat) ∧
  t.length ≤ (4000 : Nat) ∧
  True ∧
  (decide (sumF t = sumF t) = true → K (E.ret (V.bool true))) ∧
  (decide (sumF t = sumF t) = false → K (E.ret (V.bool false)))) ∧
  (decide ((1024 : Int) < n) = false → lp Tryz.prog (14 : Nat) (0 : Nat) = lp Tryz.prog (14 : Nat) (0 : Nat) ∧
  False))) ∧
  (decide (n < (8 : Int)) = false → True ∧
  (decide ((1024 : Int) < n) = true → True ∧
  (decide (n < (8 : Int)) = true → lp Tryz.prog (15 : Nat) (0 : Nat) = lp Tryz.prog (15 : Nat) (0 : Nat) ∧
  (((25 : Nat) = (25 : Nat) ∧
  (1 : Nat) = (1 : Nat) ∧
  V.nils = V.nils ∧
  True) ∧
  ((25 : Nat) = (25 : Nat) ∧
  (1 : Nat) = (1 : Nat) ∧
  V.nils = V.nils ∧
  True) ∧
  True) ∧
  (V.ptr (4 : Nat) (0 : Nat) = V.ptr (4 : Nat) (0 : Nat) ∧
  V.ptr (5 : Nat) (0 : Nat) = V.ptr (5 : Nat) (0 : Nat) ∧
  (IntKind.i64 = IntKind.i64 ∧
  (0 : Int) = (0 : Int)) ∧
  True) ∧
  t.length ≤ (4000 : Nat) ∧
  t.length ≤ (4000 : Nat) ∧
  True ∧
  (decide (sumF t = sumF t) = true → K (E.ret (V.bool true))) ∧
  (decide (sumF t = sumF t) = false → K (E.ret (V.bool false)))) ∧
  (decide (n < (8 : Int)) = false → True ∧
  (decide ((1024 : Int) < n) = true → lp Tryz.prog (15 : Nat) (0 : Nat) = lp Tryz.prog (15 : Nat) (0 : Nat) ∧
  (((25 : Nat) = (25 : Nat) ∧
  (1 : Nat) = (1 : Nat) ∧
  V.nils = V.nils ∧
  True) ∧
  ((25 : Nat) = (25 : Nat) ∧
  (1 : Nat) = (1 : Nat) ∧
  V.nils = V.nils ∧
  True) ∧
  True) ∧
  (V.ptr (4 : Nat) (0 : Nat) = V.ptr (4 : Nat) (0 : Nat) ∧
  V.ptr (5 : Nat) (0 : Nat) = V.ptr (5 : Nat) (0 : Nat) ∧
  (IntKind.i64 = IntKind.i64 ∧
  (0 : Int) = (0 : Int)) ∧
  True) ∧
  t.length ≤ (4000 : Nat) ∧
  t.length ≤ (4000 : Nat) ∧
  True ∧
  (decide (sumF t = sumF t) = true → K (E.ret (V.bool true))) ∧
  (decide (sumF t = sumF t) = false → K (E.ret (V.bool false)))) ∧
  (decide ((1024 : Int) < n) = false → lp Tryz.prog (14 : Nat) (0 : Nat) = lp Tryz.prog (14 : Nat) (0 : Nat) ∧
  False))) ∧
  (decide ((1024 : Int) < n) = false → ((0 : Int) < n ∧
  n ≤ n ∧
  n ≤ (9223372036854775807 : Int) ∧
  n.toNat * (64 : Nat) ≤ (281474976710656 : Nat)) ∧
  True ∧
  ((-9223372036854775808 : Int) ≤ (↑n.toNat : Int) - (2 : Int) ∧
  (↑n.toNat : Int) - (2 : Int) ≤ (9223372036854775807 : Int)) ∧
  ((0 : Int) ≤ (↑n.toNat : Int) - (2 : Int) ∧
  (0 : Int) < (2 : Int) ∧
  (↑n.toNat : Int) - (2 : Int) ≤ (9223372036854775807 : Int)) ∧
  ((-9223372036854775808 : Int) ≤ (1 : Int) * (((↑n.toNat : Int) - (2 : Int)) / (2 : Int)) ∧
  (1 : Int) * (((↑n.toNat : Int) - (2 : Int)) / (2 : Int)) ≤ (9223372036854775807 : Int)) ∧
  ((-9223372036854775808 : Int) ≤ (2 : Int) + (1 : Int) * (((↑n.toNat : Int) - (2 : Int)) / (2 : Int)) ∧
  (2 : Int) + (1 : Int) * (((↑n.toNat : Int) - (2 : Int)) / (2 : Int)) ≤ (9223372036854775807 : Int)) ∧
  True ∧
  ((-9223372036854775808 : Int) ≤ (↑n.toNat : Int) - (2 : Int) ∧
  (↑n.toNat : Int) - (2 : Int) ≤ (9223372036854775807 : Int)) ∧
  ((0 : Int) ≤ (↑n.toNat : Int) - (2 : Int) ∧
  (0 : Int) < (2 : Int) ∧
  (↑n.toNat : Int) - (2 : Int) ≤ (9223372036854775807 : Int)) ∧
  ((-9223372036854775808 : Int) ≤ (2 : Int) * (((↑n.toNat : Int) - (2 : Int)) / (2 : Int)) ∧
  (2 : Int) * (((↑n.toNat : Int) - (2 : Int)) / (2 : Int)) ≤ (9223372036854775807 : Int)) ∧
  ((-9223372036854775808 : Int) ≤ (2 : Int) + (2 : Int) * (((↑n.toNat : Int) - (2 : Int)) / (2 : Int)) ∧
  (2 : Int) + (2 : Int) * (((↑n.toNat : Int) - (2 : Int)) / (2 : Int)) ≤ (9223372036854775807 : Int)) ∧
  ((0 : Int) ≤ (2 : Int) + (1 : Int) * (((↑n.toNat : Int) - (2 : Int)) / (2 : Int)) ∧
  (2 : Int) + (1 : Int) * (((↑n.toNat : Int) - (2 : Int)) / (2 : Int)) < (↑n.toNat : Int)) ∧
  ((0 : Nat) + ((2 : Int) + (1 : Int) * (((↑n.toNat : Int) - (2 : Int)) / (2 : Int))).toNat < (List.replicate n.toNat zrow).length ∧
  True) ∧
  ((0 : Int) ≤ (1 : Int) ∧
  (1 : Int) < (↑n.toNat : Int)) ∧
  ((1 : Nat) < ((List.replicate n.toNat zrow).set ((0 : Nat) + ((2 : Int) + (1 : Int) * (((↑n.toNat : Int) - (2 : Int)) / (2 : Int))).toNat) rowS).length ∧
  True) ∧
  True ∧
  lp Tryz.prog (44 : Nat) (0 : Nat) = lp Tryz.prog (44 : Nat) (0 : Nat) ∧
  ∃ (secs : List (List V)), ∃ (n_1 : Nat), (8 : Nat) ≤ n_1 ∧
  n_1 ≤ (1024 : Nat) ∧
  secs.length = n_1 ∧
  (∀ (r : List V), r ∈ secs → ∀ (v : V), v ∈ rowV r sh64 (0 : Nat) → ∃ (n : Int), (0 : Int) ≤ n ∧
  n ≤ (255 : Int) ∧
  (v = V.int IntKind.u8 n ∨ v = V.sint IntKind.u8 n)) ∧
  (V.ptr (38 : Nat) (0 : Nat) = V.ptr (38 : Nat) (0 : Nat) ∧
  V.ptr (39 : Nat) (0 : Nat) = V.ptr (39 : Nat) (0 : Nat) ∧
  V.ssl (1 : Nat) (0 : Nat) n.toNat (64 : Nat) = V.ssl (1 : Nat) (0 : Nat) n_1 (64 : Nat) ∧
  (IntKind.i64 = IntKind.i64 ∧
  (↑n.toNat : Int) = (↑n_1 : Int)) ∧
  (IntKind.i64 = IntKind.i64 ∧
  (0 : Int) = (0 : Int)) ∧
  True) ∧
  [some (Chunk.cells [V.nils] (25 : Nat) (1 : Nat)), some (Chunk.cells [V.nils] (25 : Nat) (1 : Nat)), some (Chunk.cells [V.nils] (25 : Nat) (1 : Nat))] = [some (Chunk.cells [V.nils] (25 : Nat) (1 : Nat)), some (Chunk.cells [V.nils] (25 : Nat) (1 : Nat)), some (Chunk.cells [V.nils] (25 : Nat) (1 : Nat))] ∧
  (Chunk.rows (((List.replicate n.toNat zrow).set ((0 : Nat) + ((2 : Int) + (1 : Int) * (((↑n.toNat : Int) - (2 : Int)) / (2 : Int))).toNat) rowS).set (1 : Nat) rowH) sh64 (95 : Nat) = Chunk.rows secs sh64 (95 : Nat) ∧
  True) ∧
  True ∧
  (decide (n < (8 : Int)) = true → K (E.ret (V.bool false))) ∧
  (decide (n < (8 : Int)) = false → True ∧
  (decide ((1024 : Int) < n) = true → K (E.ret (V.bool false))) ∧
  (decide ((1024 : Int) < n) = false → lp Tryz.prog (14 : Nat) (0 : Nat) = lp Tryz.prog (14 : Nat) (0 : Nat) ∧
  ∃ (n_2 : Nat), (8 : Nat) ≤ n_2 ∧
  n_2 ≤ (1024 : Nat) ∧
  ((IntKind.i64 = IntKind.i64 ∧
  n = (↑n_2 : Int)) ∧
  V.ptr (42 : Nat) (0 : Nat) = V.ptr (42 : Nat) (0 : Nat) ∧
  V.ptr (43 : Nat) (0 : Nat) = V.ptr (43 : Nat) (0 : Nat) ∧
  (IntKind.i64 = IntKind.i64 ∧
  (0 : Int) = (0 : Int)) ∧
  True) ∧
  [some (Chunk.cells [V.nils] (25 : Nat) (1 : Nat))] = [some (Chunk.cells [V.nils] (25 : Nat) (1 : Nat))] ∧
  (56 : Nat) ≤ (4000 : Nat) ∧
  ((0 : Int) ≤ (1 : Int) ∧
  (1 : Int) < (↑n_2 : Int)) ∧
  ((1 : Nat) < (List.replicate n_2 [V.str z64]).length ∧
  True) ∧
  True ∧
  ((-9223372036854775808 : Int) ≤ (↑n_2 : Int) - (2 : Int) ∧
  (↑n_2 : Int) - (2 : Int) ≤ (9223372036854775807 : Int)) ∧
  ((0 : Int) ≤ (↑n_2 : Int) - (2 : Int) ∧
  (0 : Int) < (2 : Int) ∧
  (↑n_2 : Int) - (2 : Int) ≤ (9223372036854775807 : Int)) ∧
  ((-9223372036854775808 : Int) ≤ (1 : Int) * (((↑n_2 : Int) - (2 : Int)) / (2 : Int)) ∧
  (1 : Int) * (((↑n_2 : Int) - (2 : Int)) / (2 : Int)) ≤ (9223372036854775807 : Int)) ∧
  ((-9223372036854775808 : Int) ≤ (2 : Int) + (1 : Int) * (((↑n_2 : Int) - (2 : Int)) / (2 : Int)) ∧
  (2 : Int) + (1 : Int) * (((↑n_2 : Int) - (2 : Int)) / (2 : Int)) ≤ (9223372036854775807 : Int)) ∧
  (56 : Nat) ≤ (4000 : Nat) ∧
  ((0 : Int) ≤ (2 : Int) + (1 : Int) * (((↑n_2 : Int) - (2 : Int)) / (2 : Int)) ∧
  (2 : Int) + (1 : Int) * (((↑n_2 : Int) - (2 : Int)) / (2 : Int)) < (↑n_2 : Int)) ∧
  ((0 : Nat) + ((2 : Int) + (1 : Int) * (((↑n_2 : Int) - (2 : Int)) / (2 : Int))).toNat < ((List.replicate n_2 [V.str z64]).set (1 : Nat) [V.str strH]).length ∧
  True) ∧
  True ∧
  True ∧
  True ∧
  ((!decide ((↑n_1 : Int) = (↑n_2 : Int))) = true → K (E.ret (V.bool false))) ∧
  ((!decide ((↑n_1 : Int) = (↑n_2 : Int))) = false → lp Tryz.prog (15 : Nat) (0 : Nat) = lp Tryz.prog (15 : Nat) (0 : Nat) ∧
  ∃ (A : List (List V)), ∃ (B : List (List V)), ∃ (n : Nat), n ≤ (1024 : Nat) ∧
  (Chunk.rows (List.map (fun (j : Nat) => [V.sstr (secB (secs.getD j []))]) (List.range n_1)) [Sh.str] (9 : Nat) = Chunk.rows A [Sh.str] (9 : Nat) ∧
  Chunk.rows (((List.replicate n_2 [V.str z64]).set (1 : Nat) [V.str strH]).set ((0 : Nat) + ((2 : Int) + (1 : Int) * (((↑n_2 : Int) - (2 : Int)) / (2 : Int))).toNat) [V.str strS]) [Sh.str] (9 : Nat) = Chunk.rows B [Sh.str] (9 : Nat) ∧
  True) ∧
  A.length = n ∧
  B.length = n ∧
  (((25 : Nat) = (25 : Nat) ∧
  (1 : Nat) = (1 : Nat) ∧
  V.ssl (40 : Nat) (0 : Nat) n_1 (1 : Nat) = V.ssl (40 : Nat) (0 : Nat) n (1 : Nat) ∧
  True) ∧
  ((25 : Nat) = (25 : Nat) ∧
  (1 : Nat) = (1 : Nat) ∧
  V.ssl (44 : Nat) (0 : Nat) n_2 (1 : Nat) = V.ssl (44 : Nat) (0 : Nat) n (1 : Nat) ∧
  True) ∧
  True) ∧
  (V.ptr (59 : Nat) (0 : Nat) = V.ptr (59 : Nat) (0 : Nat) ∧
  V.ptr (60 : Nat) (0 : Nat) = V.ptr (60 : Nat) (0 : Nat) ∧
  (IntKind.i64 = IntKind.i64 ∧
  (0 : Int) = (0 : Int)) ∧
  True) ∧
  (∀ (i : Nat), i < n → vS ((A.getD i []).getD (0 : Nat) V.und) = vS ((B.getD i []).getD (0 : Nat) V.und)) ∧
  t.length ≤ (4000 : Nat) ∧
  t.length ≤ (4000 : Nat) ∧
  True ∧
  (decide (sumF t = sumF t) = true → K (E.ret (V.bool true))) ∧
  (decide (sumF t = sumF t) = false → K (E.ret (V.bool false)))))))))) := by kernel_rfl
theorem abGo_ok : ∀ (l pre : List UInt8), abGo l (ab (pre ++ l) pre.length).1 (ab (pre ++ l) pre.length).2 = ab (pre ++ l) (pre ++ l).length
  | [], pre => by simp [abGo]
  | c :: l, pre => by
    have h := abGo_ok l (pre ++ [c])
    have hc : (pre ++ c :: l).getD pre.length 0 = c := by simp [List.getD_eq_getElem?_getD]
    have e : pre ++ [c] ++ l = pre ++ c :: l := by simp
    rw [e] at h
    have hl : (pre ++ [c]).length = pre.length + 1 := by simp
    rw [hl] at h
    rw [← h]
    show abGo l _ _ = _
    congr 1
    · show _ = ((ab (pre ++ c :: l) pre.length).1 + ((pre ++ c :: l).getD pre.length 0).toNat) % 65521
      rw [hc]
    · show _ = ((ab (pre ++ c :: l) pre.length).2 + ((ab (pre ++ c :: l) pre.length).1 + ((pre ++ c :: l).getD pre.length 0).toNat) % 65521) % 65521
      rw [hc]
theorem sumT_ok (s : List UInt8) : sumT s = sumF s := by
  have := abGo_ok s []
  simp only [List.nil_append, List.length_nil] at this
  have this : abGo s 1 0 = ab s s.length := this
  unfold sumT sumF
  rw [this]
theorem sum_of2 {G0 G : GQ} {f : Nat} {args : List V} {hp : Mem} {k : KE} {R R' : V} (h : TaskOk Tryz.prog G0 (.call f args nomem fun e _ => retV R e)) (hg : G0.g.t = .nil) (ha : vins 0 args = true) (hR : vin 0 R = true) (hR' : ∀ ρ u, Go.Y.R ρ R u → Go.Y.R ρ R' u) (hk : k (.ret R') hp) : TaskOk Tryz.prog G (.call f args hp k) := by
  have no : ∀ {ρ : Rho}, (cutR ρ 0).le norho := fun id x e => by rw [cutR_ge (Nat.zero_le _)] at e; cases e
  refine call_of ⟨h.1, fun ρ us hus => ⟨fun en => EndRel norho (.ret R) en, (fn_of h hg ((vins_ok ha hus).mono no) fun e hp en ρ' hen hk' => ?_).2, fun en hen => ⟨.ret R', ?_, hk⟩⟩⟩
  · unfold retV at hk'
    split at hk'
    · cases en with
      | returned u => exact Go.Y.R.mono no (vin_ok hR (vle_ok hk' hen))
      | panicked ch => exact hen.elim
      | outgrown => exact hen.elim
    · exact hk'.elim
  · cases en with
    | returned u => exact hR' _ _ (Go.Y.R.mono (fun id x e => by cases e) hen)
    | panicked ch => exact hen.elim
    | outgrown => exact hen.elim
noncomputable def GF : GQ := ⟨⟨.nil, [(12, [], .val (.bool true))], []⟩, [(16, sumS), (17, sumS)], [(21003, lp Tryz.prog 44 0, sT), (37005, lp Tryz.prog 14 0, sF), (31004, lp Tryz.prog 15 0, sD)]⟩
theorem fsF_ok : FsOk Tryz.prog GF := by
  intro f s hl args hp k h
  simp only [GF, lookF] at hl
  split at hl
  · rename_i hb
    obtain rfl := Nat.eq_of_beq_eq_true hb
    cases hl
    unfold sumS at h
    split at h
    · exact sum_of1 (sum_run _ h.1) rfl rfl rfl h.2
    · rename_i s
      exact sum_of2 (args := [.str s]) (sum_run s h.1) rfl rfl rfl (fun ρ u hu => by rw [sumT_ok]; exact hu) h.2
    · exact h.elim
  split at hl
  · rename_i hb
    obtain rfl := Nat.eq_of_beq_eq_true hb
    cases hl
    unfold sumS at h
    split at h
    · exact sum_of1 (rsum_run _ h.1) rfl rfl rfl h.2
    · rename_i s
      exact sum_of2 (args := [.str s]) (rsum_run s h.1) rfl rfl rfl (fun ρ u hu => by rw [sumT_ok]; exact hu) h.2
    · exact h.elim
  cases hl
theorem ls_three {P : Program} {G : GQ} {i1 i2 i3 : Nat} {c1 c2 c3 : Code} {s1 s2 s3 : FI → List DV → Tr V → Mem → KK → Prop} (hl : G.ls = [(i1, c1, s1), (i2, c2, s2), (i3, c3, s3)]) (h1 : ∀ fi ds env hp k, s1 fi ds env hp k → TaskOk P G (.code fi (.loop c1) ds env hp k)) (h2 : ∀ fi ds env hp k, s2 fi ds env hp k → TaskOk P G (.code fi (.loop c2) ds env hp k)) (h3 : ∀ fi ds env hp k, s3 fi ds env hp k → TaskOk P G (.code fi (.loop c3) ds env hp k)) : LsOk P G := by
  intro j c s hj
  rw [hl] at hj
  simp only [lookL] at hj
  split at hj
  · cases hj; exact h1
  · split at hj
    · cases hj; exact h2
    · split at hj
      · cases hj; exact h3
      · cases hj
theorem lsF_ok : LsOk Tryz.prog GF := ls_three rfl (fun fi ds env hp k h => sT_ok (gf := []) (gl := []) fi ds env hp k h) (fun fi ds env hp k h => sF_ok (gf := []) (gl := []) fi ds env hp k h) (fun fi ds env hp k h => sD_ok (gf := []) (gl := []) fi ds env hp k h)
noncomputable def okB : V → Bool
  | .sint .u8 n => decide (0 ≤ n) && decide (n ≤ 255)
  | _ => false
theorem okB_ok {l : List V} (h : l.all okB = true) : ∀ v ∈ l, isB v := by
  intro v hv
  have := List.all_eq_true.1 h v hv
  unfold okB at this
  split at this
  · rename_i n
    simp only [Bool.and_eq_true, decide_eq_true_eq] at this
    exact ⟨n, this.1, this.2, .inr rfl⟩
  · cases this
theorem okZ : (rowV zrow sh64 0).all okB = true := by kernel_rfl
theorem okS : (rowV rowS sh64 0).all okB = true := by kernel_rfl
theorem okH : (rowV rowH sh64 0).all okB = true := by kernel_rfl
theorem secZ : secB zrow = z64 := by kernel_rfl
theorem secS : secB rowS = strS := by kernel_rfl
theorem secH : secB rowH = strH := by kernel_rfl
theorem set_getD {α : Type} (l : List α) (a i : Nat) (x d : α) (hi : i < l.length) : (l.set a x).getD i d = if a = i then x else l.getD i d := by
  rw [List.getD_eq_getElem?_getD, List.getElem?_set, List.getD_eq_getElem?_getD]
  split
  · rename_i h; subst h; simp [hi]
  · rfl
theorem rep_getD {α : Type} (n i : Nat) (x d : α) (hi : i < n) : (List.replicate n x).getD i d = x := by
  rw [List.getD_eq_getElem?_getD, List.getElem?_replicate, if_pos hi]; rfl
theorem disk_eq (m a : Nat) (ha : a ≠ 1) : ∀ i, i < m → vS (((List.map (fun j => [V.sstr (secB ((((List.replicate m zrow).set a rowS).set 1 rowH).getD j []))]) (List.range m)).getD i []).getD 0 V.und) =
    vS (((((List.replicate m [V.str z64]).set 1 [V.str strH]).set a [V.str strS]).getD i []).getD 0 V.und) := by
  intro i hi
  have e1 : (List.map (fun j => [V.sstr (secB ((((List.replicate m zrow).set a rowS).set 1 rowH).getD j []))]) (List.range m)).getD i [] = [V.sstr (secB ((((List.replicate m zrow).set a rowS).set 1 rowH).getD i []))] := by
    rw [List.getD_eq_getElem?_getD, List.getElem?_map, List.getElem?_range hi]; rfl
  rw [e1, set_getD _ _ _ _ _ (by simpa using hi), set_getD _ _ _ _ _ (by simpa using hi), rep_getD _ _ _ _ hi, set_getD _ _ _ _ _ (by simpa using hi), set_getD _ _ _ _ _ (by simpa using hi), rep_getD _ _ _ _ hi]
  by_cases h1 : 1 = i
  · subst h1
    rw [if_pos rfl, if_neg ha, if_pos rfl, secH]; rfl
  · rw [if_neg h1, if_neg h1]
    by_cases h2 : a = i
    · rw [if_pos h2, if_pos h2, secS]; rfl
    · rw [if_neg h2, if_neg h2, secZ]; rfl
theorem formats_run (hK : KnOk Tryz.prog ⟨.nil, [(12, [], .val (.bool true))], []⟩) (n : Int) (t : List UInt8) : TaskOk Tryz.prog GF (.call 3 [.sint .i64 n, .sstr t] nomem fun e _ => e = .ret (.bool true)) := by
  refine go_sound qmix qNG hK fsF_ok lsF_ok 600 _ ?_
  unfold GF
  rw [f3_eq]
  refine ⟨trivial, trivial, fun _ => rfl, fun h0 => ⟨trivial, fun h1 => ⟨trivial, fun h2 => ?_, fun h2 => absurd (h1.symm.trans h2) (by decide)⟩, fun h1 => ⟨trivial, fun h3 => ⟨trivial, fun h4 => absurd (h4.symm.trans h1) (by decide), fun h4 => ⟨trivial, fun h5 => ?_, fun h5 => absurd (h3.symm.trans h5) (by decide)⟩⟩, fun h3 => ?_⟩⟩⟩
  · replace h0 := of_decide_eq_false h0
    exact ⟨rfl, ⟨⟨rfl, rfl, rfl, trivial⟩, ⟨rfl, rfl, rfl, trivial⟩, trivial⟩, ⟨rfl, rfl, ⟨rfl, rfl⟩, trivial⟩, by omega, by omega, trivial, fun _ => rfl, fun h => absurd rfl (of_decide_eq_false h)⟩
  · replace h0 := of_decide_eq_false h0
    exact ⟨rfl, ⟨⟨rfl, rfl, rfl, trivial⟩, ⟨rfl, rfl, rfl, trivial⟩, trivial⟩, ⟨rfl, rfl, ⟨rfl, rfl⟩, trivial⟩, by omega, by omega, trivial, fun _ => rfl, fun h => absurd rfl (of_decide_eq_false h)⟩
  · have g0 := of_decide_eq_false h0
    have g1 := of_decide_eq_false h1
    have g3 := of_decide_eq_false h3
    have hm : n = (n.toNat : Int) := by omega
    repeat' first | exact trivial | apply And.intro
    all_goals first | omega | rfl | (simp only [List.length_set, List.length_replicate]; omega) | skip
    refine ⟨((List.replicate n.toNat zrow).set (0 + (2 + 1 * (((n.toNat : Int) - 2) / 2)).toNat) rowS).set 1 rowH, n.toNat, by omega, by omega, by simp, fun r hr => ?_, ⟨rfl, rfl, rfl, ⟨rfl, rfl⟩, ⟨rfl, rfl⟩, trivial⟩, rfl, ⟨rfl, trivial⟩, trivial, fun h => absurd (h.symm.trans h1) (by decide), fun _ => ⟨trivial, fun h => absurd (h.symm.trans h3) (by decide), fun _ => ⟨rfl, n.toNat, by omega, by omega, ⟨⟨rfl, hm⟩, rfl, rfl, ⟨rfl, rfl⟩, trivial⟩, rfl, ?_⟩⟩⟩
    · rcases List.mem_or_eq_of_mem_set hr with hr | rfl
      · rcases List.mem_or_eq_of_mem_set hr with hr | rfl
        · rw [List.eq_of_mem_replicate hr]; exact okB_ok okZ
        · exact okB_ok okS
      · exact okB_ok okH
    · repeat' first | exact trivial | apply And.intro
      all_goals first | omega | rfl | (simp only [List.length_set, List.length_replicate]; omega) | skip
      · intro h; simp at h
      · intro _
        exact ⟨rfl, _, _, n.toNat, by omega, ⟨rfl, rfl, trivial⟩, by simp, by simp, ⟨⟨rfl, rfl, rfl, trivial⟩, ⟨rfl, rfl, rfl, trivial⟩, trivial⟩, ⟨rfl, rfl, ⟨rfl, rfl⟩, trivial⟩, disk_eq n.toNat _ (by omega), by omega, by omega, trivial, fun _ => rfl, fun h => absurd rfl (of_decide_eq_false h)⟩
end
end Go.Proofs.YtlboeehapelabaaGreatDoor
