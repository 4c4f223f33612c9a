/- The reference of chapter 6: words known, signs, numbers, tokens, as summaries. -/
import Derived.Test.YtekioipmhhcbhaaGreatDoorV4
set_option linter.unusedVariables false
set_option linter.unusedSectionVars false
set_option linter.unusedSimpArgs false
namespace Go.Proofs.YtekioipmhhcbhaaGreatDoor
open Go Go.Z Go.Q Go.W6
open Go.Y hiding KE KK KR go Task go_sound
noncomputable section
variable [Ext]
def tokA (k : Int) (t : List UInt8) (m e : Int) : List V := [.sint .i64 k, .sstr t, .sint .i64 m, .sint .i64 e, .sint .i64 0, .sint .i64 0]
def sKeyR (args : List V) (hp : Mem) (k : KE) : Prop := match args with
 | [v] => match strOf v with
  | some w => k (.ret (.sbool (decide (w ∈ keysL)))) hp
  | none => False
 | _ => False
def dotF (s : List UInt8) (i : Nat) : Bool := isAt (λ b => b.toNat == 46) s (digF s i) && isAt digB s (digF s i + 1)
def numT (s : List UInt8) (i : Nat) : Nat × List UInt8 × Nat := if dotF s i = false then (3, trimF (cutF s i (digF s i)), digF s i) else (4, trimF (cutF s i (digF s i)) ++ [46] ++ tailF (cutF s (digF s i + 1) (digF s (digF s i + 1))), digF s (digF s i + 1))
def numE (s : List UInt8) (i : Nat) : Int := match numF s i with | none => 122 | some _ => 0
theorem numT_ok {s : List UInt8} {i k e : Nat} {t : List UInt8} (h : numF s i = some (k, t, e)) : numT s i = (k, t, e) := by
 unfold numF at h
 unfold numT dotF
 dsimp only at h
 split at h
 ·rename_i h1
  rw [if_pos h1]
  split at h
  ·cases h
  ·cases h; rfl
 ·rename_i h1
  rw [if_neg h1]
  split at h
  ·cases h
  ·cases h; rfl
def sNumR (args : List V) (hp : Mem) (k : KE) : Prop := match args with
 | [v0, v1] => match strOf v0, int64 v1 with
  | some s, some i => (0 <= i /\ i < (s.length : Int) /\ (s.length : Int) <= 20000 /\ digB (s.getD i.toNat 0) = true) /\ k (.ret (.tup [.agg (tokA ((numT s i.toNat).1 : Nat) (numT s i.toNat).2.1 i ((numT s i.toNat).2.2 : Nat)), .sint .i64 (numE s i.toNat)])) hp
  | _, _ => False
 | _ => False
end
end Go.Proofs.YtekioipmhhcbhaaGreatDoor
set_option maxRecDepth 20000
namespace Go.Proofs.YtekioipmhhcbhaaGreatDoor
open Go Go.Z Go.Q Go.W6
open Go.Y hiding KE KK KR go Task go_sound
noncomputable section
variable [Ext]
def keysR : List (List UInt8) := [[97, 98, 115], [97, 110, 100], [97, 114, 98], [97, 115, 115, 101, 114, 116], [99, 97, 115, 101], [99, 104, 97, 114], [99, 111, 110, 115, 116], [99, 111, 110, 116, 105, 110, 117, 101], [100, 101, 99], [100, 105, 118], [100, 111], [100, 111, 109, 97, 105, 110], [101, 108, 115, 101], [101, 108, 115, 101, 105, 102], [101, 110, 100], [101, 110, 100, 109], [101, 120, 105, 115, 116, 115], [101, 120, 112, 111, 114, 116, 115], [102, 97, 105, 108], [102, 97, 108, 115, 101], [102, 105, 120], [102, 111, 114], [102, 111, 114, 97, 108, 108], [102, 114, 111, 109], [102, 114, 111, 109, 98], [102, 114, 111, 109, 101], [105, 102], [105, 109, 112, 108], [105, 110], [105, 110, 99, 108, 117, 100, 101], [105, 110, 99, 115], [105, 110, 118, 101, 114, 115, 101], [105, 115, 111, 109], [108, 101, 115, 115], [108, 101, 115, 115, 102], [108, 111, 111, 112], [109, 97, 99, 114, 111], [109, 97, 120], [109, 105, 110], [109, 111, 100], [109, 111, 100, 117, 108, 101], [110, 101, 119, 97, 116], [110, 111, 116], [110, 111, 116, 101, 120, 105, 115, 116, 115], [110, 111, 116, 105, 110], [110, 112, 111, 119], [111, 102], [111, 107], [111, 109], [111, 114], [111, 116, 104, 101, 114, 119, 105, 115, 101], [112, 111, 119], [112, 114, 105, 110, 116], [112, 114, 111, 99], [112, 114, 111, 103, 114, 97, 109], [113, 117, 105, 116], [114, 97, 110, 103, 101], [114, 100], [114, 101, 97, 100], [114, 101, 116, 117, 114, 110], [114, 119], [115, 116, 111, 112], [115, 116, 114], [115, 117, 98, 115, 101, 116], [115, 117, 99, 99, 101, 101, 100], [116, 104, 101, 110], [116, 111, 115, 101, 116], [116, 111, 116, 117, 112, 108, 101], [116, 114, 117, 101], [116, 121, 112, 101], [117, 110, 116, 105, 108], [117, 115, 101, 115], [118, 97, 114], [119, 104, 101, 110], [119, 104, 105, 108, 101], [119, 105, 116, 104], [119, 114]]
def signsR : List (List UInt8) := [[35], [40], [41], [42], [42, 42], [43], [44], [45], [45, 62], [46], [46, 46], [47], [47, 61], [58], [58, 61], [59], [60], [60, 61], [61], [62], [62, 61], [63], [64], [91], [93], [123], [124], [125]]
theorem mem_keysR (w : List UInt8) : w ∈ keysR ↔ w ∈ keysL :=
 ⟨λ h => (by decide : ∀ x ∈ keysR, x ∈ keysL) w h, λ h => (by decide : ∀ x ∈ keysL, x ∈ keysR) w h⟩
theorem mem_signsR (w : List UInt8) : w ∈ signsR ↔ w ∈ signsL :=
 ⟨λ h => (by decide : ∀ x ∈ signsR, x ∈ signsL) w h, λ h => (by decide : ∀ x ∈ signsL, x ∈ signsR) w h⟩
def AllS (P : Program) (G : GQ) : List (Nat × (List V -> Mem -> KE -> Prop)) -> Prop
 | [] => True
 | p :: l => (∀ args hp k, p.2 args hp k -> TaskOk P G (.call p.1 args hp k)) /\ AllS P G l
theorem fs_all {P : Program} {G : GQ} (h : AllS P G G.fs) : FsOk P G := by
 intro f s hf
 generalize hl : G.fs = l at hf h
 clear hl
 induction l with
 | nil => cases hf
 | cons p l ih =>
  simp only [lookF] at hf
  split at hf
  ·rename_i hb; cases hf; rw [<- beq_tt hb]; exact h.1
  ·exact ih hf h.2
theorem r_iskey (w : List UInt8) (N : E -> Nat -> List (Option Chunk) -> Prop) : Go.Q.go Tryz.prog ⟨⟨.nil, [], []⟩, [(50, sIsIn)], []⟩ 100 (.call 23 [.sstr w] nomem (cutE [] N)) =
 (((77 : Nat) = (77 : Nat) /\ (77 : Nat) <= (1000 : Nat)) /\ (decide (w ∈ keysR) = true -> N (E.ret (.bool true)) 1 []) /\ (decide (w ∈ keysR) = false -> N (E.ret (.bool false)) 1 [])) := by kernel_rfl
theorem r_num (s : List UInt8) (i : Int) (N : E -> Nat -> List (Option Chunk) -> Prop) : Go.Q.go Tryz.prog ⟨⟨.nil, [], []⟩, [(78, sEnd digB), (61, sByte digB), (79, sWhole), (80, sPlaces)], []⟩ 200 (.call 62 [.sstr s, .sint .i64 i] nomem (cutE [] N)) =
 ((0 <= i /\ i <= (s.length : Int) /\ (s.length : Int) <= 20000) /\ (-9223372036854775808 <= (↑(endF digB s i.toNat) : Int) + 1 /\ (↑(endF digB s i.toNat) : Int) + 1 <= 9223372036854775807) /\ True /\ True /\ (decide ((s.length : Int) <= (↑(endF digB s i.toNat) : Int) + 1) = true -> (0 <= i /\ i <= (↑(endF digB s i.toNat) : Int) /\ (↑(endF digB s i.toNat) : Int) <= (s.length : Int)) /\ (0 < (List.drop i.toNat (List.take (↑(endF digB s i.toNat) : Int).toNat s)).length /\ (List.drop i.toNat (List.take (↑(endF digB s i.toNat) : Int).toNat s)).length <= 20000) /\ (-9223372036854775808 <= (↑(endF digB s i.toNat) : Int) - i /\ (↑(endF digB s i.toNat) : Int) - i <= 9223372036854775807) /\ True /\ (decide (380 < (↑(endF digB s i.toNat) : Int) - i) = true -> N (E.ret (.tup [.agg [.int .i64 3, .sstr (trimF (List.drop i.toNat (List.take (↑(endF digB s i.toNat) : Int).toNat s))), .sint .i64 i, .sint .i64 (↑(endF digB s i.toNat) : Int), .int .i64 0, .int .i64 0], .int .i64 122])) 2 []) /\ (decide (380 < (↑(endF digB s i.toNat) : Int) - i) = false -> N (E.ret (.tup [.agg [.int .i64 3, .sstr (trimF (List.drop i.toNat (List.take (↑(endF digB s i.toNat) : Int).toNat s))), .sint .i64 i, .sint .i64 (↑(endF digB s i.toNat) : Int), .int .i64 0, .int .i64 0], .int .i64 0])) 2 [])) /\ (decide ((s.length : Int) <= (↑(endF digB s i.toNat) : Int) + 1) = false -> (0 <= (↑(endF digB s i.toNat) : Int) /\ (↑(endF digB s i.toNat) : Int) < (s.length : Int)) /\ True /\ ((!decide ((↑(s.getD (↑(endF digB s i.toNat) : Int).toNat 0).toNat : Int) = 46)) = true -> (0 <= i /\ i <= (↑(endF digB s i.toNat) : Int) /\ (↑(endF digB s i.toNat) : Int) <= (s.length : Int)) /\ (0 < (List.drop i.toNat (List.take (↑(endF digB s i.toNat) : Int).toNat s)).length /\ (List.drop i.toNat (List.take (↑(endF digB s i.toNat) : Int).toNat s)).length <= 20000) /\ (-9223372036854775808 <= (↑(endF digB s i.toNat) : Int) - i /\ (↑(endF digB s i.toNat) : Int) - i <= 9223372036854775807) /\ True /\ (decide (380 < (↑(endF digB s i.toNat) : Int) - i) = true -> N (E.ret (.tup [.agg [.int .i64 3, .sstr (trimF (List.drop i.toNat (List.take (↑(endF digB s i.toNat) : Int).toNat s))), .sint .i64 i, .sint .i64 (↑(endF digB s i.toNat) : Int), .int .i64 0, .int .i64 0], .int .i64 122])) 2 []) /\ (decide (380 < (↑(endF digB s i.toNat) : Int) - i) = false -> N (E.ret (.tup [.agg [.int .i64 3, .sstr (trimF (List.drop i.toNat (List.take (↑(endF digB s i.toNat) : Int).toNat s))), .sint .i64 i, .sint .i64 (↑(endF digB s i.toNat) : Int), .int .i64 0, .int .i64 0], .int .i64 0])) 2 [])) /\ ((!decide ((↑(s.getD (↑(endF digB s i.toNat) : Int).toNat 0).toNat : Int) = 46)) = false -> (-9223372036854775808 <= (↑(endF digB s i.toNat) : Int) + 1 /\ (↑(endF digB s i.toNat) : Int) + 1 <= 9223372036854775807) /\ (0 <= (↑(endF digB s i.toNat) : Int) + 1 /\ (↑(endF digB s i.toNat) : Int) + 1 < (s.length : Int)) /\ (0 <= (↑(s.getD ((↑(endF digB s i.toNat) : Int) + 1).toNat 0).toNat : Int) /\ (↑(s.getD ((↑(endF digB s i.toNat) : Int) + 1).toNat 0).toNat : Int) < 256) /\ True /\ ((!digB (UInt8.ofNat (↑(s.getD ((↑(endF digB s i.toNat) : Int) + 1).toNat 0).toNat : Int).toNat)) = true -> (0 <= i /\ i <= (↑(endF digB s i.toNat) : Int) /\ (↑(endF digB s i.toNat) : Int) <= (s.length : Int)) /\ (0 < (List.drop i.toNat (List.take (↑(endF digB s i.toNat) : Int).toNat s)).length /\ (List.drop i.toNat (List.take (↑(endF digB s i.toNat) : Int).toNat s)).length <= 20000) /\ (-9223372036854775808 <= (↑(endF digB s i.toNat) : Int) - i /\ (↑(endF digB s i.toNat) : Int) - i <= 9223372036854775807) /\ True /\ (decide (380 < (↑(endF digB s i.toNat) : Int) - i) = true -> N (E.ret (.tup [.agg [.int .i64 3, .sstr (trimF (List.drop i.toNat (List.take (↑(endF digB s i.toNat) : Int).toNat s))), .sint .i64 i, .sint .i64 (↑(endF digB s i.toNat) : Int), .int .i64 0, .int .i64 0], .int .i64 122])) 2 []) /\ (decide (380 < (↑(endF digB s i.toNat) : Int) - i) = false -> N (E.ret (.tup [.agg [.int .i64 3, .sstr (trimF (List.drop i.toNat (List.take (↑(endF digB s i.toNat) : Int).toNat s))), .sint .i64 i, .sint .i64 (↑(endF digB s i.toNat) : Int), .int .i64 0, .int .i64 0], .int .i64 0])) 2 [])) /\ ((!digB (UInt8.ofNat (↑(s.getD ((↑(endF digB s i.toNat) : Int) + 1).toNat 0).toNat : Int).toNat)) = false -> (-9223372036854775808 <= (↑(endF digB s i.toNat) : Int) + 1 /\ (↑(endF digB s i.toNat) : Int) + 1 <= 9223372036854775807) /\ (0 <= (↑(endF digB s i.toNat) : Int) + 1 /\ (↑(endF digB s i.toNat) : Int) + 1 <= (s.length : Int) /\ (s.length : Int) <= 20000) /\ (-9223372036854775808 <= (↑(endF digB s i.toNat) : Int) + 1 /\ (↑(endF digB s i.toNat) : Int) + 1 <= 9223372036854775807) /\ (0 <= (↑(endF digB s i.toNat) : Int) + 1 /\ (↑(endF digB s i.toNat) : Int) + 1 <= (↑(endF digB s ((↑(endF digB s i.toNat) : Int) + 1).toNat) : Int) /\ (↑(endF digB s ((↑(endF digB s i.toNat) : Int) + 1).toNat) : Int) <= (s.length : Int)) /\ (0 < (List.drop ((↑(endF digB s i.toNat) : Int) + 1).toNat (List.take (↑(endF digB s ((↑(endF digB s i.toNat) : Int) + 1).toNat) : Int).toNat s)).length /\ (List.drop ((↑(endF digB s i.toNat) : Int) + 1).toNat (List.take (↑(endF digB s ((↑(endF digB s i.toNat) : Int) + 1).toNat) : Int).toNat s)).length <= 20000) /\ (0 <= i /\ i <= (↑(endF digB s i.toNat) : Int) /\ (↑(endF digB s i.toNat) : Int) <= (s.length : Int)) /\ (0 < (List.drop i.toNat (List.take (↑(endF digB s i.toNat) : Int).toNat s)).length /\ (List.drop i.toNat (List.take (↑(endF digB s i.toNat) : Int).toNat s)).length <= 20000) /\ (trimF (List.drop i.toNat (List.take (↑(endF digB s i.toNat) : Int).toNat s))).length + 1 <= 9223372036854775807 /\ (trimF (List.drop i.toNat (List.take (↑(endF digB s i.toNat) : Int).toNat s)) ++ [46]).length + (tailF (List.drop ((↑(endF digB s i.toNat) : Int) + 1).toNat (List.take (↑(endF digB s ((↑(endF digB s i.toNat) : Int) + 1).toNat) : Int).toNat s))).length <= 9223372036854775807 /\ (-9223372036854775808 <= (↑(endF digB s ((↑(endF digB s i.toNat) : Int) + 1).toNat) : Int) - i /\ (↑(endF digB s ((↑(endF digB s i.toNat) : Int) + 1).toNat) : Int) - i <= 9223372036854775807) /\ (-9223372036854775808 <= (↑(endF digB s ((↑(endF digB s i.toNat) : Int) + 1).toNat) : Int) - i - 1 /\ (↑(endF digB s ((↑(endF digB s i.toNat) : Int) + 1).toNat) : Int) - i - 1 <= 9223372036854775807) /\ True /\ (decide (380 < (↑(endF digB s ((↑(endF digB s i.toNat) : Int) + 1).toNat) : Int) - i - 1) = true -> N (E.ret (.tup [.agg [.int .i64 4, .sstr (trimF (List.drop i.toNat (List.take (↑(endF digB s i.toNat) : Int).toNat s)) ++ [46] ++ tailF (List.drop ((↑(endF digB s i.toNat) : Int) + 1).toNat (List.take (↑(endF digB s ((↑(endF digB s i.toNat) : Int) + 1).toNat) : Int).toNat s))), .sint .i64 i, .sint .i64 (↑(endF digB s ((↑(endF digB s i.toNat) : Int) + 1).toNat) : Int), .int .i64 0, .int .i64 0], .int .i64 122])) 2 []) /\ (decide (380 < (↑(endF digB s ((↑(endF digB s i.toNat) : Int) + 1).toNat) : Int) - i - 1) = false -> True /\ True /\ (decide (20 < (↑(tailF (List.drop ((↑(endF digB s i.toNat) : Int) + 1).toNat (List.take (↑(endF digB s ((↑(endF digB s i.toNat) : Int) + 1).toNat) : Int).toNat s))).length : Int)) = true -> N (E.ret (.tup [.agg [.int .i64 4, .sstr (trimF (List.drop i.toNat (List.take (↑(endF digB s i.toNat) : Int).toNat s)) ++ [46] ++ tailF (List.drop ((↑(endF digB s i.toNat) : Int) + 1).toNat (List.take (↑(endF digB s ((↑(endF digB s i.toNat) : Int) + 1).toNat) : Int).toNat s))), .sint .i64 i, .sint .i64 (↑(endF digB s ((↑(endF digB s i.toNat) : Int) + 1).toNat) : Int), .int .i64 0, .int .i64 0], .int .i64 122])) 2 []) /\ (decide (20 < (↑(tailF (List.drop ((↑(endF digB s i.toNat) : Int) + 1).toNat (List.take (↑(endF digB s ((↑(endF digB s i.toNat) : Int) + 1).toNat) : Int).toNat s))).length : Int)) = false -> N (E.ret (.tup [.agg [.int .i64 4, .sstr (trimF (List.drop i.toNat (List.take (↑(endF digB s i.toNat) : Int).toNat s)) ++ [46] ++ tailF (List.drop ((↑(endF digB s i.toNat) : Int) + 1).toNat (List.take (↑(endF digB s ((↑(endF digB s i.toNat) : Int) + 1).toNat) : Int).toNat s))), .sint .i64 i, .sint .i64 (↑(endF digB s ((↑(endF digB s i.toNat) : Int) + 1).toNat) : Int), .int .i64 0, .int .i64 0], .int .i64 0])) 2 [])))))) := by kernel_rfl
theorem iskey_ok {G : GQ} : ∀ args hp k, sKeyR args hp k -> TaskOk Tryz.prog G (.call 23 args hp k) := by
 intro args hp k h
 unfold sKeyR at h
 split at h
 ·split at h
  ·rename_i v w e0
   have t : TaskOk Tryz.prog ⟨⟨.nil, [], []⟩, [(50, sIsIn)], []⟩ (.call 23 [.sstr w] nomem (cutE [] λ e _ _ => retD (.sbool (decide (w ∈ keysL))) e)) := by
    refine go_sound qmix qNG zqb (fs_one rfl isIn_ok) (zql rfl) 100 _ (Eq.mpr (r_iskey w _) ?_)
    simp only [decide_eq_true_eq, decide_eq_false_iff_not, mem_keysR]
    exact ⟨⟨trivial, by decide⟩, λ hm => show (true = decide (w ∈ keysL)) by simpa using hm, λ hm => show (false = decide (w ∈ keysL)) by simpa using hm⟩
   exact sum_d (zqv t zqG) rfl ⟨zqi e0, trivial⟩ rfl rfl h
  ·exact h.elim
 ·exact h.elim
theorem rnum_run (s : List UInt8) (i : Nat) (hi : i < s.length) (hs : s.length <= 20000) (hd0 : digB (s.getD i 0) = true) : TaskOk Tryz.prog ⟨⟨.nil, [], []⟩, [(78, sEnd digB), (61, sByte digB), (79, sWhole), (80, sPlaces)], []⟩ (.call 62 [.sstr s, .sint .i64 i] nomem (cutE [] λ e _ _ => retD (.tup [.agg (tokA ((numT s i).1 : Nat) (numT s i).2.1 i ((numT s i).2.2 : Nat)), .sint .i64 (numE s i)]) e)) := by
 refine go_sound qmix qNG zqb (fs_all (by exact ⟨rdigits_ok, zjV, rwhole_ok, rplaces_ok, trivial⟩)) (zql rfl) 200 _ (Eq.mpr (r_num s i _) ?_)
 simp only [decide_eq_true_eq, decide_eq_false_iff_not, Bool.not_eq_true', Bool.not_eq_false']
 simp only [Int.toNat_natCast, zqP, cut_fold, u8_of]
 have hb9 := UInt8.toNat_lt (s.getD (endF digB s i + 1) 0)
 have hJ : i <= digF s i /\ digF s i <= s.length := zxI (p := digB) (Nat.le_of_lt hi)
 have hJ2 : i < digF s i := by
  obtain ⟨g1, g2⟩ := zqI (p := digB) (s := s) (i := i) (by rw [zqA hi]; exact hd0)
  have := zxI (p := digB) (s := s) (i := i + 1) g1
  have e : digF s i = endF digB s (i + 1) := g2
  omega
 have hl1 := zvh (s := s) (i := i) hJ.2
 have n3 : dotF s i = false -> numT s i = (3, trimF (cutF s i (digF s i)), digF s i) := λ h => by unfold numT; rw [if_pos h]
 have f3 : dotF s i = false -> numF s i = if 380 < digF s i - i then none else some (3, trimF (cutF s i (digF s i)), digF s i) := by
  intro h; unfold dotF at h; unfold numF; simp only [h, if_true]
 have r3 : dotF s i = false -> ∀ E : Int, (E = if 380 < digF s i - i then 122 else 0) -> retD (.tup [.agg (tokA ((numT s i).1 : Nat) (numT s i).2.1 i ((numT s i).2.2 : Nat)), .sint .i64 (numE s i)]) (.ret (.tup [.agg [.int .i64 3, .sstr (trimF (cutF s i (digF s i))), .sint .i64 i, .sint .i64 (digF s i : Nat), .int .i64 0, .int .i64 0], .int .i64 E])) := by
  intro h E hE
  have : numE s i = E := by
   unfold numE; rw [f3 h, hE]
   by_cases hc : 380 < digF s i - i
   ·rw [if_pos hc, if_pos hc]
   ·rw [if_neg hc, if_neg hc]
  rw [n3 h, this]
  exact ⟨⟨⟨rfl, rfl⟩, rfl, ⟨rfl, rfl⟩, ⟨rfl, rfl⟩, ⟨rfl, rfl⟩, ⟨rfl, rfl⟩, trivial⟩, ⟨rfl, rfl⟩, trivial⟩
 have no46 : ¬ ((s.getD (digF s i) 0).toNat : Int) = 46 -> digF s i < s.length -> dotF s i = false := by
  intro h hlt; unfold dotF; rw [zqA hlt, Bool.and_eq_false_iff]; left; simp only [beq_eq_false_iff_ne]; intro h2; exact h (by exact_mod_cast h2)
 have far : s.length <= digF s i + 1 -> dotF s i = false := by
  intro h; unfold dotF; rw [zjy (i := digF s i + 1) h, Bool.and_false]
 have low : ¬ (380 : Int) < (digF s i : Int) - i -> (0 : Int) = if 380 < digF s i - i then 122 else 0 := λ h => by rw [if_neg (by omega)]
 have high : (380 : Int) < (digF s i : Int) - i -> (122 : Int) = if 380 < digF s i - i then 122 else 0 := λ h => by rw [if_pos (by omega)]
 have three : dotF s i = false -> ((0 : Int) <= i /\ (i : Int) <= (digF s i : Nat) /\ ((digF s i : Nat) : Int) <= s.length) /\ (0 < (cutF s i (digF s i)).length /\ (cutF s i (digF s i)).length <= 20000) /\ ((-9223372036854775808 : Int) <= ((digF s i : Nat) : Int) - i /\ ((digF s i : Nat) : Int) - i <= 9223372036854775807) /\ True /\
   ((380 : Int) < ((digF s i : Nat) : Int) - i -> retD (.tup [.agg (tokA ((numT s i).1 : Nat) (numT s i).2.1 i ((numT s i).2.2 : Nat)), .sint .i64 (numE s i)]) (.ret (.tup [.agg [.int .i64 3, .sstr (trimF (cutF s i (digF s i))), .sint .i64 i, .sint .i64 (digF s i : Nat), .int .i64 0, .int .i64 0], .int .i64 122]))) /\
   (¬ (380 : Int) < ((digF s i : Nat) : Int) - i -> retD (.tup [.agg (tokA ((numT s i).1 : Nat) (numT s i).2.1 i ((numT s i).2.2 : Nat)), .sint .i64 (numE s i)]) (.ret (.tup [.agg [.int .i64 3, .sstr (trimF (cutF s i (digF s i))), .sint .i64 i, .sint .i64 (digF s i : Nat), .int .i64 0, .int .i64 0], .int .i64 0]))) :=
  λ hd => ⟨⟨by omega, by omega, by omega⟩, ⟨by omega, by omega⟩, ⟨by omega, by omega⟩, trivial, λ h => r3 hd 122 (high h), λ h => r3 hd 0 (low h)⟩
 refine ⟨⟨by omega, by omega, by omega⟩, ⟨?_, ?_⟩, trivial, trivial, λ h => three (far ?_), λ h => ⟨⟨?_, ?_⟩, trivial, λ h46 => three (no46 h46 ?_), λ h46 => ⟨⟨?_, ?_⟩, ⟨?_, ?_⟩, ⟨by omega, by omega⟩, trivial, λ hd => three ?_, λ hd => ?_⟩⟩⟩
 all_goals first
  | (show (_ : Int) <= _; have e : endF digB s i = digF s i := rfl; omega)
  | (show (_ : Nat) <= _; have e : endF digB s i = digF s i := rfl; omega)
  | skip
 ·unfold dotF; rw [zqA (i := digF s i + 1) (by have e : endF digB s i = digF s i := rfl; omega), Bool.and_eq_false_iff]; right; exact hd
 ·have e : endF digB s i = digF s i := rfl
  rw [e] at h h46 hd ⊢
  have hlt1 : digF s i + 1 < s.length := by omega
  have g := zqI (p := digB) (s := s) (i := digF s i + 1) (by rw [zqA hlt1]; exact hd)
  have g2 := zxI (p := digB) (s := s) (i := digF s i + 2) (by omega)
  have e2 : digF s (digF s i + 1) = endF digB s (digF s i + 2) := g.2
  have e3 : endF digB s (digF s i + 1) = digF s (digF s i + 1) := rfl
  rw [e3]
  have hl2 := zvh (s := s) (i := digF s i + 1) (j := digF s (digF s i + 1)) (by omega)
  have t1 := trim_len (cutF s i (digF s i))
  have t2 := tail_len (cutF s (digF s i + 1) (digF s (digF s i + 1)))
  have dot : dotF s i = true := by
   unfold dotF
   rw [zqA (i := digF s i) (by omega), zqA hlt1, hd, Bool.and_true]
   simp only [beq_iff_eq]; exact_mod_cast h46
  have n4 : numT s i = (4, trimF (cutF s i (digF s i)) ++ [46] ++ tailF (cutF s (digF s i + 1) (digF s (digF s i + 1))), digF s (digF s i + 1)) := by
   unfold numT; rw [if_neg (by rw [dot]; simp)]
  have f4 : numF s i = if 380 < (digF s i - i) + (digF s (digF s i + 1) - (digF s i + 1)) \/ 20 < (tailF (cutF s (digF s i + 1) (digF s (digF s i + 1)))).length then none else some (4, trimF (cutF s i (digF s i)) ++ [46] ++ tailF (cutF s (digF s i + 1) (digF s (digF s i + 1))), digF s (digF s i + 1)) := by
   unfold dotF at dot; unfold numF; simp only [dot, Bool.true_eq_false, if_false]
  have r4 : ∀ E : Int, numE s i = E -> retD (.tup [.agg (tokA ((numT s i).1 : Nat) (numT s i).2.1 i ((numT s i).2.2 : Nat)), .sint .i64 (numE s i)]) (.ret (.tup [.agg [.int .i64 4, .sstr (trimF (cutF s i (digF s i)) ++ [46] ++ tailF (cutF s (digF s i + 1) (digF s (digF s i + 1)))), .sint .i64 i, .sint .i64 (digF s (digF s i + 1) : Nat), .int .i64 0, .int .i64 0], .int .i64 E])) := by
   intro E hE
   rw [n4, hE]
   exact ⟨⟨⟨rfl, rfl⟩, rfl, ⟨rfl, rfl⟩, ⟨rfl, rfl⟩, ⟨rfl, rfl⟩, ⟨rfl, rfl⟩, trivial⟩, ⟨rfl, rfl⟩, trivial⟩
  refine ⟨⟨by omega, by omega⟩, ⟨by omega, by omega, by omega⟩, ⟨by omega, by omega⟩, ⟨by omega, by omega, by omega⟩, ⟨by omega, by omega⟩, ⟨by omega, by omega, by omega⟩, ⟨by omega, by omega⟩, by omega, ?_, ⟨by omega, by omega⟩, ⟨by omega, by omega⟩, trivial, λ hh => r4 122 ?_, λ hh => ⟨trivial, trivial, λ h5 => r4 122 ?_, λ h5 => r4 0 ?_⟩⟩
  ·rw [List.length_append]; simp; omega
  ·unfold numE; rw [f4, if_pos (by omega)]
  ·unfold numE; rw [f4, if_pos (by omega)]
  ·unfold numE; rw [f4, if_neg (by omega)]
theorem rnum_ok {G : GQ} : ∀ args hp k, sNumR args hp k -> TaskOk Tryz.prog G (.call 62 args hp k) := by
 intro args hp k h
 unfold sNumR at h
 split at h
 ·split at h
  ·rename_i v0 v1 s i e0 e1
   obtain ⟨⟨h0, h1, h2, h3⟩, hk⟩ := h
   have ei : ((i.toNat : Nat) : Int) = i := by omega
   have t := rnum_run s i.toNat (by omega) (by omega) h3
   rw [ei] at t
   exact sum_d (zqv t zqG) rfl ⟨zqi e0, zqo e1, trivial⟩ rfl rfl hk
  ·exact h.elim
 ·exact h.elim
end
end Go.Proofs.YtekioipmhhcbhaaGreatDoor
