/- The reference of chapter 6: words known, signs, numbers, tokens, as summaries. -/
import Derived.Test.YtekioipmhhcbhaaGreatDoorV4
set_option linter.unusedVariables false
set_option linter.unusedSimpArgs false
namespace Go.Proofs.YtekioipmhhcbhaaGreatDoor
open Go Go.Z Go.Q Go.W6
open Go.Y hiding KE KK KR go Task go_sound
noncomputable section
def tokA (k : Int) (t : List UInt8) (m e : Int) : List V := [.sint .i64 k, .sstr t, .sint .i64 m, .sint .i64 e, .sint .i64 0, .sint .i64 0]
def sKeyR (args : List V) (hp : Mem) (k : KE) : Prop := match args with
  | [v] => match strOf v with
    | some w => k (.ret (.sbool (decide (w ∈ keysL)))) hp
    | none => False
  | _ => False
def signR (s : List UInt8) (i : Nat) : List UInt8 := if i + 2 ≤ s.length ∧ cutF s i (i + 2) ∈ signsL then cutF s i (i + 2) else if cutF s i (i + 1) ∈ signsL then cutF s i (i + 1) else []
def sSignR (args : List V) (hp : Mem) (k : KE) : Prop := match args with
  | [v0, v1] => match strOf v0, int64 v1 with
    | some s, some i => (0 ≤ i ∧ i < (s.length : Int) ∧ (s.length : Int) ≤ 20000) ∧ k (.ret (.sstr (signR s i.toNat))) hp
    | _, _ => False
  | _ => False
def dotF (s : List UInt8) (i : Nat) : Bool := isAt (fun b => b.toNat == 46) s (digF s i) && isAt digB s (digF s i + 1)
def numT (s : List UInt8) (i : Nat) : Nat × List UInt8 × Nat := if dotF s i = false then (3, trimF (cutF s i (digF s i)), digF s i) else (4, trimF (cutF s i (digF s i)) ++ [46] ++ tailF (cutF s (digF s i + 1) (digF s (digF s i + 1))), digF s (digF s i + 1))
def numE (s : List UInt8) (i : Nat) : Int := match numF s i with | none => 122 | some _ => 0
theorem numT_ok {s : List UInt8} {i k e : Nat} {t : List UInt8} (h : numF s i = some (k, t, e)) : numT s i = (k, t, e) := by
  unfold numF at h
  unfold numT dotF
  dsimp only at h
  split at h
  · rename_i h1
    rw [if_pos h1]
    split at h
    · cases h
    · cases h; rfl
  · rename_i h1
    rw [if_neg h1]
    split at h
    · cases h
    · cases h; rfl
def sNumR (args : List V) (hp : Mem) (k : KE) : Prop := match args with
  | [v0, v1] => match strOf v0, int64 v1 with
    | some s, some i => (0 ≤ i ∧ i < (s.length : Int) ∧ (s.length : Int) ≤ 20000 ∧ digB (s.getD i.toNat 0) = true) ∧ k (.ret (.tup [.agg (tokA ((numT s i.toNat).1 : Nat) (numT s i.toNat).2.1 i ((numT s i.toNat).2.2 : Nat)), .sint .i64 (numE s i.toNat)])) hp
    | _, _ => False
  | _ => False
def tokVal (s : List UInt8) (i : Nat) : List V :=
  if letB (s.getD i 0) then tokA (if Go.Lib.toLowerA (cutF s i (nameF s i)) ∈ keysL then 2 else 1) (Go.Lib.toLowerA (cutF s i (nameF s i))) i (nameF s i : Nat)
  else if digB (s.getD i 0) then tokA ((numT s i).1 : Nat) (numT s i).2.1 i ((numT s i).2.2 : Nat)
  else if (s.getD i 0).toNat = 34 then (match textL (s.drop (i + 1)) (i + 1) [] (-1) with | none => tokA 0 [] 0 0 | some (b, p, _) => tokA 5 b i ((p : Int) + 1))
  else if signR s i = [] then tokA 0 [] 0 0 else tokA 6 (signR s i) i ((i : Int) + (signR s i).length)
def fltVal (s : List UInt8) (i : Nat) : Int × Int :=
  if letB (s.getD i 0) then (if 24 < nameF s i - i then (122, (i : Int)) else (0, 0))
  else if digB (s.getD i 0) then (numE s i, i)
  else if (s.getD i 0).toNat = 34 then (match textL (s.drop (i + 1)) (i + 1) [] (-1) with | none => (121, (i : Int)) | some (b, _, bad) => (fltE b.length bad, fltA b.length i bad))
  else if signR s i = [] then (120, i) else (0, 0)
def fltC (p : Int × Int) : List V := [.sint .i64 p.1, .sint .i64 p.2]
def tkK (s : List UInt8) (i : Nat) : Int := vI ((tokVal s i).getD 0 .und)
def tkT (s : List UInt8) (i : Nat) : List UInt8 := vS ((tokVal s i).getD 1 .und)
def tkA (s : List UInt8) (i : Nat) : Int := vI ((tokVal s i).getD 2 .und)
def tkE (s : List UInt8) (i : Nat) : Int := vI ((tokVal s i).getD 3 .und)
theorem tok_four (s : List UInt8) (i : Nat) : tokVal s i = tokA (tkK s i) (tkT s i) (tkA s i) (tkE s i) := by
  suffices h : ∃ a b c d, tokVal s i = tokA a b c d by
    obtain ⟨a, b, c, d, h⟩ := h
    unfold tkK tkT tkA tkE
    rw [h]; rfl
  unfold tokVal
  split
  · exact ⟨_, _, _, _, rfl⟩
  · split
    · exact ⟨_, _, _, _, rfl⟩
    · split
      · split <;> exact ⟨_, _, _, _, rfl⟩
      · split <;> exact ⟨_, _, _, _, rfl⟩
def sTokR (args : List V) (hp : Mem) (k : KE) : Prop := match args with
  | [v0, v1] => match strOf v0, int64 v1 with
    | some s, some i => (0 ≤ i ∧ i < (s.length : Int) ∧ (s.length : Int) ≤ 20000) ∧ k (.ret (.tup [.agg (tokA (tkK s i.toNat) (tkT s i.toNat) (tkA s i.toNat) (tkE s i.toNat)), .agg (fltC (fltVal s i.toNat))])) hp
    | _, _ => False
  | _ => False
end
end Go.Proofs.YtekioipmhhcbhaaGreatDoor
set_option maxRecDepth 20000
namespace Go.Proofs.YtekioipmhhcbhaaGreatDoor
open Go Go.Z Go.Q Go.W6
open Go.Y hiding KE KK KR go Task go_sound
noncomputable section
def keysR : List (List UInt8) := [[97, 98, 115], [97, 110, 100], [97, 114, 98], [97, 115, 115, 101, 114, 116], [99, 97, 115, 101], [99, 104, 97, 114], [99, 111, 110, 115, 116], [99, 111, 110, 116, 105, 110, 117, 101], [100, 101, 99], [100, 105, 118], [100, 111], [100, 111, 109, 97, 105, 110], [101, 108, 115, 101], [101, 108, 115, 101, 105, 102], [101, 110, 100], [101, 110, 100, 109], [101, 120, 105, 115, 116, 115], [101, 120, 112, 111, 114, 116, 115], [102, 97, 105, 108], [102, 97, 108, 115, 101], [102, 105, 120], [102, 111, 114], [102, 111, 114, 97, 108, 108], [102, 114, 111, 109], [102, 114, 111, 109, 98], [102, 114, 111, 109, 101], [105, 102], [105, 109, 112, 108], [105, 110], [105, 110, 99, 108, 117, 100, 101], [105, 110, 99, 115], [105, 110, 118, 101, 114, 115, 101], [105, 115, 111, 109], [108, 101, 115, 115], [108, 101, 115, 115, 102], [108, 111, 111, 112], [109, 97, 99, 114, 111], [109, 97, 120], [109, 105, 110], [109, 111, 100], [109, 111, 100, 117, 108, 101], [110, 101, 119, 97, 116], [110, 111, 116], [110, 111, 116, 101, 120, 105, 115, 116, 115], [110, 111, 116, 105, 110], [110, 112, 111, 119], [111, 102], [111, 107], [111, 109], [111, 114], [111, 116, 104, 101, 114, 119, 105, 115, 101], [112, 111, 119], [112, 114, 105, 110, 116], [112, 114, 111, 99], [112, 114, 111, 103, 114, 97, 109], [113, 117, 105, 116], [114, 97, 110, 103, 101], [114, 100], [114, 101, 97, 100], [114, 101, 116, 117, 114, 110], [114, 119], [115, 116, 111, 112], [115, 116, 114], [115, 117, 98, 115, 101, 116], [115, 117, 99, 99, 101, 101, 100], [116, 104, 101, 110], [116, 111, 115, 101, 116], [116, 111, 116, 117, 112, 108, 101], [116, 114, 117, 101], [116, 121, 112, 101], [117, 110, 116, 105, 108], [117, 115, 101, 115], [118, 97, 114], [119, 104, 101, 110], [119, 104, 105, 108, 101], [119, 105, 116, 104], [119, 114]]
def signsR : List (List UInt8) := [[35], [40], [41], [42], [42, 42], [43], [44], [45], [45, 62], [46], [46, 46], [47], [47, 61], [58], [58, 61], [59], [60], [60, 61], [61], [62], [62, 61], [63], [64], [91], [93], [123], [124], [125]]
theorem mem_keysR (w : List UInt8) : w ∈ keysR ↔ w ∈ keysL :=
  ⟨fun h => (by decide : ∀ x ∈ keysR, x ∈ keysL) w h, fun h => (by decide : ∀ x ∈ keysL, x ∈ keysR) w h⟩
theorem mem_signsR (w : List UInt8) : w ∈ signsR ↔ w ∈ signsL :=
  ⟨fun h => (by decide : ∀ x ∈ signsR, x ∈ signsL) w h, fun h => (by decide : ∀ x ∈ signsL, x ∈ signsR) w h⟩
theorem keys_24 {w : List UInt8} (h : w ∈ keysL) : w.length ≤ 24 := (by decide : ∀ x ∈ keysL, x.length ≤ 24) w h
def AllS (P : Program) (G : GQ) : List (Nat × (List V → Mem → KE → Prop)) → Prop
  | [] => True
  | p :: l => (∀ args hp k, p.2 args hp k → TaskOk P G (.call p.1 args hp k)) ∧ AllS P G l
theorem fs_all {P : Program} {G : GQ} (h : AllS P G G.fs) : FsOk P G := by
  intro f s hf
  generalize hl : G.fs = l at hf h
  clear hl
  induction l with
  | nil => cases hf
  | cons p l ih =>
    simp only [lookF] at hf
    split at hf
    · rename_i hb; cases hf; rw [← beq_tt hb]; exact h.1
    · exact ih hf h.2
theorem r_iskey (w : List UInt8) (N : E → Nat → List (Option Chunk) → Prop) : Go.Q.go Tryz.prog ⟨⟨.nil, [], []⟩, [(50, sIsIn)], []⟩ 100 (.call 23 [.sstr w] nomem (cutE [] N)) =
  (((77 : Nat) = (77 : Nat) ∧ (77 : Nat) ≤ (1000 : Nat)) ∧ (decide (w ∈ keysR) = true → N (E.ret (.bool true)) 1 []) ∧ (decide (w ∈ keysR) = false → N (E.ret (.bool false)) 1 [])) := by kernel_rfl
theorem r_sign (s : List UInt8) (i : Int) (N : E → Nat → List (Option Chunk) → Prop) : Go.Q.go Tryz.prog ⟨⟨.nil, [], []⟩, [(50, sIsIn)], []⟩ 200 (.call 63 [.sstr s, .sint .i64 i] nomem (cutE [] N)) =
  ((-9223372036854775808 ≤ i + 2 ∧ i + 2 ≤ 9223372036854775807) ∧ True ∧ True ∧ (decide (i + 2 ≤ (s.length : Int)) = true → (-9223372036854775808 ≤ i + 2 ∧ i + 2 ≤ 9223372036854775807) ∧ (0 ≤ i ∧ i ≤ i + 2 ∧ i + 2 ≤ (s.length : Int)) ∧ ((28 : Nat) = (28 : Nat) ∧ (28 : Nat) ≤ (1000 : Nat)) ∧ (decide (List.drop i.toNat (List.take (i + 2).toNat s) ∈ signsR) = true → (-9223372036854775808 ≤ i + 2 ∧ i + 2 ≤ 9223372036854775807) ∧ (0 ≤ i ∧ i ≤ i + 2 ∧ i + 2 ≤ (s.length : Int)) ∧ N (E.ret (.sstr (List.drop i.toNat (List.take (i + 2).toNat s)))) 1 []) ∧ (decide (List.drop i.toNat (List.take (i + 2).toNat s) ∈ signsR) = false → (-9223372036854775808 ≤ i + 1 ∧ i + 1 ≤ 9223372036854775807) ∧ (0 ≤ i ∧ i ≤ i + 1 ∧ i + 1 ≤ (s.length : Int)) ∧ ((28 : Nat) = (28 : Nat) ∧ (28 : Nat) ≤ (1000 : Nat)) ∧ (decide (List.drop i.toNat (List.take (i + 1).toNat s) ∈ signsR) = true → (-9223372036854775808 ≤ i + 1 ∧ i + 1 ≤ 9223372036854775807) ∧ (0 ≤ i ∧ i ≤ i + 1 ∧ i + 1 ≤ (s.length : Int)) ∧ N (E.ret (.sstr (List.drop i.toNat (List.take (i + 1).toNat s)))) 2 []) ∧ (decide (List.drop i.toNat (List.take (i + 1).toNat s) ∈ signsR) = false → N (E.ret (.str [])) 2 []))) ∧ (decide (i + 2 ≤ (s.length : Int)) = false → (-9223372036854775808 ≤ i + 1 ∧ i + 1 ≤ 9223372036854775807) ∧ (0 ≤ i ∧ i ≤ i + 1 ∧ i + 1 ≤ (s.length : Int)) ∧ ((28 : Nat) = (28 : Nat) ∧ (28 : Nat) ≤ (1000 : Nat)) ∧ (decide (List.drop i.toNat (List.take (i + 1).toNat s) ∈ signsR) = true → (-9223372036854775808 ≤ i + 1 ∧ i + 1 ≤ 9223372036854775807) ∧ (0 ≤ i ∧ i ≤ i + 1 ∧ i + 1 ≤ (s.length : Int)) ∧ N (E.ret (.sstr (List.drop i.toNat (List.take (i + 1).toNat s)))) 1 []) ∧ (decide (List.drop i.toNat (List.take (i + 1).toNat s) ∈ signsR) = false → N (E.ret (.str [])) 1 []))) := by kernel_rfl
theorem r_num (s : List UInt8) (i : Int) (N : E → Nat → List (Option Chunk) → Prop) : Go.Q.go Tryz.prog ⟨⟨.nil, [], []⟩, [(78, sEnd digB), (61, sByte digB), (79, sWhole), (80, sPlaces)], []⟩ 200 (.call 62 [.sstr s, .sint .i64 i] nomem (cutE [] N)) =
  ((0 ≤ i ∧ i ≤ (s.length : Int) ∧ (s.length : Int) ≤ 20000) ∧ (-9223372036854775808 ≤ (↑(endF digB s i.toNat) : Int) + 1 ∧ (↑(endF digB s i.toNat) : Int) + 1 ≤ 9223372036854775807) ∧ True ∧ True ∧ (decide ((s.length : Int) ≤ (↑(endF digB s i.toNat) : Int) + 1) = true → (0 ≤ i ∧ i ≤ (↑(endF digB s i.toNat) : Int) ∧ (↑(endF digB s i.toNat) : Int) ≤ (s.length : Int)) ∧ (0 < (List.drop i.toNat (List.take (↑(endF digB s i.toNat) : Int).toNat s)).length ∧ (List.drop i.toNat (List.take (↑(endF digB s i.toNat) : Int).toNat s)).length ≤ 20000) ∧ (-9223372036854775808 ≤ (↑(endF digB s i.toNat) : Int) - i ∧ (↑(endF digB s i.toNat) : Int) - i ≤ 9223372036854775807) ∧ True ∧ (decide (380 < (↑(endF digB s i.toNat) : Int) - i) = true → N (E.ret (.tup [.agg [.int .i64 3, .sstr (trimF (List.drop i.toNat (List.take (↑(endF digB s i.toNat) : Int).toNat s))), .sint .i64 i, .sint .i64 (↑(endF digB s i.toNat) : Int), .int .i64 0, .int .i64 0], .int .i64 122])) 2 []) ∧ (decide (380 < (↑(endF digB s i.toNat) : Int) - i) = false → N (E.ret (.tup [.agg [.int .i64 3, .sstr (trimF (List.drop i.toNat (List.take (↑(endF digB s i.toNat) : Int).toNat s))), .sint .i64 i, .sint .i64 (↑(endF digB s i.toNat) : Int), .int .i64 0, .int .i64 0], .int .i64 0])) 2 [])) ∧ (decide ((s.length : Int) ≤ (↑(endF digB s i.toNat) : Int) + 1) = false → (0 ≤ (↑(endF digB s i.toNat) : Int) ∧ (↑(endF digB s i.toNat) : Int) < (s.length : Int)) ∧ True ∧ ((!decide ((↑(s.getD (↑(endF digB s i.toNat) : Int).toNat 0).toNat : Int) = 46)) = true → (0 ≤ i ∧ i ≤ (↑(endF digB s i.toNat) : Int) ∧ (↑(endF digB s i.toNat) : Int) ≤ (s.length : Int)) ∧ (0 < (List.drop i.toNat (List.take (↑(endF digB s i.toNat) : Int).toNat s)).length ∧ (List.drop i.toNat (List.take (↑(endF digB s i.toNat) : Int).toNat s)).length ≤ 20000) ∧ (-9223372036854775808 ≤ (↑(endF digB s i.toNat) : Int) - i ∧ (↑(endF digB s i.toNat) : Int) - i ≤ 9223372036854775807) ∧ True ∧ (decide (380 < (↑(endF digB s i.toNat) : Int) - i) = true → N (E.ret (.tup [.agg [.int .i64 3, .sstr (trimF (List.drop i.toNat (List.take (↑(endF digB s i.toNat) : Int).toNat s))), .sint .i64 i, .sint .i64 (↑(endF digB s i.toNat) : Int), .int .i64 0, .int .i64 0], .int .i64 122])) 2 []) ∧ (decide (380 < (↑(endF digB s i.toNat) : Int) - i) = false → N (E.ret (.tup [.agg [.int .i64 3, .sstr (trimF (List.drop i.toNat (List.take (↑(endF digB s i.toNat) : Int).toNat s))), .sint .i64 i, .sint .i64 (↑(endF digB s i.toNat) : Int), .int .i64 0, .int .i64 0], .int .i64 0])) 2 [])) ∧ ((!decide ((↑(s.getD (↑(endF digB s i.toNat) : Int).toNat 0).toNat : Int) = 46)) = false → (-9223372036854775808 ≤ (↑(endF digB s i.toNat) : Int) + 1 ∧ (↑(endF digB s i.toNat) : Int) + 1 ≤ 9223372036854775807) ∧ (0 ≤ (↑(endF digB s i.toNat) : Int) + 1 ∧ (↑(endF digB s i.toNat) : Int) + 1 < (s.length : Int)) ∧ (0 ≤ (↑(s.getD ((↑(endF digB s i.toNat) : Int) + 1).toNat 0).toNat : Int) ∧ (↑(s.getD ((↑(endF digB s i.toNat) : Int) + 1).toNat 0).toNat : Int) < 256) ∧ True ∧ ((!digB (UInt8.ofNat (↑(s.getD ((↑(endF digB s i.toNat) : Int) + 1).toNat 0).toNat : Int).toNat)) = true → (0 ≤ i ∧ i ≤ (↑(endF digB s i.toNat) : Int) ∧ (↑(endF digB s i.toNat) : Int) ≤ (s.length : Int)) ∧ (0 < (List.drop i.toNat (List.take (↑(endF digB s i.toNat) : Int).toNat s)).length ∧ (List.drop i.toNat (List.take (↑(endF digB s i.toNat) : Int).toNat s)).length ≤ 20000) ∧ (-9223372036854775808 ≤ (↑(endF digB s i.toNat) : Int) - i ∧ (↑(endF digB s i.toNat) : Int) - i ≤ 9223372036854775807) ∧ True ∧ (decide (380 < (↑(endF digB s i.toNat) : Int) - i) = true → N (E.ret (.tup [.agg [.int .i64 3, .sstr (trimF (List.drop i.toNat (List.take (↑(endF digB s i.toNat) : Int).toNat s))), .sint .i64 i, .sint .i64 (↑(endF digB s i.toNat) : Int), .int .i64 0, .int .i64 0], .int .i64 122])) 2 []) ∧ (decide (380 < (↑(endF digB s i.toNat) : Int) - i) = false → N (E.ret (.tup [.agg [.int .i64 3, .sstr (trimF (List.drop i.toNat (List.take (↑(endF digB s i.toNat) : Int).toNat s))), .sint .i64 i, .sint .i64 (↑(endF digB s i.toNat) : Int), .int .i64 0, .int .i64 0], .int .i64 0])) 2 [])) ∧ ((!digB (UInt8.ofNat (↑(s.getD ((↑(endF digB s i.toNat) : Int) + 1).toNat 0).toNat : Int).toNat)) = false → (-9223372036854775808 ≤ (↑(endF digB s i.toNat) : Int) + 1 ∧ (↑(endF digB s i.toNat) : Int) + 1 ≤ 9223372036854775807) ∧ (0 ≤ (↑(endF digB s i.toNat) : Int) + 1 ∧ (↑(endF digB s i.toNat) : Int) + 1 ≤ (s.length : Int) ∧ (s.length : Int) ≤ 20000) ∧ (-9223372036854775808 ≤ (↑(endF digB s i.toNat) : Int) + 1 ∧ (↑(endF digB s i.toNat) : Int) + 1 ≤ 9223372036854775807) ∧ (0 ≤ (↑(endF digB s i.toNat) : Int) + 1 ∧ (↑(endF digB s i.toNat) : Int) + 1 ≤ (↑(endF digB s ((↑(endF digB s i.toNat) : Int) + 1).toNat) : Int) ∧ (↑(endF digB s ((↑(endF digB s i.toNat) : Int) + 1).toNat) : Int) ≤ (s.length : Int)) ∧ (0 < (List.drop ((↑(endF digB s i.toNat) : Int) + 1).toNat (List.take (↑(endF digB s ((↑(endF digB s i.toNat) : Int) + 1).toNat) : Int).toNat s)).length ∧ (List.drop ((↑(endF digB s i.toNat) : Int) + 1).toNat (List.take (↑(endF digB s ((↑(endF digB s i.toNat) : Int) + 1).toNat) : Int).toNat s)).length ≤ 20000) ∧ (0 ≤ i ∧ i ≤ (↑(endF digB s i.toNat) : Int) ∧ (↑(endF digB s i.toNat) : Int) ≤ (s.length : Int)) ∧ (0 < (List.drop i.toNat (List.take (↑(endF digB s i.toNat) : Int).toNat s)).length ∧ (List.drop i.toNat (List.take (↑(endF digB s i.toNat) : Int).toNat s)).length ≤ 20000) ∧ (trimF (List.drop i.toNat (List.take (↑(endF digB s i.toNat) : Int).toNat s))).length + 1 ≤ 9223372036854775807 ∧ (trimF (List.drop i.toNat (List.take (↑(endF digB s i.toNat) : Int).toNat s)) ++ [46]).length + (tailF (List.drop ((↑(endF digB s i.toNat) : Int) + 1).toNat (List.take (↑(endF digB s ((↑(endF digB s i.toNat) : Int) + 1).toNat) : Int).toNat s))).length ≤ 9223372036854775807 ∧ (-9223372036854775808 ≤ (↑(endF digB s ((↑(endF digB s i.toNat) : Int) + 1).toNat) : Int) - i ∧ (↑(endF digB s ((↑(endF digB s i.toNat) : Int) + 1).toNat) : Int) - i ≤ 9223372036854775807) ∧ (-9223372036854775808 ≤ (↑(endF digB s ((↑(endF digB s i.toNat) : Int) + 1).toNat) : Int) - i - 1 ∧ (↑(endF digB s ((↑(endF digB s i.toNat) : Int) + 1).toNat) : Int) - i - 1 ≤ 9223372036854775807) ∧ True ∧ (decide (380 < (↑(endF digB s ((↑(endF digB s i.toNat) : Int) + 1).toNat) : Int) - i - 1) = true → N (E.ret (.tup [.agg [.int .i64 4, .sstr (trimF (List.drop i.toNat (List.take (↑(endF digB s i.toNat) : Int).toNat s)) ++ [46] ++ tailF (List.drop ((↑(endF digB s i.toNat) : Int) + 1).toNat (List.take (↑(endF digB s ((↑(endF digB s i.toNat) : Int) + 1).toNat) : Int).toNat s))), .sint .i64 i, .sint .i64 (↑(endF digB s ((↑(endF digB s i.toNat) : Int) + 1).toNat) : Int), .int .i64 0, .int .i64 0], .int .i64 122])) 2 []) ∧ (decide (380 < (↑(endF digB s ((↑(endF digB s i.toNat) : Int) + 1).toNat) : Int) - i - 1) = false → True ∧ True ∧ (decide (20 < (↑(tailF (List.drop ((↑(endF digB s i.toNat) : Int) + 1).toNat (List.take (↑(endF digB s ((↑(endF digB s i.toNat) : Int) + 1).toNat) : Int).toNat s))).length : Int)) = true → N (E.ret (.tup [.agg [.int .i64 4, .sstr (trimF (List.drop i.toNat (List.take (↑(endF digB s i.toNat) : Int).toNat s)) ++ [46] ++ tailF (List.drop ((↑(endF digB s i.toNat) : Int) + 1).toNat (List.take (↑(endF digB s ((↑(endF digB s i.toNat) : Int) + 1).toNat) : Int).toNat s))), .sint .i64 i, .sint .i64 (↑(endF digB s ((↑(endF digB s i.toNat) : Int) + 1).toNat) : Int), .int .i64 0, .int .i64 0], .int .i64 122])) 2 []) ∧ (decide (20 < (↑(tailF (List.drop ((↑(endF digB s i.toNat) : Int) + 1).toNat (List.take (↑(endF digB s ((↑(endF digB s i.toNat) : Int) + 1).toNat) : Int).toNat s))).length : Int)) = false → N (E.ret (.tup [.agg [.int .i64 4, .sstr (trimF (List.drop i.toNat (List.take (↑(endF digB s i.toNat) : Int).toNat s)) ++ [46] ++ tailF (List.drop ((↑(endF digB s i.toNat) : Int) + 1).toNat (List.take (↑(endF digB s ((↑(endF digB s i.toNat) : Int) + 1).toNat) : Int).toNat s))), .sint .i64 i, .sint .i64 (↑(endF digB s ((↑(endF digB s i.toNat) : Int) + 1).toNat) : Int), .int .i64 0, .int .i64 0], .int .i64 0])) 2 [])))))) := by kernel_rfl
theorem r_token (s : List UInt8) (i : Int) (N : E → Nat → List (Option Chunk) → Prop) : Go.Q.go Tryz.prog ⟨⟨.nil, [], []⟩, [(47, sByte letB), (60, sEnd restB), (48, sLower), (23, sKeyR), (61, sByte digB), (62, sNumR), (52, sQuoted), (63, sSignR)], []⟩ 200 (.call 38 [.sstr s, .sint .i64 i] nomem (cutE [] N)) =
  ((0 ≤ i ∧ i < (s.length : Int)) ∧ (0 ≤ (↑(s.getD i.toNat 0).toNat : Int) ∧ (↑(s.getD i.toNat 0).toNat : Int) < 256) ∧ (letB (UInt8.ofNat (↑(s.getD i.toNat 0).toNat : Int).toNat) = true → (0 ≤ i ∧ i ≤ (s.length : Int) ∧ (s.length : Int) ≤ 20000) ∧ (0 ≤ i ∧ i ≤ (↑(endF restB s i.toNat) : Int) ∧ (↑(endF restB s i.toNat) : Int) ≤ (s.length : Int)) ∧ (List.drop i.toNat (List.take (↑(endF restB s i.toNat) : Int).toNat s)).length ≤ 20000 ∧ (decide (Lib.toLowerA (List.drop i.toNat (List.take (↑(endF restB s i.toNat) : Int).toNat s)) ∈ keysL) = true → (-9223372036854775808 ≤ (↑(endF restB s i.toNat) : Int) - i ∧ (↑(endF restB s i.toNat) : Int) - i ≤ 9223372036854775807) ∧ True ∧ (decide (24 < (↑(endF restB s i.toNat) : Int) - i) = true → N (E.ret (.tup [.agg [.int .i64 2, .sstr (Lib.toLowerA (List.drop i.toNat (List.take (↑(endF restB s i.toNat) : Int).toNat s))), .sint .i64 i, .sint .i64 (↑(endF restB s i.toNat) : Int), .int .i64 0, .int .i64 0], .agg [.int .i64 122, .sint .i64 i]])) 3 []) ∧ (decide (24 < (↑(endF restB s i.toNat) : Int) - i) = false → N (E.ret (.tup [.agg [.int .i64 2, .sstr (Lib.toLowerA (List.drop i.toNat (List.take (↑(endF restB s i.toNat) : Int).toNat s))), .sint .i64 i, .sint .i64 (↑(endF restB s i.toNat) : Int), .int .i64 0, .int .i64 0], .agg [.int .i64 0, .int .i64 0]])) 3 [])) ∧ (decide (Lib.toLowerA (List.drop i.toNat (List.take (↑(endF restB s i.toNat) : Int).toNat s)) ∈ keysL) = false → (-9223372036854775808 ≤ (↑(endF restB s i.toNat) : Int) - i ∧ (↑(endF restB s i.toNat) : Int) - i ≤ 9223372036854775807) ∧ True ∧ (decide (24 < (↑(endF restB s i.toNat) : Int) - i) = true → N (E.ret (.tup [.agg [.int .i64 1, .sstr (Lib.toLowerA (List.drop i.toNat (List.take (↑(endF restB s i.toNat) : Int).toNat s))), .sint .i64 i, .sint .i64 (↑(endF restB s i.toNat) : Int), .int .i64 0, .int .i64 0], .agg [.int .i64 122, .sint .i64 i]])) 3 []) ∧ (decide (24 < (↑(endF restB s i.toNat) : Int) - i) = false → N (E.ret (.tup [.agg [.int .i64 1, .sstr (Lib.toLowerA (List.drop i.toNat (List.take (↑(endF restB s i.toNat) : Int).toNat s))), .sint .i64 i, .sint .i64 (↑(endF restB s i.toNat) : Int), .int .i64 0, .int .i64 0], .agg [.int .i64 0, .int .i64 0]])) 3 []))) ∧ (letB (UInt8.ofNat (↑(s.getD i.toNat 0).toNat : Int).toNat) = false → (0 ≤ (↑(s.getD i.toNat 0).toNat : Int) ∧ (↑(s.getD i.toNat 0).toNat : Int) < 256) ∧ (digB (UInt8.ofNat (↑(s.getD i.toNat 0).toNat : Int).toNat) = true → (0 ≤ i ∧ i < (s.length : Int) ∧ (s.length : Int) ≤ 20000 ∧ digB (s.getD i.toNat 0) = true) ∧ N (E.ret (.tup [.agg [.sint .i64 (↑(numT s i.toNat).fst : Int), .sstr (numT s i.toNat).snd.fst, .sint .i64 i, .sint .i64 (↑(numT s i.toNat).snd.snd : Int), .sint .i64 0, .sint .i64 0], .agg [.sint .i64 (numE s i.toNat), .sint .i64 i]])) 3 []) ∧ (digB (UInt8.ofNat (↑(s.getD i.toNat 0).toNat : Int).toNat) = false → True ∧ (decide ((↑(s.getD i.toNat 0).toNat : Int) = 34) = true → (0 ≤ i ∧ i < (s.length : Int) ∧ (s.length : Int) ≤ 20000) ∧ (textL (List.drop (i.toNat + 1) s) (i.toNat + 1) [] (-1) = none → N (E.ret (.tup [.agg [.int .i64 0, .str [], .int .i64 0, .int .i64 0, .int .i64 0, .int .i64 0], .agg [.int .i64 121, .sint .i64 i]])) 2 []) ∧ ∀ (b : List UInt8) (p : Nat) (bad : Int), textL (List.drop (i.toNat + 1) s) (i.toNat + 1) [] (-1) = some (b, p, bad) → N (E.ret (.tup [.agg [.sint .i64 5, .sstr b, .sint .i64 i, .sint .i64 ((p : Int) + 1), .sint .i64 0, .sint .i64 0], .agg [.sint .i64 (fltE b.length bad), .sint .i64 (fltA b.length i bad)]])) 2 []) ∧ (decide ((↑(s.getD i.toNat 0).toNat : Int) = 34) = false → (0 ≤ i ∧ i < (s.length : Int) ∧ (s.length : Int) ≤ 20000) ∧ True ∧ (decide (signR s i.toNat = []) = true → N (E.ret (.tup [.agg [.int .i64 0, .str [], .int .i64 0, .int .i64 0, .int .i64 0, .int .i64 0], .agg [.int .i64 120, .sint .i64 i]])) 2 []) ∧ (decide (signR s i.toNat = []) = false → True ∧ (-9223372036854775808 ≤ i + (↑(signR s i.toNat).length : Int) ∧ i + (↑(signR s i.toNat).length : Int) ≤ 9223372036854775807) ∧ N (E.ret (.tup [.agg [.int .i64 6, .sstr (signR s i.toNat), .sint .i64 i, .sint .i64 (i + (↑(signR s i.toNat).length : Int)), .int .i64 0, .int .i64 0], .agg [.int .i64 0, .int .i64 0]])) 2 []))))) := by kernel_rfl
theorem iskey_ok {G : GQ} : ∀ args hp k, sKeyR args hp k → TaskOk Tryz.prog G (.call 23 args hp k) := by
  intro args hp k h
  unfold sKeyR at h
  split at h
  · split at h
    · rename_i v w e0
      have t : TaskOk Tryz.prog ⟨⟨.nil, [], []⟩, [(50, sIsIn)], []⟩ (.call 23 [.sstr w] nomem (cutE [] fun e _ _ => retD (.sbool (decide (w ∈ keysL))) e)) := by
        refine go_sound qmix qNG zqc (fs_one rfl isIn_ok) (zqr rfl) 100 _ (Eq.mpr (r_iskey w _) ?_)
        simp only [decide_eq_true_eq, decide_eq_false_iff_not, mem_keysR]
        exact ⟨⟨trivial, by decide⟩, fun hm => show (true = decide (w ∈ keysL)) by simpa using hm, fun hm => show (false = decide (w ∈ keysL)) by simpa using hm⟩
      exact sum_d (zqD t zqO) rfl ⟨zqo e0, trivial⟩ rfl rfl h
    · exact h.elim
  · exact h.elim
theorem sign_ok {G : GQ} : ∀ args hp k, sSignR args hp k → TaskOk Tryz.prog G (.call 63 args hp k) := by
  intro args hp k h
  unfold sSignR at h
  split at h
  · split at h
    · rename_i v0 v1 s i e0 e1
      obtain ⟨⟨h0, h1, h2⟩, hk⟩ := h
      have t : TaskOk Tryz.prog ⟨⟨.nil, [], []⟩, [(50, sIsIn)], []⟩ (.call 63 [.sstr s, .sint .i64 i] nomem (cutE [] fun e _ _ => retD (.sstr (signR s i.toNat)) e)) := by
        refine go_sound qmix qNG zqc (fs_one rfl isIn_ok) (zqr rfl) 200 _ (Eq.mpr (r_sign s i _) ?_)
        have e2 : (i + 2).toNat = i.toNat + 2 := by omega
        have e3 : (i + 1).toNat = i.toNat + 1 := by omega
        simp only [decide_eq_true_eq, decide_eq_false_iff_not, mem_signsR, e2, e3, zkC]
        have d2 : i.toNat + 2 ≤ s.length → cutF s i.toNat (i.toNat + 2) ∈ signsL → signR s i.toNat = cutF s i.toNat (i.toNat + 2) := fun a b => by unfold signR; rw [if_pos ⟨a, b⟩]
        have d1 : ¬ (i.toNat + 2 ≤ s.length ∧ cutF s i.toNat (i.toNat + 2) ∈ signsL) → cutF s i.toNat (i.toNat + 1) ∈ signsL → signR s i.toNat = cutF s i.toNat (i.toNat + 1) := fun a b => by unfold signR; rw [if_neg a, if_pos b]
        have d0 : ¬ (i.toNat + 2 ≤ s.length ∧ cutF s i.toNat (i.toNat + 2) ∈ signsL) → ¬ cutF s i.toNat (i.toNat + 1) ∈ signsL → signR s i.toNat = [] := fun a b => by unfold signR; rw [if_neg a, if_neg b]
        have r : ∀ {w}, signR s i.toNat = w → retD (.sstr (signR s i.toNat)) (.ret (.sstr w)) := fun e => by rw [e]; exact rfl
        have r0 : signR s i.toNat = [] → retD (.sstr (signR s i.toNat)) (.ret (.str [])) := fun e => by rw [e]; exact rfl
        exact ⟨by omega, trivial, trivial, fun a => ⟨by omega, by omega, ⟨trivial, by decide⟩, fun b => ⟨by omega, by omega, r (d2 (by omega) b)⟩, fun b => ⟨by omega, by omega, ⟨trivial, by decide⟩, fun c => ⟨by omega, by omega, r (d1 (fun x => b x.2) c)⟩, fun c => r0 (d0 (fun x => b x.2) c)⟩⟩,
          fun a => ⟨by omega, by omega, ⟨trivial, by decide⟩, fun c => ⟨by omega, by omega, r (d1 (fun x => by omega) c)⟩, fun c => r0 (d0 (fun x => by omega) c)⟩⟩
      exact sum_d (zqD t zqO) rfl ⟨zqo e0, zqk e1, trivial⟩ rfl rfl hk
    · exact h.elim
  · exact h.elim
theorem rnum_run (s : List UInt8) (i : Nat) (hi : i < s.length) (hs : s.length ≤ 20000) (hd0 : digB (s.getD i 0) = true) : TaskOk Tryz.prog ⟨⟨.nil, [], []⟩, [(78, sEnd digB), (61, sByte digB), (79, sWhole), (80, sPlaces)], []⟩ (.call 62 [.sstr s, .sint .i64 i] nomem (cutE [] fun e _ _ => retD (.tup [.agg (tokA ((numT s i).1 : Nat) (numT s i).2.1 i ((numT s i).2.2 : Nat)), .sint .i64 (numE s i)]) e)) := by
  refine go_sound qmix qNG zqc (fs_all (by exact ⟨rdigits_ok, zjQ, rwhole_ok, rplaces_ok, trivial⟩)) (zqr rfl) 200 _ (Eq.mpr (r_num s i _) ?_)
  simp only [decide_eq_true_eq, decide_eq_false_iff_not, Bool.not_eq_true', Bool.not_eq_false']
  simp only [Int.toNat_natCast, zqL, zkC, u8_of]
  have hb9 := UInt8.toNat_lt (s.getD (endF digB s i + 1) 0)
  have hJ : i ≤ digF s i ∧ digF s i ≤ s.length := zxw (p := digB) (Nat.le_of_lt hi)
  have hJ2 : i < digF s i := by
    obtain ⟨g1, g2⟩ := zqI (p := digB) (s := s) (i := i) (by rw [zqv hi]; exact hd0)
    have := zxw (p := digB) (s := s) (i := i + 1) g1
    have e : digF s i = endF digB s (i + 1) := g2
    omega
  have hl1 := zxQ (s := s) (i := i) hJ.2
  have n3 : dotF s i = false → numT s i = (3, trimF (cutF s i (digF s i)), digF s i) := fun h => by unfold numT; rw [if_pos h]
  have f3 : dotF s i = false → numF s i = if 380 < digF s i - i then none else some (3, trimF (cutF s i (digF s i)), digF s i) := by
    intro h; unfold dotF at h; unfold numF; simp only [h, if_true]
  have r3 : dotF s i = false → ∀ E : Int, (E = if 380 < digF s i - i then 122 else 0) → retD (.tup [.agg (tokA ((numT s i).1 : Nat) (numT s i).2.1 i ((numT s i).2.2 : Nat)), .sint .i64 (numE s i)]) (.ret (.tup [.agg [.int .i64 3, .sstr (trimF (cutF s i (digF s i))), .sint .i64 i, .sint .i64 (digF s i : Nat), .int .i64 0, .int .i64 0], .int .i64 E])) := by
    intro h E hE
    have : numE s i = E := by
      unfold numE; rw [f3 h, hE]
      by_cases hc : 380 < digF s i - i
      · rw [if_pos hc, if_pos hc]
      · rw [if_neg hc, if_neg hc]
    rw [n3 h, this]
    exact ⟨⟨⟨rfl, rfl⟩, rfl, ⟨rfl, rfl⟩, ⟨rfl, rfl⟩, ⟨rfl, rfl⟩, ⟨rfl, rfl⟩, trivial⟩, ⟨rfl, rfl⟩, trivial⟩
  have no46 : ¬ ((s.getD (digF s i) 0).toNat : Int) = 46 → digF s i < s.length → dotF s i = false := by
    intro h hlt; unfold dotF; rw [zqv hlt, Bool.and_eq_false_iff]; left; simp only [beq_eq_false_iff_ne]; intro h2; exact h (by exact_mod_cast h2)
  have far : s.length ≤ digF s i + 1 → dotF s i = false := by
    intro h; unfold dotF; rw [zxE (i := digF s i + 1) h, Bool.and_false]
  have low : ¬ (380 : Int) < (digF s i : Int) - i → (0 : Int) = if 380 < digF s i - i then 122 else 0 := fun h => by rw [if_neg (by omega)]
  have high : (380 : Int) < (digF s i : Int) - i → (122 : Int) = if 380 < digF s i - i then 122 else 0 := fun h => by rw [if_pos (by omega)]
  have three : dotF s i = false → ((0 : Int) ≤ i ∧ (i : Int) ≤ (digF s i : Nat) ∧ ((digF s i : Nat) : Int) ≤ s.length) ∧ (0 < (cutF s i (digF s i)).length ∧ (cutF s i (digF s i)).length ≤ 20000) ∧ ((-9223372036854775808 : Int) ≤ ((digF s i : Nat) : Int) - i ∧ ((digF s i : Nat) : Int) - i ≤ 9223372036854775807) ∧ True ∧
      ((380 : Int) < ((digF s i : Nat) : Int) - i → retD (.tup [.agg (tokA ((numT s i).1 : Nat) (numT s i).2.1 i ((numT s i).2.2 : Nat)), .sint .i64 (numE s i)]) (.ret (.tup [.agg [.int .i64 3, .sstr (trimF (cutF s i (digF s i))), .sint .i64 i, .sint .i64 (digF s i : Nat), .int .i64 0, .int .i64 0], .int .i64 122]))) ∧
      (¬ (380 : Int) < ((digF s i : Nat) : Int) - i → retD (.tup [.agg (tokA ((numT s i).1 : Nat) (numT s i).2.1 i ((numT s i).2.2 : Nat)), .sint .i64 (numE s i)]) (.ret (.tup [.agg [.int .i64 3, .sstr (trimF (cutF s i (digF s i))), .sint .i64 i, .sint .i64 (digF s i : Nat), .int .i64 0, .int .i64 0], .int .i64 0]))) :=
    fun hd => ⟨⟨by omega, by omega, by omega⟩, ⟨by omega, by omega⟩, ⟨by omega, by omega⟩, trivial, fun h => r3 hd 122 (high h), fun h => r3 hd 0 (low h)⟩
  refine ⟨⟨by omega, by omega, by omega⟩, ⟨?_, ?_⟩, trivial, trivial, fun h => three (far ?_), fun h => ⟨⟨?_, ?_⟩, trivial, fun h46 => three (no46 h46 ?_), fun h46 => ⟨⟨?_, ?_⟩, ⟨?_, ?_⟩, ⟨by omega, by omega⟩, trivial, fun hd => three ?_, fun hd => ?_⟩⟩⟩
  all_goals first
    | (show (_ : Int) ≤ _; have e : endF digB s i = digF s i := rfl; omega)
    | (show (_ : Nat) ≤ _; have e : endF digB s i = digF s i := rfl; omega)
    | skip
  · unfold dotF; rw [zqv (i := digF s i + 1) (by have e : endF digB s i = digF s i := rfl; omega), Bool.and_eq_false_iff]; right; exact hd
  · have e : endF digB s i = digF s i := rfl
    rw [e] at h h46 hd ⊢
    have hlt1 : digF s i + 1 < s.length := by omega
    have g := zqI (p := digB) (s := s) (i := digF s i + 1) (by rw [zqv hlt1]; exact hd)
    have g2 := zxw (p := digB) (s := s) (i := digF s i + 2) (by omega)
    have e2 : digF s (digF s i + 1) = endF digB s (digF s i + 2) := g.2
    have e3 : endF digB s (digF s i + 1) = digF s (digF s i + 1) := rfl
    rw [e3]
    have hl2 := zxQ (s := s) (i := digF s i + 1) (j := digF s (digF s i + 1)) (by omega)
    have t1 := trim_len (cutF s i (digF s i))
    have t2 := tail_len (cutF s (digF s i + 1) (digF s (digF s i + 1)))
    have dot : dotF s i = true := by
      unfold dotF
      rw [zqv (i := digF s i) (by omega), zqv hlt1, hd, Bool.and_true]
      simp only [beq_iff_eq]; exact_mod_cast h46
    have n4 : numT s i = (4, trimF (cutF s i (digF s i)) ++ [46] ++ tailF (cutF s (digF s i + 1) (digF s (digF s i + 1))), digF s (digF s i + 1)) := by
      unfold numT; rw [if_neg (by rw [dot]; simp)]
    have f4 : numF s i = if 380 < (digF s i - i) + (digF s (digF s i + 1) - (digF s i + 1)) ∨ 20 < (tailF (cutF s (digF s i + 1) (digF s (digF s i + 1)))).length then none else some (4, trimF (cutF s i (digF s i)) ++ [46] ++ tailF (cutF s (digF s i + 1) (digF s (digF s i + 1))), digF s (digF s i + 1)) := by
      unfold dotF at dot; unfold numF; simp only [dot, Bool.true_eq_false, if_false]
    have r4 : ∀ E : Int, numE s i = E → retD (.tup [.agg (tokA ((numT s i).1 : Nat) (numT s i).2.1 i ((numT s i).2.2 : Nat)), .sint .i64 (numE s i)]) (.ret (.tup [.agg [.int .i64 4, .sstr (trimF (cutF s i (digF s i)) ++ [46] ++ tailF (cutF s (digF s i + 1) (digF s (digF s i + 1)))), .sint .i64 i, .sint .i64 (digF s (digF s i + 1) : Nat), .int .i64 0, .int .i64 0], .int .i64 E])) := by
      intro E hE
      rw [n4, hE]
      exact ⟨⟨⟨rfl, rfl⟩, rfl, ⟨rfl, rfl⟩, ⟨rfl, rfl⟩, ⟨rfl, rfl⟩, ⟨rfl, rfl⟩, trivial⟩, ⟨rfl, rfl⟩, trivial⟩
    refine ⟨⟨by omega, by omega⟩, ⟨by omega, by omega, by omega⟩, ⟨by omega, by omega⟩, ⟨by omega, by omega, by omega⟩, ⟨by omega, by omega⟩, ⟨by omega, by omega, by omega⟩, ⟨by omega, by omega⟩, by omega, ?_, ⟨by omega, by omega⟩, ⟨by omega, by omega⟩, trivial, fun hh => r4 122 ?_, fun hh => ⟨trivial, trivial, fun h5 => r4 122 ?_, fun h5 => r4 0 ?_⟩⟩
    · rw [List.length_append]; simp; omega
    · unfold numE; rw [f4, if_pos (by omega)]
    · unfold numE; rw [f4, if_pos (by omega)]
    · unfold numE; rw [f4, if_neg (by omega)]
theorem rnum_ok {G : GQ} : ∀ args hp k, sNumR args hp k → TaskOk Tryz.prog G (.call 62 args hp k) := by
  intro args hp k h
  unfold sNumR at h
  split at h
  · split at h
    · rename_i v0 v1 s i e0 e1
      obtain ⟨⟨h0, h1, h2, h3⟩, hk⟩ := h
      have ei : ((i.toNat : Nat) : Int) = i := by omega
      have t := rnum_run s i.toNat (by omega) (by omega) h3
      rw [ei] at t
      exact sum_d (zqD t zqO) rfl ⟨zqo e0, zqk e1, trivial⟩ rfl rfl hk
    · exact h.elim
  · exact h.elim
end
end Go.Proofs.YtekioipmhhcbhaaGreatDoor
set_option maxRecDepth 20000
namespace Go.Proofs.YtekioipmhhcbhaaGreatDoor
open Go Go.Z Go.Q Go.W6
open Go.Y hiding KE KK KR go Task go_sound
noncomputable section
theorem rtok_run (s : List UInt8) (i : Nat) (hi : i < s.length) (hs : s.length ≤ 20000) : TaskOk Tryz.prog ⟨⟨.nil, [], []⟩, [(47, sByte letB), (60, sEnd restB), (48, sLower), (23, sKeyR), (61, sByte digB), (62, sNumR), (52, sQuoted), (63, sSignR)], []⟩ (.call 38 [.sstr s, .sint .i64 i] nomem (cutE [] fun e _ _ => retD (.tup [.agg (tokVal s i), .agg (fltC (fltVal s i))]) e)) := by
  refine go_sound qmix qNG zqc (fs_all (by exact ⟨isLetter_ok, rword_ok, rlower_ok, iskey_ok, zjQ, rnum_ok, rquoted_ok, sign_ok, trivial⟩)) (zqr rfl) 200 _ (Eq.mpr (r_token s i _) ?_)
  have hb9 := UInt8.toNat_lt (s.getD i 0)
  simp only [decide_eq_true_eq, decide_eq_false_iff_not, Bool.not_eq_true', Bool.not_eq_false']
  simp only [Int.toNat_natCast, zqL, zkC, u8_of]
  have hW := zxw (p := restB) (s := s) (i := i) (Nat.le_of_lt hi)
  have hcl := zxQ (s := s) (i := i) hW.2
  have en : nameF s i = endF restB s i := rfl
  have L : letB (s.getD i 0) = true → ∀ (K E A : Int), (K = if Go.Lib.toLowerA (cutF s i (nameF s i)) ∈ keysL then 2 else 1) → ((E, A) = if 24 < nameF s i - i then ((122 : Int), (i : Int)) else (0, 0)) → ∀ va vb : V, dle va (.sint .i64 E) → dle vb (.sint .i64 A) →
      retD (.tup [.agg (tokVal s i), .agg (fltC (fltVal s i))]) (.ret (.tup [.agg [.int .i64 K, .sstr (Go.Lib.toLowerA (cutF s i (endF restB s i))), .sint .i64 i, .sint .i64 (endF restB s i : Nat), .int .i64 0, .int .i64 0], .agg [va, vb]])) := by
    intro h K E A hK hE va vb ha hb
    unfold tokVal fltVal
    rw [if_pos h, if_pos h, ← hE, ← hK]
    exact ⟨⟨⟨rfl, rfl⟩, rfl, ⟨rfl, rfl⟩, ⟨rfl, rfl⟩, ⟨rfl, rfl⟩, ⟨rfl, rfl⟩, trivial⟩, ⟨ha, hb, trivial⟩, trivial⟩
  refine ⟨⟨by omega, by omega⟩, ⟨by omega, by omega⟩, fun hl => ⟨⟨by omega, by omega, by omega⟩, ⟨by omega, by omega, by omega⟩, by omega, fun hk => ⟨⟨by omega, by omega⟩, trivial, fun h24 => L hl 2 122 i (by rw [en, if_pos hk]) (by rw [if_pos (by omega)]) _ _ ⟨rfl, rfl⟩ ⟨rfl, rfl⟩, fun h24 => L hl 2 0 0 (by rw [en, if_pos hk]) (by rw [if_neg (by omega)]) _ _ ⟨rfl, rfl⟩ ⟨rfl, rfl⟩⟩,
      fun hk => ⟨⟨by omega, by omega⟩, trivial, fun h24 => L hl 1 122 i (by rw [en, if_neg hk]) (by rw [if_pos (by omega)]) _ _ ⟨rfl, rfl⟩ ⟨rfl, rfl⟩, fun h24 => L hl 1 0 0 (by rw [en, if_neg hk]) (by rw [if_neg (by omega)]) _ _ ⟨rfl, rfl⟩ ⟨rfl, rfl⟩⟩⟩,
    fun hl => ⟨⟨by omega, by omega⟩, fun hd => ⟨⟨by omega, by omega, by omega, hd⟩, ?_⟩, fun hd => ⟨trivial, fun h34 => ⟨⟨by omega, by omega, by omega⟩, fun hT => ?_, fun b p bad hT => ?_⟩, fun h34 => ⟨⟨by omega, by omega, by omega⟩, trivial, fun hg => ?_, fun hg => ⟨trivial, ?_, ?_⟩⟩⟩⟩⟩
  all_goals try (have hl' : ¬ (letB (s.getD i 0) = true) := by rw [hl]; simp)
  · unfold tokVal fltVal
    rw [if_neg hl', if_neg hl', if_pos hd, if_pos hd]
    exact ⟨⟨⟨rfl, rfl⟩, rfl, ⟨rfl, rfl⟩, ⟨rfl, rfl⟩, ⟨rfl, rfl⟩, ⟨rfl, rfl⟩, trivial⟩, ⟨⟨rfl, rfl⟩, ⟨rfl, rfl⟩, trivial⟩, trivial⟩
  · have hd' : ¬ (digB (s.getD i 0) = true) := by rw [hd]; simp
    unfold tokVal fltVal
    rw [if_neg hl', if_neg hl', if_neg hd', if_neg hd', if_pos (show (s.getD i 0).toNat = 34 by omega), if_pos (show (s.getD i 0).toNat = 34 by omega), hT]
    exact ⟨⟨⟨rfl, rfl⟩, rfl, ⟨rfl, rfl⟩, ⟨rfl, rfl⟩, ⟨rfl, rfl⟩, ⟨rfl, rfl⟩, trivial⟩, ⟨⟨rfl, rfl⟩, ⟨rfl, rfl⟩, trivial⟩, trivial⟩
  · have hd' : ¬ (digB (s.getD i 0) = true) := by rw [hd]; simp
    unfold tokVal fltVal
    rw [if_neg hl', if_neg hl', if_neg hd', if_neg hd', if_pos (show (s.getD i 0).toNat = 34 by omega), if_pos (show (s.getD i 0).toNat = 34 by omega), hT]
    exact ⟨⟨⟨rfl, rfl⟩, rfl, ⟨rfl, rfl⟩, ⟨rfl, rfl⟩, ⟨rfl, rfl⟩, ⟨rfl, rfl⟩, trivial⟩, ⟨⟨rfl, rfl⟩, ⟨rfl, rfl⟩, trivial⟩, trivial⟩
  · have hd' : ¬ (digB (s.getD i 0) = true) := by rw [hd]; simp
    unfold tokVal fltVal
    rw [if_neg hl', if_neg hl', if_neg hd', if_neg hd', if_neg (show ¬ (s.getD i 0).toNat = 34 by omega), if_neg (show ¬ (s.getD i 0).toNat = 34 by omega), if_pos hg, if_pos hg]
    exact ⟨⟨⟨rfl, rfl⟩, rfl, ⟨rfl, rfl⟩, ⟨rfl, rfl⟩, ⟨rfl, rfl⟩, ⟨rfl, rfl⟩, trivial⟩, ⟨⟨rfl, rfl⟩, ⟨rfl, rfl⟩, trivial⟩, trivial⟩
  · have : (signR s i).length ≤ 2 := by
      unfold signR
      split
      · rw [zxQ (by omega)]; omega
      · split
        · rw [zxQ (by omega)]; omega
        · simp
    exact ⟨by omega, by omega⟩
  · have hd' : ¬ (digB (s.getD i 0) = true) := by rw [hd]; simp
    unfold tokVal fltVal
    rw [if_neg hl', if_neg hl', if_neg hd', if_neg hd', if_neg (show ¬ (s.getD i 0).toNat = 34 by omega), if_neg (show ¬ (s.getD i 0).toNat = 34 by omega), if_neg hg, if_neg hg]
    exact ⟨⟨⟨rfl, rfl⟩, rfl, ⟨rfl, rfl⟩, ⟨rfl, rfl⟩, ⟨rfl, rfl⟩, ⟨rfl, rfl⟩, trivial⟩, ⟨⟨rfl, rfl⟩, ⟨rfl, rfl⟩, trivial⟩, trivial⟩
theorem rtok_ok {G : GQ} : ∀ args hp k, sTokR args hp k → TaskOk Tryz.prog G (.call 38 args hp k) := by
  intro args hp k h
  unfold sTokR at h
  split at h
  · split at h
    · rename_i v0 v1 s i e0 e1
      obtain ⟨⟨h0, h1, h2⟩, hk⟩ := h
      have ei : ((i.toNat : Nat) : Int) = i := by omega
      have t := rtok_run s i.toNat (by omega) (by omega)
      rw [ei, tok_four] at t
      refine sum_d (zqD t zqO) rfl ⟨zqo e0, zqk e1, trivial⟩ rfl rfl hk
    · exact h.elim
  · exact h.elim
end
end Go.Proofs.YtekioipmhhcbhaaGreatDoor
set_option maxRecDepth 20000
namespace Go.Proofs.YtekioipmhhcbhaaGreatDoor
open Go Go.Z Go.Q Go.W6
open Go.Y hiding KE KK KR go Task go_sound
noncomputable section
theorem getD_cut {s : List UInt8} {i j x : Nat} (h1 : i ≤ x) (h2 : x < j) (h3 : j ≤ s.length) : s.getD x 0 ∈ cutF s i j := by
  unfold cutF
  rw [List.mem_iff_getElem?]
  refine ⟨x - i, ?_⟩
  rw [List.getElem?_drop, show i + (x - i) = x by omega, List.getElem?_take_of_lt h2, List.getD_eq_getElem?_getD, List.getElem?_eq_getElem (by omega)]
  rfl
theorem endF_mem {p : UInt8 → Bool} {s : List UInt8} : ∀ (n i x : Nat), s.length - i ≤ n → i ≤ x → x < endF p s i → p (s.getD x 0) = true := by
  intro n
  induction n with
  | zero =>
    intro i x h1 h2 h3
    rw [zxe (zxE (by omega))] at h3
    omega
  | succ n ih =>
    intro i x h1 h2 h3
    cases hi : isAt p s i with
    | false => rw [zxe hi] at h3; omega
    | true =>
      obtain ⟨g1, g2⟩ := zqI hi
      rw [g2] at h3
      rcases Nat.eq_or_lt_of_le h2 with rfl | h4
      · rw [zqv g1] at hi; exact hi
      · exact ih (i + 1) x (by omega) (by omega) h3
theorem lc_flat {s : List UInt8} {i : Nat} : ∀ {j : Nat}, i ≤ j → (∀ x, i ≤ x → x < j → (s.getD x 0).toNat ≠ 10) → (lc s j).1 = (lc s i).1 ∧ (lc s j).2 = (lc s i).2 + (j - i)
  | 0, h, _ => by
    have : i = 0 := by omega
    subst this; exact ⟨rfl, rfl⟩
  | j + 1, h, hx => by
    rcases Nat.eq_or_lt_of_le h with rfl | h4
    · exact ⟨rfl, by omega⟩
    · obtain ⟨g1, g2⟩ := lc_flat (j := j) (by omega) fun x a b => hx x a (by omega)
      rw [lc_step, if_neg (hx j (by omega) (by omega))]
      exact ⟨g1, by show (lc s j).2 + 1 = _; omega⟩
theorem text_flat {s : List UInt8} : ∀ (n p : Nat) (acc : List UInt8) (bad : Int) (b : List UInt8) (q : Nat) (z : Int), s.length - p ≤ n → textL (s.drop p) p acc bad = some (b, q, z) → ∀ x, p ≤ x → x ≤ q → (s.getD x 0).toNat ≠ 10 := by
  intro n
  induction n with
  | zero =>
    intro p acc bad b q z h1 h2
    rw [zki (by omega)] at h2; cases h2
  | succ n ih =>
    intro p acc bad b q z h1 h2 x hx hq
    rcases Nat.lt_or_ge p s.length with hp | hp
    · by_cases h10 : (s.getD p 0).toNat = 10
      · rw [text_nl hp h10] at h2; cases h2
      · by_cases h34 : (s.getD p 0).toNat = 34
        · cases hn : isAt (clsB 4) s (p + 1) with
          | false =>
            rw [zvf hp h34 hn] at h2
            cases h2
            have : x = p := by omega
            subst this; exact h10
          | true =>
            rw [text_two hp h34 hn] at h2
            obtain ⟨g1, g2⟩ := quo_lt hn
            rcases Nat.eq_or_lt_of_le hx with rfl | hx1
            · exact h10
            · rcases Nat.eq_or_lt_of_le (show p + 1 ≤ x from hx1) with rfl | hx2
              · rw [g2]; decide
              · exact ih (p + 2) _ _ b q z (by omega) h2 x hx2 hq
        · rw [text_on hp h10 h34] at h2
          rcases Nat.eq_or_lt_of_le hx with rfl | hx1
          · exact h10
          · exact ih (p + 1) _ _ b q z (by omega) h2 x hx1 hq
    · rw [zki hp] at h2; cases h2
theorem textL_bad {l : List UInt8} {p : Nat} {b : List UInt8} {q : Nat} {z : Int} : ∀ {acc : List UInt8} {bad : Int}, textL l p acc bad = some (b, q, z) → z = bad ∨ (p : Int) ≤ z := by
  suffices h : ∀ (n : Nat) (l : List UInt8) (p : Nat) (acc : List UInt8) (bad : Int), l.length ≤ n → textL l p acc bad = some (b, q, z) → z = bad ∨ (p : Int) ≤ z from fun {acc bad} e => h l.length l p acc bad (Nat.le_refl _) e
  intro n
  induction n with
  | zero =>
    intro l p acc bad h1 h2
    cases l with
    | nil => cases h2
    | cons c l => simp at h1
  | succ n ih =>
    intro l p acc bad h1 h2
    cases l with
    | nil => cases h2
    | cons c l =>
      simp only [List.length_cons] at h1
      unfold textL at h2
      split at h2
      · cases h2
      · split at h2
        · split at h2
          · rename_i d l'
            simp only [List.length_cons] at h1
            split at h2
            · rcases ih l' (p + 2) _ bad (by omega) h2 with h | h
              · exact .inl h
              · exact .inr (by omega)
            · cases h2; exact .inl rfl
          · cases h2; exact .inl rfl
        · rcases ih l (p + 1) _ _ (by omega) h2 with h | h
          · split at h
            · exact .inr (by omega)
            · exact .inl h
          · exact .inr (by omega)
def signHd (w : List UInt8) : Bool := match w with
  | b :: _ => signB b
  | [] => false
theorem sign_hd {w : List UInt8} (h : w ∈ signsL) : signHd w = true := (by decide : ∀ x ∈ signsL, signHd x = true) w h
theorem sign_10 {w : List UInt8} (h : w ∈ signsL) {b : UInt8} (hb : b ∈ w) : b.toNat ≠ 10 := (by decide : ∀ x ∈ signsL, ∀ b ∈ x, b.toNat ≠ 10) w h b hb
theorem cut_hd {s : List UInt8} {i j : Nat} (h1 : i < j) (h2 : i < s.length) : ∃ l, cutF s i j = s.getD i 0 :: l := by
  unfold cutF
  have hl : i < (s.take j).length := by rw [List.length_take]; omega
  refine ⟨(s.take j).drop (i + 1), ?_⟩
  rw [List.drop_eq_getElem_cons hl, List.getElem_take, List.getD_eq_getElem?_getD, List.getElem?_eq_getElem h2]
  rfl
theorem signR_no {s : List UInt8} {i : Nat} (hi : i < s.length) (h : signB (s.getD i 0) = false) : signR s i = [] := by
  have no : ∀ j, i < j → cutF s i j ∉ signsL := by
    intro j hj hm
    obtain ⟨l, e⟩ := cut_hd hj hi
    have := sign_hd hm
    rw [e] at this
    have : signB (s.getD i 0) = true := this
    rw [h] at this; cases this
  unfold signR
  rw [if_neg (fun x => no _ (by omega) x.2), if_neg (no _ (by omega))]
theorem signR_in {s : List UInt8} {i : Nat} (hm : cutF s i (i + signN s i) ∈ signsL) : signR s i = cutF s i (i + signN s i) := by
  unfold signR
  unfold signN at hm ⊢
  split
  · rfl
  · rename_i h
    rw [if_neg h] at hm
    rw [if_pos hm]
theorem signR_out {s : List UInt8} {i : Nat} (hm : cutF s i (i + signN s i) ∉ signsL) : signR s i = [] := by
  unfold signR
  unfold signN at hm
  split at hm
  · rename_i h; exact absurd h.2 hm
  · rename_i h; rw [if_neg h, if_neg hm]
theorem signN_le {s : List UInt8} {i : Nat} (hi : i < s.length) : 1 ≤ signN s i ∧ i + signN s i ≤ s.length := by
  unfold signN
  split <;> omega
theorem ref_err {s : List UInt8} {i e : Nat} (hi : i < s.length) (h : tokF s i = .error e) : fltVal s i = ((e : Int), (i : Int)) ∧ e ≠ 0 := by
  unfold tokF at h
  unfold fltVal
  dsimp only at h
  split at h
  · rename_i hl
    rw [if_pos hl]
    split at h
    · cases h
    · split at h
      · rename_i h24
        cases h
        rw [low_len, zxQ (j := nameF s i) (zxw (p := restB) (Nat.le_of_lt hi)).2] at h24
        have en : endF restB s i = nameF s i := rfl
        rw [if_pos (by omega)]
        exact ⟨rfl, by decide⟩
      · cases h
  · rename_i hl
    rw [if_neg hl]
    split at h
    · rename_i hd
      rw [if_pos hd]
      split at h
      · cases h
      · rename_i hn
        cases h
        unfold numE
        rw [hn]
        exact ⟨rfl, by decide⟩
    · rename_i hd
      rw [if_neg hd]
      split at h
      · rename_i h34
        rw [if_pos h34]
        unfold textF at h
        cases hT : textL (s.drop (i + 1)) (i + 1) [] (-1) with
        | none => rw [hT] at h; cases h; exact ⟨rfl, by decide⟩
        | some x =>
          obtain ⟨b, p, bad⟩ := x
          rw [hT] at h
          dsimp only at h ⊢
          by_cases hb : 1000 < b.length
          · rw [if_pos hb] at h; cases h
            unfold fltE fltA
            rw [if_pos hb, if_pos hb]
            exact ⟨rfl, by decide⟩
          · rw [if_neg hb] at h; cases h
      · rename_i h34
        rw [if_neg h34]
        have fin : signR s i = [] → (if signR s i = [] then ((120 : Int), (i : Int)) else (0, 0)) = (((120 : Nat) : Int), (i : Int)) := fun h => by rw [if_pos h]; rfl
        split at h
        · split at h
          · cases h
          · rename_i hm
            cases h
            exact ⟨fin (signR_out hm), by decide⟩
        · rename_i hs
          cases h
          exact ⟨fin (signR_no hi (by simpa using hs)), by decide⟩
theorem ref_ok {s : List UInt8} {i : Nat} {x : TokR} (hi : i < s.length) (h : tokF s i = .ok x) :
    tokVal s i = tokA x.kind x.text i x.to ∧ (x.bad < 0 → (fltVal s i).1 = 0) ∧ (0 ≤ x.bad → fltVal s i = (120, x.bad) ∧ (i : Int) < x.bad) ∧ (∀ j, i ≤ j → j < x.to → (s.getD j 0).toNat ≠ 10) := by
  unfold tokF at h
  unfold tokVal fltVal
  dsimp only at h
  split at h
  · rename_i hl
    rw [if_pos hl, if_pos hl]
    have en : endF restB s i = nameF s i := rfl
    have hn : ∀ j, i ≤ j → j < nameF s i → (s.getD j 0).toNat ≠ 10 := by
      intro j h1 h2 h3
      have := endF_mem (p := restB) _ i j (Nat.le_refl _) h1 h2
      unfold restB letB digB at this
      rw [h3] at this
      exact absurd this (by decide)
    have hlen : (Go.Lib.toLowerA (cutF s i (nameF s i))).length = nameF s i - i := by rw [low_len, zxQ (j := nameF s i) (zxw (p := restB) (Nat.le_of_lt hi)).2]
    split at h
    · rename_i hk
      cases h
      have := keys_24 hk
      rw [hlen] at this
      rw [if_pos hk, if_neg (by omega)]
      exact ⟨rfl, fun _ => rfl, fun h => absurd h (show ¬ (0 : Int) ≤ -1 by decide), hn⟩
    · rename_i hk
      split at h
      · cases h
      · rename_i h24
        cases h
        rw [hlen] at h24
        rw [if_neg hk, if_neg h24]
        exact ⟨rfl, fun _ => rfl, fun h => absurd h (show ¬ (0 : Int) ≤ -1 by decide), hn⟩
  · rename_i hl
    rw [if_neg hl, if_neg hl]
    split at h
    · rename_i hd
      rw [if_pos hd, if_pos hd]
      split at h
      · rename_i k t e hN
        cases h
        have hT := numT_ok hN
        rw [hT]
        have hE : numE s i = 0 := by unfold numE; rw [hN]
        refine ⟨rfl, fun _ => hE, fun h => absurd h (show ¬ (0 : Int) ≤ -1 by decide), ?_⟩
        intro j h1 h2 h3
        have dig : ∀ a, a ≤ j → j < digF s a → False := by
          intro a h4 h5
          have := endF_mem (p := digB) _ a j (Nat.le_refl _) h4 h5
          unfold digB at this
          rw [h3] at this
          exact absurd this (by decide)
        unfold numT at hT
        by_cases hdot : dotF s i = false
        · rw [if_pos hdot] at hT
          injection hT with _ hT
          injection hT with _ hT
          exact dig i h1 (by rw [hT]; exact h2)
        · rw [if_neg hdot] at hT
          injection hT with _ hT
          injection hT with _ hT
          rcases Nat.lt_or_ge j (digF s i) with h4 | h4
          · exact dig i h1 h4
          · rcases Nat.eq_or_lt_of_le h4 with h5 | h5
            · unfold dotF at hdot
              rw [h5] at hdot
              have : isAt (fun b => b.toNat == 46) s j = false := by
                rcases Nat.lt_or_ge j s.length with h6 | h6
                · rw [zqv h6, h3]; rfl
                · exact zxE h6
              rw [this] at hdot
              exact hdot rfl
            · exact dig (digF s i + 1) h5 (by rw [hT]; exact h2)
      · cases h
    · rename_i hd
      rw [if_neg hd, if_neg hd]
      split at h
      · rename_i h34
        rw [if_pos h34, if_pos h34]
        unfold textF at h
        cases hT : textL (s.drop (i + 1)) (i + 1) [] (-1) with
        | none => rw [hT] at h; cases h
        | some y =>
          obtain ⟨b, p, bad⟩ := y
          rw [hT] at h
          dsimp only at h ⊢
          by_cases hb : 1000 < b.length
          · rw [if_pos hb] at h; cases h
          · rw [if_neg hb] at h; cases h
            unfold fltE fltA
            rw [if_neg hb, if_neg hb]
            refine ⟨by push_cast; rfl, fun h => ?_, fun h => ⟨?_, ?_⟩, ?_⟩
            · dsimp only at h ⊢
              rw [if_neg (by omega)]
            · dsimp only at h ⊢
              rw [if_pos h, if_pos h]
            · dsimp only at h ⊢
              rcases textL_bad hT with h1 | h1 <;> omega
            · intro j h1 h2
              rcases Nat.eq_or_lt_of_le h1 with rfl | h3
              · rw [h34]; decide
              · exact text_flat _ _ _ _ _ _ _ (Nat.le_refl _) hT j h3 (by dsimp only at h2; omega)
      · rename_i h34
        rw [if_neg h34, if_neg h34]
        split at h
        · split at h
          · rename_i hm
            cases h
            have hN := signN_le hi
            rw [signR_in hm]
            have hne : cutF s i (i + signN s i) ≠ [] := by
              obtain ⟨l, e⟩ := cut_hd (j := i + signN s i) (by omega) hi
              rw [e]; simp
            rw [if_neg hne, if_neg hne]
            refine ⟨?_, fun _ => rfl, fun h => absurd h (show ¬ (0 : Int) ≤ -1 by decide), ?_⟩
            · rw [zxQ hN.2]
              dsimp only
              congr 1
              omega
            · intro j h1 h2
              exact sign_10 hm (getD_cut h1 h2 hN.2)
          · cases h
        · cases h
end
end Go.Proofs.YtekioipmhhcbhaaGreatDoor
