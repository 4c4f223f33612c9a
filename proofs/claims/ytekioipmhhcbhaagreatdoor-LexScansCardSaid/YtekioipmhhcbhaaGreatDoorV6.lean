/- The reference of chapter 6: Scan, its loop as a summary. -/
import Derived.Test.YtekioipmhhcbhaaGreatDoorV5
set_option linter.unusedVariables false
set_option linter.unusedSimpArgs false
namespace Go.Proofs.YtekioipmhhcbhaaGreatDoor
open Go Go.Z Go.Q Go.W6
open Go.Y hiding KE KK KR go Task go_sound
noncomputable section
abbrev tsR : List Nat := [0, 2, 3, 4, 5, 6, 7, 8]
def leR (s : List UInt8) (a e : Int) (v : V) (l st i : Int) : List V := [.sstr s, .nils, .sint .i64 a, .sint .i64 e, v, .sint .i64 l, .sint .i64 st, .sint .i64 i]
def lScanR (fi : FI) (ds : List DV) (env : Tr V) (hp : Mem) (k : KK) : Prop := atV 92 0 [0] [] fi ds hp fun rc => match pk tsR env with
  | [some v0, some .nils, some v3, some v4, some .nils, some v6, some v7, some v8] => match strOf v0, int64 v3, int64 v4, int64 v6, int64 v7, int64 v8 with
    | some s, some a, some e, some l, some st, some i => (a = 0 ∧ e = 0 ∧ l = 1 ∧ st = 0 ∧ i = 0 ∧ s.length ≤ 20000) ∧
        (zqy s = .done [] → ∀ l st i : Int, k (.exit 0) [] (ofE (tsR.zip (leR s 0 0 .nils l st i))) ⟨1, ofM ([].zip [] ++ [].zip rc), hp.ro⟩) ∧
        (∀ (t : Tok) (m : List Tok), zqy s = .done (t :: m) → ∀ l st i : Int, k (.exit 0) [] (ofE (tsR.zip (leR s 0 0 (.ssl 0 0 (m.length + 1) 6) l st i))) ⟨1, ofM ([0].zip [.rows ((t :: m).map (rowTok s)) shTok 30] ++ [].zip rc), hp.ro⟩) ∧
        (∀ (a : Int) (e : Nat), zqy s = .err a e → ∀ (v : V) (l st i : Int), k .ret [] (ofE (tsR.zip (leR s a e v l st i))) ⟨1, ofM ([].zip [] ++ [].zip rc), hp.ro⟩ ∧ k .ret [] (ofE (tsR.zip (leR s a e v l st i))) ⟨3, ofM ([].zip [] ++ [].zip rc), hp.ro⟩)
    | _, _, _, _, _, _ => False
  | _ => False
end
end Go.Proofs.YtekioipmhhcbhaaGreatDoor
set_option maxRecDepth 20000
namespace Go.Proofs.YtekioipmhhcbhaaGreatDoor
open Go Go.Z Go.Q Go.W6
open Go.Y hiding KE KK KR go Task go_sound
noncomputable section
theorem r_scan0 (s : List UInt8) (l st i : Int) (N : O → List (Option V) → Nat → List (Option Chunk) → Prop) : Go.Q.go Tryz.prog ⟨⟨.nil, [], []⟩, [(37, sNote), (38, sTokR)], []⟩ 200 (.code ⟨92, none⟩ (lp Tryz.prog 9 0) [] (ofE (tsR.zip (leR s 0 0 .nils l st i))) ⟨1, ofMo ([].zip []), []⟩ (cutM tsR [0,1,2,3,4] N)) =
  (True ∧ True ∧ (decide (i < (s.length : Int)) = true → (0 ≤ i ∧ i < (s.length : Int)) ∧ True ∧ (decide ((↑(s.getD i.toNat 0).toNat : Int) = 10) = true → (-9223372036854775808 ≤ l + 1 ∧ l + 1 ≤ 9223372036854775807) ∧ (-9223372036854775808 ≤ i + 1 ∧ i + 1 ≤ 9223372036854775807) ∧ True ∧ (decide ((↑(s.getD i.toNat 0).toNat : Int) = 10) = true → (-9223372036854775808 ≤ i + 1 ∧ i + 1 ≤ 9223372036854775807) ∧ N O.normal [some (.sstr s), some .nils, some (.sint .i64 0), some (.sint .i64 0), some .nils, some (.sint .i64 (l + 1)), some (.sint .i64 (i + 1)), some (.sint .i64 (i + 1))] 1 [none, none, none, none, none]) ∧ (decide ((↑(s.getD i.toNat 0).toNat : Int) = 10) = false → True ∧ (decide ((↑(s.getD i.toNat 0).toNat : Int) = 32) = true → (-9223372036854775808 ≤ i + 1 ∧ i + 1 ≤ 9223372036854775807) ∧ N O.normal [some (.sstr s), some .nils, some (.sint .i64 0), some (.sint .i64 0), some .nils, some (.sint .i64 (l + 1)), some (.sint .i64 (i + 1)), some (.sint .i64 (i + 1))] 1 [none, none, none, none, none]) ∧ (decide ((↑(s.getD i.toNat 0).toNat : Int) = 32) = false → True ∧ (decide ((↑(s.getD i.toNat 0).toNat : Int) = 36) = true → (0 ≤ i ∧ i ≤ (s.length : Int) ∧ (s.length : Int) ≤ 20000) ∧ True ∧ (decide (0 ≤ zqi s i.toNat) = true → N O.ret [some (.sstr s), some .nils, some (.sint .i64 (zqi s i.toNat)), some (.int .i64 120), some .nils, some (.sint .i64 (l + 1)), some (.sint .i64 (i + 1)), some (.sint .i64 i)] 1 [none, none, none, none, none]) ∧ (decide (0 ≤ zqi s i.toNat) = false → N O.normal [some (.sstr s), some .nils, some (.sint .i64 0), some (.sint .i64 0), some .nils, some (.sint .i64 (l + 1)), some (.sint .i64 (i + 1)), some (.sint .i64 (↑(endF noNl s i.toNat) : Int))] 1 [none, none, none, none, none])) ∧ (decide ((↑(s.getD i.toNat 0).toNat : Int) = 36) = false → (0 ≤ i ∧ i < (s.length : Int) ∧ (s.length : Int) ≤ 20000) ∧ True ∧ ((!decide ((fltVal s i.toNat).fst = 0)) = true → True ∧ (decide ((fltVal s i.toNat).snd = i) = true → N O.ret [some (.sstr s), some .nils, some (.sint .i64 (fltVal s i.toNat).snd), some (.sint .i64 (fltVal s i.toNat).fst), some .nils, some (.sint .i64 (l + 1)), some (.sint .i64 (i + 1)), some (.sint .i64 i)] 3 [none, some (.cells [.sint .i64 (tkK s i.toNat), .sstr (tkT s i.toNat), .sint .i64 (tkA s i.toNat), .sint .i64 (tkE s i.toNat), .sint .i64 0, .sint .i64 0] 30 6), some (.cells [.sint .i64 (fltVal s i.toNat).fst, .sint .i64 (fltVal s i.toNat).snd] 63 2), none, none]) ∧ (decide ((fltVal s i.toNat).snd = i) = false → N O.ret [some (.sstr s), some .nils, some (.sint .i64 (fltVal s i.toNat).snd), some (.sint .i64 (fltVal s i.toNat).fst), some .nils, some (.sint .i64 (l + 1)), some (.sint .i64 (i + 1)), some (.sint .i64 i)] 3 [none, some (.cells [.sint .i64 (tkK s i.toNat), .sstr (tkT s i.toNat), .sint .i64 (tkA s i.toNat), .sint .i64 (tkE s i.toNat), .sint .i64 0, .sint .i64 0] 30 6), some (.cells [.sint .i64 (fltVal s i.toNat).fst, .sint .i64 (fltVal s i.toNat).snd] 63 2), none, none])) ∧ ((!decide ((fltVal s i.toNat).fst = 0)) = false → (-9223372036854775808 ≤ i - (i + 1) ∧ i - (i + 1) ≤ 9223372036854775807) ∧ (-9223372036854775808 ≤ i - (i + 1) + 1 ∧ i - (i + 1) + 1 ≤ 9223372036854775807) ∧ N O.normal [some (.sstr s), some .nils, some (.sint .i64 0), some (.sint .i64 0), some (.sl 4 0 0 1 none), some (.sint .i64 (l + 1)), some (.sint .i64 (i + 1)), some (.sint .i64 (tkE s i.toNat))] 5 [none, some (.cells [.sint .i64 (tkK s i.toNat), .sstr (tkT s i.toNat), .sint .i64 (tkA s i.toNat), .sint .i64 (tkE s i.toNat), .sint .i64 (l + 1), .sint .i64 (i - (i + 1) + 1)] 30 6), some (.cells [.sint .i64 (fltVal s i.toNat).fst, .sint .i64 (fltVal s i.toNat).snd] 63 2), some (.cells [.sint .i64 (tkK s i.toNat), .sstr (tkT s i.toNat), .sint .i64 (tkA s i.toNat), .sint .i64 (tkE s i.toNat), .sint .i64 (l + 1), .sint .i64 (i - (i + 1) + 1)] 30 6), some (.cells [.sint .i64 (tkK s i.toNat), .sstr (tkT s i.toNat), .sint .i64 (tkA s i.toNat), .sint .i64 (tkE s i.toNat), .sint .i64 (l + 1), .sint .i64 (i - (i + 1) + 1)] 30 6)]))))) ∧ (decide ((↑(s.getD i.toNat 0).toNat : Int) = 10) = false → True ∧ (decide ((↑(s.getD i.toNat 0).toNat : Int) = 10) = true → (-9223372036854775808 ≤ i + 1 ∧ i + 1 ≤ 9223372036854775807) ∧ N O.normal [some (.sstr s), some .nils, some (.sint .i64 0), some (.sint .i64 0), some .nils, some (.sint .i64 l), some (.sint .i64 st), some (.sint .i64 (i + 1))] 1 [none, none, none, none, none]) ∧ (decide ((↑(s.getD i.toNat 0).toNat : Int) = 10) = false → True ∧ (decide ((↑(s.getD i.toNat 0).toNat : Int) = 32) = true → (-9223372036854775808 ≤ i + 1 ∧ i + 1 ≤ 9223372036854775807) ∧ N O.normal [some (.sstr s), some .nils, some (.sint .i64 0), some (.sint .i64 0), some .nils, some (.sint .i64 l), some (.sint .i64 st), some (.sint .i64 (i + 1))] 1 [none, none, none, none, none]) ∧ (decide ((↑(s.getD i.toNat 0).toNat : Int) = 32) = false → True ∧ (decide ((↑(s.getD i.toNat 0).toNat : Int) = 36) = true → (0 ≤ i ∧ i ≤ (s.length : Int) ∧ (s.length : Int) ≤ 20000) ∧ True ∧ (decide (0 ≤ zqi s i.toNat) = true → N O.ret [some (.sstr s), some .nils, some (.sint .i64 (zqi s i.toNat)), some (.int .i64 120), some .nils, some (.sint .i64 l), some (.sint .i64 st), some (.sint .i64 i)] 1 [none, none, none, none, none]) ∧ (decide (0 ≤ zqi s i.toNat) = false → N O.normal [some (.sstr s), some .nils, some (.sint .i64 0), some (.sint .i64 0), some .nils, some (.sint .i64 l), some (.sint .i64 st), some (.sint .i64 (↑(endF noNl s i.toNat) : Int))] 1 [none, none, none, none, none])) ∧ (decide ((↑(s.getD i.toNat 0).toNat : Int) = 36) = false → (0 ≤ i ∧ i < (s.length : Int) ∧ (s.length : Int) ≤ 20000) ∧ True ∧ ((!decide ((fltVal s i.toNat).fst = 0)) = true → True ∧ (decide ((fltVal s i.toNat).snd = i) = true → N O.ret [some (.sstr s), some .nils, some (.sint .i64 (fltVal s i.toNat).snd), some (.sint .i64 (fltVal s i.toNat).fst), some .nils, some (.sint .i64 l), some (.sint .i64 st), some (.sint .i64 i)] 3 [none, some (.cells [.sint .i64 (tkK s i.toNat), .sstr (tkT s i.toNat), .sint .i64 (tkA s i.toNat), .sint .i64 (tkE s i.toNat), .sint .i64 0, .sint .i64 0] 30 6), some (.cells [.sint .i64 (fltVal s i.toNat).fst, .sint .i64 (fltVal s i.toNat).snd] 63 2), none, none]) ∧ (decide ((fltVal s i.toNat).snd = i) = false → N O.ret [some (.sstr s), some .nils, some (.sint .i64 (fltVal s i.toNat).snd), some (.sint .i64 (fltVal s i.toNat).fst), some .nils, some (.sint .i64 l), some (.sint .i64 st), some (.sint .i64 i)] 3 [none, some (.cells [.sint .i64 (tkK s i.toNat), .sstr (tkT s i.toNat), .sint .i64 (tkA s i.toNat), .sint .i64 (tkE s i.toNat), .sint .i64 0, .sint .i64 0] 30 6), some (.cells [.sint .i64 (fltVal s i.toNat).fst, .sint .i64 (fltVal s i.toNat).snd] 63 2), none, none])) ∧ ((!decide ((fltVal s i.toNat).fst = 0)) = false → (-9223372036854775808 ≤ i - st ∧ i - st ≤ 9223372036854775807) ∧ (-9223372036854775808 ≤ i - st + 1 ∧ i - st + 1 ≤ 9223372036854775807) ∧ N O.normal [some (.sstr s), some .nils, some (.sint .i64 0), some (.sint .i64 0), some (.sl 4 0 0 1 none), some (.sint .i64 l), some (.sint .i64 st), some (.sint .i64 (tkE s i.toNat))] 5 [none, some (.cells [.sint .i64 (tkK s i.toNat), .sstr (tkT s i.toNat), .sint .i64 (tkA s i.toNat), .sint .i64 (tkE s i.toNat), .sint .i64 l, .sint .i64 (i - st + 1)] 30 6), some (.cells [.sint .i64 (fltVal s i.toNat).fst, .sint .i64 (fltVal s i.toNat).snd] 63 2), some (.cells [.sint .i64 (tkK s i.toNat), .sstr (tkT s i.toNat), .sint .i64 (tkA s i.toNat), .sint .i64 (tkE s i.toNat), .sint .i64 l, .sint .i64 (i - st + 1)] 30 6), some (.cells [.sint .i64 (tkK s i.toNat), .sstr (tkT s i.toNat), .sint .i64 (tkA s i.toNat), .sint .i64 (tkE s i.toNat), .sint .i64 l, .sint .i64 (i - st + 1)] 30 6)])))))) ∧ (decide (i < (s.length : Int)) = false → N (O.exit 0) [some (.sstr s), some .nils, some (.sint .i64 0), some (.sint .i64 0), some .nils, some (.sint .i64 l), some (.sint .i64 st), some (.sint .i64 i)] 1 [none, none, none, none, none])) := by kernel_rfl
theorem r_scan1 (s : List UInt8) (rs : List (List V)) (n : Nat) (l st i : Int) (N : O → List (Option V) → Nat → List (Option Chunk) → Prop) : Go.Q.go Tryz.prog ⟨⟨.nil, [], []⟩, [(37, sNote), (38, sTokR)], []⟩ 200 (.code ⟨92, none⟩ (lp Tryz.prog 9 0) [] (ofE (tsR.zip (leR s 0 0 (.ssl 0 0 n 6) l st i))) ⟨1, ofMo ([0].zip [some (.rows rs shTok 30)]), []⟩ (cutM tsR [0,1,2,3,4] N)) =
  (True ∧ True ∧ (decide (i < (s.length : Int)) = true → (0 ≤ i ∧ i < (s.length : Int)) ∧ True ∧ (decide ((↑(s.getD i.toNat 0).toNat : Int) = 10) = true → (-9223372036854775808 ≤ l + 1 ∧ l + 1 ≤ 9223372036854775807) ∧ (-9223372036854775808 ≤ i + 1 ∧ i + 1 ≤ 9223372036854775807) ∧ True ∧ (decide ((↑(s.getD i.toNat 0).toNat : Int) = 10) = true → (-9223372036854775808 ≤ i + 1 ∧ i + 1 ≤ 9223372036854775807) ∧ N O.normal [some (.sstr s), some .nils, some (.sint .i64 0), some (.sint .i64 0), some (.ssl 0 0 n 6), some (.sint .i64 (l + 1)), some (.sint .i64 (i + 1)), some (.sint .i64 (i + 1))] 1 [some (.rows rs shTok 30), none, none, none, none]) ∧ (decide ((↑(s.getD i.toNat 0).toNat : Int) = 10) = false → True ∧ (decide ((↑(s.getD i.toNat 0).toNat : Int) = 32) = true → (-9223372036854775808 ≤ i + 1 ∧ i + 1 ≤ 9223372036854775807) ∧ N O.normal [some (.sstr s), some .nils, some (.sint .i64 0), some (.sint .i64 0), some (.ssl 0 0 n 6), some (.sint .i64 (l + 1)), some (.sint .i64 (i + 1)), some (.sint .i64 (i + 1))] 1 [some (.rows rs shTok 30), none, none, none, none]) ∧ (decide ((↑(s.getD i.toNat 0).toNat : Int) = 32) = false → True ∧ (decide ((↑(s.getD i.toNat 0).toNat : Int) = 36) = true → (0 ≤ i ∧ i ≤ (s.length : Int) ∧ (s.length : Int) ≤ 20000) ∧ True ∧ (decide (0 ≤ zqi s i.toNat) = true → N O.ret [some (.sstr s), some .nils, some (.sint .i64 (zqi s i.toNat)), some (.int .i64 120), some (.ssl 0 0 n 6), some (.sint .i64 (l + 1)), some (.sint .i64 (i + 1)), some (.sint .i64 i)] 1 [some (.rows rs shTok 30), none, none, none, none]) ∧ (decide (0 ≤ zqi s i.toNat) = false → N O.normal [some (.sstr s), some .nils, some (.sint .i64 0), some (.sint .i64 0), some (.ssl 0 0 n 6), some (.sint .i64 (l + 1)), some (.sint .i64 (i + 1)), some (.sint .i64 (↑(endF noNl s i.toNat) : Int))] 1 [some (.rows rs shTok 30), none, none, none, none])) ∧ (decide ((↑(s.getD i.toNat 0).toNat : Int) = 36) = false → (0 ≤ i ∧ i < (s.length : Int) ∧ (s.length : Int) ≤ 20000) ∧ True ∧ ((!decide ((fltVal s i.toNat).fst = 0)) = true → True ∧ (decide ((fltVal s i.toNat).snd = i) = true → N O.ret [some (.sstr s), some .nils, some (.sint .i64 (fltVal s i.toNat).snd), some (.sint .i64 (fltVal s i.toNat).fst), some (.ssl 0 0 n 6), some (.sint .i64 (l + 1)), some (.sint .i64 (i + 1)), some (.sint .i64 i)] 3 [some (.rows rs shTok 30), some (.cells [.sint .i64 (tkK s i.toNat), .sstr (tkT s i.toNat), .sint .i64 (tkA s i.toNat), .sint .i64 (tkE s i.toNat), .sint .i64 0, .sint .i64 0] 30 6), some (.cells [.sint .i64 (fltVal s i.toNat).fst, .sint .i64 (fltVal s i.toNat).snd] 63 2), none, none]) ∧ (decide ((fltVal s i.toNat).snd = i) = false → True ∧ True ∧ (decide ((n : Int) < 6000) = true → N O.ret [some (.sstr s), some .nils, some (.sint .i64 (fltVal s i.toNat).snd), some (.sint .i64 (fltVal s i.toNat).fst), some (.ssl 0 0 n 6), some (.sint .i64 (l + 1)), some (.sint .i64 (i + 1)), some (.sint .i64 i)] 3 [some (.rows rs shTok 30), some (.cells [.sint .i64 (tkK s i.toNat), .sstr (tkT s i.toNat), .sint .i64 (tkA s i.toNat), .sint .i64 (tkE s i.toNat), .sint .i64 0, .sint .i64 0] 30 6), some (.cells [.sint .i64 (fltVal s i.toNat).fst, .sint .i64 (fltVal s i.toNat).snd] 63 2), none, none]) ∧ (decide ((n : Int) < 6000) = false → True ∧ True ∧ (decide (6000 ≤ (n : Int)) = true → N O.ret [some (.sstr s), some .nils, some (.sint .i64 i), some (.int .i64 3), some (.ssl 0 0 n 6), some (.sint .i64 (l + 1)), some (.sint .i64 (i + 1)), some (.sint .i64 i)] 3 [some (.rows rs shTok 30), some (.cells [.sint .i64 (tkK s i.toNat), .sstr (tkT s i.toNat), .sint .i64 (tkA s i.toNat), .sint .i64 (tkE s i.toNat), .sint .i64 0, .sint .i64 0] 30 6), some (.cells [.sint .i64 (fltVal s i.toNat).fst, .sint .i64 (fltVal s i.toNat).snd] 63 2), none, none]) ∧ (decide (6000 ≤ (n : Int)) = false → (-9223372036854775808 ≤ i - (i + 1) ∧ i - (i + 1) ≤ 9223372036854775807) ∧ (-9223372036854775808 ≤ i - (i + 1) + 1 ∧ i - (i + 1) + 1 ≤ 9223372036854775807) ∧ ((0 < n ∧ n ≤ rs.length) ∧ True ∧ (n + 1) * 56 ≤ 140737488355328 ∧ 0 < n + 1) ∧ N O.normal [some (.sstr s), some .nils, some (.sint .i64 0), some (.sint .i64 0), some (.ssl 4 0 (n + 1) 6), some (.sint .i64 (l + 1)), some (.sint .i64 (i + 1)), some (.sint .i64 (tkE s i.toNat))] 5 [none, some (.cells [.sint .i64 (tkK s i.toNat), .sstr (tkT s i.toNat), .sint .i64 (tkA s i.toNat), .sint .i64 (tkE s i.toNat), .sint .i64 (l + 1), .sint .i64 (i - (i + 1) + 1)] 30 6), some (.cells [.sint .i64 (fltVal s i.toNat).fst, .sint .i64 (fltVal s i.toNat).snd] 63 2), some (.cells [.sint .i64 (tkK s i.toNat), .sstr (tkT s i.toNat), .sint .i64 (tkA s i.toNat), .sint .i64 (tkE s i.toNat), .sint .i64 (l + 1), .sint .i64 (i - (i + 1) + 1)] 30 6), some (.rows (List.take n rs ++ [[.sint .i64 (tkK s i.toNat), .sstr (tkT s i.toNat), .sint .i64 (tkA s i.toNat), .sint .i64 (tkE s i.toNat), .sint .i64 (l + 1), .sint .i64 (i - (i + 1) + 1)]]) shTok 30)])))) ∧ ((!decide ((fltVal s i.toNat).fst = 0)) = false → True ∧ True ∧ (decide (6000 ≤ (n : Int)) = true → N O.ret [some (.sstr s), some .nils, some (.sint .i64 i), some (.int .i64 3), some (.ssl 0 0 n 6), some (.sint .i64 (l + 1)), some (.sint .i64 (i + 1)), some (.sint .i64 i)] 3 [some (.rows rs shTok 30), some (.cells [.sint .i64 (tkK s i.toNat), .sstr (tkT s i.toNat), .sint .i64 (tkA s i.toNat), .sint .i64 (tkE s i.toNat), .sint .i64 0, .sint .i64 0] 30 6), some (.cells [.sint .i64 (fltVal s i.toNat).fst, .sint .i64 (fltVal s i.toNat).snd] 63 2), none, none]) ∧ (decide (6000 ≤ (n : Int)) = false → (-9223372036854775808 ≤ i - (i + 1) ∧ i - (i + 1) ≤ 9223372036854775807) ∧ (-9223372036854775808 ≤ i - (i + 1) + 1 ∧ i - (i + 1) + 1 ≤ 9223372036854775807) ∧ ((0 < n ∧ n ≤ rs.length) ∧ True ∧ (n + 1) * 56 ≤ 140737488355328 ∧ 0 < n + 1) ∧ N O.normal [some (.sstr s), some .nils, some (.sint .i64 0), some (.sint .i64 0), some (.ssl 4 0 (n + 1) 6), some (.sint .i64 (l + 1)), some (.sint .i64 (i + 1)), some (.sint .i64 (tkE s i.toNat))] 5 [none, some (.cells [.sint .i64 (tkK s i.toNat), .sstr (tkT s i.toNat), .sint .i64 (tkA s i.toNat), .sint .i64 (tkE s i.toNat), .sint .i64 (l + 1), .sint .i64 (i - (i + 1) + 1)] 30 6), some (.cells [.sint .i64 (fltVal s i.toNat).fst, .sint .i64 (fltVal s i.toNat).snd] 63 2), some (.cells [.sint .i64 (tkK s i.toNat), .sstr (tkT s i.toNat), .sint .i64 (tkA s i.toNat), .sint .i64 (tkE s i.toNat), .sint .i64 (l + 1), .sint .i64 (i - (i + 1) + 1)] 30 6), some (.rows (List.take n rs ++ [[.sint .i64 (tkK s i.toNat), .sstr (tkT s i.toNat), .sint .i64 (tkA s i.toNat), .sint .i64 (tkE s i.toNat), .sint .i64 (l + 1), .sint .i64 (i - (i + 1) + 1)]]) shTok 30)])))))) ∧ (decide ((↑(s.getD i.toNat 0).toNat : Int) = 10) = false → True ∧ (decide ((↑(s.getD i.toNat 0).toNat : Int) = 10) = true → (-9223372036854775808 ≤ i + 1 ∧ i + 1 ≤ 9223372036854775807) ∧ N O.normal [some (.sstr s), some .nils, some (.sint .i64 0), some (.sint .i64 0), some (.ssl 0 0 n 6), some (.sint .i64 l), some (.sint .i64 st), some (.sint .i64 (i + 1))] 1 [some (.rows rs shTok 30), none, none, none, none]) ∧ (decide ((↑(s.getD i.toNat 0).toNat : Int) = 10) = false → True ∧ (decide ((↑(s.getD i.toNat 0).toNat : Int) = 32) = true → (-9223372036854775808 ≤ i + 1 ∧ i + 1 ≤ 9223372036854775807) ∧ N O.normal [some (.sstr s), some .nils, some (.sint .i64 0), some (.sint .i64 0), some (.ssl 0 0 n 6), some (.sint .i64 l), some (.sint .i64 st), some (.sint .i64 (i + 1))] 1 [some (.rows rs shTok 30), none, none, none, none]) ∧ (decide ((↑(s.getD i.toNat 0).toNat : Int) = 32) = false → True ∧ (decide ((↑(s.getD i.toNat 0).toNat : Int) = 36) = true → (0 ≤ i ∧ i ≤ (s.length : Int) ∧ (s.length : Int) ≤ 20000) ∧ True ∧ (decide (0 ≤ zqi s i.toNat) = true → N O.ret [some (.sstr s), some .nils, some (.sint .i64 (zqi s i.toNat)), some (.int .i64 120), some (.ssl 0 0 n 6), some (.sint .i64 l), some (.sint .i64 st), some (.sint .i64 i)] 1 [some (.rows rs shTok 30), none, none, none, none]) ∧ (decide (0 ≤ zqi s i.toNat) = false → N O.normal [some (.sstr s), some .nils, some (.sint .i64 0), some (.sint .i64 0), some (.ssl 0 0 n 6), some (.sint .i64 l), some (.sint .i64 st), some (.sint .i64 (↑(endF noNl s i.toNat) : Int))] 1 [some (.rows rs shTok 30), none, none, none, none])) ∧ (decide ((↑(s.getD i.toNat 0).toNat : Int) = 36) = false → (0 ≤ i ∧ i < (s.length : Int) ∧ (s.length : Int) ≤ 20000) ∧ True ∧ ((!decide ((fltVal s i.toNat).fst = 0)) = true → True ∧ (decide ((fltVal s i.toNat).snd = i) = true → N O.ret [some (.sstr s), some .nils, some (.sint .i64 (fltVal s i.toNat).snd), some (.sint .i64 (fltVal s i.toNat).fst), some (.ssl 0 0 n 6), some (.sint .i64 l), some (.sint .i64 st), some (.sint .i64 i)] 3 [some (.rows rs shTok 30), some (.cells [.sint .i64 (tkK s i.toNat), .sstr (tkT s i.toNat), .sint .i64 (tkA s i.toNat), .sint .i64 (tkE s i.toNat), .sint .i64 0, .sint .i64 0] 30 6), some (.cells [.sint .i64 (fltVal s i.toNat).fst, .sint .i64 (fltVal s i.toNat).snd] 63 2), none, none]) ∧ (decide ((fltVal s i.toNat).snd = i) = false → True ∧ True ∧ (decide ((n : Int) < 6000) = true → N O.ret [some (.sstr s), some .nils, some (.sint .i64 (fltVal s i.toNat).snd), some (.sint .i64 (fltVal s i.toNat).fst), some (.ssl 0 0 n 6), some (.sint .i64 l), some (.sint .i64 st), some (.sint .i64 i)] 3 [some (.rows rs shTok 30), some (.cells [.sint .i64 (tkK s i.toNat), .sstr (tkT s i.toNat), .sint .i64 (tkA s i.toNat), .sint .i64 (tkE s i.toNat), .sint .i64 0, .sint .i64 0] 30 6), some (.cells [.sint .i64 (fltVal s i.toNat).fst, .sint .i64 (fltVal s i.toNat).snd] 63 2), none, none]) ∧ (decide ((n : Int) < 6000) = false → True ∧ True ∧ (decide (6000 ≤ (n : Int)) = true → N O.ret [some (.sstr s), some .nils, some (.sint .i64 i), some (.int .i64 3), some (.ssl 0 0 n 6), some (.sint .i64 l), some (.sint .i64 st), some (.sint .i64 i)] 3 [some (.rows rs shTok 30), some (.cells [.sint .i64 (tkK s i.toNat), .sstr (tkT s i.toNat), .sint .i64 (tkA s i.toNat), .sint .i64 (tkE s i.toNat), .sint .i64 0, .sint .i64 0] 30 6), some (.cells [.sint .i64 (fltVal s i.toNat).fst, .sint .i64 (fltVal s i.toNat).snd] 63 2), none, none]) ∧ (decide (6000 ≤ (n : Int)) = false → (-9223372036854775808 ≤ i - st ∧ i - st ≤ 9223372036854775807) ∧ (-9223372036854775808 ≤ i - st + 1 ∧ i - st + 1 ≤ 9223372036854775807) ∧ ((0 < n ∧ n ≤ rs.length) ∧ True ∧ (n + 1) * 56 ≤ 140737488355328 ∧ 0 < n + 1) ∧ N O.normal [some (.sstr s), some .nils, some (.sint .i64 0), some (.sint .i64 0), some (.ssl 4 0 (n + 1) 6), some (.sint .i64 l), some (.sint .i64 st), some (.sint .i64 (tkE s i.toNat))] 5 [none, some (.cells [.sint .i64 (tkK s i.toNat), .sstr (tkT s i.toNat), .sint .i64 (tkA s i.toNat), .sint .i64 (tkE s i.toNat), .sint .i64 l, .sint .i64 (i - st + 1)] 30 6), some (.cells [.sint .i64 (fltVal s i.toNat).fst, .sint .i64 (fltVal s i.toNat).snd] 63 2), some (.cells [.sint .i64 (tkK s i.toNat), .sstr (tkT s i.toNat), .sint .i64 (tkA s i.toNat), .sint .i64 (tkE s i.toNat), .sint .i64 l, .sint .i64 (i - st + 1)] 30 6), some (.rows (List.take n rs ++ [[.sint .i64 (tkK s i.toNat), .sstr (tkT s i.toNat), .sint .i64 (tkA s i.toNat), .sint .i64 (tkE s i.toNat), .sint .i64 l, .sint .i64 (i - st + 1)]]) shTok 30)])))) ∧ ((!decide ((fltVal s i.toNat).fst = 0)) = false → True ∧ True ∧ (decide (6000 ≤ (n : Int)) = true → N O.ret [some (.sstr s), some .nils, some (.sint .i64 i), some (.int .i64 3), some (.ssl 0 0 n 6), some (.sint .i64 l), some (.sint .i64 st), some (.sint .i64 i)] 3 [some (.rows rs shTok 30), some (.cells [.sint .i64 (tkK s i.toNat), .sstr (tkT s i.toNat), .sint .i64 (tkA s i.toNat), .sint .i64 (tkE s i.toNat), .sint .i64 0, .sint .i64 0] 30 6), some (.cells [.sint .i64 (fltVal s i.toNat).fst, .sint .i64 (fltVal s i.toNat).snd] 63 2), none, none]) ∧ (decide (6000 ≤ (n : Int)) = false → (-9223372036854775808 ≤ i - st ∧ i - st ≤ 9223372036854775807) ∧ (-9223372036854775808 ≤ i - st + 1 ∧ i - st + 1 ≤ 9223372036854775807) ∧ ((0 < n ∧ n ≤ rs.length) ∧ True ∧ (n + 1) * 56 ≤ 140737488355328 ∧ 0 < n + 1) ∧ N O.normal [some (.sstr s), some .nils, some (.sint .i64 0), some (.sint .i64 0), some (.ssl 4 0 (n + 1) 6), some (.sint .i64 l), some (.sint .i64 st), some (.sint .i64 (tkE s i.toNat))] 5 [none, some (.cells [.sint .i64 (tkK s i.toNat), .sstr (tkT s i.toNat), .sint .i64 (tkA s i.toNat), .sint .i64 (tkE s i.toNat), .sint .i64 l, .sint .i64 (i - st + 1)] 30 6), some (.cells [.sint .i64 (fltVal s i.toNat).fst, .sint .i64 (fltVal s i.toNat).snd] 63 2), some (.cells [.sint .i64 (tkK s i.toNat), .sstr (tkT s i.toNat), .sint .i64 (tkA s i.toNat), .sint .i64 (tkE s i.toNat), .sint .i64 l, .sint .i64 (i - st + 1)] 30 6), some (.rows (List.take n rs ++ [[.sint .i64 (tkK s i.toNat), .sstr (tkT s i.toNat), .sint .i64 (tkA s i.toNat), .sint .i64 (tkE s i.toNat), .sint .i64 l, .sint .i64 (i - st + 1)]]) shTok 30)]))))))) ∧ (decide (i < (s.length : Int)) = false → N (O.exit 0) [some (.sstr s), some .nils, some (.sint .i64 0), some (.sint .i64 0), some (.ssl 0 0 n 6), some (.sint .i64 l), some (.sint .i64 st), some (.sint .i64 i)] 1 [some (.rows rs shTok 30), none, none, none, none])) := by kernel_rfl
theorem r_scan (s : List UInt8) (N : E → Nat → List (Option Chunk) → Prop) : Go.Q.go Tryz.prog ⟨⟨.nil, [], []⟩, [], [(92007, lp Tryz.prog 9 0, lScanR)]⟩ 200 (.call 9 [.sstr s] nomem (cutA [0] N)) =
  (True ∧ True ∧ (decide (20000 < (s.length : Int)) = true → N (E.ret (.tup [.nils, .int .i64 0, .int .i64 3])) 0 [none]) ∧ (decide (20000 < (s.length : Int)) = false → lp Tryz.prog 9 0 = lp Tryz.prog 9 0 ∧ ((0 : Int) = (0 : Int) ∧ (0 : Int) = (0 : Int) ∧ (1 : Int) = (1 : Int) ∧ (0 : Int) = (0 : Int) ∧ (0 : Int) = (0 : Int) ∧ s.length ≤ 20000) ∧ (zqy s = Scn.done [] → ∀ (l st i : Int), N (E.ret (.tup [.nils, .int .i64 0, .int .i64 0])) 1 [none]) ∧ (∀ (t : Tok) (m : List Tok), zqy s = Scn.done (t :: m) → ∀ (l st i : Int), N (E.ret (.tup [.ssl 0 0 (m.length + 1) 6, .int .i64 0, .int .i64 0])) 1 [some (.rows (List.map (rowTok s) (t :: m)) shTok 30)]) ∧ ∀ (a : Int) (e : Nat), zqy s = Scn.err a e → ∀ (v : V) (l st i : Int), N (E.ret (.tup [.nils, .sint .i64 a, .sint .i64 (e : Int)])) 1 [none] ∧ N (E.ret (.tup [.nils, .sint .i64 a, .sint .i64 (e : Int)])) 3 [none])) := by kernel_rfl
structure SR where
  i0 : Nat
  i : Nat
  l : List Tok
def outV (l : List Tok) : V := match l with
  | [] => .nils
  | _ :: m => .ssl 0 0 (m.length + 1) 6
def leS (s : List UInt8) (x : SR) : List V := leR s 0 0 (outV x.l) ((lc s x.i).1 : Nat) ((x.i : Int) + 1 - ((lc s x.i).2 : Nat)) x.i
def lmS (s : List UInt8) (x : SR) : List (Option Chunk) := match x.l with
  | [] => [none]
  | t :: m => [some (.rows ((t :: m).map (rowTok s)) shTok 30)]
def PR (s : List UInt8) (x : SR) : Prop := runF s x.l.length = .go x.i0 x.l ∧ skipF s x.i = skipF s x.i0 ∧ x.i0 ≤ x.i ∧ x.i ≤ s.length ∧ x.l.length ≤ x.i0
abbrev RR (ro : List Lk) (s : List UInt8) (rc : List Chunk) (k : KK) (x : SR) := rMv ro tsR [0] [0, 1, 2, 3, 4] [] rc (leS s) (lmS s) 0 1 (PR s) (fun x => s.length - x.i) k x
theorem noteBad_err {s : List UInt8} {i b : Nat} (h : noteF s i = .error b) : zqi s i = b := by unfold zqi; rw [h]
theorem noteBad_ok {s : List UInt8} {i j : Nat} (h : noteF s i = .ok j) : zqi s i = -1 := by unfold zqi; rw [h]
theorem endF_nl {s : List UInt8} {i x : Nat} (h1 : i ≤ x) (h2 : x < endF noNl s i) : (s.getD x 0).toNat ≠ 10 := by
  have := endF_mem (p := noNl) _ i x (Nat.le_refl _) h1 h2
  unfold noNl at this
  simpa using this
theorem tk_eq {s : List UInt8} {i : Nat} {k : Int} {t : List UInt8} {a e : Int} (h : tokVal s i = tokA k t a e) : tkK s i = k ∧ tkT s i = t ∧ tkA s i = a ∧ tkE s i = e := by
  unfold tkK tkT tkA tkE
  rw [h]
  exact ⟨rfl, rfl, rfl, rfl⟩
theorem lc_small (s : List UInt8) : ∀ i : Nat, 1 ≤ (lc s i).2 ∧ (lc s i).2 ≤ i + 1 ∧ (lc s i).1 ≤ i + 1
  | 0 => ⟨Nat.le_refl _, Nat.le_refl _, Nat.le_refl _⟩
  | i + 1 => by
    have ih := lc_small s i
    rw [lc_step]
    split
    · exact ⟨Nat.le_refl _, by show 1 ≤ i + 2; omega, by show (lc s i).1 + 1 ≤ i + 2; omega⟩
    · exact ⟨by show 1 ≤ (lc s i).2 + 1; omega, by show (lc s i).2 + 1 ≤ i + 2; omega, by show (lc s i).1 ≤ i + 2; omega⟩
set_option maxHeartbeats 4000000 in
theorem rscan0_ok {gv gf gl} : ∀ fi ds env hp k, lScanR fi ds env hp k → TaskOk Tryz.prog ⟨gv, gf, gl⟩ (.code fi (.loop (lp Tryz.prog 9 0)) ds env hp k) := by
  intro fi ds env hp k h
  obtain ⟨rfl, rfl, hn, hlk, rc, hrc, h⟩ := zxS h
  split at h
  · rename_i v0 v3 v4 v6 v7 v8 hT
    split at h
    · rename_i s a e l st i e0 e3 e4 e6 e7 e8
      obtain ⟨⟨rfl, rfl, rfl, rfl, rfl, hs⟩, hk0, hk1, hk2⟩ := h
      obtain ⟨n', ht, hro⟩ := hp
      dsimp only at hn hlk hrc hk0 hk1 hk2
      subst hn
      refine zxu tsR [0] [0, 1, 2, 3, 4] [] rc 1 (leS s) (lmS s) (PR s) (fun x => s.length - x.i) ⟨0, 0, []⟩ ⟨rfl, rfl, Nat.le_refl _, Nat.zero_le _, Nat.le_refl _⟩ rfl rfl rfl (Nat.zero_le 1) hlk rfl rfl (fun x => by rcases x with ⟨i0, i, _ | ⟨t, m⟩⟩ <;> rfl) (fun x => by rcases x with ⟨i0, i, _ | ⟨t, m⟩⟩ <;> rfl) ?_ trivial hrc ?_
      · rw [hT]
        exact ⟨zqo e0, zqa _, zqk e3, zqk e4, zqa _, zqk e6, zqk e7, zqk e8, trivial⟩
      · rintro ⟨i0, i, l⟩ ⟨p1, p2, p3, p4, p5⟩
        dsimp only at p1 p2 p3 p4 p5
        have hb256 := UInt8.toNat_lt (s.getD i 0)
        have fin : ∀ r, endB r = true → stepF s i0 l = r → zqy s = r := fun r h1 h2 => scan_end h1 p1 (by omega) h2
        -- where the scan ends
        have done : ¬ (i : Int) < s.length → zqy s = .done l := fun h => fin _ rfl (zkl (j := i) (by rw [← p2]; exact zjL (by omega)) (by omega))
        have blank : i < s.length → (((s.getD i 0).toNat : Int) = 10 ∨ ((s.getD i 0).toNat : Int) = 32) → skipF s (i + 1) = skipF s i0 := by
          intro h1 h2
          rw [← p2, zjA h1, if_pos (by omega)]
        have noteErr : i < s.length → ((s.getD i 0).toNat : Int) = 36 → 0 ≤ zqi s i → zqy s = .err (zqi s i) 120 := by
          intro h1 h2 h3
          cases hN : noteF s i with
          | ok j => rw [noteBad_ok hN] at h3; omega
          | error b =>
            rw [noteBad_err hN]
            exact fin _ rfl (zkk (by rw [← p2, skip_36 h1 (by omega), hN]))
        have noteOk : i < s.length → ((s.getD i 0).toNat : Int) = 36 → ¬ 0 ≤ zqi s i → skipF s (endF noNl s i) = skipF s i0 ∧ i < endF noNl s i ∧ endF noNl s i ≤ s.length := by
          intro h1 h2 h3
          have g := zkR h1 (show ¬ (s.getD i 0).toNat = 10 by omega)
          have g2 := zxw (p := noNl) (s := s) (i := i + 1) h1
          cases hN : noteF s i with
          | error b => rw [noteBad_err hN] at h3; omega
          | ok j =>
            have := note_endF _ i j (Nat.le_refl _) hN p4
            refine ⟨?_, by omega, by omega⟩
            rw [← p2, skip_36 h1 (by omega), hN, ← this]
        have here : i < s.length → ¬ ((s.getD i 0).toNat : Int) = 10 → ¬ ((s.getD i 0).toNat : Int) = 32 → ¬ ((s.getD i 0).toNat : Int) = 36 → skipF s i0 = .ok i := by
          intro h1 h2 h3 h4
          rw [← p2, zjA h1, if_neg (by omega), if_neg (by omega)]
        -- a token that is none
        have tokErr : skipF s i0 = .ok i → i < s.length → ¬ (fltVal s i).1 = 0 → ((fltVal s i).2 = i ∨ l.length < 6000) → ∃ e : Nat, (fltVal s i).1 = e ∧ zqy s = .err (fltVal s i).2 e := by
          intro h0 h1 h2 h3
          cases hK : tokF s i with
          | error e =>
            obtain ⟨g1, g2⟩ := ref_err h1 hK
            rw [g1]
            exact ⟨e, rfl, fin _ rfl (zvh h0 (by omega) hK)⟩
          | ok x =>
            obtain ⟨g1, g2, g3, g4⟩ := ref_ok h1 hK
            by_cases hb : 0 ≤ x.bad
            · obtain ⟨g5, g6⟩ := g3 hb
              rw [g5] at h3 ⊢
              dsimp only at h3 ⊢
              exact ⟨120, rfl, fin _ rfl (zvi h0 (by omega) hK (by omega) hb)⟩
            · exact absurd (g2 (by omega)) h2
        have tokLim : skipF s i0 = .ok i → i < s.length → ((fltVal s i).1 = 0 ∨ ¬ (fltVal s i).2 = i) → 6000 ≤ l.length → zqy s = .err i 3 := by
          intro h0 h1 h2 h3
          cases hK : tokF s i with
          | error e =>
            obtain ⟨g1, g2⟩ := ref_err h1 hK
            rw [g1] at h2
            dsimp only at h2
            omega
          | ok x => exact fin _ rfl (step_many h0 (by omega) hK h3)
        have tokGo : skipF s i0 = .ok i → i < s.length → (fltVal s i).1 = 0 → ¬ 6000 ≤ l.length → ∃ x : TokR, PR s ⟨x.to, x.to, l ++ [⟨x.kind, x.text, i, x.to⟩]⟩ ∧ i < x.to ∧ (lc s x.to).1 = (lc s i).1 ∧ (lc s x.to).2 = (lc s i).2 + (x.to - i) ∧ tkK s i = x.kind ∧ tkT s i = x.text ∧ tkA s i = i ∧ tkE s i = x.to := by
          intro h0 h1 h2 h3
          cases hK : tokF s i with
          | error e =>
            obtain ⟨g1, g2⟩ := ref_err h1 hK
            rw [g1] at h2
            dsimp only at h2
            omega
          | ok x =>
            obtain ⟨g1, g2, g3, g4⟩ := ref_ok h1 hK
            have hb : ¬ 0 ≤ x.bad := by
              intro hb
              have := (g3 hb).1
              rw [this] at h2
              dsimp only at h2
              omega
            obtain ⟨t1, t2, t3⟩ := tok_le h1 hK
            obtain ⟨c1, c2⟩ := lc_flat (s := s) (i := i) (j := x.to) (by omega) g4
            refine ⟨x, ⟨?_, rfl, Nat.le_refl _, t2, ?_⟩, t1, c1, c2, tk_eq g1⟩
            · show runF s (l ++ [_]).length = _
              rw [List.length_append]
              show (match runF s l.length with | .go i l => stepF s i l | r => r) = _
              rw [p1]
              exact step_go h0 (by omega) hK h3 hb
            · show (l ++ [_]).length ≤ x.to
              rw [List.length_append]; simp; omega
        have hl1 := lc_small s i
        have lcn : ((s.getD i 0).toNat : Int) = 10 → lc s (i + 1) = ((lc s i).1 + 1, 1) := fun h => by rw [lc_step, if_pos (by omega)]
        have lcb : ¬ ((s.getD i 0).toNat : Int) = 10 → lc s (i + 1) = ((lc s i).1, (lc s i).2 + 1) := fun h => by rw [lc_step, if_neg (by omega)]
        have lcd : i ≤ endF noNl s i → (lc s (endF noNl s i)).1 = (lc s i).1 ∧ (lc s (endF noNl s i)).2 = (lc s i).2 + (endF noNl s i - i) := fun h => lc_flat h fun x a b => endF_nl a b
        cases l with
        | nil =>
          refine zqJ (gf' := [(37, sNote), (38, sTokR)]) (gl' := []) ?_
          refine go_sound (G := ⟨⟨.nil, [], []⟩, [(37, sNote), (38, sTokR)], []⟩) qmix qNG zqc (fs_two rfl rnote_ok rtok_ok) (zqr rfl) 200 _ (Eq.mpr (r_scan0 s _ _ i _) ?_)
          have nxt : ∀ (zl zs zi : Int) (i' n : Nat) (cs : List (Option Chunk)), PR s ⟨i0, i', []⟩ → i < i' → n = 1 → zl = ((lc s i').1 : Nat) → zs = (i' : Int) + 1 - ((lc s i').2 : Nat) → zi = i' → RR hro s rc k ⟨i0, i, []⟩ .normal [some (.sstr s), some .nils, some (.sint .i64 0), some (.sint .i64 0), some .nils, some (.sint .i64 zl), some (.sint .i64 zs), some (.sint .i64 zi)] n cs := by
            intro zl zs zi i' n cs hP hlt hn h1 h2 h3
            subst hn h1 h2 h3
            have := hP.2.2.2.1
            dsimp only at this
            exact ⟨⟨i0, i', []⟩, [0], hP, (by show s.length - i' < s.length - i; omega), Nat.le_refl 1, rfl, ⟨zqa _, zqa _, zqa _, zqa _, zqa _, zqa _, zqa _, zqa _, trivial⟩, trivial⟩
          have ret : ∀ (a : Int) (e : Nat) (ve : V) (n : Nat) (zl zs : Int) (cs : List (Option Chunk)), zqy s = .err a e → vle ve (.sint .i64 e) → (n = 1 ∨ n = 3) → RR hro s rc k ⟨i0, i, []⟩ .ret [some (.sstr s), some .nils, some (.sint .i64 a), some ve, some .nils, some (.sint .i64 zl), some (.sint .i64 zs), some (.sint .i64 i)] n cs := by
            intro a e ve n zl zs cs hE hv hn
            obtain ⟨q1, q2⟩ := hk2 a e hE .nils zl zs i
            rcases hn with rfl | rfl
            · exact ⟨leR s a e .nils zl zs i, [], [], Nat.le_refl 1, rfl, rfl, ⟨zqa _, zqa _, zqa _, hv, zqa _, zqa _, zqa _, zqa _, trivial⟩, trivial, q1⟩
            · exact ⟨leR s a e .nils zl zs i, [], [], by decide, rfl, rfl, ⟨zqa _, zqa _, zqa _, hv, zqa _, zqa _, zqa _, zqa _, trivial⟩, trivial, q2⟩
          have out : ∀ (zl zs : Int) (n : Nat) (cs : List (Option Chunk)), zqy s = .done [] → n = 1 → RR hro s rc k ⟨i0, i, []⟩ (.exit 0) [some (.sstr s), some .nils, some (.sint .i64 0), some (.sint .i64 0), some .nils, some (.sint .i64 zl), some (.sint .i64 zs), some (.sint .i64 i)] n cs := by
            intro zl zs n cs hE hn
            subst hn
            exact ⟨leR s 0 0 .nils zl zs i, [], [], Nat.le_refl 1, rfl, rfl, ⟨zqa _, zqa _, zqa _, zqa _, zqa _, zqa _, zqa _, zqa _, trivial⟩, trivial, hk0 hE zl zs i⟩
          have push : skipF s i0 = .ok i → i < s.length → (fltVal s i).1 = 0 → ∀ (zl zs zc : Int) (n : Nat) (c0 c1 c2 c3 : Option Chunk), zl = ((lc s i).1 : Nat) → zs = (i : Int) + 1 - ((lc s i).2 : Nat) → zc = ((lc s i).2 : Nat) → n = 5 → RR hro s rc k ⟨i0, i, []⟩ .normal [some (.sstr s), some .nils, some (.sint .i64 0), some (.sint .i64 0), some (.sl 4 0 0 1 none), some (.sint .i64 zl), some (.sint .i64 zs), some (.sint .i64 (tkE s i))] n [c0, c1, c2, c3, some (.cells [.sint .i64 (tkK s i), .sstr (tkT s i), .sint .i64 (tkA s i), .sint .i64 (tkE s i), .sint .i64 zl, .sint .i64 zc] 30 6)] := by
            intro h0 h1 h2 zl zs zc n c0 c1 c2 c3 g1 g2 g3 hn
            subst g1 g2 g3 hn
            obtain ⟨x, hP, hx, x1, x2, x3, x4, x5, x6⟩ := tokGo h0 h1 h2 (by simp)
            rw [x3, x4, x5, x6]
            have := hP.2.2.2.1
            dsimp only at this
            refine ⟨⟨x.to, x.to, [⟨x.kind, x.text, i, x.to⟩]⟩, [4], hP, (by show s.length - x.to < s.length - i; omega), by decide, rfl, ⟨zqa _, zqa _, zqa _, zqa _, ⟨rfl, rfl, rfl, rfl⟩, ⟨rfl, by rw [x1]⟩, ⟨rfl, by show (i : Int) + 1 - ((lc s i).2 : Nat) = (x.to : Int) + 1 - ((lc s x.to).2 : Nat); omega⟩, zqa _, trivial⟩, ⟨_, rfl, ?_⟩, trivial⟩
            exact ⟨rfl, rfl, fun r hr => by rw [List.mem_singleton.1 hr]; exact row_ok s _, zqs _⟩
          simp only [decide_eq_true_eq, decide_eq_false_iff_not, Bool.not_eq_true', Bool.not_eq_false']
          simp only [Int.toNat_natCast]
          repeat' first | exact trivial | apply And.intro | intro _
          all_goals first
            | omega
            | (exfalso; omega)
            | exact out _ _ _ _ (done (by omega)) rfl
            | exact nxt _ _ _ (i + 1) _ _ ⟨p1, blank (by omega) (by omega), by show i0 ≤ i + 1; omega, by show i + 1 ≤ s.length; omega, p5⟩ (by omega) rfl (by rw [lcn (by omega)]; push_cast; rfl) (by rw [lcn (by omega)]; push_cast; omega) (by push_cast; rfl)
            | exact nxt _ _ _ (i + 1) _ _ ⟨p1, blank (by omega) (by omega), by show i0 ≤ i + 1; omega, by show i + 1 ≤ s.length; omega, p5⟩ (by omega) rfl (by rw [lcb (by omega)]) (by rw [lcb (by omega)]; push_cast; omega) (by push_cast; rfl)
            | exact ret _ 120 _ _ _ _ _ (noteErr (by omega) (by omega) (by omega)) ⟨rfl, rfl⟩ (.inl rfl)
            | (obtain ⟨n1, n2, n3⟩ := noteOk (by omega) (by omega) (by omega)
               obtain ⟨n4, n5⟩ := lcd (by omega)
               exact nxt _ _ _ (endF noNl s i) _ _ ⟨p1, n1, by show i0 ≤ endF noNl s i; omega, n3, p5⟩ n2 rfl (by rw [n4]) (by rw [n5]; omega) rfl)
            | (obtain ⟨e, g1, g2⟩ := tokErr (here (by omega) (by omega) (by omega) (by omega)) (by omega) (by assumption) (.inr (by simp))
               exact ret _ e _ _ _ _ _ g2 ⟨rfl, g1⟩ (.inr rfl))
            | exact push (here (by omega) (by omega) (by omega) (by omega)) (by omega) (by assumption) _ _ _ _ _ _ _ _ rfl rfl (by omega) rfl
        | cons t l =>
          refine zqJ (gf' := [(37, sNote), (38, sTokR)]) (gl' := []) ?_
          refine go_sound (G := ⟨⟨.nil, [], []⟩, [(37, sNote), (38, sTokR)], []⟩) qmix qNG zqc (fs_two rfl rnote_ok rtok_ok) (zqr rfl) 200 _ (Eq.mpr (r_scan1 s ((t :: l).map (rowTok s)) (l.length + 1) _ _ i _) ?_)
          have hlen : ((t :: l).map (rowTok s)).length = l.length + 1 := by simp
          have hll : (t :: l).length = l.length + 1 := rfl
          have p5' : l.length + 1 ≤ i0 := p5
          let C0 : Chunk := .rows ((t :: l).map (rowTok s)) shTok 30
          have nxt : ∀ (zl zs zi : Int) (i' n : Nat) (cs : List (Option Chunk)), PR s ⟨i0, i', t :: l⟩ → i < i' → n = 1 → zl = ((lc s i').1 : Nat) → zs = (i' : Int) + 1 - ((lc s i').2 : Nat) → zi = i' → RR hro s rc k ⟨i0, i, t :: l⟩ .normal [some (.sstr s), some .nils, some (.sint .i64 0), some (.sint .i64 0), some (.ssl 0 0 (l.length + 1) 6), some (.sint .i64 zl), some (.sint .i64 zs), some (.sint .i64 zi)] n (some C0 :: cs) := by
            intro zl zs zi i' n cs hP hlt hn h1 h2 h3
            subst hn h1 h2 h3
            have := hP.2.2.2.1
            dsimp only at this
            exact ⟨⟨i0, i', t :: l⟩, [0], hP, (by show s.length - i' < s.length - i; omega), Nat.le_refl 1, rfl, ⟨zqa _, zqa _, zqa _, zqa _, zqa _, zqa _, zqa _, zqa _, trivial⟩, ⟨_, rfl, zqe _⟩, trivial⟩
          have ret : ∀ (a : Int) (e : Nat) (ve : V) (n : Nat) (zl zs : Int) (cs : List (Option Chunk)), zqy s = .err a e → vle ve (.sint .i64 e) → (n = 1 ∨ n = 3) → RR hro s rc k ⟨i0, i, t :: l⟩ .ret [some (.sstr s), some .nils, some (.sint .i64 a), some ve, some (.ssl 0 0 (l.length + 1) 6), some (.sint .i64 zl), some (.sint .i64 zs), some (.sint .i64 i)] n cs := by
            intro a e ve n zl zs cs hE hv hn
            obtain ⟨q1, q2⟩ := hk2 a e hE (.ssl 0 0 (l.length + 1) 6) zl zs i
            rcases hn with rfl | rfl
            · exact ⟨leR s a e (.ssl 0 0 (l.length + 1) 6) zl zs i, [], [], Nat.le_refl 1, rfl, rfl, ⟨zqa _, zqa _, zqa _, hv, zqa _, zqa _, zqa _, zqa _, trivial⟩, trivial, q1⟩
            · exact ⟨leR s a e (.ssl 0 0 (l.length + 1) 6) zl zs i, [], [], by decide, rfl, rfl, ⟨zqa _, zqa _, zqa _, hv, zqa _, zqa _, zqa _, zqa _, trivial⟩, trivial, q2⟩
          have out : ∀ (zl zs : Int) (n : Nat) (cs : List (Option Chunk)), zqy s = .done (t :: l) → n = 1 → RR hro s rc k ⟨i0, i, t :: l⟩ (.exit 0) [some (.sstr s), some .nils, some (.sint .i64 0), some (.sint .i64 0), some (.ssl 0 0 (l.length + 1) 6), some (.sint .i64 zl), some (.sint .i64 zs), some (.sint .i64 i)] n (some C0 :: cs) := by
            intro zl zs n cs hE hn
            subst hn
            exact ⟨leR s 0 0 (.ssl 0 0 (l.length + 1) 6) zl zs i, [0], [C0], Nat.le_refl 1, rfl, rfl, ⟨zqa _, zqa _, zqa _, zqa _, zqa _, zqa _, zqa _, zqa _, trivial⟩, ⟨⟨_, rfl, zqe _⟩, trivial⟩, hk1 t l hE zl zs i⟩
          have push : skipF s i0 = .ok i → i < s.length → (fltVal s i).1 = 0 → ¬ 6000 ≤ l.length + 1 → ∀ (zl zs zc : Int) (n : Nat) (c0 c1 c2 c3 : Option Chunk), zl = ((lc s i).1 : Nat) → zs = (i : Int) + 1 - ((lc s i).2 : Nat) → zc = ((lc s i).2 : Nat) → n = 5 → RR hro s rc k ⟨i0, i, t :: l⟩ .normal [some (.sstr s), some .nils, some (.sint .i64 0), some (.sint .i64 0), some (.ssl 4 0 (l.length + 1 + 1) 6), some (.sint .i64 zl), some (.sint .i64 zs), some (.sint .i64 (tkE s i))] n [c0, c1, c2, c3, some (.rows (List.take (l.length + 1) ((t :: l).map (rowTok s)) ++ [[.sint .i64 (tkK s i), .sstr (tkT s i), .sint .i64 (tkA s i), .sint .i64 (tkE s i), .sint .i64 zl, .sint .i64 zc]]) shTok 30)] := by
            intro h0 h1 h2 h6 zl zs zc n c0 c1 c2 c3 g1 g2 g3 hn
            subst g1 g2 g3 hn
            obtain ⟨x, hP, hx, x1, x2, x3, x4, x5, x6⟩ := tokGo h0 h1 h2 (by rw [hll]; exact h6)
            rw [List.cons_append] at hP
            rw [x3, x4, x5, x6]
            have := hP.2.2.2.1
            dsimp only at this
            refine ⟨⟨x.to, x.to, t :: (l ++ [⟨x.kind, x.text, i, x.to⟩])⟩, [4], hP, (by show s.length - x.to < s.length - i; omega), by decide, rfl, ⟨zqa _, zqa _, zqa _, zqa _, ?_, ⟨rfl, by rw [x1]⟩, ⟨rfl, by show (i : Int) + 1 - ((lc s i).2 : Nat) = (x.to : Int) + 1 - ((lc s x.to).2 : Nat); omega⟩, zqa _, trivial⟩, ⟨_, rfl, ?_⟩, trivial⟩
            · show V.ssl 4 0 (l.length + 1 + 1) 6 = V.ssl 4 0 ((l ++ [_]).length + 1) 6
              simp
            · show Chunk.rows (List.take (l.length + 1) ((t :: l).map (rowTok s)) ++ [rowTok s ⟨x.kind, x.text, i, x.to⟩]) shTok 30 = Chunk.rows ((t :: (l ++ [⟨x.kind, x.text, i, x.to⟩])).map (rowTok s)) shTok 30
              rw [List.take_of_length_le (by omega)]
              simp
          simp only [decide_eq_true_eq, decide_eq_false_iff_not, Bool.not_eq_true', Bool.not_eq_false']
          simp only [Int.toNat_natCast]
          repeat' first | exact trivial | apply And.intro | intro _
          all_goals first
            | omega
            | (exfalso; omega)
            | exact out _ _ _ _ (done (by omega)) rfl
            | exact nxt _ _ _ (i + 1) _ _ ⟨p1, blank (by omega) (by omega), by show i0 ≤ i + 1; omega, by show i + 1 ≤ s.length; omega, p5⟩ (by omega) rfl (by rw [lcn (by omega)]; push_cast; rfl) (by rw [lcn (by omega)]; push_cast; omega) (by push_cast; rfl)
            | exact nxt _ _ _ (i + 1) _ _ ⟨p1, blank (by omega) (by omega), by show i0 ≤ i + 1; omega, by show i + 1 ≤ s.length; omega, p5⟩ (by omega) rfl (by rw [lcb (by omega)]) (by rw [lcb (by omega)]; push_cast; omega) (by push_cast; rfl)
            | exact ret _ 120 _ _ _ _ _ (noteErr (by omega) (by omega) (by omega)) ⟨rfl, rfl⟩ (.inl rfl)
            | (obtain ⟨n1, n2, n3⟩ := noteOk (by omega) (by omega) (by omega)
               obtain ⟨n4, n5⟩ := lcd (by omega)
               exact nxt _ _ _ (endF noNl s i) _ _ ⟨p1, n1, by show i0 ≤ endF noNl s i; omega, n3, p5⟩ n2 rfl (by rw [n4]) (by rw [n5]; omega) rfl)
            | (obtain ⟨e, g1, g2⟩ := tokErr (here (by omega) (by omega) (by omega) (by omega)) (by omega) (by assumption) (by rw [hll]; omega)
               exact ret _ e _ _ _ _ _ g2 ⟨rfl, g1⟩ (.inr rfl))
            | exact ret _ 3 _ _ _ _ _ (tokLim (here (by omega) (by omega) (by omega) (by omega)) (by omega) (by omega) (by rw [hll]; omega)) ⟨rfl, rfl⟩ (.inr rfl)
            | exact push (here (by omega) (by omega) (by omega) (by omega)) (by omega) (by assumption) (by omega) _ _ _ _ _ _ _ _ rfl rfl (by omega) rfl
            | (rw [hlen]; omega)
    · exact h.elim
  · exact h.elim
end
end Go.Proofs.YtekioipmhhcbhaaGreatDoor
set_option maxRecDepth 20000
namespace Go.Proofs.YtekioipmhhcbhaaGreatDoor
open Go Go.Z Go.Q Go.W6
open Go.Y hiding KE KK KR go Task go_sound
noncomputable section
def scanN (s : List UInt8) : V := .tup [.nils, .sint .i64 (scanF s).2.1, .sint .i64 ((scanF s).2.2 : Nat)]
def scanO (id n : Nat) (s : List UInt8) : V := .tup [.ssl id 0 n 6, .sint .i64 (scanF s).2.1, .sint .i64 ((scanF s).2.2 : Nat)]
def sScanR (args : List V) (hp : Mem) (k : KE) : Prop := match args with
  | [v] => match strOf v, small hp.n with
    | some s, true => ((scanF s).1 = [] → k (.ret (.tup [.nils, .sint .i64 (scanF s).2.1, .sint .i64 ((scanF s).2.2 : Nat)])) hp) ∧
        (∀ (t : Tok) (m : List Tok), (scanF s).1 = t :: m → k (.ret (.tup [.ssl hp.n 0 (m.length + 1) 6, .sint .i64 (scanF s).2.1, .sint .i64 ((scanF s).2.2 : Nat)])) ⟨hp.n + 1, Tr.set 20 hp.t hp.n (some (.rows ((t :: m).map (rowTok s)) shTok 30)), hp.ro⟩)
    | _, _ => False
  | _ => False
def kScanR (s : List UInt8) : E → List (Option Chunk) → Option Chunk → Prop := fun e cs nc => cs = [] ∧
  ((nc = none ∧ (scanF s).1 = [] ∧ e = .ret (scanN s)) ∨ (∃ t m, nc = some (.rows ((t :: m).map (rowTok s)) shTok 30) ∧ (scanF s).1 = t :: m ∧ e = .ret (scanO 0 (m.length + 1) s)))
theorem rscan_run (s : List UInt8) : TaskOk Tryz.prog ⟨⟨.nil, [], []⟩, [], [(92007, lp Tryz.prog 9 0, lScanR)]⟩ (.call 9 [.sstr s] nomem (cutA [0] (cNn [] [0] 0 [] (kScanR s)))) := by
  refine go_sound qmix qNG zqc (zqz rfl) (ls_one rfl rscan0_ok) 200 _ (Eq.mpr (r_scan s _) ?_)
  simp only [decide_eq_true_eq, decide_eq_false_iff_not]
  have eq := scanF_eq s
  have none : ∀ {va ve : V} {n : Nat} {c : Option Chunk}, (scanF s).1 = [] → dle va (.sint .i64 (scanF s).2.1) → dle ve (.sint .i64 ((scanF s).2.2 : Nat)) → cNn [] [0] 0 [] (kScanR s) (.ret (.tup [.nils, va, ve])) n [c] := fun {va ve n c} h h1 h2 =>
    .inl ⟨.ret (scanN s), [], ⟨rfl, h1, h2, trivial⟩, rfl, trivial, rfl, rfl, rfl, .inl ⟨rfl, h, rfl⟩⟩
  refine ⟨trivial, trivial, fun hlong => ?_, fun hlong => ⟨trivial, ⟨trivial, trivial, trivial, trivial, trivial, by omega⟩, fun hd l st i => ?_, fun t m hd l st i => ?_, fun a e hd v l st i => ?_⟩⟩
  · rw [if_pos (by omega)] at eq
    exact none (by rw [eq]) (by rw [eq]; exact ⟨rfl, rfl⟩) (by rw [eq]; exact ⟨rfl, rfl⟩)
  · rw [if_neg (by omega), hd] at eq
    exact none (by rw [eq]) (by rw [eq]; exact ⟨rfl, rfl⟩) (by rw [eq]; exact ⟨rfl, rfl⟩)
  · rw [if_neg (by omega), hd] at eq
    refine .inr ⟨.ret (scanO 0 (m.length + 1) s), [], 0, _, .rows ((t :: m).map (rowTok s)) shTok 30, ?_, rfl, trivial, rfl, rfl, rfl, rfl, rfl, zqe _, rfl, rfl, .inr ⟨t, m, rfl, by rw [eq], rfl⟩⟩
    show dle (.tup [_, _, _]) (.tup [_, _, _])
    rw [eq]
    exact ⟨rfl, ⟨rfl, rfl⟩, ⟨rfl, rfl⟩, trivial⟩
  · rw [if_neg (by omega), hd] at eq
    exact ⟨none (by rw [eq]) (by rw [eq]; exact ⟨rfl, rfl⟩) (by rw [eq]; exact ⟨rfl, rfl⟩), none (by rw [eq]) (by rw [eq]; exact ⟨rfl, rfl⟩) (by rw [eq]; exact ⟨rfl, rfl⟩)⟩
theorem lkOk_nil : ∀ {ls : List Lk}, lkOk [] [] [] ls
  | [] => trivial
  | _ :: _ => ⟨trivial, lkOk_nil⟩
theorem rscan_ok {G : GQ} : ∀ args hp k, sScanR args hp k → TaskOk Tryz.prog G (.call 9 args hp k) := by
  intro args hp k h
  unfold sScanR at h
  split at h
  · rename_i v
    split at h
    · rename_i s hs hsm
      obtain ⟨hk1, hk2⟩ := h
      refine call_nw 0 [] [0] [] [] [] (kScanR s) (rscan_run s) (fun g id e => by cases e) (fun l hl => by cases hl) (args0 := [.sstr s]) ⟨zqo hs, trivial⟩ rfl rfl rfl rfl rfl rfl rfl trivial lkOk_nil (fun ρ W hH i hi => by cases hi) hsm ?_ ?_
      · rintro e cs' ⟨rfl, h | ⟨t, m, h, _⟩⟩
        · obtain ⟨_, h1, rfl⟩ := h
          exact hk1 h1
        · cases h
      · rintro e cs' ch ⟨rfl, ⟨h, _⟩ | ⟨t, m, h, h1, rfl⟩⟩
        · cases h
        · cases h
          exact hk2 t m h1
    · exact h.elim
  · exact h.elim
abbrev tsK : List Nat := [0, 1, 4, 5]
def leK (n : Nat) (w : V) (i : Int) : List V := [.ssl 1 0 n 6, w, .bool false, .sint .i64 i]
def lTok (fi : FI) (ds : List DV) (env : Tr V) (hp : Mem) (k : KK) : Prop := match pk tsK env with
  | [some (.ssl 1 0 n 6), some .nils, some (.bool false), some v] => atV 26 2 [] [0, 1] fi ds hp fun rc => match int64 v with
    | some i => (i = 0 ∧ n = 0) ∧ k (.exit 0) [] (ofE (tsK.zip (leK n .nils 0))) ⟨2, ofM ([].zip [] ++ [0, 1].zip rc), hp.ro⟩
    | none => False
  | [some (.ssl 1 0 n 6), some (.ssl 2 0 m 6), some (.bool false), some v] => atV 26 3 [1, 2] [0] fi ds hp fun rc => match int64 v, hp.t.get 1, hp.t.get 2 with
    | some i, some (.rowsO xs sh ty), some (.rows ys sh' ty') => (i = 0 ∧ xs = ys ∧ sh = shTok ∧ ty = 30 ∧ sh' = shTok ∧ ty' = 30 ∧ n = xs.length ∧ m = xs.length ∧ n ≤ 30000) ∧
        k (.exit 0) [] (ofE (tsK.zip (leK n (.ssl 2 0 m 6) n))) ⟨3, ofM ([1, 2].zip [.rowsO xs shTok 30, .rows xs shTok 30] ++ [0].zip rc), hp.ro⟩
    | _, _, _ => False
  | _ => False
end
end Go.Proofs.YtekioipmhhcbhaaGreatDoor
set_option maxRecDepth 20000
namespace Go.Proofs.YtekioipmhhcbhaaGreatDoor
open Go Go.Z Go.Q Go.W6
open Go.Y hiding KE KK KR go Task go_sound
noncomputable section
theorem r_tok0 (n : Nat) (i : Int) (N : O → List (Option V) → Nat → List (Option Chunk) → Prop) : Go.Q.go Tryz.prog ⟨⟨.nil, [], []⟩, [], []⟩ 100 (.code ⟨26, none⟩ (lp Tryz.prog 10 0) [] (ofE (tsK.zip (leK n .nils i))) ⟨2, ofMo ([].zip []), []⟩ (cutM tsK [] N)) =
  (True ∧ True ∧ (decide (i < (n : Int)) = true → (0 ≤ i ∧ i < (n : Int)) ∧ False) ∧ (decide (i < (n : Int)) = false → N (O.exit 0) [some (.ssl 1 0 n 6), some .nils, some (.bool false), some (.sint .i64 i)] 2 [])) := by kernel_rfl
theorem r_tok1 (xs : List (List V)) (n m : Nat) (i : Int) (N : O → List (Option V) → Nat → List (Option Chunk) → Prop) : Go.Q.go Tryz.prog ⟨⟨.nil, [], []⟩, [], []⟩ 100 (.code ⟨26, none⟩ (lp Tryz.prog 10 0) [] (ofE (tsK.zip (leK n (.ssl 2 0 m 6) i))) ⟨3, ofMo ([1,2].zip [some (.rowsO xs shTok 30), some (.rows xs shTok 30)]), []⟩ (cutM tsK [1,2] N)) =
  (True ∧ True ∧ (decide (i < (n : Int)) = true → (0 ≤ i ∧ i < (n : Int)) ∧ 0 + i.toNat < xs.length ∧ (0 ≤ i ∧ i < (m : Int)) ∧ 0 + i.toNat < xs.length ∧ True ∧ ((!match decide (vI ((xs.getD ((0 : Nat) + i.toNat) []).getD (0 : Nat) V.und) = vI ((xs.getD ((0 : Nat) + i.toNat) []).getD (0 : Nat) V.und)) with | false => false | true => decide (vS ((xs.getD ((0 : Nat) + i.toNat) []).getD ((0 : Nat) + (1 : Nat)) V.und) = vS ((xs.getD ((0 : Nat) + i.toNat) []).getD ((0 : Nat) + (1 : Nat)) V.und)) && (decide (vI ((xs.getD ((0 : Nat) + i.toNat) []).getD ((0 : Nat) + (1 : Nat) + (1 : Nat)) V.und) = vI ((xs.getD ((0 : Nat) + i.toNat) []).getD ((0 : Nat) + (1 : Nat) + (1 : Nat)) V.und)) && (decide (vI ((xs.getD ((0 : Nat) + i.toNat) []).getD ((0 : Nat) + (1 : Nat) + (1 : Nat) + (1 : Nat)) V.und) = vI ((xs.getD ((0 : Nat) + i.toNat) []).getD ((0 : Nat) + (1 : Nat) + (1 : Nat) + (1 : Nat)) V.und)) && (decide (vI ((xs.getD ((0 : Nat) + i.toNat) []).getD ((0 : Nat) + (1 : Nat) + (1 : Nat) + (1 : Nat) + (1 : Nat)) V.und) = vI ((xs.getD ((0 : Nat) + i.toNat) []).getD ((0 : Nat) + (1 : Nat) + (1 : Nat) + (1 : Nat) + (1 : Nat)) V.und)) && (decide (vI ((xs.getD ((0 : Nat) + i.toNat) []).getD ((0 : Nat) + (1 : Nat) + (1 : Nat) + (1 : Nat) + (1 : Nat) + (1 : Nat)) V.und) = vI ((xs.getD ((0 : Nat) + i.toNat) []).getD ((0 : Nat) + (1 : Nat) + (1 : Nat) + (1 : Nat) + (1 : Nat) + (1 : Nat)) V.und)) && true))))) = true → N O.ret [some (.ssl 1 0 n 6), some (.ssl 2 0 m 6), some (.bool false), some (.sint .i64 i)] 3 [some (.rowsO xs shTok 30), some (.rows xs shTok 30)]) ∧ ((!match decide (vI ((xs.getD ((0 : Nat) + i.toNat) []).getD (0 : Nat) V.und) = vI ((xs.getD ((0 : Nat) + i.toNat) []).getD (0 : Nat) V.und)) with | false => false | true => decide (vS ((xs.getD ((0 : Nat) + i.toNat) []).getD ((0 : Nat) + (1 : Nat)) V.und) = vS ((xs.getD ((0 : Nat) + i.toNat) []).getD ((0 : Nat) + (1 : Nat)) V.und)) && (decide (vI ((xs.getD ((0 : Nat) + i.toNat) []).getD ((0 : Nat) + (1 : Nat) + (1 : Nat)) V.und) = vI ((xs.getD ((0 : Nat) + i.toNat) []).getD ((0 : Nat) + (1 : Nat) + (1 : Nat)) V.und)) && (decide (vI ((xs.getD ((0 : Nat) + i.toNat) []).getD ((0 : Nat) + (1 : Nat) + (1 : Nat) + (1 : Nat)) V.und) = vI ((xs.getD ((0 : Nat) + i.toNat) []).getD ((0 : Nat) + (1 : Nat) + (1 : Nat) + (1 : Nat)) V.und)) && (decide (vI ((xs.getD ((0 : Nat) + i.toNat) []).getD ((0 : Nat) + (1 : Nat) + (1 : Nat) + (1 : Nat) + (1 : Nat)) V.und) = vI ((xs.getD ((0 : Nat) + i.toNat) []).getD ((0 : Nat) + (1 : Nat) + (1 : Nat) + (1 : Nat) + (1 : Nat)) V.und)) && (decide (vI ((xs.getD ((0 : Nat) + i.toNat) []).getD ((0 : Nat) + (1 : Nat) + (1 : Nat) + (1 : Nat) + (1 : Nat) + (1 : Nat)) V.und) = vI ((xs.getD ((0 : Nat) + i.toNat) []).getD ((0 : Nat) + (1 : Nat) + (1 : Nat) + (1 : Nat) + (1 : Nat) + (1 : Nat)) V.und)) && true))))) = false → ((-9223372036854775808 : Int) ≤ i + (1 : Int) ∧ i + 1 ≤ 9223372036854775807) ∧ N O.normal [some (.ssl 1 0 n 6), some (.ssl 2 0 m 6), some (.bool false), some (.sint .i64 (i + 1))] 3 [some (.rowsO xs shTok 30), some (.rows xs shTok 30)])) ∧ (decide (i < (n : Int)) = false → N (O.exit 0) [some (.ssl 1 0 n 6), some (.ssl 2 0 m 6), some (.bool false), some (.sint .i64 i)] 3 [some (.rowsO xs shTok 30), some (.rows xs shTok 30)])) := by kernel_rfl
theorem f3_eq (s : List UInt8) (ty : Nat) (K : E → Prop) : Go.Q.go Tryz.prog ⟨⟨varG 0, kn9, [(0, spaceV)]⟩, [(8, sScan), (9, sScanR)], [(26004, lp Tryz.prog 10 0, lTok)]⟩ 200 (.call 3 [.sstr s] (varM spaceV ty) fun e _ => K e) =
  (True ∧ True ∧ (decide ((s.length : Int) ≤ 6000) = true → Chunk.cells spaceV ty 1 = Chunk.cells spaceV ty 1 ∧ ((scanF s).fst = [] → True ∧ True ∧ ((!decide ((↑(scanF s).fst.length : Int) = 0)) = true → K (E.ret (.bool false))) ∧ ((!decide ((↑(scanF s).fst.length : Int) = 0)) = false → lp Tryz.prog 10 0 = lp Tryz.prog 10 0 ∧ ((0 : Int) = (0 : Int) ∧ (scanF s).fst.length = 0) ∧ True ∧ (decide ((scanF s).snd.fst = (scanF s).snd.fst) = true → True ∧ (decide ((↑(scanF s).snd.snd : Int) = (↑(scanF s).snd.snd : Int)) = true → K (E.ret (.bool true))) ∧ (decide ((↑(scanF s).snd.snd : Int) = (↑(scanF s).snd.snd : Int)) = false → K (E.ret (.bool false)))) ∧ (decide ((scanF s).snd.fst = (scanF s).snd.fst) = false → K (E.ret (.bool false))))) ∧ ∀ (t : Tok) (m : List Tok), (scanF s).fst = t :: m → True ∧ True ∧ True ∧ ((!decide ((↑(scanF s).fst.length : Int) = (↑(m.length + 1) : Int))) = true → K (E.ret (.bool false))) ∧ ((!decide ((↑(scanF s).fst.length : Int) = (↑(m.length + 1) : Int))) = false → lp Tryz.prog 10 0 = lp Tryz.prog 10 0 ∧ ((0 : Int) = (0 : Int) ∧ List.map (rowTok s) (scanF s).fst = List.map (rowTok s) (t :: m) ∧ shTok = shTok ∧ (30 : Nat) = (30 : Nat) ∧ shTok = shTok ∧ (30 : Nat) = (30 : Nat) ∧ (scanF s).fst.length = (List.map (rowTok s) (scanF s).fst).length ∧ m.length + 1 = (List.map (rowTok s) (scanF s).fst).length ∧ (scanF s).fst.length ≤ 30000) ∧ True ∧ (decide ((scanF s).snd.fst = (scanF s).snd.fst) = true → True ∧ (decide ((↑(scanF s).snd.snd : Int) = (↑(scanF s).snd.snd : Int)) = true → K (E.ret (.bool true))) ∧ (decide ((↑(scanF s).snd.snd : Int) = (↑(scanF s).snd.snd : Int)) = false → K (E.ret (.bool false)))) ∧ (decide ((scanF s).snd.fst = (scanF s).snd.fst) = false → K (E.ret (.bool false))))) ∧ (decide ((s.length : Int) ≤ 6000) = false → True ∧ True ∧ (decide (20000 < (s.length : Int)) = true → Chunk.cells spaceV ty 1 = Chunk.cells spaceV ty 1 ∧ ((scanF s).fst = [] → True ∧ True ∧ ((!decide ((↑(scanF s).fst.length : Int) = 0)) = true → K (E.ret (.bool false))) ∧ ((!decide ((↑(scanF s).fst.length : Int) = 0)) = false → lp Tryz.prog 10 0 = lp Tryz.prog 10 0 ∧ ((0 : Int) = (0 : Int) ∧ (scanF s).fst.length = 0) ∧ True ∧ (decide ((scanF s).snd.fst = (scanF s).snd.fst) = true → True ∧ (decide ((↑(scanF s).snd.snd : Int) = (↑(scanF s).snd.snd : Int)) = true → K (E.ret (.bool true))) ∧ (decide ((↑(scanF s).snd.snd : Int) = (↑(scanF s).snd.snd : Int)) = false → K (E.ret (.bool false)))) ∧ (decide ((scanF s).snd.fst = (scanF s).snd.fst) = false → K (E.ret (.bool false))))) ∧ ∀ (t : Tok) (m : List Tok), (scanF s).fst = t :: m → True ∧ True ∧ True ∧ ((!decide ((↑(scanF s).fst.length : Int) = (↑(m.length + 1) : Int))) = true → K (E.ret (.bool false))) ∧ ((!decide ((↑(scanF s).fst.length : Int) = (↑(m.length + 1) : Int))) = false → lp Tryz.prog 10 0 = lp Tryz.prog 10 0 ∧ ((0 : Int) = (0 : Int) ∧ List.map (rowTok s) (scanF s).fst = List.map (rowTok s) (t :: m) ∧ shTok = shTok ∧ (30 : Nat) = (30 : Nat) ∧ shTok = shTok ∧ (30 : Nat) = (30 : Nat) ∧ (scanF s).fst.length = (List.map (rowTok s) (scanF s).fst).length ∧ m.length + 1 = (List.map (rowTok s) (scanF s).fst).length ∧ (scanF s).fst.length ≤ 30000) ∧ True ∧ (decide ((scanF s).snd.fst = (scanF s).snd.fst) = true → True ∧ (decide ((↑(scanF s).snd.snd : Int) = (↑(scanF s).snd.snd : Int)) = true → K (E.ret (.bool true))) ∧ (decide ((↑(scanF s).snd.snd : Int) = (↑(scanF s).snd.snd : Int)) = false → K (E.ret (.bool false)))) ∧ (decide ((scanF s).snd.fst = (scanF s).snd.fst) = false → K (E.ret (.bool false))))) ∧ (decide (20000 < (s.length : Int)) = false → K (E.ret (.bool true))))) := by kernel_rfl
def PK (n : Nat) (x : Nat) : Prop := x ≤ n
theorem rtok0_ok {gv gf gl} : ∀ fi ds env hp k, lTok fi ds env hp k → TaskOk Tryz.prog ⟨gv, gf, gl⟩ (.code fi (.loop (lp Tryz.prog 10 0)) ds env hp k) := by
  intro fi ds env hp k h
  unfold lTok at h
  split at h
  · rename_i n v hT
    obtain ⟨rfl, rfl, hn, hlk, rc, hrc, h⟩ := zxS h
    split at h
    · rename_i i e0
      obtain ⟨⟨rfl, rfl⟩, hk⟩ := h
      obtain ⟨n', ht, hro⟩ := hp
      dsimp only at hn hlk hrc hk
      subst hn
      refine zxu tsK [] [] [0, 1] rc 2 (fun _ : Unit => leK 0 .nils 0) (fun _ => []) (fun _ => True) (fun _ => 0) () trivial rfl rfl rfl (Nat.le_refl 2) hlk rfl rfl (fun x => rfl) (fun x => rfl) ?_ trivial hrc ?_
      · rw [hT]
        exact ⟨zqa _, zqa _, zqa _, zqk e0, trivial⟩
      · rintro x _
        refine zqJ (gf' := []) (gl' := []) ?_
        refine go_sound (G := nilG) qmix qNG zqc (zqz rfl) (zqr rfl) 100 _ (Eq.mpr (r_tok0 0 0 _) ?_)
        simp only [decide_eq_true_eq, decide_eq_false_iff_not]
        exact ⟨trivial, trivial, fun h => by omega, fun _ => ⟨leK 0 .nils 0, [], [], Nat.le_refl 2, rfl, rfl, ⟨zqa _, zqa _, zqa _, zqa _, trivial⟩, trivial, hk⟩⟩
    · exact h.elim
  · rename_i n m v hT
    obtain ⟨rfl, rfl, hn, hlk, rc, hrc, h⟩ := zxS h
    split at h
    · rename_i i xs sh ty ys sh' ty' e0 g1 g2
      obtain ⟨⟨rfl, rfl, rfl, rfl, rfl, rfl, hn1, hm1, hb⟩, hk⟩ := h
      obtain ⟨n', ht, hro⟩ := hp
      dsimp only at hn hlk hrc hk g1 g2
      subst hn hm1
      rw [hn1] at hb hk hT
      refine zxu tsK [1, 2] [1, 2] [0] rc 3 (fun x : Nat => leK xs.length (.ssl 2 0 xs.length 6) x) (fun _ => [some (.rowsO xs shTok 30), some (.rows xs shTok 30)]) (PK xs.length) (fun x => xs.length - x) 0 (Nat.zero_le _) rfl rfl rfl (Nat.le_refl 3) hlk rfl rfl (fun x => rfl) (fun x => rfl) ?_ ⟨⟨_, g1, zqe _⟩, ⟨_, g2, zqe _⟩, trivial⟩ hrc ?_
      · rw [hT]
        exact ⟨zqa _, zqa _, zqa _, zqk e0, trivial⟩
      · rintro x hx
        have hx : x ≤ xs.length := hx
        refine zqJ (gf' := []) (gl' := []) ?_
        refine go_sound (G := nilG) qmix qNG zqc (zqz rfl) (zqr rfl) 100 _ (Eq.mpr (r_tok1 xs xs.length xs.length x _) ?_)
        have e1 : (0 : Nat) + ((x : Nat) : Int).toNat = x := by omega
        simp only [e1]
        simp
        refine ⟨fun hlt => ⟨by omega, by omega, ?_⟩, fun hge => ?_⟩
        · exact ⟨x + 1, [1, 2], by show x + 1 ≤ xs.length; omega, by show xs.length - (x + 1) < xs.length - x; omega, Nat.le_refl 3, rfl, ⟨zqa _, zqa _, zqa _, ⟨rfl, by push_cast; rfl⟩, trivial⟩, ⟨_, rfl, zqe _⟩, ⟨_, rfl, zqe _⟩, trivial⟩
        · have : x = xs.length := by omega
          subst this
          exact ⟨leK xs.length (.ssl 2 0 xs.length 6) xs.length, [1, 2], [.rowsO xs shTok 30, .rows xs shTok 30], Nat.le_refl 3, rfl, rfl, ⟨zqa _, zqa _, zqa _, zqa _, trivial⟩, ⟨⟨_, rfl, zqe _⟩, ⟨_, rfl, zqe _⟩, trivial⟩, hk⟩
    · exact h.elim
  · exact h.elim
theorem run_len (s : List UInt8) : ∀ n, match runF s n with | .go _ l => l.length ≤ n | .done l => l.length ≤ n | .err _ _ => True
  | 0 => Nat.le_refl _
  | n + 1 => by
    have ih := run_len s n
    show match (match runF s n with | .go i l => stepF s i l | r => r) with | .go _ l => l.length ≤ n + 1 | .done l => l.length ≤ n + 1 | .err _ _ => True
    cases h : runF s n with
    | go i l =>
      rw [h] at ih
      dsimp only at ih ⊢
      cases h1 : skipF s i with
      | error b => rw [zkk h1]; trivial
      | ok j =>
        by_cases h2 : s.length ≤ j
        · rw [zkl h1 h2]; dsimp only; omega
        · cases h3 : tokF s j with
          | error e => rw [zvh h1 h2 h3]; trivial
          | ok x =>
            by_cases h4 : 6000 ≤ l.length
            · rw [step_many h1 h2 h3 h4]; trivial
            · by_cases h5 : 0 ≤ x.bad
              · rw [zvi h1 h2 h3 h4 h5]; trivial
              · rw [step_go h1 h2 h3 h4 h5]; dsimp only; rw [List.length_append]; simp; omega
    | done l => rw [h] at ih; dsimp only at ih ⊢; omega
    | err a e => trivial
theorem scan_len (s : List UInt8) : (scanF s).1.length ≤ 30000 := by
  rw [scanF_eq]
  split
  · exact Nat.zero_le _
  · rename_i hs
    have := run_len s (s.length + 1)
    unfold zqy
    cases h : runF s (s.length + 1) with
    | go i l => exact Nat.zero_le _
    | done l => rw [h] at this; dsimp only at this ⊢; omega
    | err a e => exact Nat.zero_le _
abbrev G3z : GQ := ⟨⟨varG 0, kn9, [(0, spaceV)]⟩, [(8, sScan), (9, sScanR)], [(26004, lp Tryz.prog 10 0, lTok)]⟩
theorem scans_run (s : List UInt8) (ty : Nat) : TaskOk Tryz.prog G3z (.call 3 [.sstr s] (varM spaceV ty) fun e _ => e = .ret (.bool true)) := by
  refine go_sound (G := G3z) qmix qNG known9 (fs_all (by exact ⟨scan_ok, rscan_ok, trivial⟩)) (ls_one rfl rtok0_ok) 200 _ (Eq.mpr (f3_eq s ty _) ?_)
  have hl := scan_len s
  have non : (scanF s).1 = [] → (scanF s).1.length = 0 := fun h => by rw [h]; rfl
  have some' : ∀ (t : Tok) (m : List Tok), (scanF s).1 = t :: m → (scanF s).1.length = m.length + 1 := fun t m h => by rw [h]; rfl
  have some2 : ∀ (t : Tok) (m : List Tok), (scanF s).1 = t :: m → List.map (rowTok s) (scanF s).1 = List.map (rowTok s) (t :: m) := fun t m h => by rw [h]
  have mlen : (List.map (rowTok s) (scanF s).1).length = (scanF s).1.length := by simp
  simp only [decide_eq_true_eq, decide_eq_false_iff_not, Bool.not_eq_true', Bool.not_eq_false']
  repeat' first | exact trivial | rfl | apply And.intro | intro _
  all_goals first
    | (have h1 := non (by assumption); omega)
    | (have h1 := some' _ _ (by assumption); omega)
    | (have h1 := some' _ _ (by assumption); rw [mlen]; omega)
    | exact some2 _ _ (by assumption)
    | (have h1 := non (by assumption); exfalso; rename_i hq; exact hq (by rw [h1]; rfl))
    | (have h1 := some' _ _ (by assumption); exfalso; rename_i hq; exact hq (by rw [h1]))
    | (exfalso; rename_i hq; exact hq rfl)
    | (exfalso; rename_i hq; exact hq trivial)
theorem scans_fn (s : List UInt8) (junk : List Value) (ty : Nat) : Z.Fn Tryz.prog 3 [.string (Z.bs s)] [Z.pt 0 (varO (spaceL.map fun n => Value.int .u8 (.ofNat n)) junk ty (0, 0))] (TrulyV 0 (varO (spaceL.map fun n => Value.int .u8 (.ofNat n)) junk ty (0, 0))) :=
  var_fn rfl rfl (scans_run s) space_rel (.cons rfl .nil) junk ty
end
end Go.Proofs.YtekioipmhhcbhaaGreatDoor
