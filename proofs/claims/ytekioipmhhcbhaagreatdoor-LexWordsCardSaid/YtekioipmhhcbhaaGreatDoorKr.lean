/- Contracts of the library at this program: written by the kit's shelf tools (tools/shelf.py). -/
import Derived.Shelf.Strings.Builder1
import Derived.Shelf.Strings.Builder2
import Derived.Shelf.Strings.OnBuilder
import Derived.Shelf.Strings.Trim
import Derived.Shelf.Small.Utf8
import Derived.Shelf.Small.Bits
import Derived.Shelf.Small.Strs
import Derived.Shelf.Strings.BuilderF
import Derived.Shelf.Utf8.RuneCount
import Derived.Shelf.Strings.Builder2Cap
import Derived.Shelf.Strconv.Itoa0
import Derived.Shelf.Strings.Search1
import Derived.Shelf.Strings.Search2
import Derived.Shelf.Strings.Search3
import Derived.Shelf.Strings.Count
import Derived.Shelf.LaysM
import Derived.Shelf.Strings.Shaped
import Derived.Shelf.Sort.Plain
import Derived.Shelf.Strings.Split
import Derived.Shelf.Strings.Fields
import Derived.Shelf.Strings.Replace
import Derived.Shelf.Strings.SplitShaped
import Derived.Shelf.Unicode.Latin
import Derived.Shelf.Unicode.Decode
import Derived.Shelf.Strings.Runes
import Derived.Shelf.Strings.RuneCount
import Derived.Shelf.Strings.AsciiSet
import Derived.Shelf.Unicode.DecodeSlow
import Derived.Shelf.Unicode.DecodeAny
import Derived.Shelf.Unicode.Is16White
import Derived.Shelf.Unicode.IsSpaceAny
import Derived.Shelf.Unicode.DecodeLast
import Derived.Shelf.Unicode.CaseLookup
import Derived.Shelf.Unicode.CaseConvert
import Derived.Shelf.Unicode.CaseTo
import Derived.Shelf.Unicode.CaseLaid
import Derived.Shelf.Unicode.Is16Any
import Derived.Shelf.Unicode.Is32Any
import Derived.Shelf.Unicode.ExclAny
import Derived.Shelf.Slices.In.SortNone
import Derived.Test.YtekioipmhhcbhaaGreatDoorProg

namespace Go.Proofs
open Go.Shelf
def Tryz.lays155_ren : Go.Shelf.Ren := ⟨λ | 155 => 51 | 154 => 69 | 138 => 85 | 165 => 86 | 143 => 87 | 166 => 66 | 197 => 88 | 169 => 41 | 195 => 109 | 218 => 110 | 240 => 82 | 241 => 111 | 219 => 112 | 260 => 113 | 276 => 97 | 277 => 128 | 217 => 70 | 225 => 129 | 224 => 130 | 267 => 131 | 266 => 89 | 314 => 142 | n => n, λ | 9 => 9 | 3 => 3 | 4 => 4 | 72 => 69 | 0 => 0 | 76 => 98 | 105 => 115 | 21 => 21 | 5 => 5 | 70 => 66 | 20 => 20 | 37 => 67 | 75 => 96 | 127 => 100 | 164 => 127 | 46 => 113 | 119 => 51 | 139 => 166 | 138 => 165 | 146 => 182 | 51 => 120 | 80 => 74 | n => n, λ | 1 => 2 | 3 => 3 | 4 => 4 | n => n⟩
theorem Tryz.lays155 : Go.Proofs.Lays.n155 Tryz.prog Tryz.lays155_ren := {
 mixed := by kernel_rfl
 f138 := Tryz.func85.trans (congrArg some (by kernel_rfl))
 f143 := Tryz.func87.trans (congrArg some (by kernel_rfl))
 f154 := Tryz.func69.trans (congrArg some (by kernel_rfl))
 f155 := Tryz.func51.trans (congrArg some (by kernel_rfl))
 f165 := Tryz.func86.trans (congrArg some (by kernel_rfl))
 f166 := Tryz.func66.trans (congrArg some (by kernel_rfl))
 f169 := Tryz.func41.trans (congrArg some (by kernel_rfl))
 f195 := Tryz.func109.trans (congrArg some (by kernel_rfl))
 f197 := Tryz.func88.trans (congrArg some (by kernel_rfl))
 f217 := Tryz.func70.trans (congrArg some (by kernel_rfl))
 f218 := Tryz.func110.trans (congrArg some (by kernel_rfl))
 f219 := Tryz.func112.trans (congrArg some (by kernel_rfl))
 f224 := Tryz.func130.trans (congrArg some (by kernel_rfl))
 f225 := Tryz.func129.trans (congrArg some (by kernel_rfl))
 f240 := Tryz.func82.trans (congrArg some (by kernel_rfl))
 f241 := Tryz.func111.trans (congrArg some (by kernel_rfl))
 f260 := Tryz.func113.trans (congrArg some (by kernel_rfl))
 f266 := Tryz.func89.trans (congrArg some (by kernel_rfl))
 f267 := Tryz.func131.trans (congrArg some (by kernel_rfl))
 f276 := Tryz.func97.trans (congrArg some (by kernel_rfl))
 f277 := Tryz.func128.trans (congrArg some (by kernel_rfl))
 f314 := Tryz.func142.trans (congrArg some (by kernel_rfl))
 t0 := Tryz.underlying0
 a0 := Tryz.isAgg0
 z0 := Tryz.sizeOf0
 v0 := Tryz.zeroValue0
 t3 := Tryz.underlying3
 a3 := Tryz.isAgg3
 z3 := Tryz.sizeOf3
 v3 := Tryz.zeroValue3
 t4 := Tryz.underlying4
 a4 := Tryz.isAgg4
 z4 := Tryz.sizeOf4
 v4 := Tryz.zeroValue4
 t5 := Tryz.underlying5
 a5 := Tryz.isAgg5
 z5 := Tryz.sizeOf5
 v5 := Tryz.zeroValue5
 t9 := Tryz.underlying9
 a9 := Tryz.isAgg9
 z9 := Tryz.sizeOf9
 v9 := Tryz.zeroValue9
 t20 := Tryz.underlying20
 a20 := Tryz.isAgg20
 z20 := Tryz.sizeOf20
 v20 := Tryz.zeroValue20
 t21 := Tryz.underlying21
 a21 := Tryz.isAgg21
 z21 := Tryz.sizeOf21
 v21 := Tryz.zeroValue21
 t37 := Tryz.underlying67
 a37 := Tryz.isAgg67
 z37 := Tryz.sizeOf67
 v37 := Tryz.zeroValue67
 t46 := Tryz.underlying113
 a46 := Tryz.isAgg113
 z46 := Tryz.sizeOf113
 v46 := Tryz.zeroValue113
 t51 := Tryz.underlying120
 a51 := Tryz.isAgg120
 z51 := Tryz.sizeOf120
 v51 := Tryz.zeroValue120
 t70 := Tryz.underlying66
 a70 := Tryz.isAgg66
 z70 := Tryz.sizeOf66
 v70 := Tryz.zeroValue66
 t72 := Tryz.underlying69
 a72 := Tryz.isAgg69
 z72 := Tryz.sizeOf69
 v72 := Tryz.zeroValue69
 t75 := Tryz.underlying96
 a75 := Tryz.isAgg96
 z75 := Tryz.sizeOf96
 v75 := Tryz.zeroValue96
 t76 := Tryz.underlying98
 a76 := Tryz.isAgg98
 z76 := Tryz.sizeOf98
 v76 := Tryz.zeroValue98
 t105 := Tryz.underlying115
 a105 := Tryz.isAgg115
 z105 := Tryz.sizeOf115
 v105 := Tryz.zeroValue115
 t119 := Tryz.underlying51
 a119 := Tryz.isAgg51
 z119 := Tryz.sizeOf51
 t127 := Tryz.underlying100
 a127 := Tryz.isAgg100
 z127 := Tryz.sizeOf100
 v127 := Tryz.zeroValue100
 t138 := Tryz.underlying165
 a138 := Tryz.isAgg165
 z138 := Tryz.sizeOf165
 v138 := Tryz.zeroValue165
 t139 := Tryz.underlying166
 a139 := Tryz.isAgg166
 z139 := Tryz.sizeOf166
 v139 := Tryz.zeroValue166
 t146 := Tryz.underlying182
 a146 := Tryz.isAgg182
 z146 := Tryz.sizeOf182
 v146 := Tryz.zeroValue182
 t164 := Tryz.underlying127
 a164 := Tryz.isAgg127
 z164 := Tryz.sizeOf127
 v164 := Tryz.zeroValue127
 g1 := by kernel_rfl
 g3 := by kernel_rfl
 g4 := by kernel_rfl }
theorem Tryz.Builder_Extra_155 : Builder.Extra Tryz.prog Tryz.lays155_ren := {
 sizeBuilder := by kernel_rfl
 liesBuilder := by kernel_rfl
 t5 := Tryz.underlying5
 a5 := Tryz.isAgg5
 z5 := Tryz.sizeOf5
 v5 := Tryz.zeroValue5
 infoByte := by kernel_rfl
 cellsByte := by kernel_rfl
 sizeByte := by kernel_rfl
 neB5 := by decide }
open Go.RowKit Go.Lib in
theorem Tryz.strings_ReplaceAll (s old new : ByteArray) (m : Int) (w : World) (hs : s.size < 4294967281) (hm : w.cell? ⟨2, 0, none⟩ = some (.int .i64 m)) (h1 : 1 <= old.size) (hlen : s.size + Lib.countB s old * new.size <= 140737488355328) :
  Calls Tryz.prog 51 #[.string s, .string old, .string new] w λ e w' =>
   e = .returned (.string ⟨(Lib.replaceAll s.data.toList old.data.toList new.data.toList).toArray⟩) /\ Below w.heap.size w w' := Any.strings_ReplaceAll Tryz.lays155 Tryz.Builder_Extra_155 s old new m w hs hm h1 hlen
end Go.Proofs
