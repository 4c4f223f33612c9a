/- Contracts of the library at this program: written by the kit's shelf tools (tools/shelf.py). -/
import Derived.Shelf.Strings.Builder1
import Derived.Shelf.Strings.Builder2
import Derived.Shelf.Strings.OnBuilder
import Derived.Shelf.Strings.Trim
import Derived.Shelf.Small.Utf8
import Derived.Shelf.Small.Strs
import Derived.Shelf.Strings.BuilderF
import Derived.Shelf.Utf8.RuneCount
import Derived.Shelf.Strings.Builder2Cap
import Derived.Shelf.Strings.Search1
import Derived.Shelf.Strings.Search2
import Derived.Shelf.Strings.Search3
import Derived.Shelf.Strings.Count
import Derived.Shelf.LaysM
import Derived.Shelf.Strings.Shaped
import Derived.Shelf.Strings.Split
import Derived.Shelf.Strings.Fields
import Derived.Shelf.Strings.Replace
import Derived.Shelf.Strings.SplitShaped
import Derived.Shelf.Unicode.Latin
import Derived.Shelf.Unicode.Decode
import Derived.Shelf.Strings.Runes
import Derived.Shelf.Strings.RuneCount
import Derived.Shelf.Strings.AsciiSet
import Derived.Shelf.Unicode.DecodeSlow
import Derived.Shelf.Unicode.DecodeAny
import Derived.Shelf.Unicode.Is16White
import Derived.Shelf.Unicode.IsSpaceAny
import Derived.Shelf.Unicode.DecodeLast
import Derived.Shelf.Unicode.CaseLookup
import Derived.Shelf.Unicode.CaseConvert
import Derived.Shelf.Unicode.CaseTo
import Derived.Shelf.Unicode.CaseLaid
import Derived.Shelf.Unicode.Is16Any
import Derived.Shelf.Unicode.Is32Any
import Derived.Shelf.Unicode.ExclAny
import Derived.Test.YtekioipmhhcbhaaDoorProg

namespace Go.Proofs
open Go.Shelf
def Tryd.lays155_ren : Go.Shelf.Ren := ⟨λ | 155 => 36 | 154 => 48 | 138 => 60 | 165 => 61 | 143 => 62 | 166 => 51 | 197 => 63 | 169 => 40 | 195 => 73 | 218 => 74 | 240 => 65 | 241 => 75 | 219 => 76 | 260 => 77 | 276 => 78 | 277 => 87 | 217 => 43 | 225 => 88 | 224 => 89 | 267 => 90 | 266 => 52 | 314 => 100 | n => n, λ | 9 => 9 | 3 => 3 | 4 => 4 | 72 => 72 | 0 => 0 | 76 => 89 | 105 => 101 | 21 => 21 | 5 => 5 | 70 => 70 | 20 => 20 | 37 => 36 | 75 => 87 | 127 => 91 | 164 => 115 | 46 => 133 | 119 => 51 | 139 => 136 | 138 => 135 | 146 => 150 | 51 => 107 | 80 => 77 | n => n, λ | 1 => 1 | 3 => 3 | 4 => 4 | n => n⟩
theorem Tryd.lays155 : Go.Proofs.Lays.n155 Tryd.prog Tryd.lays155_ren := {
 mixed := by kernel_rfl
 f138 := Tryd.func60.trans (congrArg some (by kernel_rfl))
 f143 := Tryd.func62.trans (congrArg some (by kernel_rfl))
 f154 := Tryd.func48.trans (congrArg some (by kernel_rfl))
 f155 := Tryd.func36.trans (congrArg some (by kernel_rfl))
 f165 := Tryd.func61.trans (congrArg some (by kernel_rfl))
 f166 := Tryd.func51.trans (congrArg some (by kernel_rfl))
 f169 := Tryd.func40.trans (congrArg some (by kernel_rfl))
 f195 := Tryd.func73.trans (congrArg some (by kernel_rfl))
 f197 := Tryd.func63.trans (congrArg some (by kernel_rfl))
 f217 := Tryd.func43.trans (congrArg some (by kernel_rfl))
 f218 := Tryd.func74.trans (congrArg some (by kernel_rfl))
 f219 := Tryd.func76.trans (congrArg some (by kernel_rfl))
 f224 := Tryd.func89.trans (congrArg some (by kernel_rfl))
 f225 := Tryd.func88.trans (congrArg some (by kernel_rfl))
 f240 := Tryd.func65.trans (congrArg some (by kernel_rfl))
 f241 := Tryd.func75.trans (congrArg some (by kernel_rfl))
 f260 := Tryd.func77.trans (congrArg some (by kernel_rfl))
 f266 := Tryd.func52.trans (congrArg some (by kernel_rfl))
 f267 := Tryd.func90.trans (congrArg some (by kernel_rfl))
 f276 := Tryd.func78.trans (congrArg some (by kernel_rfl))
 f277 := Tryd.func87.trans (congrArg some (by kernel_rfl))
 f314 := Tryd.func100.trans (congrArg some (by kernel_rfl))
 t0 := Tryd.underlying0
 a0 := Tryd.isAgg0
 z0 := Tryd.sizeOf0
 v0 := Tryd.zeroValue0
 t3 := Tryd.underlying3
 a3 := Tryd.isAgg3
 z3 := Tryd.sizeOf3
 v3 := Tryd.zeroValue3
 t4 := Tryd.underlying4
 a4 := Tryd.isAgg4
 z4 := Tryd.sizeOf4
 v4 := Tryd.zeroValue4
 t5 := Tryd.underlying5
 a5 := Tryd.isAgg5
 z5 := Tryd.sizeOf5
 v5 := Tryd.zeroValue5
 t9 := Tryd.underlying9
 a9 := Tryd.isAgg9
 z9 := Tryd.sizeOf9
 v9 := Tryd.zeroValue9
 t20 := Tryd.underlying20
 a20 := Tryd.isAgg20
 z20 := Tryd.sizeOf20
 v20 := Tryd.zeroValue20
 t21 := Tryd.underlying21
 a21 := Tryd.isAgg21
 z21 := Tryd.sizeOf21
 v21 := Tryd.zeroValue21
 t37 := Tryd.underlying36
 a37 := Tryd.isAgg36
 z37 := Tryd.sizeOf36
 v37 := Tryd.zeroValue36
 t46 := Tryd.underlying133
 a46 := Tryd.isAgg133
 z46 := Tryd.sizeOf133
 v46 := Tryd.zeroValue133
 t51 := Tryd.underlying107
 a51 := Tryd.isAgg107
 z51 := Tryd.sizeOf107
 v51 := Tryd.zeroValue107
 t70 := Tryd.underlying70
 a70 := Tryd.isAgg70
 z70 := Tryd.sizeOf70
 v70 := Tryd.zeroValue70
 t72 := Tryd.underlying72
 a72 := Tryd.isAgg72
 z72 := Tryd.sizeOf72
 v72 := Tryd.zeroValue72
 t75 := Tryd.underlying87
 a75 := Tryd.isAgg87
 z75 := Tryd.sizeOf87
 v75 := Tryd.zeroValue87
 t76 := Tryd.underlying89
 a76 := Tryd.isAgg89
 z76 := Tryd.sizeOf89
 v76 := Tryd.zeroValue89
 t105 := Tryd.underlying101
 a105 := Tryd.isAgg101
 z105 := Tryd.sizeOf101
 v105 := Tryd.zeroValue101
 t119 := Tryd.underlying51
 a119 := Tryd.isAgg51
 z119 := Tryd.sizeOf51
 t127 := Tryd.underlying91
 a127 := Tryd.isAgg91
 z127 := Tryd.sizeOf91
 v127 := Tryd.zeroValue91
 t138 := Tryd.underlying135
 a138 := Tryd.isAgg135
 z138 := Tryd.sizeOf135
 v138 := Tryd.zeroValue135
 t139 := Tryd.underlying136
 a139 := Tryd.isAgg136
 z139 := Tryd.sizeOf136
 v139 := Tryd.zeroValue136
 t146 := Tryd.underlying150
 a146 := Tryd.isAgg150
 z146 := Tryd.sizeOf150
 v146 := Tryd.zeroValue150
 t164 := Tryd.underlying115
 a164 := Tryd.isAgg115
 z164 := Tryd.sizeOf115
 v164 := Tryd.zeroValue115
 g1 := by kernel_rfl
 g3 := by kernel_rfl
 g4 := by kernel_rfl }
theorem Tryd.Builder_Extra_155 : Builder.Extra Tryd.prog Tryd.lays155_ren := {
 sizeBuilder := by kernel_rfl
 liesBuilder := by kernel_rfl
 t5 := Tryd.underlying5
 a5 := Tryd.isAgg5
 z5 := Tryd.sizeOf5
 v5 := Tryd.zeroValue5
 infoByte := by kernel_rfl
 cellsByte := by kernel_rfl
 sizeByte := by kernel_rfl
 neB5 := by decide }
open Go.RowKit Go.Lib in
theorem Tryd.strings_ReplaceAll (s old new : ByteArray) (m : Int) (w : World) (hs : s.size < 4294967281) (hm : w.cell? ⟨1, 0, none⟩ = some (.int .i64 m)) (h1 : 1 <= old.size) (hlen : s.size + Lib.countB s old * new.size <= 140737488355328) :
  Calls Tryd.prog 36 #[.string s, .string old, .string new] w λ e w' =>
   e = .returned (.string ⟨(Lib.replaceAll s.data.toList old.data.toList new.data.toList).toArray⟩) /\ Below w.heap.size w w' := Any.strings_ReplaceAll Tryd.lays155 Tryd.Builder_Extra_155 s old new m w hs hm h1 hlen
end Go.Proofs
