/- Contracts of the library at this program: written by the kit's shelf tools (tools/shelf.py). -/
import Derived.Shelf.Strings.Builder1
import Derived.Shelf.Strings.Builder2
import Derived.Shelf.Strings.OnBuilder
import Derived.Shelf.Strings.Trim
import Derived.Shelf.Small.Utf8
import Derived.Shelf.Small.Bits
import Derived.Shelf.Small.Strs
import Derived.Shelf.Strings.BuilderF
import Derived.Shelf.Utf8.RuneCount
import Derived.Shelf.Strings.Builder2Cap
import Derived.Shelf.Strconv.Itoa0
import Derived.Shelf.Strings.Search1
import Derived.Shelf.Strings.Search2
import Derived.Shelf.Strings.Search3
import Derived.Shelf.Strings.Count
import Derived.Shelf.LaysM
import Derived.Shelf.Strings.Shaped
import Derived.Shelf.Sort.Plain
import Derived.Shelf.Strings.Split
import Derived.Shelf.Strings.Fields
import Derived.Shelf.Strings.Replace
import Derived.Shelf.Strings.SplitShaped
import Derived.Shelf.Unicode.Latin
import Derived.Shelf.Unicode.Decode
import Derived.Shelf.Strings.Runes
import Derived.Shelf.Strings.RuneCount
import Derived.Shelf.Strings.AsciiSet
import Derived.Shelf.Unicode.DecodeSlow
import Derived.Shelf.Unicode.DecodeAny
import Derived.Shelf.Unicode.Is16White
import Derived.Shelf.Unicode.IsSpaceAny
import Derived.Shelf.Unicode.DecodeLast
import Derived.Shelf.Unicode.CaseLookup
import Derived.Shelf.Unicode.CaseConvert
import Derived.Shelf.Unicode.CaseTo
import Derived.Shelf.Unicode.CaseLaid
import Derived.Shelf.Unicode.Is16Any
import Derived.Shelf.Unicode.Is32Any
import Derived.Shelf.Unicode.ExclAny
import Derived.Shelf.Slices.In.SortNone
import Derived.Test.YtekioipmhhcbhaaGreatDoorProg
import Derived.Test.YtekioipmhhcbhaaGreatDoorM9
import Derived.Test.YtekioipmhhcbhaaGreatDoorKs
import Derived.Test.YtekioipmhhcbhaaGreatDoorKa
set_option linter.unusedVariables false
set_option linter.unusedSimpArgs false
namespace Go.Proofs
open Go.Shelf
def Tryz.lays159_ren : Go.Shelf.Ren := ⟨λ | 159 => 75 | 165 => 86 | 166 => 66 | 167 => 65 | 169 => 41 | 230 => 92 | 204 => 93 | 240 => 82 | 241 => 111 | 197 => 88 | 118 => 116 | 168 => 117 | 270 => 118 | 262 => 119 | 276 => 97 | 277 => 128 | 260 => 113 | 242 => 132 | 313 => 133 | 278 => 143 | 274 => 144 | 275 => 145 | n => n, λ | 9 => 9 | 4 => 4 | 3 => 3 | 5 => 5 | 72 => 69 | 0 => 0 | 76 => 98 | 75 => 96 | 107 => 125 | 70 => 66 | 20 => 20 | 37 => 67 | 127 => 100 | 21 => 21 | 105 => 115 | 164 => 127 | 162 => 172 | 203 => 170 | 119 => 51 | 46 => 113 | 139 => 166 | 138 => 165 | 51 => 120 | 160 => 184 | 208 => 191 | 206 => 189 | 80 => 74 | n => n, λ | 13 => 5 | 3 => 3 | 4 => 4 | n => n⟩
theorem Tryz.lays159 : Go.Proofs.Lays.n159 Tryz.prog Tryz.lays159_ren := {
 mixed := by kernel_rfl
 f118 := Tryz.func116.trans (congrArg some (by kernel_rfl))
 f159 := Tryz.func75.trans (congrArg some (by kernel_rfl))
 f165 := Tryz.func86.trans (congrArg some (by kernel_rfl))
 f166 := Tryz.func66.trans (congrArg some (by kernel_rfl))
 f167 := Tryz.func65.trans (congrArg some (by kernel_rfl))
 f168 := Tryz.func117.trans (congrArg some (by kernel_rfl))
 f169 := Tryz.func41.trans (congrArg some (by kernel_rfl))
 f197 := Tryz.func88.trans (congrArg some (by kernel_rfl))
 f204 := Tryz.func93.trans (congrArg some (by kernel_rfl))
 f230 := Tryz.func92.trans (congrArg some (by kernel_rfl))
 f240 := Tryz.func82.trans (congrArg some (by kernel_rfl))
 f241 := Tryz.func111.trans (congrArg some (by kernel_rfl))
 f242 := Tryz.func132.trans (congrArg some (by kernel_rfl))
 f260 := Tryz.func113.trans (congrArg some (by kernel_rfl))
 f262 := Tryz.func119.trans (congrArg some (by kernel_rfl))
 f270 := Tryz.func118.trans (congrArg some (by kernel_rfl))
 f274 := Tryz.func144.trans (congrArg some (by kernel_rfl))
 f275 := Tryz.func145.trans (congrArg some (by kernel_rfl))
 f276 := Tryz.func97.trans (congrArg some (by kernel_rfl))
 f277 := Tryz.func128.trans (congrArg some (by kernel_rfl))
 f278 := Tryz.func143.trans (congrArg some (by kernel_rfl))
 f313 := Tryz.func133.trans (congrArg some (by kernel_rfl))
 t0 := Tryz.underlying0
 a0 := Tryz.isAgg0
 z0 := Tryz.sizeOf0
 v0 := Tryz.zeroValue0
 t3 := Tryz.underlying3
 a3 := Tryz.isAgg3
 z3 := Tryz.sizeOf3
 v3 := Tryz.zeroValue3
 t4 := Tryz.underlying4
 a4 := Tryz.isAgg4
 z4 := Tryz.sizeOf4
 v4 := Tryz.zeroValue4
 t5 := Tryz.underlying5
 a5 := Tryz.isAgg5
 z5 := Tryz.sizeOf5
 v5 := Tryz.zeroValue5
 t9 := Tryz.underlying9
 a9 := Tryz.isAgg9
 z9 := Tryz.sizeOf9
 v9 := Tryz.zeroValue9
 t20 := Tryz.underlying20
 a20 := Tryz.isAgg20
 z20 := Tryz.sizeOf20
 v20 := Tryz.zeroValue20
 t21 := Tryz.underlying21
 a21 := Tryz.isAgg21
 z21 := Tryz.sizeOf21
 v21 := Tryz.zeroValue21
 t37 := Tryz.underlying67
 a37 := Tryz.isAgg67
 z37 := Tryz.sizeOf67
 v37 := Tryz.zeroValue67
 t46 := Tryz.underlying113
 a46 := Tryz.isAgg113
 z46 := Tryz.sizeOf113
 v46 := Tryz.zeroValue113
 t51 := Tryz.underlying120
 a51 := Tryz.isAgg120
 z51 := Tryz.sizeOf120
 v51 := Tryz.zeroValue120
 t70 := Tryz.underlying66
 a70 := Tryz.isAgg66
 z70 := Tryz.sizeOf66
 v70 := Tryz.zeroValue66
 t72 := Tryz.underlying69
 a72 := Tryz.isAgg69
 z72 := Tryz.sizeOf69
 v72 := Tryz.zeroValue69
 t75 := Tryz.underlying96
 a75 := Tryz.isAgg96
 z75 := Tryz.sizeOf96
 v75 := Tryz.zeroValue96
 t76 := Tryz.underlying98
 a76 := Tryz.isAgg98
 z76 := Tryz.sizeOf98
 v76 := Tryz.zeroValue98
 t105 := Tryz.underlying115
 a105 := Tryz.isAgg115
 z105 := Tryz.sizeOf115
 v105 := Tryz.zeroValue115
 t107 := Tryz.underlying125
 a107 := Tryz.isAgg125
 z107 := Tryz.sizeOf125
 v107 := Tryz.zeroValue125
 t119 := Tryz.underlying51
 a119 := Tryz.isAgg51
 z119 := Tryz.sizeOf51
 t127 := Tryz.underlying100
 a127 := Tryz.isAgg100
 z127 := Tryz.sizeOf100
 v127 := Tryz.zeroValue100
 t138 := Tryz.underlying165
 a138 := Tryz.isAgg165
 z138 := Tryz.sizeOf165
 v138 := Tryz.zeroValue165
 t139 := Tryz.underlying166
 a139 := Tryz.isAgg166
 z139 := Tryz.sizeOf166
 v139 := Tryz.zeroValue166
 t160 := Tryz.underlying184
 a160 := Tryz.isAgg184
 z160 := Tryz.sizeOf184
 v160 := Tryz.zeroValue184
 t162 := Tryz.underlying172
 a162 := Tryz.isAgg172
 z162 := Tryz.sizeOf172
 v162 := Tryz.zeroValue172
 t164 := Tryz.underlying127
 a164 := Tryz.isAgg127
 z164 := Tryz.sizeOf127
 v164 := Tryz.zeroValue127
 t203 := Tryz.underlying170
 a203 := Tryz.isAgg170
 z203 := Tryz.sizeOf170
 v203 := Tryz.zeroValue170
 t206 := Tryz.underlying189
 a206 := Tryz.isAgg189
 z206 := Tryz.sizeOf189
 v206 := Tryz.zeroValue189
 t208 := Tryz.underlying191
 a208 := Tryz.isAgg191
 z208 := Tryz.sizeOf191
 v208 := Tryz.zeroValue191
 g3 := by kernel_rfl
 g4 := by kernel_rfl
 g13 := by kernel_rfl }
theorem Tryz.Builder_Extra_159 : Builder.Extra Tryz.prog Tryz.lays159_ren := {
 sizeBuilder := by kernel_rfl
 liesBuilder := by kernel_rfl
 t5 := Tryz.underlying5
 a5 := Tryz.isAgg5
 z5 := Tryz.sizeOf5
 v5 := Tryz.zeroValue5
 infoByte := by kernel_rfl
 cellsByte := by kernel_rfl
 sizeByte := by kernel_rfl
 neB5 := by decide }
open Go.RowKit in
theorem Tryz.strings_ToLower_ascii (s : ByteArray) (w : World) (hs : s.size <= 140737488355328) (hascii : ∀ (j : Nat) (b : UInt8), s.data.toList[j]? = some b -> b.toNat < 128) :
  Calls Tryz.prog 75 #[.string s] w λ e w' => e = .returned (.string ⟨(Lib.toLowerA s.data.toList).toArray⟩) /\ Below w.heap.size w w' := Any.strings_ToLower_ascii Tryz.lays159 Tryz.Builder_Extra_159 s w hs hascii
def Tryz.lays161_ren : Go.Shelf.Ren := ⟨λ | 161 => 120 | 231 => 134 | 227 => 135 | 233 => 136 | 235 => 137 | 228 => 146 | 197 => 88 | 151 => 147 | 260 => 113 | 152 => 149 | 137 => 55 | 119 => 151 | 224 => 130 | 225 => 129 | 217 => 70 | 266 => 89 | n => n, λ | 9 => 9 | 4 => 4 | 3 => 3 | 5 => 5 | 117 => 176 | 116 => 175 | 0 => 0 | 124 => 179 | 105 => 115 | 21 => 21 | 119 => 51 | 46 => 113 | 139 => 166 | 138 => 165 | n => n, λ | 3 => 3 | 4 => 4 | n => n⟩
theorem Tryz.lays161 : Go.Proofs.Lays.n161 Tryz.prog Tryz.lays161_ren := {
 mixed := by kernel_rfl
 f119 := Tryz.func151.trans (congrArg some (by kernel_rfl))
 f137 := Tryz.func55.trans (congrArg some (by kernel_rfl))
 f151 := Tryz.func147.trans (congrArg some (by kernel_rfl))
 f152 := Tryz.func149.trans (congrArg some (by kernel_rfl))
 f161 := Tryz.func120.trans (congrArg some (by kernel_rfl))
 f197 := Tryz.func88.trans (congrArg some (by kernel_rfl))
 f217 := Tryz.func70.trans (congrArg some (by kernel_rfl))
 f224 := Tryz.func130.trans (congrArg some (by kernel_rfl))
 f225 := Tryz.func129.trans (congrArg some (by kernel_rfl))
 f227 := Tryz.func135.trans (congrArg some (by kernel_rfl))
 f228 := Tryz.func146.trans (congrArg some (by kernel_rfl))
 f231 := Tryz.func134.trans (congrArg some (by kernel_rfl))
 f233 := Tryz.func136.trans (congrArg some (by kernel_rfl))
 f235 := Tryz.func137.trans (congrArg some (by kernel_rfl))
 f260 := Tryz.func113.trans (congrArg some (by kernel_rfl))
 f266 := Tryz.func89.trans (congrArg some (by kernel_rfl))
 t0 := Tryz.underlying0
 a0 := Tryz.isAgg0
 z0 := Tryz.sizeOf0
 v0 := Tryz.zeroValue0
 t3 := Tryz.underlying3
 a3 := Tryz.isAgg3
 z3 := Tryz.sizeOf3
 v3 := Tryz.zeroValue3
 t4 := Tryz.underlying4
 a4 := Tryz.isAgg4
 z4 := Tryz.sizeOf4
 v4 := Tryz.zeroValue4
 t5 := Tryz.underlying5
 a5 := Tryz.isAgg5
 z5 := Tryz.sizeOf5
 v5 := Tryz.zeroValue5
 t9 := Tryz.underlying9
 a9 := Tryz.isAgg9
 z9 := Tryz.sizeOf9
 v9 := Tryz.zeroValue9
 t21 := Tryz.underlying21
 a21 := Tryz.isAgg21
 z21 := Tryz.sizeOf21
 v21 := Tryz.zeroValue21
 t46 := Tryz.underlying113
 a46 := Tryz.isAgg113
 z46 := Tryz.sizeOf113
 v46 := Tryz.zeroValue113
 t105 := Tryz.underlying115
 a105 := Tryz.isAgg115
 z105 := Tryz.sizeOf115
 v105 := Tryz.zeroValue115
 t116 := Tryz.underlying175
 a116 := Tryz.isAgg175
 z116 := Tryz.sizeOf175
 t117 := Tryz.underlying176
 a117 := Tryz.isAgg176
 z117 := Tryz.sizeOf176
 v117 := Tryz.zeroValue176
 t119 := Tryz.underlying51
 a119 := Tryz.isAgg51
 z119 := Tryz.sizeOf51
 t124 := Tryz.underlying179
 a124 := Tryz.isAgg179
 z124 := Tryz.sizeOf179
 v124 := Tryz.zeroValue179
 t138 := Tryz.underlying165
 a138 := Tryz.isAgg165
 z138 := Tryz.sizeOf165
 v138 := Tryz.zeroValue165
 t139 := Tryz.underlying166
 a139 := Tryz.isAgg166
 z139 := Tryz.sizeOf166
 v139 := Tryz.zeroValue166
 g3 := by kernel_rfl
 g4 := by kernel_rfl }
open Go.RowKit in
theorem Tryz.strings_TrimLeft_one (s : ByteArray) (c : UInt8) (hc : c.toNat < 128) (w : World) :
  Calls Tryz.prog 120 #[.string s, .string ⟨#[c]⟩] w λ e w' => e = .returned (.string ⟨(Lib.trimLeftB s.data.toList c).toArray⟩) /\ w' = w := Any.strings_TrimLeft_one Tryz.lays161 s c hc w
def Tryz.lays162_ren : Go.Shelf.Ren := ⟨λ | 162 => 121 | 232 => 138 | 227 => 135 | 234 => 139 | 236 => 140 | 228 => 146 | 271 => 148 | 151 => 147 | 120 => 150 | 197 => 88 | 152 => 149 | 260 => 113 | 137 => 55 | 119 => 151 | 224 => 130 | 225 => 129 | 217 => 70 | 266 => 89 | n => n, λ | 9 => 9 | 4 => 4 | 3 => 3 | 5 => 5 | 117 => 176 | 116 => 175 | 0 => 0 | 124 => 179 | 21 => 21 | 105 => 115 | 46 => 113 | 119 => 51 | 139 => 166 | 138 => 165 | n => n, λ | 3 => 3 | 4 => 4 | n => n⟩
theorem Tryz.lays162 : Go.Proofs.Lays.n162 Tryz.prog Tryz.lays162_ren := {
 mixed := by kernel_rfl
 f119 := Tryz.func151.trans (congrArg some (by kernel_rfl))
 f120 := Tryz.func150.trans (congrArg some (by kernel_rfl))
 f137 := Tryz.func55.trans (congrArg some (by kernel_rfl))
 f151 := Tryz.func147.trans (congrArg some (by kernel_rfl))
 f152 := Tryz.func149.trans (congrArg some (by kernel_rfl))
 f162 := Tryz.func121.trans (congrArg some (by kernel_rfl))
 f197 := Tryz.func88.trans (congrArg some (by kernel_rfl))
 f217 := Tryz.func70.trans (congrArg some (by kernel_rfl))
 f224 := Tryz.func130.trans (congrArg some (by kernel_rfl))
 f225 := Tryz.func129.trans (congrArg some (by kernel_rfl))
 f227 := Tryz.func135.trans (congrArg some (by kernel_rfl))
 f228 := Tryz.func146.trans (congrArg some (by kernel_rfl))
 f232 := Tryz.func138.trans (congrArg some (by kernel_rfl))
 f234 := Tryz.func139.trans (congrArg some (by kernel_rfl))
 f236 := Tryz.func140.trans (congrArg some (by kernel_rfl))
 f260 := Tryz.func113.trans (congrArg some (by kernel_rfl))
 f266 := Tryz.func89.trans (congrArg some (by kernel_rfl))
 f271 := Tryz.func148.trans (congrArg some (by kernel_rfl))
 t0 := Tryz.underlying0
 a0 := Tryz.isAgg0
 z0 := Tryz.sizeOf0
 v0 := Tryz.zeroValue0
 t3 := Tryz.underlying3
 a3 := Tryz.isAgg3
 z3 := Tryz.sizeOf3
 v3 := Tryz.zeroValue3
 t4 := Tryz.underlying4
 a4 := Tryz.isAgg4
 z4 := Tryz.sizeOf4
 v4 := Tryz.zeroValue4
 t5 := Tryz.underlying5
 a5 := Tryz.isAgg5
 z5 := Tryz.sizeOf5
 v5 := Tryz.zeroValue5
 t9 := Tryz.underlying9
 a9 := Tryz.isAgg9
 z9 := Tryz.sizeOf9
 v9 := Tryz.zeroValue9
 t21 := Tryz.underlying21
 a21 := Tryz.isAgg21
 z21 := Tryz.sizeOf21
 v21 := Tryz.zeroValue21
 t46 := Tryz.underlying113
 a46 := Tryz.isAgg113
 z46 := Tryz.sizeOf113
 v46 := Tryz.zeroValue113
 t105 := Tryz.underlying115
 a105 := Tryz.isAgg115
 z105 := Tryz.sizeOf115
 v105 := Tryz.zeroValue115
 t116 := Tryz.underlying175
 a116 := Tryz.isAgg175
 z116 := Tryz.sizeOf175
 t117 := Tryz.underlying176
 a117 := Tryz.isAgg176
 z117 := Tryz.sizeOf176
 v117 := Tryz.zeroValue176
 t119 := Tryz.underlying51
 a119 := Tryz.isAgg51
 z119 := Tryz.sizeOf51
 t124 := Tryz.underlying179
 a124 := Tryz.isAgg179
 z124 := Tryz.sizeOf179
 v124 := Tryz.zeroValue179
 t138 := Tryz.underlying165
 a138 := Tryz.isAgg165
 z138 := Tryz.sizeOf165
 v138 := Tryz.zeroValue165
 t139 := Tryz.underlying166
 a139 := Tryz.isAgg166
 z139 := Tryz.sizeOf166
 v139 := Tryz.zeroValue166
 g3 := by kernel_rfl
 g4 := by kernel_rfl }
open Go.RowKit in
theorem Tryz.strings_TrimRight_one (s : ByteArray) (c : UInt8) (hc : c.toNat < 128) (w : World) (hs : s.size <= 9223372036854775807) :
  Calls Tryz.prog 121 #[.string s, .string ⟨#[c]⟩] w λ e w' => e = .returned (.string ⟨(Lib.trimRightB s.data.toList c).toArray⟩) /\ w' = w := Any.strings_TrimRight_one Tryz.lays162 s c hc w hs
end Go.Proofs
namespace Go.Proofs.YtekioipmhhcbhaaGreatDoor
open Go Go.Z Go.Q Go.W6
open Go.Y hiding KE KK KR go Task go_sound
noncomputable section
def tl (p q : Nat) : List V := ints classL ++ [.map p, .map q]
def scn (a l c : Int) (s : List UInt8) (p q : Nat) : List V := .sint .i64 a :: .sint .i64 l :: .sint .i64 c :: .sstr s :: tl p q
def scnL (i : Nat) (s : List UInt8) (p q : Nat) : List V := scn i (lc s i).1 (lc s i).2 s p q
def clsT : List Int := tabI .u8 (ints classL)
def tailOk : List Nat -> List V -> Option (Nat × Nat)
 | [], [.map a, .map b] => some (a, b)
 | n :: l, .int k (.ofNat m) :: r => match Nat.beq n m, ikeq .u8 k with | true, true => tailOk l r | _, _ => none
 | _, _ => none
def int64 : V -> Option Int
 | .int .i64 n => some n
 | .sint .i64 n => some n
 | _ => none
def scnAt (hp : Mem) (id : Nat) (f : Int -> List UInt8 -> Nat -> Nat -> Prop) : Prop := match hp.t.get id with
 | some (.cells (a :: l :: c :: s :: r) ty sz) => match int64 a, int64 l, int64 c, strOf s, tailOk classL r with
  | some a, some l, some c, some s, some (p, q) => match Nat.beq ty 56, Nat.beq sz 262, nodupB [id, p, q], below hp.n [id, p, q], noLk [id, p, q] hp.ro with
   | true, true, true, true, true => (0 <= a /\ a <= (s.length : Int) /\ (s.length : Int) <= 20000 /\ l = (lc s a.toNat).1 /\ c = (lc s a.toNat).2) /\ f a s p q
   | _, _, _, _, _ => False
  | _, _, _, _, _ => False
 | _ => False
def putS (hp : Mem) (id i : Nat) (s : List UInt8) (p q : Nat) : Mem := ⟨hp.n, Tr.set 20 hp.t id (some (.cells (scnL i s p q) 56 262)), hp.ro⟩
def putT (hp : Mem) (id i : Nat) (s : List UInt8) (p q : Nat) (x y : Chunk) : Mem := ⟨hp.n, Tr.set 20 (Tr.set 20 (Tr.set 20 hp.t q (some y)) p (some x)) id (some (.cells (scnL i s p q) 56 262)), hp.ro⟩
def wrongV (a : Int) (e : Int) : V := .ifc 46 (.agg [.sint .i64 a, .int .i64 e])
def sLow (args : List V) (hp : Mem) (k : KE) : Prop := match args with
 | [.sstr s] => (s.length <= 140737488355328 /\ ∀ b ∈ s, b.toNat < 128) /\ k (.ret (.sstr (Go.Lib.toLowerA s))) hp
 | _ => False
def sTrim (args : List V) (hp : Mem) (k : KE) : Prop := match args with
 | [.sstr s] => k (.ret (.sstr (trimF s))) hp
 | _ => False
def sTail (args : List V) (hp : Mem) (k : KE) : Prop := match args with
 | [.sstr s] => s.length <= 20000 /\ k (.ret (.sstr (tailF s))) hp
 | _ => False
def clsB (c : Nat) (b : UInt8) : Bool := match c with
 | 2 => letB b
 | 3 => digB b
 | 4 => b.toNat == 34
 | _ => false
def clsOk (c : Nat) : Bool := match c with
 | 2 => true
 | 3 => true
 | 4 => true
 | _ => false
def sIs (args : List V) (hp : Mem) (k : KE) : Prop := match args with
 | [.ptr id 0, n, .int .u8 (.ofNat c)] => match int64 n, clsOk c with
  | some n, true => scnAt hp id λ a s p q => (0 <= n /\ n <= 20001) /\ k (.ret (.sbool (isAt (clsB c) s n.toNat))) (putS hp id a.toNat s p q)
  | _, _ => False
 | _ => False
def sDig (args : List V) (hp : Mem) (k : KE) : Prop := match args with
 | [.ptr id 0, n] => match int64 n with
  | some n => scnAt hp id λ a s p q => (0 <= n /\ n <= (s.length : Int)) /\ k (.ret (.sint .i64 (digF s n.toNat))) (putS hp id a.toNat s p q)
  | _ => False
 | _ => False
def sName (args : List V) (hp : Mem) (k : KE) : Prop := match args with
 | [.ptr id 0] => scnAt hp id λ a s p q => k (.ret (.sint .i64 (nameF s a.toNat))) (putS hp id a.toNat s p q)
 | _ => False
def sOver (args : List V) (hp : Mem) (k : KE) : Prop := match args with
 | [.ptr id 0, n] => match int64 n with
  | some n => scnAt hp id λ a s p q => (0 <= n /\ a + n <= (s.length : Int)) /\ k (.ret (.tup [])) (putS hp id (a + n).toNat s p q)
  | _ => False
 | _ => False
def sNum (args : List V) (hp : Mem) (k : KE) : Prop := match args with
 | [.ptr id 0] => scnAt hp id λ a s p q => (∀ (x : Nat) (t : List UInt8) (e : Nat), numF s a.toNat = some (x, t, e) -> k (.ret (.tup [.sint .i64 x, .sstr t, .sint .i64 e])) (putS hp id a.toNat s p q)) /\ (numF s a.toNat = none -> k (.pan (wrongV a 122)) (putS hp id a.toNat s p q))
 | _ => False
def sText (args : List V) (hp : Mem) (k : KE) : Prop := match args with
 | [.ptr id 0] => scnAt hp id λ a s p q => a < (s.length : Int) /\ (∀ (t : List UInt8) (e : Nat) (bad : Int), textF s a.toNat = .ok (t, e, bad) -> k (.ret (.tup [.sstr t, .sint .i64 e, .sint .i64 bad])) (putS hp id a.toNat s p q)) /\ (∀ e : Nat, textF s a.toNat = .error e -> k (.pan (wrongV a e)) (putS hp id a.toNat s p q))
 | _ => False
def keysC : Chunk := .map (zkm (splitB wordsB []) 0) 77
def signsC : Chunk := .map (zkm (splitB signsB []) 0) 28
def isKeys (hp : Mem) (p q : Nat) : Prop := hp.t.get p = some keysC /\ hp.t.get q = some signsC
def sTok (args : List V) (hp : Mem) (k : KE) : Prop := match args with
 | [.ptr id 0] => scnAt hp id λ a s p q => isKeys hp p q /\ a < (s.length : Int) /\ (∀ (x : TokR), tokF s a.toNat = .ok x -> k (.ret (.tup [.agg [.sint .i64 x.kind, .sstr x.text, .sint .i64 a, .sint .i64 x.to, .sint .i64 (lc s a.toNat).1, .sint .i64 (lc s a.toNat).2], .sint .i64 x.bad])) (putT hp id a.toNat s p q keysC signsC)) /\ (∀ e : Nat, tokF s a.toNat = .error e -> k (.pan (wrongV a e)) (putT hp id a.toNat s p q keysC signsC))
 | _ => False
def sSkip (args : List V) (hp : Mem) (k : KE) : Prop := match args with
 | [.ptr id 0] => scnAt hp id λ a s p q => (∀ j : Nat, skipF s a.toNat = .ok j -> k (.ret (.tup [])) (putS hp id j s p q)) /\ (∀ b : Nat, skipF s a.toNat = .error b -> k (.pan (wrongV b 120)) (putS hp id b s p q))
 | _ => False
def sTL (args : List V) (hp : Mem) (k : KE) : Prop := match args with
 | [.sstr s, .str [48]] => k (.ret (.sstr (Go.Lib.trimLeftB s 48))) hp
 | _ => False
def sTR (args : List V) (hp : Mem) (k : KE) : Prop := match args with
 | [.sstr s, .str [48]] => s.length <= 9223372036854775807 /\ k (.ret (.sstr (Go.Lib.trimRightB s 48))) hp
 | _ => False
def le70 (n : Int) : List V := [.ptr 0 0, .sint .i64 n]
def scnI (i : Nat) (s : List UInt8) : Chunk := .cells (scnL i s 1 2) 56 262
def atL (nt n : Nat) (fi : FI) (ds : List DV) (hp : Mem) (p : Prop) : Prop := match Nat.beq fi.nt nt, fi.ro, ds, hp.ro, Nat.beq hp.n n with | true, none, [], [], true => p | _, _, _, _, _ => False
def scn12 (hp : Mem) (f : Int -> List UInt8 -> Prop) : Prop := scnAt hp 0 λ a s p q => match Nat.beq p 1, Nat.beq q 2 with | true, true => f a s | _, _ => False
def numAt (env : Tr V) (t : Nat) (f : Int -> Prop) : Prop := match env.get t with
 | some v => match int64 v with | some n => f n | none => False
 | none => False
def ptrAt (env : Tr V) (t : Nat) (p : Prop) : Prop := match env.get t with
 | some (.ptr 0 0) => p
 | _ => False
def l70 (fi : FI) (ds : List DV) (env : Tr V) (hp : Mem) (k : KK) : Prop := atL 11 3 fi ds hp (ptrAt env 0 (numAt env 1 λ n => scn12 hp λ a s => (0 <= n /\ n <= (s.length : Int)) /\ k (.exit 0) [] (ofE ([0,1].zip (le70 (digF s n.toNat)))) ⟨3, ofM ([0].zip [scnI a.toNat s]), []⟩))
def l56 (fi : FI) (ds : List DV) (env : Tr V) (hp : Mem) (k : KK) : Prop := atL 38 3 fi ds hp (ptrAt env 0 (numAt env 3 λ n => scn12 hp λ a s => (0 <= n /\ n <= (s.length : Int)) /\ k (.exit 0) [] (ofE ([0,3].zip (le70 (nameF s n.toNat)))) ⟨3, ofM ([0].zip [scnI a.toNat s]), []⟩))
def le28 (n x : Int) : List V := [.ptr 0 0, .sint .i64 n, .sint .i64 x]
def l28 (fi : FI) (ds : List DV) (env : Tr V) (hp : Mem) (k : KK) : Prop := atL 51 3 fi ds hp (ptrAt env 0 (numAt env 4 λ n => numAt env 5 λ x => scn12 hp λ a s => (x = 0 /\ 0 <= n /\ a + n <= (s.length : Int)) /\ k (.exit 0) [] (ofE ([0,4,5].zip (le28 n n))) ⟨3, ofM ([0].zip [scnI (a + n).toNat s]), []⟩))
def byS (b : List UInt8) : V := match b with
 | [] => .nils
 | _ :: _ => .ssl 3 0 b.length 1
def nilAt (env : Tr V) (t : Nat) (p : Prop) : Prop := match env.get t with
 | some .nils => p
 | _ => False
def l59 (fi : FI) (ds : List DV) (env : Tr V) (hp : Mem) (k : KK) : Prop := atL 101 3 fi ds hp (ptrAt env 0 (numAt env 3 λ n => numAt env 4 λ bad => nilAt env 5 (scn12 hp λ a s => (n = a + 1 /\ bad = -1 /\ a < (s.length : Int)) /\
 (textL (s.drop n.toNat) n.toNat [] (-1) = none -> k (.panic (wrongV a 121)) [] .nil ⟨4, ofM ([0].zip [scnI a.toNat s]), []⟩) /\
 (∀ (p : Nat) (bad : Int), textL (s.drop n.toNat) n.toNat [] (-1) = some ([], p, bad) -> k (.exit 0) [] (ofE ([0,3,4,5].zip [.ptr 0 0, .sint .i64 p, .sint .i64 bad, .nils])) ⟨4, ofM ([0].zip [scnI a.toNat s]), []⟩) /\
 (∀ (x : UInt8) (b : List UInt8) (p : Nat) (bad : Int), textL (s.drop n.toNat) n.toNat [] (-1) = some (x :: b, p, bad) -> k (.exit 0) [] (ofE ([0,3,4,5].zip [.ptr 0 0, .sint .i64 p, .sint .i64 bad, .ssl 3 0 (b.length + 1) 1])) ⟨4, ofM ([0,3].zip [scnI a.toNat s, .byt (x :: b) 5]), []⟩))))
def l46i (fi : FI) (ds : List DV) (env : Tr V) (hp : Mem) (k : KK) : Prop := atL 79 3 fi ds hp (ptrAt env 0 (scn12 hp λ a s =>
 (∀ j : Nat, noteF s a.toNat = .ok j -> k (.exit 3) [] (ofE ([0].zip [.ptr 0 0])) ⟨3, ofM ([0].zip [scnI j s]), []⟩) /\
 (∀ b : Nat, noteF s a.toNat = .error b -> k (.panic (wrongV b 120)) [] .nil ⟨3, ofM ([0].zip [scnI b s]), []⟩)))
def l46 (fi : FI) (ds : List DV) (env : Tr V) (hp : Mem) (k : KK) : Prop := atL 79 3 fi ds hp (ptrAt env 0 (scn12 hp λ a s =>
 (∀ j : Nat, skipF s a.toNat = .ok j -> k (.exit 0) [] (ofE ([0].zip [.ptr 0 0])) ⟨3, ofM ([0].zip [scnI j s]), []⟩) /\
 (∀ j : Nat, skipF s a.toNat = .ok j -> k .ret [] (ofE ([0].zip [.ptr 0 0])) ⟨3, ofM ([0].zip [scnI j s]), []⟩) /\
 (∀ b : Nat, skipF s a.toNat = .error b -> k (.panic (wrongV b 120)) [] .nil ⟨3, ofM ([0].zip [scnI b s]), []⟩)))
def rgOf : Code -> Option (Array Tmp × Code × Code)
 | .rangeFunc _ ps a b => some (ps, a, b)
 | .seq a b => match rgOf a with | some x => some x | none => rgOf b
 | .block _ c => rgOf c
 | .scope c => rgOf c
 | .cond _ a b => match rgOf a with | some x => some x | none => rgOf b
 | _ => none
def rgFn (P : Program) (f : Nat) : Option (Array Tmp × Code × Code) := match P.funcs[f]? with
 | some fn => match fn.body with
  | some c => rgOf c
  | none => none
 | none => none
def loopC : Chunk := match rgFn Tryz.prog 8 with
 | some (ps, a, b) => .loop .ready none (ofE [(2, .ptr 1 0)]) 26 ps a b 8
 | none => .defr
def shTok : List Sh := [.int .i64, .str, .int .i64, .int .i64, .int .i64, .int .i64]
def rowTok (s : List UInt8) (t : Tok) : List V := [.sint .i64 t.kind, .sstr t.text, .sint .i64 t.at_, .sint .i64 t.to, .sint .i64 (lc s t.at_).1, .sint .i64 (lc s t.at_).2]
def le45 (n : Int) : List V := [.yld 9, .ptr 7 0, .sint .i64 n]
def scnC (i : Nat) (s : List UInt8) : Chunk := .cells (scnL i s 4 5) 56 262
def lm45 (s : List UInt8) (i : Nat) : List Tok -> List (Option Chunk)
 | [] => [some (.cells [.nils] 24 1), some keysC, some signsC, some (scnC i s), some (.cells [.ptr 6 0] 48 1), some loopC, none]
 | t :: l => [some (.cells [.ssl 10 0 (l.length + 1) 6] 24 1), some keysC, some signsC, some (scnC i s), some (.cells [.ptr 6 0] 48 1), some loopC, some (.rows ((t :: l).map (rowTok s)) shTok 30)]
end
end Go.Proofs.YtekioipmhhcbhaaGreatDoor
