/- Contracts of the library at this program: written by the kit's shelf tools (tools/shelf.py). -/
import Derived.Shelf.Strings.Builder1
import Derived.Shelf.Strings.Builder2
import Derived.Shelf.Strings.OnBuilder
import Derived.Shelf.Strings.Trim
import Derived.Shelf.Small.Utf8
import Derived.Shelf.Small.Strs
import Derived.Shelf.Strings.BuilderF
import Derived.Shelf.Utf8.RuneCount
import Derived.Shelf.Strings.Builder2Cap
import Derived.Shelf.Strings.Search1
import Derived.Shelf.Strings.Search2
import Derived.Shelf.Strings.Search3
import Derived.Shelf.Strings.Count
import Derived.Shelf.LaysM
import Derived.Shelf.Strings.Shaped
import Derived.Shelf.Strings.Split
import Derived.Shelf.Strings.Fields
import Derived.Shelf.Strings.Replace
import Derived.Shelf.Strings.SplitShaped
import Derived.Shelf.Unicode.Latin
import Derived.Shelf.Unicode.Decode
import Derived.Shelf.Strings.Runes
import Derived.Shelf.Strings.RuneCount
import Derived.Shelf.Strings.AsciiSet
import Derived.Shelf.Unicode.DecodeSlow
import Derived.Shelf.Unicode.DecodeAny
import Derived.Shelf.Unicode.Is16White
import Derived.Shelf.Unicode.IsSpaceAny
import Derived.Shelf.Unicode.DecodeLast
import Derived.Shelf.Unicode.CaseLookup
import Derived.Shelf.Unicode.CaseConvert
import Derived.Shelf.Unicode.CaseTo
import Derived.Shelf.Unicode.CaseLaid
import Derived.Shelf.Unicode.Is16Any
import Derived.Shelf.Unicode.Is32Any
import Derived.Shelf.Unicode.ExclAny
import Derived.Test.YtekioipmhhcbhaaDoorProg
import Derived.Test.YtekioipmhhcbhaaDoorM9
import Derived.Test.YtekioipmhhcbhaaDoorKs
import Derived.Test.YtekioipmhhcbhaaDoorKa
set_option linter.unusedVariables false
set_option linter.unusedSimpArgs false
namespace Go.Proofs
open Go.Shelf
def Tryd.lays159_ren : Go.Shelf.Ren := ⟨λ | 159 => 57 | 165 => 61 | 166 => 51 | 167 => 50 | 169 => 40 | 230 => 68 | 204 => 69 | 240 => 65 | 241 => 75 | 197 => 63 | 118 => 81 | 168 => 82 | 270 => 83 | 262 => 84 | 276 => 78 | 277 => 87 | 260 => 77 | 242 => 91 | 313 => 92 | 278 => 101 | 274 => 102 | 275 => 103 | n => n, λ | 9 => 9 | 4 => 4 | 3 => 3 | 5 => 5 | 72 => 72 | 0 => 0 | 76 => 89 | 75 => 87 | 107 => 112 | 70 => 70 | 20 => 20 | 37 => 36 | 127 => 91 | 21 => 21 | 105 => 101 | 164 => 115 | 162 => 142 | 203 => 140 | 119 => 51 | 46 => 133 | 139 => 136 | 138 => 135 | 51 => 107 | 160 => 152 | 208 => 159 | 206 => 157 | 80 => 77 | n => n, λ | 13 => 5 | 3 => 3 | 4 => 4 | n => n⟩
theorem Tryd.lays159 : Go.Proofs.Lays.n159 Tryd.prog Tryd.lays159_ren := {
 mixed := by kernel_rfl
 f118 := Tryd.func81.trans (congrArg some (by kernel_rfl))
 f159 := Tryd.func57.trans (congrArg some (by kernel_rfl))
 f165 := Tryd.func61.trans (congrArg some (by kernel_rfl))
 f166 := Tryd.func51.trans (congrArg some (by kernel_rfl))
 f167 := Tryd.func50.trans (congrArg some (by kernel_rfl))
 f168 := Tryd.func82.trans (congrArg some (by kernel_rfl))
 f169 := Tryd.func40.trans (congrArg some (by kernel_rfl))
 f197 := Tryd.func63.trans (congrArg some (by kernel_rfl))
 f204 := Tryd.func69.trans (congrArg some (by kernel_rfl))
 f230 := Tryd.func68.trans (congrArg some (by kernel_rfl))
 f240 := Tryd.func65.trans (congrArg some (by kernel_rfl))
 f241 := Tryd.func75.trans (congrArg some (by kernel_rfl))
 f242 := Tryd.func91.trans (congrArg some (by kernel_rfl))
 f260 := Tryd.func77.trans (congrArg some (by kernel_rfl))
 f262 := Tryd.func84.trans (congrArg some (by kernel_rfl))
 f270 := Tryd.func83.trans (congrArg some (by kernel_rfl))
 f274 := Tryd.func102.trans (congrArg some (by kernel_rfl))
 f275 := Tryd.func103.trans (congrArg some (by kernel_rfl))
 f276 := Tryd.func78.trans (congrArg some (by kernel_rfl))
 f277 := Tryd.func87.trans (congrArg some (by kernel_rfl))
 f278 := Tryd.func101.trans (congrArg some (by kernel_rfl))
 f313 := Tryd.func92.trans (congrArg some (by kernel_rfl))
 t0 := Tryd.underlying0
 a0 := Tryd.isAgg0
 z0 := Tryd.sizeOf0
 v0 := Tryd.zeroValue0
 t3 := Tryd.underlying3
 a3 := Tryd.isAgg3
 z3 := Tryd.sizeOf3
 v3 := Tryd.zeroValue3
 t4 := Tryd.underlying4
 a4 := Tryd.isAgg4
 z4 := Tryd.sizeOf4
 v4 := Tryd.zeroValue4
 t5 := Tryd.underlying5
 a5 := Tryd.isAgg5
 z5 := Tryd.sizeOf5
 v5 := Tryd.zeroValue5
 t9 := Tryd.underlying9
 a9 := Tryd.isAgg9
 z9 := Tryd.sizeOf9
 v9 := Tryd.zeroValue9
 t20 := Tryd.underlying20
 a20 := Tryd.isAgg20
 z20 := Tryd.sizeOf20
 v20 := Tryd.zeroValue20
 t21 := Tryd.underlying21
 a21 := Tryd.isAgg21
 z21 := Tryd.sizeOf21
 v21 := Tryd.zeroValue21
 t37 := Tryd.underlying36
 a37 := Tryd.isAgg36
 z37 := Tryd.sizeOf36
 v37 := Tryd.zeroValue36
 t46 := Tryd.underlying133
 a46 := Tryd.isAgg133
 z46 := Tryd.sizeOf133
 v46 := Tryd.zeroValue133
 t51 := Tryd.underlying107
 a51 := Tryd.isAgg107
 z51 := Tryd.sizeOf107
 v51 := Tryd.zeroValue107
 t70 := Tryd.underlying70
 a70 := Tryd.isAgg70
 z70 := Tryd.sizeOf70
 v70 := Tryd.zeroValue70
 t72 := Tryd.underlying72
 a72 := Tryd.isAgg72
 z72 := Tryd.sizeOf72
 v72 := Tryd.zeroValue72
 t75 := Tryd.underlying87
 a75 := Tryd.isAgg87
 z75 := Tryd.sizeOf87
 v75 := Tryd.zeroValue87
 t76 := Tryd.underlying89
 a76 := Tryd.isAgg89
 z76 := Tryd.sizeOf89
 v76 := Tryd.zeroValue89
 t105 := Tryd.underlying101
 a105 := Tryd.isAgg101
 z105 := Tryd.sizeOf101
 v105 := Tryd.zeroValue101
 t107 := Tryd.underlying112
 a107 := Tryd.isAgg112
 z107 := Tryd.sizeOf112
 v107 := Tryd.zeroValue112
 t119 := Tryd.underlying51
 a119 := Tryd.isAgg51
 z119 := Tryd.sizeOf51
 t127 := Tryd.underlying91
 a127 := Tryd.isAgg91
 z127 := Tryd.sizeOf91
 v127 := Tryd.zeroValue91
 t138 := Tryd.underlying135
 a138 := Tryd.isAgg135
 z138 := Tryd.sizeOf135
 v138 := Tryd.zeroValue135
 t139 := Tryd.underlying136
 a139 := Tryd.isAgg136
 z139 := Tryd.sizeOf136
 v139 := Tryd.zeroValue136
 t160 := Tryd.underlying152
 a160 := Tryd.isAgg152
 z160 := Tryd.sizeOf152
 v160 := Tryd.zeroValue152
 t162 := Tryd.underlying142
 a162 := Tryd.isAgg142
 z162 := Tryd.sizeOf142
 v162 := Tryd.zeroValue142
 t164 := Tryd.underlying115
 a164 := Tryd.isAgg115
 z164 := Tryd.sizeOf115
 v164 := Tryd.zeroValue115
 t203 := Tryd.underlying140
 a203 := Tryd.isAgg140
 z203 := Tryd.sizeOf140
 v203 := Tryd.zeroValue140
 t206 := Tryd.underlying157
 a206 := Tryd.isAgg157
 z206 := Tryd.sizeOf157
 v206 := Tryd.zeroValue157
 t208 := Tryd.underlying159
 a208 := Tryd.isAgg159
 z208 := Tryd.sizeOf159
 v208 := Tryd.zeroValue159
 g3 := by kernel_rfl
 g4 := by kernel_rfl
 g13 := by kernel_rfl }
theorem Tryd.Builder_Extra_159 : Builder.Extra Tryd.prog Tryd.lays159_ren := {
 sizeBuilder := by kernel_rfl
 liesBuilder := by kernel_rfl
 t5 := Tryd.underlying5
 a5 := Tryd.isAgg5
 z5 := Tryd.sizeOf5
 v5 := Tryd.zeroValue5
 infoByte := by kernel_rfl
 cellsByte := by kernel_rfl
 sizeByte := by kernel_rfl
 neB5 := by decide }
open Go.RowKit in
theorem Tryd.strings_ToLower_ascii (s : ByteArray) (w : World) (hs : s.size <= 140737488355328) (hascii : ∀ (j : Nat) (b : UInt8), s.data.toList[j]? = some b -> b.toNat < 128) :
  Calls Tryd.prog 57 #[.string s] w λ e w' => e = .returned (.string ⟨(Lib.toLowerA s.data.toList).toArray⟩) /\ Below w.heap.size w w' := Any.strings_ToLower_ascii Tryd.lays159 Tryd.Builder_Extra_159 s w hs hascii
def Tryd.lays161_ren : Go.Shelf.Ren := ⟨λ | 161 => 85 | 231 => 93 | 227 => 94 | 233 => 95 | 235 => 96 | 228 => 104 | 197 => 63 | 151 => 105 | 260 => 77 | 152 => 107 | 137 => 29 | 119 => 109 | 224 => 89 | 225 => 88 | 217 => 43 | 266 => 52 | n => n, λ | 9 => 9 | 4 => 4 | 3 => 3 | 5 => 5 | 117 => 146 | 116 => 145 | 0 => 0 | 124 => 149 | 105 => 101 | 21 => 21 | 119 => 51 | 46 => 133 | 139 => 136 | 138 => 135 | n => n, λ | 3 => 3 | 4 => 4 | n => n⟩
theorem Tryd.lays161 : Go.Proofs.Lays.n161 Tryd.prog Tryd.lays161_ren := {
 mixed := by kernel_rfl
 f119 := Tryd.func109.trans (congrArg some (by kernel_rfl))
 f137 := Tryd.func29.trans (congrArg some (by kernel_rfl))
 f151 := Tryd.func105.trans (congrArg some (by kernel_rfl))
 f152 := Tryd.func107.trans (congrArg some (by kernel_rfl))
 f161 := Tryd.func85.trans (congrArg some (by kernel_rfl))
 f197 := Tryd.func63.trans (congrArg some (by kernel_rfl))
 f217 := Tryd.func43.trans (congrArg some (by kernel_rfl))
 f224 := Tryd.func89.trans (congrArg some (by kernel_rfl))
 f225 := Tryd.func88.trans (congrArg some (by kernel_rfl))
 f227 := Tryd.func94.trans (congrArg some (by kernel_rfl))
 f228 := Tryd.func104.trans (congrArg some (by kernel_rfl))
 f231 := Tryd.func93.trans (congrArg some (by kernel_rfl))
 f233 := Tryd.func95.trans (congrArg some (by kernel_rfl))
 f235 := Tryd.func96.trans (congrArg some (by kernel_rfl))
 f260 := Tryd.func77.trans (congrArg some (by kernel_rfl))
 f266 := Tryd.func52.trans (congrArg some (by kernel_rfl))
 t0 := Tryd.underlying0
 a0 := Tryd.isAgg0
 z0 := Tryd.sizeOf0
 v0 := Tryd.zeroValue0
 t3 := Tryd.underlying3
 a3 := Tryd.isAgg3
 z3 := Tryd.sizeOf3
 v3 := Tryd.zeroValue3
 t4 := Tryd.underlying4
 a4 := Tryd.isAgg4
 z4 := Tryd.sizeOf4
 v4 := Tryd.zeroValue4
 t5 := Tryd.underlying5
 a5 := Tryd.isAgg5
 z5 := Tryd.sizeOf5
 v5 := Tryd.zeroValue5
 t9 := Tryd.underlying9
 a9 := Tryd.isAgg9
 z9 := Tryd.sizeOf9
 v9 := Tryd.zeroValue9
 t21 := Tryd.underlying21
 a21 := Tryd.isAgg21
 z21 := Tryd.sizeOf21
 v21 := Tryd.zeroValue21
 t46 := Tryd.underlying133
 a46 := Tryd.isAgg133
 z46 := Tryd.sizeOf133
 v46 := Tryd.zeroValue133
 t105 := Tryd.underlying101
 a105 := Tryd.isAgg101
 z105 := Tryd.sizeOf101
 v105 := Tryd.zeroValue101
 t116 := Tryd.underlying145
 a116 := Tryd.isAgg145
 z116 := Tryd.sizeOf145
 t117 := Tryd.underlying146
 a117 := Tryd.isAgg146
 z117 := Tryd.sizeOf146
 v117 := Tryd.zeroValue146
 t119 := Tryd.underlying51
 a119 := Tryd.isAgg51
 z119 := Tryd.sizeOf51
 t124 := Tryd.underlying149
 a124 := Tryd.isAgg149
 z124 := Tryd.sizeOf149
 v124 := Tryd.zeroValue149
 t138 := Tryd.underlying135
 a138 := Tryd.isAgg135
 z138 := Tryd.sizeOf135
 v138 := Tryd.zeroValue135
 t139 := Tryd.underlying136
 a139 := Tryd.isAgg136
 z139 := Tryd.sizeOf136
 v139 := Tryd.zeroValue136
 g3 := by kernel_rfl
 g4 := by kernel_rfl }
open Go.RowKit in
theorem Tryd.strings_TrimLeft_one (s : ByteArray) (c : UInt8) (hc : c.toNat < 128) (w : World) :
  Calls Tryd.prog 85 #[.string s, .string ⟨#[c]⟩] w λ e w' => e = .returned (.string ⟨(Lib.trimLeftB s.data.toList c).toArray⟩) /\ w' = w := Any.strings_TrimLeft_one Tryd.lays161 s c hc w
def Tryd.lays162_ren : Go.Shelf.Ren := ⟨λ | 162 => 86 | 232 => 97 | 227 => 94 | 234 => 98 | 236 => 99 | 228 => 104 | 271 => 106 | 151 => 105 | 120 => 108 | 197 => 63 | 152 => 107 | 260 => 77 | 137 => 29 | 119 => 109 | 224 => 89 | 225 => 88 | 217 => 43 | 266 => 52 | n => n, λ | 9 => 9 | 4 => 4 | 3 => 3 | 5 => 5 | 117 => 146 | 116 => 145 | 0 => 0 | 124 => 149 | 21 => 21 | 105 => 101 | 46 => 133 | 119 => 51 | 139 => 136 | 138 => 135 | n => n, λ | 3 => 3 | 4 => 4 | n => n⟩
theorem Tryd.lays162 : Go.Proofs.Lays.n162 Tryd.prog Tryd.lays162_ren := {
 mixed := by kernel_rfl
 f119 := Tryd.func109.trans (congrArg some (by kernel_rfl))
 f120 := Tryd.func108.trans (congrArg some (by kernel_rfl))
 f137 := Tryd.func29.trans (congrArg some (by kernel_rfl))
 f151 := Tryd.func105.trans (congrArg some (by kernel_rfl))
 f152 := Tryd.func107.trans (congrArg some (by kernel_rfl))
 f162 := Tryd.func86.trans (congrArg some (by kernel_rfl))
 f197 := Tryd.func63.trans (congrArg some (by kernel_rfl))
 f217 := Tryd.func43.trans (congrArg some (by kernel_rfl))
 f224 := Tryd.func89.trans (congrArg some (by kernel_rfl))
 f225 := Tryd.func88.trans (congrArg some (by kernel_rfl))
 f227 := Tryd.func94.trans (congrArg some (by kernel_rfl))
 f228 := Tryd.func104.trans (congrArg some (by kernel_rfl))
 f232 := Tryd.func97.trans (congrArg some (by kernel_rfl))
 f234 := Tryd.func98.trans (congrArg some (by kernel_rfl))
 f236 := Tryd.func99.trans (congrArg some (by kernel_rfl))
 f260 := Tryd.func77.trans (congrArg some (by kernel_rfl))
 f266 := Tryd.func52.trans (congrArg some (by kernel_rfl))
 f271 := Tryd.func106.trans (congrArg some (by kernel_rfl))
 t0 := Tryd.underlying0
 a0 := Tryd.isAgg0
 z0 := Tryd.sizeOf0
 v0 := Tryd.zeroValue0
 t3 := Tryd.underlying3
 a3 := Tryd.isAgg3
 z3 := Tryd.sizeOf3
 v3 := Tryd.zeroValue3
 t4 := Tryd.underlying4
 a4 := Tryd.isAgg4
 z4 := Tryd.sizeOf4
 v4 := Tryd.zeroValue4
 t5 := Tryd.underlying5
 a5 := Tryd.isAgg5
 z5 := Tryd.sizeOf5
 v5 := Tryd.zeroValue5
 t9 := Tryd.underlying9
 a9 := Tryd.isAgg9
 z9 := Tryd.sizeOf9
 v9 := Tryd.zeroValue9
 t21 := Tryd.underlying21
 a21 := Tryd.isAgg21
 z21 := Tryd.sizeOf21
 v21 := Tryd.zeroValue21
 t46 := Tryd.underlying133
 a46 := Tryd.isAgg133
 z46 := Tryd.sizeOf133
 v46 := Tryd.zeroValue133
 t105 := Tryd.underlying101
 a105 := Tryd.isAgg101
 z105 := Tryd.sizeOf101
 v105 := Tryd.zeroValue101
 t116 := Tryd.underlying145
 a116 := Tryd.isAgg145
 z116 := Tryd.sizeOf145
 t117 := Tryd.underlying146
 a117 := Tryd.isAgg146
 z117 := Tryd.sizeOf146
 v117 := Tryd.zeroValue146
 t119 := Tryd.underlying51
 a119 := Tryd.isAgg51
 z119 := Tryd.sizeOf51
 t124 := Tryd.underlying149
 a124 := Tryd.isAgg149
 z124 := Tryd.sizeOf149
 v124 := Tryd.zeroValue149
 t138 := Tryd.underlying135
 a138 := Tryd.isAgg135
 z138 := Tryd.sizeOf135
 v138 := Tryd.zeroValue135
 t139 := Tryd.underlying136
 a139 := Tryd.isAgg136
 z139 := Tryd.sizeOf136
 v139 := Tryd.zeroValue136
 g3 := by kernel_rfl
 g4 := by kernel_rfl }
open Go.RowKit in
theorem Tryd.strings_TrimRight_one (s : ByteArray) (c : UInt8) (hc : c.toNat < 128) (w : World) (hs : s.size <= 9223372036854775807) :
  Calls Tryd.prog 86 #[.string s, .string ⟨#[c]⟩] w λ e w' => e = .returned (.string ⟨(Lib.trimRightB s.data.toList c).toArray⟩) /\ w' = w := Any.strings_TrimRight_one Tryd.lays162 s c hc w hs
end Go.Proofs
namespace Go.Proofs.YtekioipmhhcbhaaDoor
open Go Go.Z Go.Q Go.W6
open Go.Y hiding KE KK KR go Task go_sound
noncomputable section
def tl (p q : Nat) : List V := ints classL ++ [.map p, .map q]
def scn (a l c : Int) (s : List UInt8) (p q : Nat) : List V := .sint .i64 a :: .sint .i64 l :: .sint .i64 c :: .sstr s :: tl p q
def scnL (i : Nat) (s : List UInt8) (p q : Nat) : List V := scn i (lc s i).1 (lc s i).2 s p q
def clsT : List Int := tabI .u8 (ints classL)
def tailOk : List Nat -> List V -> Option (Nat × Nat)
 | [], [.map a, .map b] => some (a, b)
 | n :: l, .int k (.ofNat m) :: r => match Nat.beq n m, ikeq .u8 k with | true, true => tailOk l r | _, _ => none
 | _, _ => none
def int64 : V -> Option Int
 | .int .i64 n => some n
 | .sint .i64 n => some n
 | _ => none
def scnAt (hp : Mem) (id : Nat) (f : Int -> List UInt8 -> Nat -> Nat -> Prop) : Prop := match hp.t.get id with
 | some (.cells (a :: l :: c :: s :: r) ty sz) => match int64 a, int64 l, int64 c, strOf s, tailOk classL r with
  | some a, some l, some c, some s, some (p, q) => match Nat.beq ty 54, Nat.beq sz 262, nodupB [id, p, q], below hp.n [id, p, q], noLk [id, p, q] hp.ro with
   | true, true, true, true, true => (0 <= a /\ a <= (s.length : Int) /\ (s.length : Int) <= 20000 /\ l = (lc s a.toNat).1 /\ c = (lc s a.toNat).2) /\ f a s p q
   | _, _, _, _, _ => False
  | _, _, _, _, _ => False
 | _ => False
def putS (hp : Mem) (id i : Nat) (s : List UInt8) (p q : Nat) : Mem := ⟨hp.n, Tr.set 20 hp.t id (some (.cells (scnL i s p q) 54 262)), hp.ro⟩
def putT (hp : Mem) (id i : Nat) (s : List UInt8) (p q : Nat) (x y : Chunk) : Mem := ⟨hp.n, Tr.set 20 (Tr.set 20 (Tr.set 20 hp.t q (some y)) p (some x)) id (some (.cells (scnL i s p q) 54 262)), hp.ro⟩
def wrongV (a : Int) (e : Int) : V := .ifc 58 (.agg [.sint .i64 a, .int .i64 e])
def sLow (args : List V) (hp : Mem) (k : KE) : Prop := match args with
 | [.sstr s] => (s.length <= 140737488355328 /\ ∀ b ∈ s, b.toNat < 128) /\ k (.ret (.sstr (Go.Lib.toLowerA s))) hp
 | _ => False
def sTrim (args : List V) (hp : Mem) (k : KE) : Prop := match args with
 | [.sstr s] => k (.ret (.sstr (trimF s))) hp
 | _ => False
def sTail (args : List V) (hp : Mem) (k : KE) : Prop := match args with
 | [.sstr s] => s.length <= 20000 /\ k (.ret (.sstr (tailF s))) hp
 | _ => False
def clsB (c : Nat) (b : UInt8) : Bool := match c with
 | 2 => letB b
 | 3 => digB b
 | 4 => b.toNat == 34
 | _ => false
def clsOk (c : Nat) : Bool := match c with
 | 2 => true
 | 3 => true
 | 4 => true
 | _ => false
def sIs (args : List V) (hp : Mem) (k : KE) : Prop := match args with
 | [.ptr id 0, n, .int .u8 (.ofNat c)] => match int64 n, clsOk c with
  | some n, true => scnAt hp id λ a s p q => (0 <= n /\ n <= 20001) /\ k (.ret (.sbool (isAt (clsB c) s n.toNat))) (putS hp id a.toNat s p q)
  | _, _ => False
 | _ => False
def sDig (args : List V) (hp : Mem) (k : KE) : Prop := match args with
 | [.ptr id 0, n] => match int64 n with
  | some n => scnAt hp id λ a s p q => (0 <= n /\ n <= (s.length : Int)) /\ k (.ret (.sint .i64 (digF s n.toNat))) (putS hp id a.toNat s p q)
  | _ => False
 | _ => False
def sName (args : List V) (hp : Mem) (k : KE) : Prop := match args with
 | [.ptr id 0] => scnAt hp id λ a s p q => k (.ret (.sint .i64 (nameF s a.toNat))) (putS hp id a.toNat s p q)
 | _ => False
def sOver (args : List V) (hp : Mem) (k : KE) : Prop := match args with
 | [.ptr id 0, n] => match int64 n with
  | some n => scnAt hp id λ a s p q => (0 <= n /\ a + n <= (s.length : Int)) /\ k (.ret (.tup [])) (putS hp id (a + n).toNat s p q)
  | _ => False
 | _ => False
def sNum (args : List V) (hp : Mem) (k : KE) : Prop := match args with
 | [.ptr id 0] => scnAt hp id λ a s p q => (∀ (x : Nat) (t : List UInt8) (e : Nat), numF s a.toNat = some (x, t, e) -> k (.ret (.tup [.sint .i64 x, .sstr t, .sint .i64 e])) (putS hp id a.toNat s p q)) /\ (numF s a.toNat = none -> k (.pan (wrongV a 122)) (putS hp id a.toNat s p q))
 | _ => False
def sText (args : List V) (hp : Mem) (k : KE) : Prop := match args with
 | [.ptr id 0] => scnAt hp id λ a s p q => a < (s.length : Int) /\ (∀ (t : List UInt8) (e : Nat) (bad : Int), textF s a.toNat = .ok (t, e, bad) -> k (.ret (.tup [.sstr t, .sint .i64 e, .sint .i64 bad])) (putS hp id a.toNat s p q)) /\ (∀ e : Nat, textF s a.toNat = .error e -> k (.pan (wrongV a e)) (putS hp id a.toNat s p q))
 | _ => False
def keysC : Chunk := .map (zkt (splitB wordsB []) 0) 77
def signsC : Chunk := .map (zkt (splitB signsB []) 0) 28
def isKeys (hp : Mem) (p q : Nat) : Prop := hp.t.get p = some keysC /\ hp.t.get q = some signsC
def sTok (args : List V) (hp : Mem) (k : KE) : Prop := match args with
 | [.ptr id 0] => scnAt hp id λ a s p q => isKeys hp p q /\ a < (s.length : Int) /\ (∀ (x : TokR), tokF s a.toNat = .ok x -> k (.ret (.tup [.agg [.sint .i64 x.kind, .sstr x.text, .sint .i64 a, .sint .i64 x.to, .sint .i64 (lc s a.toNat).1, .sint .i64 (lc s a.toNat).2], .sint .i64 x.bad])) (putT hp id a.toNat s p q keysC signsC)) /\ (∀ e : Nat, tokF s a.toNat = .error e -> k (.pan (wrongV a e)) (putT hp id a.toNat s p q keysC signsC))
 | _ => False
def sSkip (args : List V) (hp : Mem) (k : KE) : Prop := match args with
 | [.ptr id 0] => scnAt hp id λ a s p q => (∀ j : Nat, skipF s a.toNat = .ok j -> k (.ret (.tup [])) (putS hp id j s p q)) /\ (∀ b : Nat, skipF s a.toNat = .error b -> k (.pan (wrongV b 120)) (putS hp id b s p q))
 | _ => False
def sTL (args : List V) (hp : Mem) (k : KE) : Prop := match args with
 | [.sstr s, .str [48]] => k (.ret (.sstr (Go.Lib.trimLeftB s 48))) hp
 | _ => False
def sTR (args : List V) (hp : Mem) (k : KE) : Prop := match args with
 | [.sstr s, .str [48]] => s.length <= 9223372036854775807 /\ k (.ret (.sstr (Go.Lib.trimRightB s 48))) hp
 | _ => False
def le70 (n : Int) : List V := [.ptr 0 0, .sint .i64 n]
def scnI (i : Nat) (s : List UInt8) : Chunk := .cells (scnL i s 1 2) 54 262
def atL (nt n : Nat) (fi : FI) (ds : List DV) (hp : Mem) (p : Prop) : Prop := match Nat.beq fi.nt nt, fi.ro, ds, hp.ro, Nat.beq hp.n n with | true, none, [], [], true => p | _, _, _, _, _ => False
def scn12 (hp : Mem) (f : Int -> List UInt8 -> Prop) : Prop := scnAt hp 0 λ a s p q => match Nat.beq p 1, Nat.beq q 2 with | true, true => f a s | _, _ => False
def numAt (env : Tr V) (t : Nat) (f : Int -> Prop) : Prop := match env.get t with
 | some v => match int64 v with | some n => f n | none => False
 | none => False
def ptrAt (env : Tr V) (t : Nat) (p : Prop) : Prop := match env.get t with
 | some (.ptr 0 0) => p
 | _ => False
def l70 (fi : FI) (ds : List DV) (env : Tr V) (hp : Mem) (k : KK) : Prop := atL 11 3 fi ds hp (ptrAt env 0 (numAt env 1 λ n => scn12 hp λ a s => (0 <= n /\ n <= (s.length : Int)) /\ k (.exit 0) [] (ofE ([0,1].zip (le70 (digF s n.toNat)))) ⟨3, ofM ([0].zip [scnI a.toNat s]), []⟩))
def l56 (fi : FI) (ds : List DV) (env : Tr V) (hp : Mem) (k : KK) : Prop := atL 38 3 fi ds hp (ptrAt env 0 (numAt env 3 λ n => scn12 hp λ a s => (0 <= n /\ n <= (s.length : Int)) /\ k (.exit 0) [] (ofE ([0,3].zip (le70 (nameF s n.toNat)))) ⟨3, ofM ([0].zip [scnI a.toNat s]), []⟩))
def le28 (n x : Int) : List V := [.ptr 0 0, .sint .i64 n, .sint .i64 x]
def l28 (fi : FI) (ds : List DV) (env : Tr V) (hp : Mem) (k : KK) : Prop := atL 51 3 fi ds hp (ptrAt env 0 (numAt env 4 λ n => numAt env 5 λ x => scn12 hp λ a s => (x = 0 /\ 0 <= n /\ a + n <= (s.length : Int)) /\ k (.exit 0) [] (ofE ([0,4,5].zip (le28 n n))) ⟨3, ofM ([0].zip [scnI (a + n).toNat s]), []⟩))
def byS (b : List UInt8) : V := match b with
 | [] => .nils
 | _ :: _ => .ssl 3 0 b.length 1
def nilAt (env : Tr V) (t : Nat) (p : Prop) : Prop := match env.get t with
 | some .nils => p
 | _ => False
def l59 (fi : FI) (ds : List DV) (env : Tr V) (hp : Mem) (k : KK) : Prop := atL 101 3 fi ds hp (ptrAt env 0 (numAt env 3 λ n => numAt env 4 λ bad => nilAt env 5 (scn12 hp λ a s => (n = a + 1 /\ bad = -1 /\ a < (s.length : Int)) /\
 (textL (s.drop n.toNat) n.toNat [] (-1) = none -> k (.panic (wrongV a 121)) [] .nil ⟨4, ofM ([0].zip [scnI a.toNat s]), []⟩) /\
 (∀ (p : Nat) (bad : Int), textL (s.drop n.toNat) n.toNat [] (-1) = some ([], p, bad) -> k (.exit 0) [] (ofE ([0,3,4,5].zip [.ptr 0 0, .sint .i64 p, .sint .i64 bad, .nils])) ⟨4, ofM ([0].zip [scnI a.toNat s]), []⟩) /\
 (∀ (x : UInt8) (b : List UInt8) (p : Nat) (bad : Int), textL (s.drop n.toNat) n.toNat [] (-1) = some (x :: b, p, bad) -> k (.exit 0) [] (ofE ([0,3,4,5].zip [.ptr 0 0, .sint .i64 p, .sint .i64 bad, .ssl 3 0 (b.length + 1) 1])) ⟨4, ofM ([0,3].zip [scnI a.toNat s, .byt (x :: b) 5]), []⟩))))
def l46i (fi : FI) (ds : List DV) (env : Tr V) (hp : Mem) (k : KK) : Prop := atL 79 3 fi ds hp (ptrAt env 0 (scn12 hp λ a s =>
 (∀ j : Nat, noteF s a.toNat = .ok j -> k (.exit 3) [] (ofE ([0].zip [.ptr 0 0])) ⟨3, ofM ([0].zip [scnI j s]), []⟩) /\
 (∀ b : Nat, noteF s a.toNat = .error b -> k (.panic (wrongV b 120)) [] .nil ⟨3, ofM ([0].zip [scnI b s]), []⟩)))
def l46 (fi : FI) (ds : List DV) (env : Tr V) (hp : Mem) (k : KK) : Prop := atL 79 3 fi ds hp (ptrAt env 0 (scn12 hp λ a s =>
 (∀ j : Nat, skipF s a.toNat = .ok j -> k (.exit 0) [] (ofE ([0].zip [.ptr 0 0])) ⟨3, ofM ([0].zip [scnI j s]), []⟩) /\
 (∀ j : Nat, skipF s a.toNat = .ok j -> k .ret [] (ofE ([0].zip [.ptr 0 0])) ⟨3, ofM ([0].zip [scnI j s]), []⟩) /\
 (∀ b : Nat, skipF s a.toNat = .error b -> k (.panic (wrongV b 120)) [] .nil ⟨3, ofM ([0].zip [scnI b s]), []⟩)))
def rgOf : Code -> Option (Array Tmp × Code × Code)
 | .rangeFunc _ ps a b => some (ps, a, b)
 | .seq a b => match rgOf a with | some x => some x | none => rgOf b
 | .block _ c => rgOf c
 | .scope c => rgOf c
 | .cond _ a b => match rgOf a with | some x => some x | none => rgOf b
 | _ => none
def rgFn (P : Program) (f : Nat) : Option (Array Tmp × Code × Code) := match P.funcs[f]? with
 | some fn => match fn.body with
  | some c => rgOf c
  | none => none
 | none => none
def loopC : Chunk := match rgFn Tryd.prog 16 with
 | some (ps, a, b) => .loop .ready none (ofE [(2, .ptr 1 0)]) 26 ps a b 8
 | none => .defr
def shTok : List Sh := [.int .i64, .str, .int .i64, .int .i64, .int .i64, .int .i64]
def rowTok (s : List UInt8) (t : Tok) : List V := [.sint .i64 t.kind, .sstr t.text, .sint .i64 t.at_, .sint .i64 t.to, .sint .i64 (lc s t.at_).1, .sint .i64 (lc s t.at_).2]
def le45 (n : Int) : List V := [.yld 9, .ptr 7 0, .sint .i64 n]
def scnC (i : Nat) (s : List UInt8) : Chunk := .cells (scnL i s 4 5) 54 262
def lm45 (s : List UInt8) (i : Nat) : List Tok -> List (Option Chunk)
 | [] => [some (.cells [.nils] 30 1), some keysC, some signsC, some (scnC i s), some (.cells [.ptr 6 0] 48 1), some loopC, none]
 | t :: l => [some (.cells [.ssl 10 0 (l.length + 1) 6] 30 1), some keysC, some signsC, some (scnC i s), some (.cells [.ptr 6 0] 48 1), some loopC, some (.rows ((t :: l).map (rowTok s)) shTok 34)]
end
end Go.Proofs.YtekioipmhhcbhaaDoor
