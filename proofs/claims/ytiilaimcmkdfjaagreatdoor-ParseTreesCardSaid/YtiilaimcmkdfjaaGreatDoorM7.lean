/- Operations over open terms. -/
import Derived.Test.YtiilaimcmkdfjaaGreatDoorM6
set_option linter.unusedVariables false
set_option linter.unusedSimpArgs false
set_option linter.unusedSectionVars false
namespace Go.Q
open Go.Z Go.Y
noncomputable section
inductive SymR where
 | q (p : Prop) (v : V) (rd : List Lk)
 | l (p : Prop) (outs : List (V × Mem))
 | f (b : Bool) (x y : SymR)
 | bad
def intOf : V -> Option (IntKind × Int)
 | .int k n => some (k, n)
 | .sint k n => some (k, n)
 | _ => none
def strOf : V -> Option (List UInt8)
 | .str l => some l
 | .sstr l => some l
 | _ => none
def fitQ (k : IntKind) (n : Int) : SymR := match k.signed with
 | true => .q (k.min <= n /\ n <= k.max) (.sint k n) []
 | false => .q True (.sint k (n % 2 ^ k.bits)) []
def symInt (op : BinOp) (k : IntKind) (a b : Int) : SymR := match op with
 | .add => fitQ k (a + b)
 | .sub => fitQ k (a - b)
 | .mul => fitQ k (a * b)
 | .quo => .q (0 <= a /\ 0 < b /\ a <= k.max) (.sint k (a / b)) []
 | .rem => match k.signed with
  | true => .q (0 < b) (.sint k (a.tmod b)) []
  | false => .q (0 <= a /\ 0 < b) (.sint k (a % b)) []
 | .lss => .q True (.sbool (decide (a < b))) []
 | .gtr => .q True (.sbool (decide (b < a))) []
 | .leq => .q True (.sbool (decide (a <= b))) []
 | .geq => .q True (.sbool (decide (b <= a))) []
 | .eql => .q True (.sbool (decide (a = b))) []
 | .neq => .q True (.sbool (!decide (a = b))) []
 | .or => .q (0 <= a /\ 0 <= b /\ a <= k.max /\ b <= k.max /\ ((a.toNat ||| b.toNat : Nat) : Int) <= k.max) (.sint k (a.toNat ||| b.toNat : Nat)) []
 | .and => .q (0 <= a /\ 0 <= b /\ a <= k.max /\ b <= k.max /\ ((a.toNat &&& b.toNat : Nat) : Int) <= k.max) (.sint k (a.toNat &&& b.toNat : Nat)) []
 | _ => .bad
def symSh (op : BinOp) (k : IntKind) (m : Int) (b : V) : SymR := match op, b with
 | .shl, .int _ (.ofNat s) => fitQ k (m * 2 ^ min s k.bits)
 | .shr, .int _ (.ofNat s) => .q (0 <= m) (.sint k (m / 2 ^ min s k.bits)) []
 | _, _ => .bad
def isSh : BinOp -> Bool
 | .shl => true
 | .shr => true
 | _ => false
def symStr (op : BinOp) (a b : List UInt8) : SymR := match op with
 | .add => .q (a.length + b.length <= 9223372036854775807) (.sstr (a ++ b)) []
 | .eql => .q True (.sbool (decide (a = b))) []
 | .neq => .q True (.sbool (!decide (a = b))) []
 | .lss => .q True (.sbool (ltB a b)) []
 | .geq => .q True (.sbool (!ltB a b)) []
 | _ => .bad
def symBin (op : BinOp) (a b : V) : SymR := match isSh op with
 | true => match intOf a with | some (k, m) => symSh op k m b | none => .bad
 | false => match intOf a, intOf b with
  | some (k, m), some (k', n) => match ikeq k k' with
   | true => symInt op k m n
   | false => .bad
  | _, _ => match strOf a, strOf b with
   | some l, some m => symStr op l m
   | _, _ => .bad
def symConv (P : Program) (S D : TypeId) (a : V) : SymR := match P.underlying S, P.underlying D with
 | some _, some (.int k') => match intOf a with
  | some (_, n) => fitQ k' n
  | none => .bad
 | some _, some .string => match strOf a with
  | some l => .q True (.sstr l) []
  | none => .bad
 | _, _ => .bad
def symLen (P : Program) (T : TypeId) (a : V) : SymR := match P.underlying T, a with
 | some .string, .sstr l => .q True (.sint .i64 l.length) []
 | some (.slice _), .ssl _ _ len _ => .q True (.sint .i64 len) []
 | _, _ => .bad
def symMax (mx : Bool) (a b : V) : SymR := match intOf a, intOf b with
 | some (k, m), some (k', n) => match ikeq k k', mx with
  | true, true => .q True (.sint k (max m n)) []
  | true, false => .q True (.sint k (min m n)) []
  | false, _ => .bad
 | _, _ => .bad
def symIndex (P : Program) (T : TypeId) (a b : V) : SymR := match P.underlying T, strOf a, intOf b with
 | some .string, some l, some (_, n) => .q (0 <= n /\ n < l.length) (.sint .u8 (l.getD n.toNat 0).toNat) []
 | _, _, _ => .bad
def optI (G : GV) (env : Tr V) : Option Operand -> Option (Option Int)
 | none => some none
 | some x => match evO G env x with
  | some v => match intOf v with | some (_, n) => some (some n) | none => none
  | none => none
def symCut (l : List UInt8) (lo hi : Option Int) : SymR := match lo, hi with
 | some i, some j => .q (0 <= i /\ i <= j /\ j <= l.length) (.sstr ((l.take j.toNat).drop i.toNat)) []
 | some i, none => .q (0 <= i /\ i <= l.length) (.sstr (l.drop i.toNat)) []
 | none, some j => .q (0 <= j /\ j <= l.length) (.sstr (l.take j.toNat)) []
 | none, none => .bad
def symSlice (P : Program) (T : TypeId) (a : V) (lo hi : Option (Option Int)) : SymR := match P.underlying T, strOf a, lo, hi with
 | some .string, some l, some lo, some hi => symCut l lo hi
 | _, _, _, _ => .bad
def symNeg (op : UnOp) (a : V) : SymR := match op, intOf a with
 | .neg, some (k, n) => fitQ k (0 - n)
 | _, _ => .bad
def symCall (P : Program) (G : GV) (env : Tr V) (c : Call) : SymR := match c.callee with
 | .builtin .len => match c.args.toList, c.argTypes[0]? with
  | [x], some t => match evO G env x with | some a => symLen P t a | none => .bad
  | _, _ => .bad
 | .builtin .max => match c.args.toList with
  | [x, y] => match evO G env x, evO G env y with | some a, some b => symMax true a b | _, _ => .bad
  | _ => .bad
 | .builtin .min => match c.args.toList with
  | [x, y] => match evO G env x, evO G env y with | some a, some b => symMax false a b | _, _ => .bad
  | _ => .bad
 | _ => .bad
def symS (P : Program) (G : GV) (env : Tr V) (hp : Mem) (d : Option Nat) (op : Op) : SymR := match op with
 | .binOp op t x y _ => match evO G env x, evO G env y with | some a, some b => symBin op a b | _, _ => .bad
 | .convert s t x => match evO G env x with | some a => symConv P s t a | none => .bad
 | .index t x y => match evO G env x, evO G env y with | some a, some b => symIndex P t a b | _, _ => .bad
 | .slice t x lo hi none => match evO G env x with | some a => symSlice P t a (optI G env lo) (optI G env hi) | none => .bad
 | .unOp o _ x => match evO G env x with | some a => symNeg o a | none => .bad
 | .call c => symCall P G env c
 | _ => .bad
section
variable {P : Program} {ro : Option Nat} {n : Nat} {ops : Array Oper} {r : List Oper} {ds : List Deferred} {L : Lo} {H H' : List SP} {K : Kont} {ρ : Rho} {W : RW} {G : GV} {env : Tr V} {hp hp' : Mem}
 {d : Nat} {dd : Option Nat} {T T' X Y t xt e sz by_ : TypeId} {p : String} {es : Array Edge} {g : Option (Nat × Bool)} {op : Op} {v : V} {u : Value} {x y z : Operand} {A : Option Addr} {m c : Nat} {cells : List Value} {C : SP}
def QOkX (P : Program) (n : Nat) (ops : Array Oper) (o : Oper) (ds : List Deferred) (L : Lo) (ρ : Rho) (W : RW) (v : V) (rd : List Lk) : Prop :=
 ∃ u, R ρ v u /\ ∀ H, (∀ l ∈ rd, ∃ b ob H', Same l (W l.1) (some (b, ob)) /\ Pick H (pt b ob) H') -> (rd = [] -> ∃ X H', Hp.le W.x X /\ Pick H (extSP X) H') -> QStep P n ops o ds L H u
theorem QOkX.pure (hv : R ρ v u) (h : ∀ H, QStep P n ops ⟨some d, op, T, p, es, g⟩ ds L H u) : QOkX P n ops ⟨some d, op, T, p, es, g⟩ ds L ρ W v [] := ⟨u, hv, λ H _ _ => h H⟩
theorem toX {o : Oper} {rd : List Lk} (h : QOk P n ops o ds L ρ W v rd) : QOkX P n ops o ds L ρ W v rd := let ⟨u, h1, h2⟩ := h; ⟨u, h1, λ H a _ => h2 H a⟩
def SymOk (P : Program) (n : Nat) (ops : Array Oper) (o : Oper) (ρ : Rho) (hp : Mem) (W : RW) (L : Lo) : SymR -> Prop
 | .q p v rd => p -> Lives hp rd /\ ∀ ds d, o.dst = some d -> QOkX P n ops o ds L ρ W v rd
 | .l p outs => p -> ∀ ro r ds K, Cont P ro n ops r ds L K ρ hp W o.dst outs -> Ops P ro n ops (o :: r) ds L (spl hp.n W) K
 | .f b x y => (b = true -> SymOk P n ops o ρ hp W L x) /\ (b = false -> SymOk P n ops o ρ hp W L y)
 | .bad => True
theorem zqx {a : V} {k : IntKind} {m : Int} (h : intOf a = some (k, m)) (hu : R ρ a u) : u = .int k m := by
 unfold intOf at h
 split at h
 ·cases h; exact hu
 ·cases h; exact hu
 ·cases h
theorem zxm {a : V} {l : List UInt8} (h : strOf a = some l) (hu : R ρ a u) : u = .string (Z.bs l) := by
 unfold strOf at h
 split at h
 ·cases h; exact hu
 ·cases h; exact hu
 ·cases h
theorem wrap_un {k : IntKind} (h : k.signed = false) (m : Int) : k.wrap m = m % 2 ^ k.bits := by
 cases k <;> simp [IntKind.signed] at h <;> simp [IntKind.wrap, IntKind.signed, IntKind.bits]
theorem zjq {k : IntKind} {m : Int} {q : Prop} {rd : List Lk} (h : fitQ k m = .q q v rd) (hq : q) : rd = [] /\ R ρ v (.int k (wr k m)) := by
 unfold fitQ at h
 split at h
 ·cases h
  refine ⟨rfl, ?_⟩
  rw [wr_ok, zxR hq]
  exact rfl
 ·rename_i hs
  cases h
  refine ⟨rfl, ?_⟩
  rw [wr_ok, wrap_un hs]
  exact rfl
theorem zvc {k : IntKind} {a : Int} (h0 : 0 <= a) (h1 : a <= k.max) : (BitVec.ofInt k.bits a).toNat = a.toNat := by
 rw [BitVec.toNat_ofInt]
 have h2 : a < ((2 ^ k.bits : Nat) : Int) := by
  cases k <;> simp [IntKind.max, IntKind.signed, IntKind.bits] at h1 ⊢ <;> omega
 rw [Int.emod_eq_of_lt h0 h2]
theorem symInt_ok {bo : BinOp} {k : IntKind} {a b : Int} {q : Prop} {rd : List Lk} (h : symInt bo k a b = .q q v rd) (hq : q) : rd = [] /\ ∃ u, R ρ v u /\ ∀ w, (binOp bo X (.int k a) (.int k b)).run P w = .ok u w := by
 have main : ∀ {v' : V}, zxj bo k a b = some v' -> (∀ u, R ρ v' u -> R ρ v u) -> rd = [] -> rd = [] /\ ∃ u, R ρ v u /\ ∀ w, (binOp bo X (.int k a) (.int k b)).run P w = .ok u w := by
  intro v' hv hr hrd
  obtain ⟨u, hu, hrun⟩ := zjw (P := P) (ρ := ρ) (X := X) hv
  exact ⟨hrd, u, hr u hu, hrun⟩
 have fit : ∀ {m : Int}, fitQ k m = .q q v rd -> zxj bo k a b = some (.int k (wr k m)) -> rd = [] /\ ∃ u, R ρ v u /\ ∀ w, (binOp bo X (.int k a) (.int k b)).run P w = .ok u w := by
  intro m hf hi
  obtain ⟨h1, h2⟩ := zjq (ρ := ρ) hf hq
  exact main hi (λ u hu => by rw [show u = _ from hu]; exact h2) h1
 cases bo <;> simp only [symInt] at h
 case add => exact fit h rfl
 case sub => exact fit h rfl
 case mul => exact fit h rfl
 case quo =>
  cases h
  obtain ⟨h1, h2, h3⟩ := hq
  have hz : eqI b 0 = false := by rw [eqI_ok]; simp; omega
  refine main (v' := .int k (wr k (a.tdiv b))) (by simp only [zxj, hz]) (λ u hu => ?_) rfl
  have e : a.tdiv b = a / b := Int.tdiv_eq_ediv_of_nonneg h1
  have h4 : a / b <= a := Int.ediv_le_self b h1
  have h5 : 0 <= a / b := Int.ediv_nonneg h1 (by omega)
  have h6 : k.min <= 0 := by cases k <;> simp [IntKind.min, IntKind.signed, IntKind.bits]
  rw [wr_ok, e, zxR ⟨by omega, by omega⟩] at hu
  exact hu
 case rem =>
  split at h
  ·cases h
   have hz : eqI b 0 = false := by rw [eqI_ok]; simp; omega
   exact main (v' := .int k (a.tmod b)) (by simp only [zxj, hz]) (λ u hu => hu) rfl
  ·cases h
   obtain ⟨h1, h2⟩ := hq
   have hz : eqI b 0 = false := by rw [eqI_ok]; simp; omega
   refine main (v' := .int k (a.tmod b)) (by simp only [zxj, hz]) (λ u hu => ?_) rfl
   rw [Int.tmod_eq_emod_of_nonneg h1] at hu
   exact hu
 case lss => cases h; exact main (v' := .bool (ltI a b)) rfl (λ u hu => by rw [ltI_ok] at hu; exact hu) rfl
 case gtr => cases h; exact main (v' := .bool (ltI b a)) rfl (λ u hu => by rw [ltI_ok] at hu; exact hu) rfl
 case leq => cases h; exact main (v' := .bool (!ltI b a)) rfl (λ u hu => by rw [ltI_ok] at hu; rw [show u = _ from hu]; show Value.bool _ = Value.bool _; simp [<- Int.not_lt]) rfl
 case geq => cases h; exact main (v' := .bool (!ltI a b)) rfl (λ u hu => by rw [ltI_ok] at hu; rw [show u = _ from hu]; show Value.bool _ = Value.bool _; simp [<- Int.not_lt]) rfl
 case eql => cases h; exact main (v' := .bool (eqI a b)) rfl (λ u hu => by rw [eqI_ok] at hu; exact hu) rfl
 case neq => cases h; exact main (v' := .bool (!eqI a b)) rfl (λ u hu => by rw [eqI_ok] at hu; exact hu) rfl
 case or =>
  cases h
  obtain ⟨h1, h2, h3, h4, h5⟩ := hq
  refine main (v' := .int k (wr k (BitVec.ofInt k.bits a ||| BitVec.ofInt k.bits b).toNat)) rfl (λ u hu => ?_) rfl
  rw [BitVec.toNat_or, zvc h1 h3, zvc h2 h4, wr_ok, zxR ⟨by have : k.min <= 0 := (by cases k <;> simp [IntKind.min, IntKind.signed, IntKind.bits]); omega, h5⟩] at hu
  exact hu
 case and =>
  cases h
  obtain ⟨h1, h2, h3, h4, h5⟩ := hq
  refine main (v' := .int k (wr k (BitVec.ofInt k.bits a &&& BitVec.ofInt k.bits b).toNat)) rfl (λ u hu => ?_) rfl
  rw [BitVec.toNat_and, zvc h1 h3, zvc h2 h4, wr_ok, zxR ⟨by have : k.min <= 0 := (by cases k <;> simp [IntKind.min, IntKind.signed, IntKind.bits]); omega, h5⟩] at hu
  exact hu
 all_goals cases h
theorem symSh_ok {bo : BinOp} {k : IntKind} {a : Int} {b : V} {q : Prop} {rd : List Lk} (h : symSh bo k a b = .q q v rd) (hq : q) {u2 : Value} (hb : R ρ b u2) : rd = [] /\ ∃ u, R ρ v u /\ ∀ w, (binOp bo X (.int k a) u2).run P w = .ok u w := by
 unfold symSh at h
 split at h
 ·rename_i k2 s
  obtain ⟨h1, h2⟩ := zjq (ρ := ρ) h hq
  cases hb
  obtain ⟨u, hu, hr⟩ := intBin_ok (P := P) (ρ := ρ) (X := X) (op := .shl) (k := k) (k' := k2) (a := a) (b := .ofNat s) (v := .int k (wr k (a * 2 ^ min s k.bits))) rfl
  exact ⟨h1, u, by rw [show u = _ from hu]; exact h2, hr⟩
 ·rename_i k2 s
  cases h
  cases hb
  obtain ⟨u, hu, hr⟩ := intBin_ok (P := P) (ρ := ρ) (X := X) (op := .shr) (k := k) (k' := k2) (a := a) (b := .ofNat s) (v := .int k (a.fdiv (2 ^ min s k.bits))) rfl
  refine ⟨rfl, u, ?_, hr⟩
  rw [show u = _ from hu, Int.fdiv_eq_ediv_of_nonneg _ (by exact Int.le_of_lt (Int.pow_pos (by decide)))]
  exact rfl
 ·cases h
theorem symSh_rd {bo : BinOp} {k : IntKind} {a : Int} {b : V} {q : Prop} {rd : List Lk} (h : symSh bo k a b = .q q v rd) (hq : q) : rd = [] := by
 unfold symSh at h
 split at h
 ·exact (zjq (ρ := ⟨λ _ => none, Hp.nil⟩) h hq).1
 ·cases h; rfl
 ·cases h
theorem symStr_ok {bo : BinOp} {a b : List UInt8} {q : Prop} {rd : List Lk} (h : symStr bo a b = .q q v rd) (hq : q) : rd = [] /\ ∃ u, R ρ v u /\ ∀ w, (binOp bo X (.string (Z.bs a)) (.string (Z.bs b))).run P w = .ok u w := by
 have main : ∀ {v' : V}, strBin bo a b = some v' -> (∀ u, R ρ v' u -> R ρ v u) -> rd = [] -> rd = [] /\ ∃ u, R ρ v u /\ ∀ w, (binOp bo X (.string (Z.bs a)) (.string (Z.bs b))).run P w = .ok u w := by
  intro v' hv hr hrd
  obtain ⟨u, hu, hrun⟩ := strBin_ok (P := P) (ρ := ρ) (X := X) hv
  exact ⟨hrd, u, hr u hu, hrun⟩
 cases bo <;> simp only [symStr] at h
 case add =>
  cases h
  have : Nat.ble (a.length + b.length) 9223372036854775807 = true := (by rw [Nat.ble_eq]; exact hq)
  exact main (v' := .str (a ++ b)) (by simp only [strBin, this]) (λ u hu => hu) rfl
 case eql => cases h; exact main (v' := .bool (eqB a b)) rfl (λ u hu => by rw [eqB_ok] at hu; exact hu) rfl
 case neq => cases h; exact main (v' := .bool (!eqB a b)) rfl (λ u hu => by rw [eqB_ok] at hu; exact hu) rfl
 case lss => cases h; exact main (v' := .bool (ltB a b)) rfl (λ u hu => hu) rfl
 case geq => cases h; exact main (v' := .bool (!ltB a b)) rfl (λ u hu => hu) rfl
 all_goals cases h
theorem symBin_ok {o : BinOp} (hw : wants ops L ⟨some d, .binOp o X x y Y, T, p, es, g⟩ = some true) (ht : Nat.blt d n = true) {a b : V} {u1 u2 : Value} (hx : evalL L x = some u1) (hy : evalL L y = some u2) (h1 : R ρ a u1) (h2 : R ρ b u2)
  {q : Prop} {rd : List Lk} (h : symBin o a b = .q q v rd) (hq : q) : rd = [] /\ QOk P n ops ⟨some d, .binOp o X x y Y, T, p, es, g⟩ ds L ρ W v rd := by
 unfold symBin at h
 split at h
 ·split at h
  ·rename_i k m ha
   cases zqx ha h1
   obtain ⟨rfl, u, hu, hr⟩ := symSh_ok (P := P) (ρ := ρ) (X := X) h hq h2
   exact ⟨rfl, .pure hu λ H => zqH hx hy (λ w => by cases o <;> simp [eqGuard]) hr hw ht⟩
  ·cases h
 split at h
 ·rename_i k m k' m' ha hb
  cases zqx ha h1
  cases zqx hb h2
  split at h
  ·rename_i hk
   cases zqZ hk
   obtain ⟨rfl, u, hu, hr⟩ := symInt_ok (P := P) (ρ := ρ) (X := X) h hq
   exact ⟨rfl, .pure hu λ H => zqH hx hy (λ w => by cases o <;> simp [eqGuard]) hr hw ht⟩
  ·cases h
 ·split at h
  ·rename_i l m ha hb
   cases zxm ha h1
   cases zxm hb h2
   obtain ⟨rfl, u, hu, hr⟩ := symStr_ok (P := P) (ρ := ρ) (X := X) h hq
   exact ⟨rfl, .pure hu λ H => zqH hx hy (λ w => by cases o <;> simp [eqGuard]) hr hw ht⟩
  ·cases h
def QSym (P : Program) (n : Nat) (ops : Array Oper) (o : Oper) (ρ : Rho) (hp : Mem) (W : RW) (L : Lo) (s : SymR) : Prop := ∀ p v rd, s = .q p v rd -> p -> Lives hp rd /\ ∀ ds d, o.dst = some d -> QOk P n ops o ds L ρ W v rd
def noL : SymR -> Prop
 | .q .. => True
 | .bad => True
 | _ => False
theorem QSym.ok {o : Oper} {s : SymR} (hn : noL s) (h : QSym P n ops o ρ hp W L s) : SymOk P n ops o ρ hp W L s := by
 cases s with
 | q p v rd => exact λ hq => ⟨(h p v rd rfl hq).1, λ ds d hd => toX ((h p v rd rfl hq).2 ds d hd)⟩
 | l p outs => exact hn.elim
 | f b x y => exact hn.elim
 | bad => trivial
theorem noL_fit {k : IntKind} {m : Int} : noL (fitQ k m) := by unfold fitQ; split <;> trivial
theorem noL_bin {o : BinOp} {a b : V} : noL (symBin o a b) := by
 unfold symBin
 split
 ·split
  ·unfold symSh; split
   ·exact noL_fit
   ·trivial
   ·trivial
  ·trivial
 split
 ·split
  ·cases o <;> simp only [symInt] <;> first | exact noL_fit | trivial | (split <;> trivial)
  ·trivial
 ·split
  ·cases o <;> simp only [symStr] <;> trivial
  ·trivial
theorem fit_conv {k' : IntKind} {S D : TypeId} {sd : TypeDesc} {k : IntKind} {a : Int} {q : Prop} {rd : List Lk} (hS : P.underlying S = some sd) (hD : P.underlying D = some (.int k')) (hx : evalL L x = some (.int k a)) (hw : wants ops L ⟨some d, .convert S D x, T, p, es, g⟩ = some true) (ht : Nat.blt d n = true)
  (h : fitQ k' a = .q q v rd) (hq : q) : rd = [] /\ QOk P n ops ⟨some d, .convert S D x, T, p, es, g⟩ ds L ρ W v rd := by
 obtain ⟨rfl, h2⟩ := zjq (ρ := ρ) h hq
 exact ⟨rfl, .pure h2 λ H => by rw [wr_ok]; exact q_convw hS hD hx hw ht⟩
theorem zxf (hG : GOk ρ G) (hE : RE ρ env L) {lo : Option Operand} {i : Option Int} (h : optI G env lo = some i) : (lo = none /\ i = none) \/ ∃ o m k, lo = some o /\ i = some m /\ evalL L o = some (.int k m) := by
 unfold optI at h
 split at h
 ·cases h; exact .inl ⟨rfl, rfl⟩
 ·split at h
  ·rename_i v hv
   split at h
   ·rename_i k m hi
    cases h
    obtain ⟨u, h1, h2⟩ := evO_ok hG hE hv
    cases zqx hi h2
    exact .inr ⟨_, m, k, rfl, rfl, h1⟩
   ·cases h
  ·cases h
theorem dst_some {o : Oper} {s : SymR} (h : ∀ d, o.dst = some d -> QSym P n ops o ρ hp W L s) (h0 : ∀ p v rd, s = .q p v rd -> p -> rd = []) : QSym P n ops o ρ hp W L s := by
 intro p v rd hs hp'
 refine ⟨by rw [h0 p v rd hs hp']; exact .nil, λ ds d hd => (h d hd p v rd hs hp').2 ds d hd⟩
theorem symS_ok (hG : GOk ρ G) (hE : RE ρ env L) (hH : HR ρ hp W) {o : Oper} (hw : wants ops L o = some true) (ht : dstOk o.dst n = true) : SymOk P n ops o ρ hp W L (symS P G env hp o.dst o.op) := by
 obtain ⟨dd, op, T, p, es, g⟩ := o
 cases op <;> first | trivial | skip
 case binOp bo X x y Y =>
  show SymOk _ _ _ _ _ _ _ _ (match evO G env x, evO G env y with | some a, some b => symBin bo a b | _, _ => .bad)
  split
  ·rename_i a b hx hy
   obtain ⟨u1, h1, h2⟩ := evO_ok hG hE hx
   obtain ⟨u2, h3, h4⟩ := evO_ok hG hE hy
   refine QSym.ok noL_bin (dst_some (λ d hd => ?_) (λ q v rd hs hq => ?_))
   ·cases hd
    intro q v rd hs hq
    have := symBin_ok (P := P) (W := W) (ρ := ρ) (n := n) hw ht h1 h3 h2 h4 hs hq (ds := [])
    refine ⟨by rw [this.1]; exact .nil, λ ds d hd => ?_⟩
    cases hd
    exact (symBin_ok hw ht h1 h3 h2 h4 hs hq).2
   ·unfold symBin at hs
    split at hs
    ·split at hs
     ·exact symSh_rd hs hq
     ·cases hs
    split at hs
    ·split at hs
     ·exact (symInt_ok (P := P) (ρ := ρ) (X := X) hs hq).1
     ·cases hs
    ·split at hs
     ·exact (symStr_ok (P := P) (ρ := ρ) (X := X) hs hq).1
     ·cases hs
  ·trivial
 case convert S D x =>
  show SymOk _ _ _ _ _ _ _ _ (match evO G env x with | some a => symConv P S D a | none => .bad)
  split
  ·rename_i a hx
   obtain ⟨u, h1, h2⟩ := evO_ok hG hE hx
   unfold symConv
   split
   ·rename_i sd k' hS hD
    split
    ·rename_i k m hi
     cases zqx hi h2
     refine QSym.ok noL_fit (dst_some (λ d hd => ?_) (λ q v rd hs hq => (zjq (ρ := ρ) hs hq).1))
     cases hd
     intro q v rd hs hq
     refine ⟨by rw [(zjq (ρ := ρ) hs hq).1]; exact .nil, λ ds d hd => ?_⟩
     cases hd
     exact (fit_conv hS hD h1 hw ht hs hq).2
    ·trivial
   ·rename_i sd hS hD
    split
    ·rename_i l hl
     cases zxm hl h2
     intro _
     refine ⟨.nil, λ ds d hd => ?_⟩
     cases hd
     exact .pure rfl λ H => zjJ hS hD h1 hw ht
    ·trivial
   ·trivial
  ·trivial
 case index X x y =>
  show SymOk _ _ _ _ _ _ _ _ (match evO G env x, evO G env y with | some a, some b => symIndex P X a b | _, _ => .bad)
  split
  ·rename_i a b hx hy
   obtain ⟨u1, h1, h2⟩ := evO_ok hG hE hx
   obtain ⟨u2, h3, h4⟩ := evO_ok hG hE hy
   unfold symIndex
   split
   ·rename_i l k m hX hl hi
    cases zxm hl h2
    cases zqx hi h4
    rintro ⟨h0, hlt⟩
    refine ⟨.nil, λ ds d hd => ?_⟩
    cases hd
    have hlt' : m.toNat < l.length := by omega
    refine .pure rfl λ H => q_index_s hX h1 h3 h0 ?_ hw ht
    rw [List.getElem?_eq_getElem hlt', List.getD_eq_getElem?_getD, List.getElem?_eq_getElem hlt']
    rfl
   ·trivial
  ·trivial
 case slice X x lo hi mx =>
  cases mx with
  | some mx => trivial
  | none =>
   show SymOk _ _ _ _ _ _ _ _ (match evO G env x with | some a => symSlice P X a (optI G env lo) (optI G env hi) | none => .bad)
   split
   ·rename_i a hx
    obtain ⟨u1, h1, h2⟩ := evO_ok hG hE hx
    unfold symSlice
    split
    ·rename_i l lo' hi' hX hl hlo hhi
     cases zxm hl h2
     rcases zxf hG hE hlo with ⟨rfl, rfl⟩ | ⟨ol, ml, kl, rfl, rfl, hl1⟩ <;> rcases zxf hG hE hhi with ⟨rfl, rfl⟩ | ⟨oh, mh, kh, rfl, rfl, hh1⟩
     ·trivial
     ·rintro ⟨h0, h3⟩
      refine ⟨.nil, λ ds d hd => ?_⟩
      cases hd
      exact .pure rfl λ H => zjY hX h1 hh1 h0 h3 hw ht
     ·rintro ⟨h0, h3⟩
      refine ⟨.nil, λ ds d hd => ?_⟩
      cases hd
      exact .pure rfl λ H => zjX hX h1 hl1 h0 h3 hw ht
     ·rintro ⟨h0, h3, h4⟩
      refine ⟨.nil, λ ds d hd => ?_⟩
      cases hd
      exact .pure rfl λ H => zjC hX h1 hl1 hh1 h0 h3 h4 hw ht
    ·trivial
   ·trivial
 case unOp o X x =>
  show SymOk _ _ _ _ _ _ _ _ (match evO G env x with | some a => symNeg o a | none => .bad)
  split
  ·rename_i a hx
   obtain ⟨u1, h1, h2⟩ := evO_ok hG hE hx
   unfold symNeg
   split
   ·rename_i k m hi
    cases zqx hi h2
    refine QSym.ok noL_fit (dst_some (λ d hd => ?_) (λ q v rd hs hq => (zjq (ρ := ρ) hs hq).1))
    cases hd
    intro q v rd hs hq
    obtain ⟨rfl, h3⟩ := zjq (ρ := ρ) hs hq
    refine ⟨.nil, λ ds d hd => ?_⟩
    cases hd
    exact .run hw ht (by simp) h3 λ a w he => by simp [execOp, Op.unary, Op.intArith, he.eval h1, wr_ok]
   ·trivial
  ·trivial
 case call c =>
  obtain ⟨cal, xs, ts⟩ := c
  show SymOk _ _ _ _ _ _ _ _ (symCall P G env ⟨cal, xs, ts⟩)
  unfold symCall
  split
  ·rename_i hcal
   dsimp only at hcal ⊢
   subst hcal
   split
   ·rename_i x t hxs hts
    split
    ·rename_i a hx
     obtain ⟨u1, h1, h2⟩ := evO_ok hG hE hx
     have e := q1 hxs
     subst e
     unfold symLen
     split
     ·rename_i l hT
      cases h2
      intro _
      refine ⟨.nil, λ ds d hd => ?_⟩
      cases hd
      exact .pure rfl λ H => q_len_s hts hT h1 hw ht
     ·rename_i e' id i len sz hT
      intro _
      refine ⟨.nil, λ ds d hd => ?_⟩
      cases hd
      rcases h2 with ⟨rfl, rfl⟩ | ⟨b, c, hr, rfl, hle⟩
      ·exact .pure rfl λ H => zxX hts hT h1 hw ht
      ·exact .pure rfl λ H => zxX hts hT h1 hw ht
     ·trivial
    ·trivial
   ·trivial
  ·rename_i hcal
   dsimp only at hcal ⊢
   subst hcal
   split
   ·rename_i x y hxs
    split
    ·rename_i a b hx hy
     obtain ⟨u1, h1, h2⟩ := evO_ok hG hE hx
     obtain ⟨u2, h3, h4⟩ := evO_ok hG hE hy
     have e : xs = #[x, y] := by apply Array.ext'; simpa using hxs
     subst e
     unfold symMax
     split
     ·rename_i k m k' m' ha hb
      cases zqx ha h2
      cases zqx hb h4
      split
      ·rename_i hk _
       cases zqZ hk
       intro _
       refine ⟨.nil, λ ds d hd => ?_⟩
       cases hd
       exact .pure rfl λ H => q_max h1 h3 hw ht
      ·rename_i hmx; cases hmx
      ·trivial
     ·trivial
    ·trivial
   ·trivial
  ·rename_i hcal
   dsimp only at hcal ⊢
   subst hcal
   split
   ·rename_i x y hxs
    split
    ·rename_i a b hx hy
     obtain ⟨u1, h1, h2⟩ := evO_ok hG hE hx
     obtain ⟨u2, h3, h4⟩ := evO_ok hG hE hy
     have e : xs = #[x, y] := by apply Array.ext'; simpa using hxs
     subst e
     unfold symMax
     split
     ·rename_i k m k' m' ha hb
      cases zqx ha h2
      cases zqx hb h4
      split
      ·rename_i hmx; cases hmx
      ·rename_i hk _
       cases zqZ hk
       intro _
       refine ⟨.nil, λ ds d hd => ?_⟩
       cases hd
       exact .pure rfl λ H => q_min h1 h3 hw ht
      ·trivial
     ·trivial
    ·trivial
   ·trivial
  ·trivial
end
end
end Go.Q
namespace Go.Q
open Go.Z Go.Y
noncomputable section
def vI : V -> Int
 | .sint _ n => n
 | .int _ n => n
 | _ => 0
def vS : V -> List UInt8
 | .sstr l => l
 | .str l => l
 | _ => []
def vB : V -> Bool
 | .sbool b => b
 | .bool b => b
 | _ => false
def vX : V -> List (List V)
 | .xs l _ => l
 | _ => []
def shVal : Sh -> V -> V
 | .xs sh, v => .xs (vX v) sh
 | .int k, v => .sint k (vI v)
 | .str, v => .sstr (vS v)
 | .bool, v => .sbool (vB v)
 | .any, v => v
 | .kids, v => .xs (vX v) nodeSh
def rowV (r : List V) : List Sh -> Nat -> List V
 | [], _ => []
 | s :: sh, j => shVal s (r.getD j .und) :: rowV r sh (j + 1)
def shOf : V -> Sh
 | .int k _ => .int k
 | .str _ => .str
 | .bool _ => .bool
 | _ => .any
mutual
def sheq : Sh -> Sh -> Bool
 | .int k, .int k' => ikeq k k'
 | .str, .str => true
 | .bool, .bool => true
 | .any, .any => true
 | .xs a, .xs b => sheqs a b
 | .kids, .kids => true
 | _, _ => false
def sheqs : List Sh -> List Sh -> Bool
 | [], [] => true
 | s :: l, t :: m => match sheq s t with | true => sheqs l m | false => false
 | _, _ => false
end
mutual
theorem sheq_ok : ∀ {s t : Sh}, sheq s t = true -> s = t
 | .int k, t, h => by cases t <;> simp only [sheq] at h <;> first | (cases h; done) | (rw [zqZ h])
 | .str, t, h => by cases t <;> simp only [sheq] at h <;> first | rfl | (cases h; done)
 | .bool, t, h => by cases t <;> simp only [sheq] at h <;> first | rfl | (cases h; done)
 | .any, t, h => by cases t <;> simp only [sheq] at h <;> first | rfl | (cases h; done)
 | .xs a, t, h => by
  cases t <;> simp only [sheq] at h <;> first | (cases h; done) | (rw [zxV h])
 | .kids, t, h => by cases t <;> simp only [sheq] at h <;> first | rfl | (cases h; done)
theorem zxV : ∀ {l m : List Sh}, sheqs l m = true -> l = m
 | [], [], _ => rfl
 | s :: l, t :: m, h => by
  simp only [sheqs] at h
  split at h
  ·rename_i h1; rw [sheq_ok h1, zxV h]
  ·cases h
 | [], _ :: _, h => by simp [sheqs] at h
 | _ :: _, [], h => by simp [sheqs] at h
end
def fitSh : Sh -> V -> Bool
 | .int k, .int k' _ => ikeq k k'
 | .int k, .sint k' _ => ikeq k k'
 | .str, .str _ => true
 | .str, .sstr _ => true
 | .bool, .bool _ => true
 | .bool, .sbool _ => true
 | .any, _ => true
 | .xs sh, .xs _ sh' => sheqs sh sh'
 | .kids, .xs _ sh' => sheqs nodeSh sh'
 | _, _ => false
def fitShs : List Sh -> List V -> Bool
 | [], [] => true
 | s :: sh, v :: r => match fitSh s v with | true => fitShs sh r | false => false
 | _, _ => false
def fitAll (sh : List Sh) : List (List V) -> Bool
 | [] => true
 | r :: l => match fitShs sh r with | true => fitAll sh l | false => false
theorem shVal_ok {ρ : Rho} {s : Sh} {v : V} {u : Value} (hs : shV s v) (h : R ρ v u) : R ρ (shVal s v) u := by
 cases s with
 | int k => obtain ⟨n, rfl | rfl⟩ := hs <;> exact h
 | str => obtain ⟨l, rfl | rfl⟩ := hs <;> exact h
 | bool => obtain ⟨b, rfl | rfl⟩ := hs <;> exact h
 | any => exact h
 | xs sh => obtain ⟨l, rfl⟩ := hs; exact h
 | kids => obtain ⟨l, rfl⟩ := hs; exact h
theorem rowV_ok {ρ : Rho} {r0 : List V} : ∀ {sh : List Sh} {r : List V} {us : List Value} {j : Nat}, r0.drop j = r -> shR sh r -> RL ρ r us -> RL ρ (rowV r0 sh j) us
 | [], r, us, j, _, hs, h => by rw [show r = [] from hs] at h; exact h
 | s :: sh, r, us, j, hd, hs, h => by
  obtain ⟨v, r', rfl, hs1, hs2⟩ := hs
  obtain ⟨u, us', h1, h2, rfl⟩ := h
  have hlt : j < r0.length := by
   rcases Nat.lt_or_ge j r0.length with hh | hh
   ·exact hh
   ·rw [List.drop_eq_nil_of_le hh] at hd; cases hd
  have hv : r0.getD j .und = v := by
   rw [List.getD_eq_getElem?_getD, List.getElem?_eq_getElem hlt]
   rw [List.drop_eq_getElem_cons hlt] at hd
   cases hd; rfl
  have hd' : r0.drop (j + 1) = r' := by
   rw [List.drop_eq_getElem_cons hlt] at hd
   cases hd; rfl
  simp only [rowV, hv]
  exact .cons (shVal_ok hs1 h1) (rowV_ok hd' hs2 h2)
theorem fitSh_ok {s : Sh} {v : V} (h : fitSh s v = true) : shV s v := by
 cases s <;> cases v <;> simp only [fitSh] at h <;> first | (cases h; done) | trivial | (rw [zqZ h]; exact ⟨_, .inr rfl⟩) | (rw [zqZ h]; exact ⟨_, .inl rfl⟩) | exact ⟨_, .inr rfl⟩ | exact ⟨_, .inl rfl⟩ | (rw [zxV h]; exact ⟨_, rfl⟩) | exact ⟨_, by rw [zxV h]⟩
theorem zjp : ∀ {sh : List Sh} {r : List V}, fitShs sh r = true -> shR sh r
 | [], [], _ => rfl
 | s :: sh, v :: r, h => by
  simp only [fitShs] at h
  split at h
  ·rename_i h1; exact ⟨v, r, rfl, fitSh_ok h1, zjp h⟩
  ·cases h
 | [], _ :: _, h => by simp [fitShs] at h
 | _ :: _, [], h => by simp [fitShs] at h
theorem fitAll_ok {sh : List Sh} : ∀ {l : List (List V)}, fitAll sh l = true -> ∀ r ∈ l, shR sh r
 | [], _, r, hr => by cases hr
 | x :: l, h, r, hr => by
  simp only [fitAll] at h
  split at h
  ·rename_i h1
   cases hr with
   | head => exact zjp h1
   | tail _ hr => exact fitAll_ok h r hr
  ·cases h
theorem zxz : ∀ {sh : List Sh} {r : List V}, shR sh r -> r.length = sh.length
 | [], r, h => by rw [show r = [] from h]; rfl
 | s :: sh, r, h => by obtain ⟨v, r', rfl, _, h2⟩ := h; simp [zxz h2]
theorem zkg {α : Type} {k : Nat} : ∀ {l : List (List α)}, (∀ r ∈ l, r.length = k) -> l.flatten.length = l.length * k
 | [], _ => by simp
 | r :: l, h => by
  rw [List.flatten_cons, List.length_append, zkg λ x hx => h x (List.mem_cons_of_mem _ hx), h r List.mem_cons_self, List.length_cons, Nat.add_mul]
  omega
theorem zxB {α : Type} {k : Nat} : ∀ {l : List (List α)} {i : Nat}, (∀ r ∈ l, r.length = k) -> (l.drop i).flatten = l.flatten.drop (i * k)
 | l, 0, _ => by simp
 | [], i + 1, _ => by simp
 | r :: l, i + 1, h => by
  have hr := h r List.mem_cons_self
  rw [List.drop_succ_cons, zxB λ x hx => h x (List.mem_cons_of_mem _ hx), List.flatten_cons, show (i + 1) * k = r.length + i * k by rw [hr, Nat.add_mul]; omega]
  simp [List.drop_append]
theorem zjo {α : Type} {k : Nat} : ∀ {l : List (List α)} {i : Nat}, (∀ r ∈ l, r.length = k) -> (l.take i).flatten = l.flatten.take (i * k)
 | l, 0, _ => by simp
 | [], i + 1, _ => by simp
 | r :: l, i + 1, h => by
  have hr := h r List.mem_cons_self
  rw [List.take_succ_cons, List.flatten_cons, List.flatten_cons, zjo λ x hx => h x (List.mem_cons_of_mem _ hx), show (i + 1) * k = r.length + i * k by rw [hr, Nat.add_mul]; omega]
  have ht : List.take (r.length + i * k) r = r := List.take_of_length_le (by omega)
  rw [List.take_append, ht]
  simp
inductive Ct where
 | rows (l : List (List V)) (sh : List Sh)
 | byt (l : List UInt8)
def Ct.sz : Ct -> Nat
 | .rows _ sh => sh.length
 | .byt _ => 1
def Ct.len : Ct -> Nat
 | .rows l _ => l.length
 | .byt l => l.length
def Ct.chunk (ty : Nat) : Ct -> Chunk
 | .rows l sh => .rows l sh ty
 | .byt l => .byt l ty
def Ct.take (n : Nat) : Ct -> Ct
 | .rows l sh => .rows (l.take n) sh
 | .byt l => .byt (l.take n)
def Ct.drop (n : Nat) : Ct -> Ct
 | .rows l sh => .rows (l.drop n) sh
 | .byt l => .byt (l.drop n)
def Ct.app : Ct -> Ct -> Option Ct
 | .rows l sh, .rows m sh' => match sheqs sh sh' with | true => some (.rows (l ++ m) sh) | false => none
 | .byt l, .byt m => some (.byt (l ++ m))
 | _, _ => none
def Ct.row (i : Nat) : Ct -> List V
 | .rows l sh => rowV (l.getD i []) sh 0
 | .byt l => [.sint .u8 (l.getD i 0).toNat]
def Ct.set (i : Nat) (r : List V) : Ct -> Option (Prop × Ct)
 | .rows l sh => match fitShs sh r with | true => some (True, .rows (l.set i r) sh) | false => none
 | .byt l => match r with
  | [v] => match intOf v with
   | some (.u8, n) => some (0 <= n /\ n <= 255, .byt (l.set i (UInt8.ofNat n.toNat)))
   | _ => none
  | _ => none
def ctOf : Chunk -> Option (Ct × Nat)
 | .rows l sh ty => some (.rows l sh, ty)
 | .rowsO l sh ty => some (.rows l sh, ty)
 | .byt l ty => some (.byt l, ty)
 | _ => none
def CtR (ρ : Rho) : Ct -> List Value -> Prop
 | .rows l sh, us => RL ρ l.flatten us /\ ∀ r ∈ l, shR sh r
 | .byt l, us => us = byV l
section
variable {ρ : Rho} {ct cu cv : Ct} {us vs : List Value}
theorem CtR.mono {ρ' : Rho} (le : ρ.le ρ') (h : CtR ρ ct us) : CtR ρ' ct us := by
 cases ct with
 | rows l sh => exact ⟨h.1.mono le, h.2⟩
 | byt l => exact h
theorem CtR.length (h : CtR ρ ct us) : us.length = ct.len * ct.sz := by
 cases ct with
 | rows l sh => rw [h.1.length]; exact zkg λ r hr => zxz (h.2 r hr)
 | byt l => rw [show us = byV l from h]; simp [byV, Ct.len, Ct.sz]
theorem CtR.take (n : Nat) (h : CtR ρ ct us) : CtR ρ (ct.take n) (us.take (n * ct.sz)) := by
 cases ct with
 | rows l sh => exact ⟨by rw [zjo λ r hr => zxz (h.2 r hr)]; exact h.1.take _, λ r hr => h.2 r (List.mem_of_mem_take hr)⟩
 | byt l => show _ = byV _; rw [show us = byV l from h, byV, byV, List.map_take]; simp [Ct.sz]
theorem CtR.drop (n : Nat) (h : CtR ρ ct us) : CtR ρ (ct.drop n) (us.drop (n * ct.sz)) := by
 cases ct with
 | rows l sh => exact ⟨by rw [zxB λ r hr => zxz (h.2 r hr)]; exact h.1.drop _, λ r hr => h.2 r (List.mem_of_mem_drop hr)⟩
 | byt l => show _ = byV _; rw [show us = byV l from h, byV, byV, List.map_drop]; simp [Ct.sz]
theorem CtR.app (h1 : CtR ρ ct us) (h2 : CtR ρ cu vs) (h : ct.app cu = some cv) : CtR ρ cv (us ++ vs) /\ cv.sz = ct.sz /\ cv.len = ct.len + cu.len := by
 unfold Ct.app at h
 split at h
 ·split at h
  ·rename_i l sh m sh' hs
   cases h
   obtain rfl := zxV hs
   refine ⟨⟨by rw [List.flatten_append]; exact h1.1.append h2.1, λ r hr => ?_⟩, rfl, by simp [Ct.len]⟩
   rcases List.mem_append.1 hr with hr | hr
   ·exact h1.2 r hr
   ·exact h2.2 r hr
  ·cases h
 ·cases h
  refine ⟨?_, rfl, by simp [Ct.len]⟩
  show _ = byV _
  rw [show us = byV _ from h1, show vs = byV _ from h2]; simp [byV]
 ·cases h
theorem CtR.row (h : CtR ρ ct us) {i : Nat} (hi : i < ct.len) : RL ρ (ct.row i) ((us.drop (i * ct.sz)).take ct.sz) := by
 cases ct with
 | rows l sh =>
  have hi : i < l.length := hi
  have hl : ∀ r ∈ l, r.length = sh.length := λ r hr => zxz (h.2 r hr)
  have hg : l.getD i [] = l[i] := by rw [List.getD_eq_getElem?_getD, List.getElem?_eq_getElem hi]; rfl
  have h1 : RL ρ l[i] ((us.drop (i * sh.length)).take sh.length) := by
   have := (h.1.drop (i * sh.length)).take sh.length
   rw [<- zxB hl, List.drop_eq_getElem_cons hi, List.flatten_cons, List.take_left' (hl _ (List.getElem_mem hi))] at this
   exact this
  show RL ρ (rowV (l.getD i []) sh 0) _
  rw [hg]
  exact rowV_ok (by simp) (h.2 _ (List.getElem_mem hi)) h1
 | byt l =>
  have hi : i < l.length := hi
  have h : us = byV l := h
  have e : (us.drop (i * 1)).take 1 = [Value.int .u8 ((l.getD i 0).toNat : Int)] := by
   rw [h, Nat.mul_one, byV, List.drop_eq_getElem_cons (by simpa using hi)]
   simp [List.getD_eq_getElem?_getD, List.getElem?_eq_getElem hi]
  show RL ρ _ ((us.drop (i * 1)).take 1)
  rw [e]
  exact .cons rfl .nil
theorem CtR.set (h : CtR ρ ct us) {i : Nat} (hi : i < ct.len) {r : List V} {q : Prop} (hs : ct.set i r = some (q, cu)) (hq : q) (hr : RL ρ r vs) :
  CtR ρ cu (us.take (i * ct.sz) ++ (vs ++ us.drop (i * ct.sz + ct.sz))) /\ cu.sz = ct.sz /\ cu.len = ct.len /\ vs.length = ct.sz := by
 cases ct with
 | rows l sh =>
  simp only [Ct.set] at hs
  split at hs
  ·rename_i hf
   cases hs
   have hi : i < l.length := hi
   have hl : ∀ r ∈ l, r.length = sh.length := λ r hr => zxz (h.2 r hr)
   refine ⟨⟨?_, λ x hx => ?_⟩, rfl, by simp [Ct.len], by rw [hr.length]; exact zxz (zjp hf)⟩
   ·rw [List.set_eq_take_append_cons_drop, if_pos hi, List.flatten_append, List.flatten_cons, zjo hl, zxB hl]
    refine (h.1.take _).append (hr.append ?_)
    rw [show (i + 1) * sh.length = i * sh.length + sh.length by rw [Nat.add_mul, Nat.one_mul]]
    exact h.1.drop (i * sh.length + sh.length)
   ·rcases List.mem_or_eq_of_mem_set hx with hx | rfl
    ·exact h.2 x hx
    ·exact zjp hf
  ·cases hs
 | byt l =>
  simp only [Ct.set] at hs
  split at hs
  ·rename_i v
   split at hs
   ·rename_i n hn
    cases hs
    have hi : i < l.length := hi
    obtain ⟨u, us', h1, h2, rfl⟩ := hr
    rw [show us' = [] from h2]
    cases zqx hn h1
    have hb : ((UInt8.ofNat n.toNat).toNat : Int) = n := by simp; omega
    refine ⟨?_, rfl, by simp [Ct.len], rfl⟩
    show _ = byV _
    rw [show us = byV l from h, byV, byV, List.set_eq_take_append_cons_drop, if_pos hi, List.map_append, List.map_cons, hb, List.map_take, List.map_drop]
    simp [Ct.sz]
   ·cases hs
  ·cases hs
end
end
end Go.Q
namespace Go.Q
open Go.Z Go.Y
noncomputable section
section
variable {P : Program} {n : Nat} {ops : Array Oper} {ds : List Deferred} {L : Lo} {H H' : List SP} {ρ : Rho} {W : RW} {G : GV} {env : Tr V} {hp hp' : Mem}
 {d : Nat} {T T' X Y t xt e sz by_ : TypeId} {p : String} {es : Array Edge} {g : Option (Nat × Bool)} {op : Op} {v : V} {u : Value} {x y z : Operand} {A : Option Addr} {m c : Nat} {cells : List Value} {C : SP}
theorem _root_.Go.Y.HR.ct (hH : HR ρ hp W) {id ty : Nat} {ch : Chunk} {ct : Ct} (e : hp.t.get id = some ch) (h : ctOf ch = some (ct, ty)) (hpos : 0 < ct.len) :
  ∃ b c rl junk fr, W id = some (b, .cells (rl ++ junk).toArray ty fr) /\ ρ id = some (b, c) /\ CtR ρ ct rl /\ (rl ++ junk).length = c * ct.sz /\ FrOk fr (rl ++ junk).length := by
 obtain ⟨b, o, h1, h2⟩ := hH.rel id _ e
 unfold ctOf at h
 split at h
 ·cases h
  obtain ⟨c, rl, junk, fr, h3, h4, h5, rfl, h6, h7⟩ := h2
  exact ⟨b, c, rl, junk, fr, h1, h3, ⟨h4, h5⟩, h6, h7⟩
 ·cases h
  rcases h2 with ⟨_, rfl | ⟨c, rl, junk, fr, h3, h4, h5, rfl, h6, h7⟩⟩
  ·exact absurd hpos (by simp [Ct.len])
  ·exact ⟨b, c, rl, junk, fr, h1, h3, ⟨h4, h5⟩, h6, h7⟩
 ·rename_i l ty'
  cases h
  obtain ⟨c, junk, fr, h3, rfl, h6, h7⟩ := h2
  exact ⟨b, c, byV l, junk, fr, h1, h3, rfl, h6, h7⟩
 ·cases h
theorem _root_.Go.Y.CRel.ct {id ty b c : Nat} {ct : Ct} {rl junk : List Value} {fr : Nat × Nat} (h1 : ρ id = some (b, c)) (h2 : CtR ρ ct rl) (h3 : (rl ++ junk).length = c * ct.sz) (h4 : FrOk fr (rl ++ junk).length) : CRel ρ id (ct.chunk ty) b (.cells (rl ++ junk).toArray ty fr) := by
 cases ct with
 | rows l sh => exact ⟨c, rl, junk, fr, h1, h2.1, h2.2, rfl, h3, h4⟩
 | byt l =>
  have h2 : rl = byV l := h2
  subst h2
  exact ⟨c, junk, fr, h1, rfl, h3, h4⟩
def symAddr (P : Program) (T : TypeId) (a b : V) : SymR := match a, P.underlying T with
 | .ssl id i len sz, some (.slice e) => match sizeP P e, intOf b with
  | some k, some (_, m) => match Nat.beq k sz with
   | true => .q (0 <= m /\ m < (len : Int)) (.sptr id (i + m.toNat) 0 sz) []
   | false => .bad
  | _, _ => .bad
 | _, _ => .bad
def symFA (P : Program) (s : TypeId) (f : Nat) (a : V) : SymR := match a, zkh P s f with
 | .sptr id i g sz, some k => .q True (.sptr id i (g + k) sz) []
 | _, _ => .bad
def symNil (a : V) : SymR := match a with
 | .sptr id i g sz => .q True (.sptr id i g sz) []
 | _ => .bad
theorem symAddr_ok (hw : wants ops L ⟨some d, .indexAddr T' x y, T, p, es, g⟩ = some true) (ht : Nat.blt d n = true) {a b : V} {u2 : Value} (hx : evalL L x = some u) (hu : R ρ a u) (hy : evalL L y = some u2) (hu2 : R ρ b u2) :
  QSym P n ops ⟨some d, .indexAddr T' x y, T, p, es, g⟩ ρ hp W L (symAddr P T' a b) := by
 intro q v rd hs hq
 unfold symAddr at hs
 split at hs
 ·rename_i id i len sz e hT
  split at hs
  ·rename_i k kk m hk hm
   split at hs
   ·rename_i hb
    cases hs
    have hb := beq_tt hb
    subst hb
    cases zqx hm hu2
    refine ⟨.nil, λ ds d hd => ?_⟩
    cases hd
    rcases hu with ⟨h0, _⟩ | ⟨b, c, hr, rfl, hle⟩
    ·omega
    ·refine .pure ⟨b, c, hr, ?_⟩ λ H => zxn hT hk hx hy hq.1 hq.2 hw ht
     rw [Nat.add_mul, Nat.add_zero]
   ·cases hs
  ·cases hs
 ·cases hs
theorem symFA_ok {f : Nat} (hw : wants ops L ⟨some d, .fieldAddr X x f, T, p, es, g⟩ = some true) (ht : Nat.blt d n = true) {a : V} (hx : evalL L x = some u) (hu : R ρ a u) :
  QSym P n ops ⟨some d, .fieldAddr X x f, T, p, es, g⟩ ρ hp W L (symFA P X f a) := by
 intro q v rd hs hq
 unfold symFA at hs
 split at hs
 ·rename_i id i gg sz k hk
  cases hs
  refine ⟨.nil, λ ds d hd => ?_⟩
  cases hd
  obtain ⟨b, c, hr, rfl⟩ := hu
  exact .pure ⟨b, c, hr, by rw [Nat.add_assoc]⟩ λ H => zxY hk hx hw ht
 ·cases hs
theorem symNil_ok (hw : wants ops L ⟨some d, .nilCheck x, T, p, es, g⟩ = some true) (ht : Nat.blt d n = true) {a : V} (hx : evalL L x = some u) (hu : R ρ a u) :
  QSym P n ops ⟨some d, .nilCheck x, T, p, es, g⟩ ρ hp W L (symNil a) := by
 intro q v rd hs hq
 unfold symNil at hs
 split at hs
 ·cases hs
  refine ⟨.nil, λ ds d hd => ?_⟩
  cases hd
  obtain ⟨b, c, hr, rfl⟩ := hu
  exact .pure ⟨b, c, hr, rfl⟩ λ H => q_nil hx hw ht
 ·cases hs
def ctAt (hp : Mem) (id : Nat) : Option (Ct × Nat) := match hp.t.get id with
 | some ch => ctOf ch
 | none => none
theorem _root_.Go.Y.HR.ctAt (hH : HR ρ hp W) {id ty : Nat} {ct : Ct} (h : ctAt hp id = some (ct, ty)) (hpos : 0 < ct.len) :
  (∃ ch, hp.t.get id = some ch) /\ ∃ b c rl junk fr, W id = some (b, .cells (rl ++ junk).toArray ty fr) /\ ρ id = some (b, c) /\ CtR ρ ct rl /\ (rl ++ junk).length = c * ct.sz /\ FrOk fr (rl ++ junk).length := by
 unfold Q.ctAt at h
 split at h
 ·rename_i ch hc
  exact ⟨⟨ch, hc⟩, hH.ct hc h hpos⟩
 ·cases h
def zvj (P : Program) (hp : Mem) (T : TypeId) (a : V) : SymR := match a with
 | .sptr id i f sz => match ctAt hp id with
  | some (ct, ty) => match Nat.beq ct.sz sz, partV P T (ct.row i) f with
   | true, some v => .q (i < ct.len) v [wh id]
   | _, _ => .bad
  | none => .bad
 | _ => .bad
theorem row_in {α : Type} {rl junk : List α} {i k f j : Nat} (hi : (i + 1) * k <= rl.length) (h : f + j <= k) : ((rl ++ junk).drop (i * k + f)).take j = (((rl.drop (i * k)).take k).drop f).take j := by
 rw [Nat.add_mul, Nat.one_mul] at hi
 rw [zqs (by omega), List.drop_take, List.take_take, List.drop_drop, Nat.min_eq_left (by omega)]
theorem CtR.room {ct : Ct} {us : List Value} (h : CtR ρ ct us) {i : Nat} (hi : i < ct.len) : (i + 1) * ct.sz <= us.length := by
 rw [h.length]
 exact Nat.mul_le_mul_right _ hi
theorem symLoad_ok (hH : HR ρ hp W) (hw : wants ops L ⟨some d, .load T' x, T, p, es, g⟩ = some true) (ht : Nat.blt d n = true) {a : V} (hx : evalL L x = some u) (hu : R ρ a u) :
  QSym P n ops ⟨some d, .load T' x, T, p, es, g⟩ ρ hp W L (zvj P hp T' a) := by
 intro q v rd hs hq
 unfold zvj at hs
 split at hs
 ·rename_i id i f sz
  split at hs
  ·rename_i ct ty hc
   split at hs
   ·rename_i v' hb hpart
    cases hs
    have hb := beq_tt hb
    subst hb
    obtain ⟨⟨ch, hch⟩, b, c, rl, junk, fr, hW, hr, hct, h4, h5⟩ := hH.ctAt hc (by have := hq; omega)
    obtain ⟨b', c', hr', rfl⟩ := hu
    rw [hr] at hr'; cases hr'
    have hroom := hct.room hq
    have hrow := hct.row hq
    refine ⟨Lives.one hch, λ ds d hd => ?_⟩
    cases hd
    have hrl : ((rl.drop (i * ct.sz)).take ct.sz).length = ct.sz := by
     rw [Nat.add_mul, Nat.one_mul] at hroom
     rw [List.length_take, List.length_drop]; omega
    unfold partV at hpart
    split at hpart
    ·cases hpart
    ·rename_i sd hsd
     split at hpart
     ·rename_i hs
      rw [nth_eq] at hpart
      obtain ⟨u, h1, h2⟩ := hrow.get hpart
      have hf : f < ct.sz := by
       rcases Nat.lt_or_ge f ct.sz with hh | hh
       ·exact hh
       ·rw [List.getElem?_eq_none (by omega)] at h1; cases h1
      refine ⟨u, h2, λ H hH' => ?_⟩
      obtain ⟨b2, ob, H', e1, pk⟩ := hH' _ (List.mem_singleton.2 rfl)
      have e1 := e1.eq
      dsimp only [wh] at e1
      rw [hW] at e1; cases e1
      have hg : (rl ++ junk)[i * ct.sz + f]? = some u := by
       have := congrArg (·[0]?) (row_in (junk := junk) (f := f) (j := 1) hroom (by omega))
       simp only [List.getElem?_take, List.getElem?_drop, Nat.add_zero, Nat.lt_one_iff, if_true] at this
       rw [List.getElem?_take, List.getElem?_drop] at h1
       rw [this, <- h1]
      exact q_load hsd hs hx pk hg hw ht
     ·rename_i hs
      split at hpart
      ·cases hpart
      ·rename_i k hk
       split at hpart
       ·rename_i r hr2
        cases hpart
        rw [zqX] at hr2
        obtain ⟨h1, h2⟩ := zqP hr2
        have h3 := RL.take k (RL.drop f hrow)
        rw [<- h1] at h3
        have hlen : ((((rl.drop (i * ct.sz)).take ct.sz).drop f).take k).length = k := by rw [h3.length, h2]
        have hfk : k = 0 \/ f + k <= ct.sz := by
         simp only [List.length_take, List.length_drop] at hlen hrl
         omega
        refine ⟨_, ⟨_, h3, rfl⟩, λ H hH' => ?_⟩
        obtain ⟨b2, ob, H', e1, pk⟩ := hH' _ (List.mem_singleton.2 rfl)
        have e1 := e1.eq
        dsimp only [wh] at e1
        rw [hW] at e1; cases e1
        rcases hfk with hk0 | hfk
        ·subst hk0
         exact zjI hsd hs hk hx pk (by simp) (by simp) hw ht
        ·exact zjI hsd hs hk hx pk (row_in hroom hfk) hlen hw ht
       ·cases hpart
   ·cases hs
  ·cases hs
 ·cases hs
end
section
variable {P : Program} {n : Nat} {ops : Array Oper} {r : List Oper} {ds : List Deferred} {L : Lo} {H H' : List SP} {K : Kont} {ρ : Rho} {W : RW} {G : GV} {env : Tr V} {hp hp' : Mem} {ro : Option Nat}
 {d : Nat} {T T' X Y t xt e sz by_ : TypeId} {p : String} {es : Array Edge} {g : Option (Nat × Bool)} {op : Op} {v : V} {u : Value} {x y z : Operand} {A : Option Addr} {m c : Nat} {cells : List Value} {C : SP}
def symStore (P : Program) (G : GV) (env : Tr V) (hp : Mem) (T : TypeId) (x y : Operand) : SymR := match evO G env x, evO G env y with
 | some (.sptr id i f sz), some v => match ctAt hp id, sizeP P T with
  | some (ct, ty), some k => match Nat.beq ct.sz sz, Nat.beq (cellsV v).length k, zxM (cellsV v), overV (ct.row i) f (cellsV v) with
   | true, true, true, some r => match ct.set i r with
    | some (q, ct') => match hp.putS id (some (ct'.chunk ty)) with
     | some h => .l (i < ct.len /\ q) [(.und, h)]
     | none => .bad
    | none => .bad
   | _, _, _, _ => .bad
  | _, _ => .bad
 | _, _ => .bad
theorem putAt_in {A B D us : List Value} {f : Nat} (h : f + us.length <= B.length) : putAt (A ++ (B ++ D)) (A.length + f) us = A ++ (putAt B f us ++ D) := by
 unfold putAt
 have h1 : (A ++ (B ++ D)).take (A.length + f) = A ++ B.take f := by
  rw [List.take_append, List.take_of_length_le (by omega), Nat.add_sub_cancel_left, List.take_append_of_le_length (by omega)]
 rw [h1, Nat.add_assoc, drop_pre, List.drop_append_of_le_length h]
 simp
theorem symStore_ok (hG : GOk ρ G) (hE : RE ρ env L) (hH : HR ρ hp W) (hw : wants ops L ⟨none, .store T' x y, T, p, es, g⟩ = some true) : SymOk P n ops ⟨none, .store T' x y, T, p, es, g⟩ ρ hp W L (symStore P G env hp T' x y) := by
 unfold symStore
 split
 ·rename_i id i f sz v hx hy
  split
  ·rename_i ct ty k hc hk
   split
   ·rename_i r hb hsz hsc ho
    split
    ·rename_i q ct' hset
     split
     ·rename_i h hput
      rintro ⟨hi, hq⟩ ro r' ds K kk
      have hro := zqA hput
      obtain ⟨hs, rfl⟩ := zqB hput
      have hb := beq_tt hb
      subst hb
      have hsz := beq_tt hsz
      obtain ⟨_, b, c, rl, junk, fr, hW, hr, hct, h4, h5⟩ := hH.ctAt hc (by omega)
      obtain ⟨ux, hux, b', c', hr', rfl⟩ := evO_ok hG hE hx
      rw [hr] at hr'; cases hr'
      obtain ⟨uy, huy, hvy⟩ := evO_ok hG hE hy
      obtain ⟨us, hc1, hc2⟩ := zqC hvy
      have hroom := hct.room hi
      rw [Nat.add_mul, Nat.one_mul] at hroom
      have hrow := hct.row hi
      obtain ⟨h6, h7, h8⟩ := zkV ho hrow hc2
      have hrl : ((rl.drop (i * ct.sz)).take ct.sz).length = ct.sz := by rw [List.length_take, List.length_drop]; omega
      obtain ⟨s1, s2, s3, s4⟩ := hct.set hi hset hq h6
      have hul : us.length = k := by rw [hc2.length, hsz]
      have hid : id < hp.n := by
       rcases Nat.lt_or_ge id hp.n with hh | hh
       ·exact hh
       ·rw [hH.lim id hh] at hr; cases hr
      refine Ops.storev hk hux huy (by rw [hc1]; simpa using hul) (by rw [hc1]; simpa using zxe hc2 hsc) (zqf hid hW) (by rw [List.length_append]; omega) (λ j hj => h5.2 _ (by rw [List.length_append]; omega)) hw ?_
      rw [hc1, List.toList_toArray]
      have e1 : putAt (rl ++ junk) (i * ct.sz + f) us = (rl.take (i * ct.sz) ++ (putAt ((rl.drop (i * ct.sz)).take ct.sz) f us ++ rl.drop (i * ct.sz + ct.sz))) ++ junk := by
       have hsplit : rl ++ junk = rl.take (i * ct.sz) ++ (((rl.drop (i * ct.sz)).take ct.sz) ++ (rl.drop (i * ct.sz + ct.sz) ++ junk)) := by
        conv => lhs; rw [<- List.take_append_drop (i * ct.sz) rl, <- List.take_append_drop ct.sz (rl.drop (i * ct.sz)), List.drop_drop]
        simp
       have hl1 : (rl.take (i * ct.sz)).length = i * ct.sz := by rw [List.length_take]; omega
       have key := putAt_in (A := rl.take (i * ct.sz)) (B := (rl.drop (i * ct.sz)).take ct.sz) (D := rl.drop (i * ct.sz + ct.sz) ++ junk) (us := us) (f := f) (by omega)
       rw [hl1] at key
       rw [hsplit, key]
       simp
      rw [e1]
      refine Ops.weak ?_ (λ x hx => zxx hid x hx)
      rw [zxT]
      have hlen2 : (rl.take (i * ct.sz) ++ (putAt ((rl.drop (i * ct.sz)).take ct.sz) f us ++ rl.drop (i * ct.sz + ct.sz))).length = rl.length := by
       rw [List.length_append, List.length_append, zqR h7, hrl, List.length_take, List.length_drop]; omega
      refine kk _ (List.mem_singleton.2 rfl) ρ _ undef (Rho.le_refl _) (hH.put hs (CRel.ct hr s1 ?_ ?_)) rfl rfl (Stay.put hro)
      ·rw [List.length_append, hlen2, <- List.length_append, h4, s2]
      ·rw [List.length_append, hlen2, <- List.length_append]; exact h5
     ·trivial
    ·trivial
   ·trivial
  ·trivial
 ·trivial
end
end
end Go.Q
namespace Go.Q
open Go.Z Go.Y
noncomputable section
section
variable {P : Program} {n : Nat} {ops : Array Oper} {r : List Oper} {ds : List Deferred} {L : Lo} {H H' : List SP} {K : Kont} {ρ : Rho} {W : RW} {G : GV} {env : Tr V} {hp hp' : Mem} {ro : Option Nat}
 {d : Nat} {T T' X Y t xt e sz by_ : TypeId} {p : String} {es : Array Edge} {g : Option (Nat × Bool)} {op : Op} {v : V} {u : Value} {x y z : Operand} {A : Option Addr} {m c : Nat} {cells : List Value} {C : SP}
theorem zjv {l : List Oper} {ct : Ct} (hH : HR ρ hp W) (hs : small hp.n = true) (hv : CtR ρ ct cells) (hsz : ct.sz = sz) (hne : cells ≠ [] \/ c ≠ 0)
  (k : ∀ b W' , A = some ⟨b, 0, none⟩ -> m <= c -> HR (upd ρ hp.n (some (b, c))) (hp.new (ct.chunk e)) W' -> Stay hp W W' -> Ops P ro n ops l ds L (spl (hp.n + 1) W') K) :
  Ops P ro n ops l ds L (Own e sz A m c cells :: spl hp.n W) K := by
 refine Ops.open_own hne λ b junk fr hA h1 h2 h3 h4 => ?_
 refine Ops.weak ?_ (λ x hx => zjf (b := b) (o := .cells (cells ++ junk).toArray e fr) x hx)
 refine k b _ hA h3 (hH.new hs (CRel.ct zqe (hv.mono (zqm hH _)) (by rw [h2, hsz]) (by rw [h2]; exact h4))) (Stay.new hH)
theorem own_ofG {id b ty s len : Nat} {rl junk : List Value} {fr : Nat × Nat} (hW : W id = some (b, .cells (rl ++ junk).toArray ty fr)) (hid : id < hp.n) (h4 : (rl ++ junk).length = c * s) (h5 : FrOk fr (rl ++ junk).length) (hlen : len * s <= rl.length) (hpos : 0 < s) :
  len <= c /\ ∀ x, sep (spl hp.n W) x -> sep (Own ty s (some ⟨b, 0, none⟩) len c (rl.take (len * s)) :: spl hp.n (upd W id none)) x := by
 have hle : len <= c := by
  have h6 : len * s <= c * s := by
   rw [<- h4]; simp; omega
  exact Nat.le_of_mul_le_mul_right h6 hpos
 refine ⟨hle, λ x hx => ?_⟩
 refine zqd (λ y hy => ?_) (λ _ h => h) (zqf hid hW x hx)
 refine .inr ⟨b, rl.drop (len * s) ++ junk, fr, rfl, by simp; omega, ?_, hle, by rw [<- h4]; exact h5, ?_⟩
 ·rw [<- h4]; simp; omega
 ·have : rl.take (len * s) ++ (rl.drop (len * s) ++ junk) = rl ++ junk := by rw [<- List.append_assoc, List.take_append_drop]
  rw [this]; exact hy
def isByte : List V -> Bool
 | [.int .u8 (.ofNat 0)] => true
 | _ => false
def ctZ (z : V) (n : Nat) : Option Ct := match isByte (cellsV z) with
 | true => some (.byt (List.replicate n 0))
 | false => match fitShs ((cellsV z).map shOf) (cellsV z) with
  | true => some (.rows (List.replicate n (cellsV z)) ((cellsV z).map shOf))
  | false => none
theorem ctZ_ok {z : V} {zc : List Value} {k : Nat} {ct : Ct} (hz : RL ρ (cellsV z) zc) (h : ctZ z k = some ct) : CtR ρ ct ((List.replicate k zc).flatten) /\ ct.sz = (cellsV z).length /\ ct.len = k := by
 unfold ctZ at h
 split at h
 ·rename_i hb
  cases h
  unfold isByte at hb
  split at hb
  ·rename_i hc
   rw [hc] at hz
   obtain ⟨u, us, h1, h2, rfl⟩ := hz
   have h1 : u = .int .u8 0 := h1
   have h2 : us = [] := h2
   subst h1 h2
   refine ⟨?_, by rw [hc]; rfl, by simp [Ct.len]⟩
   show _ = byV _
   clear hc
   induction k with
   | zero => rfl
   | succ k ih => rw [List.replicate_succ, List.flatten_cons, ih, List.replicate_succ]; rfl
  ·cases hb
 ·split at h
  ·rename_i hf
   cases h
   refine ⟨⟨hz.flat k, λ r hr => ?_⟩, by simp [Ct.sz], by simp [Ct.len]⟩
   rw [List.eq_of_mem_replicate hr]
   exact zjp hf
  ·cases h
def symMake (P : Program) (G : GV) (env : Tr V) (hp : Mem) (T : TypeId) (x y : Operand) : SymR := match P.underlying T with
 | some (.slice e) => match sizeP P e, bytesP P e, zeroV P e with
  | some sz, some by_, some z => match evO G env x, evO G env y with
   | some a, some b => match intOf a, intOf b with
    | some (_, i), some (_, j) => match Nat.blt 0 sz, Nat.beq (cellsV z).length sz, ctZ z i.toNat with
     | true, true, some ct => match hp.newS (ct.chunk e) with
      | some h => .l (0 < i /\ i <= j /\ j <= 9223372036854775807 /\ j.toNat * by_ <= 281474976710656) [(.ssl hp.n 0 i.toNat sz, h)]
      | none => .bad
     | _, _, _ => .bad
    | _, _ => .bad
   | _, _ => .bad
  | _, _, _ => .bad
 | _ => .bad
theorem symMake_ok (hG : GOk ρ G) (hE : RE ρ env L) (hH : HR ρ hp W) (hw : wants ops L ⟨some d, .makeSlice T' x y, T, p, es, g⟩ = some true) (ht : Nat.blt d n = true) : SymOk P n ops ⟨some d, .makeSlice T' x y, T, p, es, g⟩ ρ hp W L (symMake P G env hp T' x y) := by
 unfold symMake
 split
 ·rename_i e hT
  split
  ·rename_i sz by_ z hsz hby hz
   split
   ·rename_i a b hx hy
    split
    ·rename_i k1 i k2 j hi hj
     split
     ·rename_i ct hb1 hb2 hct
      split
      ·rename_i h hnew
       rintro ⟨q1, q2, q3, q4⟩ ro r' ds K kk
       obtain ⟨hs, rfl⟩ := zqw hnew
       have hb2 := beq_tt hb2
       obtain ⟨zr, hzr, hzv⟩ := zqO (ρ := ρ) hz
       obtain ⟨zc, hc1, hc2⟩ := zqC hzv
       obtain ⟨ux, hux, hvx⟩ := evO_ok hG hE hx
       obtain ⟨uy, huy, hvy⟩ := evO_ok hG hE hy
       cases zqx hi hvx
       cases zqx hj hvy
       obtain ⟨c1, c2, c3⟩ := ctZ_ok hc2 hct
       refine Ops.make hT hsz hby hzr (by rw [hc1]; simp [hc2.length, hb2]) hux huy (by omega) q2 q3 q4 hb1 hw ht λ A => ?_
       rw [hc1, List.toList_toArray]
       refine zjv (l := r') hH hs c1 (by rw [c2, hb2]) (.inr (by omega)) λ b W' hA hm hH' hst => ?_
       subst hA
       exact kk _ (List.mem_singleton.2 rfl) _ W' _ (zqm hH _) hH' (.inr ⟨b, _, zqe, by simp, by omega⟩) rfl hst
      ·trivial
     ·trivial
    ·trivial
   ·trivial
  ·trivial
 ·trivial
def dstS (hp : Mem) (e sz : Nat) (z x : V) : Option (Ct × Nat × Prop × Mem) := match x with
 | .nils => match ctZ z 0 with
  | some ct => some (ct, 0, True, hp)
  | none => none
 | .ssl id i len s => match ctAt hp id with
  | some (ct, ty) => match Nat.beq i 0, Nat.beq s sz, Nat.beq ty e, Nat.beq ct.sz sz with
   | true, true, true, true => match hp.putS id none with
    | some h => some (ct.take len, len, 0 < len /\ len <= ct.len, h)
    | none => none
   | _, _, _, _ => none
  | none => none
 | _ => none
theorem Ct.take_len {ct : Ct} {k : Nat} (h : k <= ct.len) : (ct.take k).len = k := by
 cases ct with
 | rows l sh => simp only [Ct.take, Ct.len, List.length_take]; exact Nat.min_eq_left h
 | byt l => simp only [Ct.take, Ct.len, List.length_take]; exact Nat.min_eq_left h
theorem Ct.take_sz {ct : Ct} {k : Nat} : (ct.take k).sz = ct.sz := by cases ct <;> rfl
theorem Ct.drop_sz {ct : Ct} {k : Nat} : (ct.drop k).sz = ct.sz := by cases ct <;> rfl
theorem Ct.drop_len {ct : Ct} {k : Nat} : (ct.drop k).len = ct.len - k := by
 cases ct with
 | rows l sh => simp [Ct.drop, Ct.len]
 | byt l => simp [Ct.drop, Ct.len]
theorem dstS_ok (hH : HR ρ hp W) {z a : V} {zc : List Value} (hz : RL ρ (cellsV z) zc) (hzl : (cellsV z).length = sz) (hu : R ρ a u) {ct0 : Ct} {m0 : Nat} {q : Prop} {h0 : Mem} (h : dstS hp e sz z a = some (ct0, m0, q, h0)) (hsz : 0 < sz) (hq : q) :
  ∃ A c W0 cells, u = .slice A m0 c /\ HR ρ h0 W0 /\ h0.n = hp.n /\ CtR ρ ct0 cells /\ ct0.sz = sz /\ ct0.len = m0 /\ (Stay hp W W0 /\ h0.ro = hp.ro) /\ ∀ x, sep (spl hp.n W) x -> sep (Own e sz A m0 c cells :: spl hp.n W0) x := by
 unfold dstS at h
 split at h
 ·split at h
  ·rename_i ct hct
   cases h
   obtain ⟨c1, c2, c3⟩ := ctZ_ok hz hct
   cases hu
   exact ⟨none, 0, W, [], rfl, hH, rfl, by simpa using c1, by rw [c2, hzl], c3, ⟨.refl, rfl⟩, λ x hx => sep_nil_own hx⟩
  ·cases h
 ·rename_i id i len s
  split at h
  ·rename_i ct ty hc
   split at h
   ·rename_i b1 b2 b3 b4
    split at h
    ·rename_i h' hput
     cases h
     have hro := zqA hput
     obtain ⟨hs, rfl⟩ := zqB hput
     obtain rfl := beq_tt b1
     obtain rfl := beq_tt b2
     obtain rfl := beq_tt b3
     have b4 := beq_tt b4
     obtain ⟨_, b, c, rl, junk, fr, hW, hr, hct, h4, h5⟩ := hH.ctAt hc (by have := hq; omega)
     rcases hu with ⟨hl0, _⟩ | ⟨b', c', hr', rfl, hle⟩
     ·exact absurd hl0 (by omega)
     ·rw [hr] at hr'; cases hr'
      have hid : id < hp.n := by
       rcases Nat.lt_or_ge id hp.n with hh | hh
       ·exact hh
       ·rw [hH.lim id hh] at hr; cases hr
      have hll := hct.length
      rw [b4] at h4 hll
      obtain ⟨o1, o2⟩ := own_ofG (hp := hp) (len := m0) hW hid h4 h5 (by rw [hll]; exact Nat.mul_le_mul_right _ hq.2) hsz
      have := hct.take m0
      rw [b4] at this
      exact ⟨some ⟨b, 0, none⟩, c, upd W id none, _, by simp, hH.kill hs, rfl, this, by rw [Ct.take_sz, b4], Ct.take_len hq.2, ⟨Stay.put hro, rfl⟩, o2⟩
    ·cases h
   ·cases h
  ·cases h
 ·cases h
def cutRows (sz : Nat) : Nat -> List V -> Option (List (List V))
 | 0, [] => some []
 | 0, _ => none
 | k + 1, l => match takeN sz l with
  | some r => match cutRows sz k (dropN sz l) with | some m => some (r :: m) | none => none
  | none => none
theorem cutRows_ok {sz : Nat} : ∀ {k : Nat} {l : List V} {m : List (List V)}, cutRows sz k l = some m -> m.flatten = l /\ m.length = k
 | 0, [], m, h => by cases h; exact ⟨rfl, rfl⟩
 | 0, _ :: _, m, h => by cases h
 | k + 1, l, m, h => by
  simp only [cutRows] at h
  split at h
  ·rename_i r hr
   split at h
   ·rename_i m' hm
    cases h
    obtain ⟨h1, h2⟩ := zqP hr
    rw [zqX] at hm
    obtain ⟨h3, h4⟩ := cutRows_ok hm
    exact ⟨by rw [List.flatten_cons, h3, h1, List.take_append_drop], by simp [h4]⟩
   ·cases h
  ·cases h
def byB (v : V) : UInt8 := UInt8.ofNat (vI v).toNat
def isB (v : V) : Prop := ∃ n : Int, 0 <= n /\ n <= 255 /\ (v = .int .u8 n \/ v = .sint .u8 n)
theorem byB_ok : ∀ {l : List V} {us : List Value}, (∀ v ∈ l, isB v) -> RL ρ l us -> us = byV (l.map byB)
 | [], us, _, h => by rw [show us = [] from h]; rfl
 | v :: l, us, hb, h => by
  obtain ⟨u, us', h1, h2, rfl⟩ := h
  obtain ⟨n, n0, n1, hv⟩ := hb v List.mem_cons_self
  have hu : u = .int .u8 n := by rcases hv with rfl | rfl <;> exact h1
  have hn : vI v = n := by rcases hv with rfl | rfl <;> rfl
  rw [List.map_cons, byB_ok (λ x hx => hb x (List.mem_cons_of_mem _ hx)) h2, hu]
  have : ((byB v).toNat : Int) = n := by unfold byB; rw [hn]; simp; omega
  show _ = Value.int .u8 ((byB v).toNat : Int) :: _
  rw [this]; rfl
def ctOfCells (ct0 : Ct) (k sz : Nat) (l : List V) : Option (Prop × Ct) := match ct0 with
 | .rows _ sh => match cutRows sz k l with
  | some m => match fitAll sh m with | true => some (True, .rows m sh) | false => none
  | none => none
 | .byt _ => match Nat.beq l.length k with | true => some (∀ v ∈ l, isB v, .byt (l.map byB)) | false => none
theorem ctOfCells_ok {ct0 ct1 : Ct} {k : Nat} {l : List V} {us : List Value} {q : Prop} (h : ctOfCells ct0 k sz l = some (q, ct1)) (hq : q) (hl : RL ρ l us) : CtR ρ ct1 us /\ ct1.sz = ct0.sz /\ ct1.len = k := by
 unfold ctOfCells at h
 split at h
 ·split at h
  ·rename_i m hm
   split at h
   ·rename_i hf
    cases h
    obtain ⟨h1, h2⟩ := cutRows_ok hm
    exact ⟨⟨by rw [h1]; exact hl, fitAll_ok hf⟩, rfl, h2⟩
   ·cases h
  ·cases h
 ·split at h
  ·rename_i hb
   cases h
   exact ⟨byB_ok hq hl, rfl, by simp only [Ct.len, List.length_map]; exact beq_tt hb⟩
  ·cases h
def noAny : List Sh -> Bool
 | [] => true
 | .any :: _ => false
 | _ :: l => noAny l
def Ct.plain : Ct -> Bool
 | .rows _ sh => noAny sh
 | .byt _ => true
theorem noAny_scal : ∀ {sh : List Sh} {r : List V} {us : List Value}, noAny sh = true -> shR sh r -> RL ρ r us -> scal us = true
 | [], r, us, _, hs, h => by
  rw [show r = [] from hs] at h
  rw [show us = [] from h]; rfl
 | s :: sh, r, us, hn, hs, h => by
  obtain ⟨v, r', rfl, hs1, hs2⟩ := hs
  obtain ⟨u, us', h1, h2, rfl⟩ := h
  have hu : u.oneCell' = true := by
   cases s with
   | int k => obtain ⟨i, rfl | rfl⟩ := hs1 <;> (have h1 : u = .int k i := h1; rw [h1]; rfl)
   | str => obtain ⟨i, rfl | rfl⟩ := hs1 <;> (have h1 : u = .string (bs i) := h1; rw [h1]; rfl)
   | bool => obtain ⟨i, rfl | rfl⟩ := hs1 <;> (have h1 : u = .bool i := h1; rw [h1]; rfl)
   | any => cases hn
   | xs _ => obtain ⟨l, rfl⟩ := hs1; obtain ⟨A, c, us2, rfl, _⟩ := h1; rfl
   | kids => obtain ⟨l, rfl⟩ := hs1; obtain ⟨A, c, us2, rfl, _⟩ := h1; rfl
  have hn' : noAny sh = true := by cases s <;> first | exact hn | cases hn
  have := noAny_scal hn' hs2 h2
  unfold scal at this ⊢
  rw [List.all_cons, hu, this]; rfl
theorem flat_scal {sh : List Sh} (hn : noAny sh = true) : ∀ {l : List (List V)} {us : List Value}, (∀ r ∈ l, shR sh r) -> RL ρ l.flatten us -> scal us = true
 | [], us, _, h => by rw [show us = [] from h]; rfl
 | r :: l, us, hs, h => by
  rw [List.flatten_cons] at h
  have h1 := h.take r.length
  have h2 := h.drop r.length
  rw [List.take_left'] at h1
  rw [List.drop_left'] at h2
  have a := noAny_scal hn (hs r List.mem_cons_self) h1
  have b := flat_scal hn (λ x hx => hs x (List.mem_cons_of_mem _ hx)) h2
  rw [<- List.take_append_drop r.length us]
  unfold scal at a b ⊢
  rw [List.all_append, a, b]; rfl
  all_goals rfl
theorem CtR.scal {ct : Ct} {us : List Value} (h : CtR ρ ct us) (hp : ct.plain = true) : scal us = true := by
 cases ct with
 | rows l sh => exact flat_scal hp h.2 h.1
 | byt l =>
  rw [show us = byV l from h]
  unfold Z.scal byV
  simp [Value.oneCell']
def srcS (hp : Mem) (sd : TypeDesc) (sz : Nat) (ct0 : Ct) (b : V) : Option (Ct × Nat × Prop × List Lk) := match sd with
 | .string => match strOf b with
  | some s => match Nat.beq sz 1 with | true => some (.byt s, s.length, True, []) | false => none
  | none => none
 | .slice _ => match b with
  | .ssl id i len s => match ctAt hp id with
   | some (ct, ty) => match Nat.beq s sz, Nat.beq ct.sz sz, ct.plain with
    | true, true, true => some ((ct.drop i).take len, len, 0 < len /\ i + len <= ct.len, [wh id])
    | _, _, _ => none
   | none => none
  | b => match elemsV hp sz b, lenV b with
   | some (new, rd), some k => match zxM new, ctOfCells ct0 k sz new with
    | true, some (q, ct1) => some (ct1, k, q, rd)
    | _, _ => none
   | _, _ => none
 | _ => none
theorem srcS_ok (hH : HR ρ hp W) {e' : TypeId} {ct0 ct1 : Ct} {k : Nat} {q : Prop} {rd : List Lk} {b : V} (hu : R ρ b u) (h : srcS hp (.slice e') sz ct0 b = some (ct1, k, q, rd)) (hq : q) :
  ∃ B cap new, u = .slice B k cap /\ CtR ρ ct1 new /\ new.length = k * sz /\ ct1.len = k /\ Z.scal new = true /\ ∀ H, Holds W H rd -> ∃ C H', Pick H C H' /\ RdA C B new := by
 simp only [srcS] at h
 split at h
 ·rename_i id i len s
  split at h
  ·rename_i ct ty hc
   split at h
   ·rename_i b1 b2 b3
    cases h
    obtain rfl := beq_tt b1
    have b2 := beq_tt b2
    obtain ⟨_, b, c, rl, junk, fr, hW, hr, hct, h4, h5⟩ := hH.ctAt hc (by have := hq; omega)
    rcases hu with ⟨h0, _⟩ | ⟨b', c', hr', rfl, hle⟩
    ·exact absurd h0 (by omega)
    ·rw [hr] at hr'; cases hr'
     have hd := (hct.drop i).take k
     rw [Ct.drop_sz, b2] at hd
     have hll := hct.length
     rw [b2] at hll
     have hik : i * s + k * s <= rl.length := by
      rw [hll, <- Nat.add_mul]; exact Nat.mul_le_mul_right _ hq.2
     have hlen : ((rl.drop (i * s)).take (k * s)).length = k * s := by rw [List.length_take, List.length_drop]; omega
     refine ⟨_, _, _, rfl, hd, hlen, ?_, hd.scal (by cases ct <;> exact b3), λ H hH' => ?_⟩
     ·rw [Ct.take_len]; rw [Ct.drop_len]; omega
     ·obtain ⟨b2', ob, H', e1, pk⟩ := hH' (wh id) (by simp)
      have e1 := e1.eq
      dsimp only [wh] at e1
      rw [hW] at e1; cases e1
      refine ⟨_, H', pk, RdA.blk ?_⟩
      rw [hlen]
      exact zqs hik
   ·cases h
  ·cases h
 ·split at h
  ·rename_i new rd' kk hel hlen
   split at h
   ·rename_i q' ct1' hsc hct
    cases h
    obtain ⟨B, len, cap, nw, rfl, h1, h2, h3, h4⟩ := zjz hH hu hel
    obtain rfl := lenV_ok hlen hu
    obtain ⟨c1, c2, c3⟩ := ctOfCells_ok hct hq h1
    exact ⟨B, cap, nw, rfl, c1, h2, c3, zxe h1 hsc, h4⟩
   ·cases h
  ·cases h
def zvl (P : Program) (G : GV) (env : Tr V) (hp : Mem) (t xt : TypeId) (x y : Operand) : SymR := match P.underlying t, P.underlying xt with
 | some (.slice e), some sd => match sizeP P e, bytesP P e, zeroV P e with
  | some sz, some by_, some z => match evO G env x, evO G env y with
   | some a, some b => match Nat.blt 0 sz, Nat.blt 0 by_, Nat.beq (cellsV z).length sz, dstS hp e sz z a with
    | true, true, true, some (ct0, m0, q0, h0) => match srcS h0 sd sz ct0 b with
     | some (ct1, k, q1, rd) => match live h0 rd, ct0.app ct1 with
      | true, some ct => match h0.newS (ct.chunk e) with
       | some h => .l (q0 /\ q1 /\ (m0 + k) * by_ <= 140737488355328 /\ 0 < m0 + k) [(.ssl h0.n 0 (m0 + k) sz, h)]
       | none => .bad
      | _, _ => .bad
     | none => .bad
    | _, _, _, _ => .bad
   | _, _ => .bad
  | _, _, _ => .bad
 | _, _ => .bad
theorem symAppend_ok (hG : GOk ρ G) (hE : RE ρ env L) (hH : HR ρ hp W) (hw : wants ops L ⟨some d, .call { callee := .builtin .append, args := #[x, y], argTypes := #[t, xt] }, T, p, es, g⟩ = some true) (ht : Nat.blt d n = true) :
  SymOk P n ops ⟨some d, .call { callee := .builtin .append, args := #[x, y], argTypes := #[t, xt] }, T, p, es, g⟩ ρ hp W L (zvl P G env hp t xt x y) := by
 unfold zvl
 split
 ·rename_i e sd hT hxt
  split
  ·rename_i sz by_ z hsz hby hz
   split
   ·rename_i a b hx hy
    split
    ·rename_i ct0 m0 q0 h0 b1 b2 b3 hdst
     split
     ·rename_i ct1 k q1 rd hsrc
      split
      ·rename_i ct hlv happ
       split
       ·rename_i h hnew
        rintro ⟨hq0, hq1, hbd, hps⟩ ro r' ds K kk
        have hsz0 := blt_tt b1
        have b3 := beq_tt b3
        obtain ⟨zr, hzr, hzv⟩ := zqO (ρ := ρ) hz
        obtain ⟨zc, hc1, hc2⟩ := zqC hzv
        have hzs : zr.cells.size = sz := by rw [hc1]; simp [hc2.length, b3]
        obtain ⟨ux, hux, hvx⟩ := evO_ok hG hE hx
        obtain ⟨uy, huy, hvy⟩ := evO_ok hG hE hy
        obtain ⟨A, c, W0, cells, rfl, hH0, hn0, hct0, hsz1, hlen0, hst, hsplit⟩ := dstS_ok hH hc2 b3 hvx hdst hsz0 hq0
        refine Ops.weak ?_ hsplit
        rw [<- hn0]
        obtain ⟨hs, rfl⟩ := zqw hnew
        have close : ∀ new : List Value, CtR ρ ct1 new -> ct1.len = k -> ∀ (A' : Option Addr) (c' : Nat), Ops P ro n ops r' ds ((d, .slice A' (m0 + k) c') :: L) (Own e sz A' (m0 + k) c' (cells ++ new) :: spl h0.n W0) K := by
         intro new hn hk A' c'
         obtain ⟨a1, a2, a3⟩ := hct0.app hn happ
         have hne : cells ++ new ≠ [] := by
          intro h
          have hl := a1.length
          rw [h, a2, a3, hlen0, hk, hsz1] at hl
          have := Nat.mul_pos hps hsz0
          simp at hl
          omega
         refine zjv (l := r') hH0 hs a1 (by rw [a2, hsz1]) (.inl hne) λ b W' hA hm hH' hst' => ?_
         subst hA
         exact kk _ (List.mem_singleton.2 rfl) _ W' _ (zqm hH0 _) hH' (.inr ⟨b, c', zqe, by simp, by simpa using hm⟩) hst.2 (λ j hj => (hst.1 j hj).trans (hst' j (by rw [hst.2]; exact hj)))
        cases sd with
        | string =>
         simp only [srcS] at hsrc
         split at hsrc
         ·rename_i s hs'
          split at hsrc
          ·rename_i hs1
           cases hsrc
           have hs1 := beq_tt hs1
           subst hs1
           cases zxm hs' hvy
           exact Ops.append_str hT hxt hsz hby hzr hzs b2 hux huy Pick.head rfl hbd hw ht (close _ rfl rfl)
          ·cases hsrc
         ·cases hsrc
        | slice e' =>
         obtain ⟨B, cap, new, rfl, s1, s2, s3, s4, s5⟩ := srcS_ok hH0 hvy hsrc hq1
         obtain ⟨C, H2, pk2, hR⟩ := s5 _ (Holds.tail (B := Own e sz A m0 c cells) (zkC hH0 hlv (Nat.le_refl _)))
         exact Ops.append hT hxt hsz hby hzr hzs b2 hux huy Pick.head pk2 hR s2 s4 hbd hw ht (close new s1 s3)
        | _ => cases hsrc
       ·trivial
      ·trivial
     ·trivial
    ·trivial
   ·trivial
  ·trivial
 ·trivial
end
end
end Go.Q
namespace Go.Q
open Go.Z Go.Y
noncomputable section
section
variable {P : Program} {n : Nat} {ops : Array Oper} {r : List Oper} {ds : List Deferred} {L : Lo} {H H' : List SP} {K : Kont} {ρ : Rho} {W : RW} {G : GV} {env : Tr V} {hp hp' : Mem} {ro : Option Nat}
 {d : Nat} {T T' X Y t xt e sz by_ : TypeId} {p : String} {es : Array Edge} {g : Option (Nat × Bool)} {op : Op} {v : V} {u : Value} {x y z : Operand} {A : Option Addr} {m c : Nat} {cells : List Value} {C : SP}
def symUData (G : GV) (env : Tr V) (xs : List Operand) : SymR := match mapO (evO G env) xs with
 | some [.ssl id 0 len 1] => .q (0 < len) (.sptr id 0 0 1) []
 | _ => .bad
theorem symUData_ok (hG : GOk ρ G) (hE : RE ρ env L) {xs : Array Operand} {ts : Array TypeId} (hw : wants ops L ⟨some d, .call { callee := .builtin .unsafeSliceData, args := xs, argTypes := ts }, T, p, es, g⟩ = some true) (ht : Nat.blt d n = true) :
  SymOk P n ops ⟨some d, .call { callee := .builtin .unsafeSliceData, args := xs, argTypes := ts }, T, p, es, g⟩ ρ hp W L (symUData G env xs.toList) := by
 unfold symUData
 split
 ·rename_i id len hxs
  intro hpos
  refine ⟨(λ l hl => by cases hl), λ ds d' hd => ?_⟩
  cases hd
  obtain ⟨us, h2, u, us', h3, h4, rfl⟩ := zqS hG hE hxs
  rw [show us' = [] from h4] at h2
  rcases h3 with ⟨h0, _⟩ | ⟨b, c, hr, rfl, hlc⟩
  ·omega
  ·refine toX (.run hw ht (by simp) ⟨b, c, hr, rfl⟩ λ a w he => ?_)
   have hm := zqr he h2
   have hc0 : c - 0 ≠ 0 := by omega
   simp only [execOp, resolve, invoke, builtin, hm, Sem.run_bind, Sem.run_pure, Result.andThen_ok, Lib.run_unsafeSliceData_row w _ _ _ _ _ hc0]
 ·trivial
def symUStr (P : Program) (G : GV) (env : Tr V) (hp : Mem) (ts : List TypeId) (xs : List Operand) : SymR := match ts, mapO (evO G env) xs with
 | [pt, _], some [.sptr id 0 0 1, .sint .i64 m] => match P.underlying pt, hp.t.get id with
  | some (.pointer e), some (.byt l ty) => match Nat.beq ty e && Nat.beq (P.cellsOf e) 1, hp.putS id none with
   | true, some h => .l ((0 < m /\ m <= l.length) /\ l.length <= 9223372036854775807) [(.sstr (l.take m.toNat), h)]
   | _, _ => .bad
  | _, _ => .bad
 | _, _ => .bad
theorem symUStr_ok (hG : GOk ρ G) (hE : RE ρ env L) (hH : HR ρ hp W) {xs : Array Operand} {ts : Array TypeId} (hw : wants ops L ⟨some d, .call { callee := .builtin .unsafeString, args := xs, argTypes := ts }, T, p, es, g⟩ = some true) (ht : Nat.blt d n = true) :
  SymOk P n ops ⟨some d, .call { callee := .builtin .unsafeString, args := xs, argTypes := ts }, T, p, es, g⟩ ρ hp W L (symUStr P G env hp ts.toList xs.toList) := by
 unfold symUStr
 split
 ·rename_i pt it id m0 hts hxs
  split
  ·rename_i e l ty hpt hc
   split
   ·rename_i h hb h1
    rintro ⟨⟨hm0, hm1⟩, h63⟩ ro r ds K k
    obtain ⟨m, rfl⟩ : ∃ m : Nat, m0 = m := ⟨m0.toNat, by omega⟩
    rw [Int.toNat_natCast] at k
    refine Ops.of_run hw (by simp) ht (λ Γ F a w he hh => ?_) k
    obtain ⟨us, h2, u, us', h3, h4, rfl⟩ := zqS hG hE hxs
    obtain ⟨u2, us2, h5, h6, rfl⟩ := h4
    rw [show us2 = [] from h6] at h2
    cases h5
    have hm := zqr he h2
    have e2 : ts = #[pt, it] := by apply Array.ext'; simpa using hts
    have hro := zqA h1
    obtain ⟨hs, rfl⟩ := zqB h1
    simp only [Bool.and_eq_true] at hb
    obtain ⟨hb1, hb2⟩ := hb
    obtain rfl := beq_tt hb1
    have hb2 := beq_tt hb2
    obtain ⟨b, o, hW, c, junk, fr, hr, rfl, h4, h5⟩ := hH.rel id _ hc
    obtain ⟨b', c', hr', rfl⟩ := h3
    rw [hr] at hr'; cases hr'
    have hlt := hH.lt hc
    have hbk := hh.block (zqf hlt hW)
    have hml : m <= l.length := by omega
    have hlen : (l.take m).length = m := by rw [List.length_take]; omega
    have hbl : (byV l).length = l.length := by simp [byV]
    have hrun := Lib.run_unsafeString_row (P := P) w pt it T ty hpt hb2 b (byV l ++ junk).toArray.size (by simp [World.shape?, hbk]) (l.take m) (by intro e; rw [e] at hlen; simp at hlen; omega) (by simp [hbl]; omega) (by omega) (λ j x hj => by
     have hjm : j < m := by
      rcases Nat.lt_or_ge j m with h' | h'
      ·exact h'
      ·rw [List.getElem?_eq_none (by omega)] at hj; cases hj
     rw [List.getElem?_take_of_lt hjm] at hj
     have hg : (byV l)[j]? = some (.int .u8 x.toNat) := by unfold byV; rw [List.getElem?_map, hj]; rfl
     rw [zqF]; simp only [World.cell?, hbk]; have hg2 := getA (b := junk) hg; simpa using hg2)
    rw [hlen] at hrun
    refine ⟨_, List.mem_singleton.2 rfl, ρ, upd W id none, .string (Z.bs (l.take m)), w.freeze ⟨b, 0, none⟩ m, ?_, ?_, Rho.le_refl _, hH.kill hs, rfl, rfl, Stay.put hro⟩
    ·rw [e2]
     simp only [execOp, resolve, invoke, builtin, hm, Sem.run_bind, Sem.run_pure, Result.andThen_ok]
     erw [hrun]
     rfl
    ·obtain ⟨kk, rfl⟩ : ∃ kk, m = kk + 1 := ⟨m - 1, by omega⟩
     have ht2 := hh.turn (w' := w.freeze ⟨b, 0, none⟩ (kk + 1)) (o' := .cells (byV l ++ junk).toArray ty (if fr.1 == fr.2 then (0, 0 + (kk + 1)) else (min fr.1 0, max fr.2 (0 + (kk + 1))))) (zqf hlt hW) rfl rfl rfl
      (by simp [World.freeze, Array.getElem?_modify, hbk]) (λ i hi => by simp only [World.freeze, Nat.succ_ne_zero, if_false, Array.getElem?_modify]; simp; omega)
     exact ht2.weaken λ x hx => by
      obtain ⟨h1, h2, d', e', _, h⟩ := hx
      exact e' ▸ sep_up _ d' h
   ·trivial
  ·trivial
 ·trivial
end
end
end Go.Q
namespace Go.Q
open Go.Z Go.Y
noncomputable section
section
variable {P : Program} {n : Nat} {ops : Array Oper} {r : List Oper} {ds : List Deferred} {L : Lo} {H H' : List SP} {K : Kont} {ρ : Rho} {W : RW} {G : GV} {env : Tr V} {hp hp' : Mem} {ro : Option Nat}
 {d : Nat} {T T' X Y t xt e sz by_ : TypeId} {p : String} {es : Array Edge} {g : Option (Nat × Bool)} {op : Op} {v : V} {u : Value} {x y z : Operand} {A : Option Addr} {m c : Nat} {cells : List Value} {C : SP}
def symBytes (P : Program) (hp : Mem) (S e : TypeId) (a : V) : SymR := match P.underlying S, P.underlying e, strOf a with
 | some .string, some (.int .u8), some s => match hp.newS (.byt s e) with
  | some h => .f (decide (0 < s.length)) (.l True [(.ssl hp.n 0 s.length 1, h)]) (.l True [(.sle, hp)])
  | none => .bad
 | _, _, _ => .bad
def zve (P : Program) (hp : Mem) (S : TypeId) (a : V) : SymR := match P.underlying S with
 | some (.slice e) => match P.underlying e with
  | some (.int .u8) => match a with
   | .ssl id i len s => match ctAt hp id with
    | some (.byt l, ty) => match Nat.beq s 1 with
     | true => .q (0 < len /\ i + len <= l.length) (.sstr ((l.drop i).take len)) [wh id]
     | false => .bad
    | _ => .bad
   | a => match elemsV hp 1 a with
    | some (l, rd) => match live hp rd with | true => .q (∀ v ∈ l, isB v) (.sstr (l.map byB)) rd | false => .bad
    | none => .bad
  | _ => .bad
 | _ => .bad
def symConvS (P : Program) (hp : Mem) (S D : TypeId) (a : V) : SymR := match P.underlying D with
 | some (.slice e) => symBytes P hp S e a
 | some .string => zve P hp S a
 | _ => .bad
theorem symBytes_ok (hH : HR ρ hp W) (hw : wants ops L ⟨some d, .convert X Y x, T, p, es, g⟩ = some true) (ht : Nat.blt d n = true) {a : V} (hx : evalL L x = some u) (hu : R ρ a u) (hD : P.underlying Y = some (.slice e)) :
  SymOk P n ops ⟨some d, .convert X Y x, T, p, es, g⟩ ρ hp W L (symBytes P hp X e a) := by
 unfold symBytes
 split
 ·rename_i s hS hE hs'
  cases zxm hs' hu
  split
  ·rename_i h hnew
   obtain ⟨hs, rfl⟩ := zqw hnew
   refine ⟨λ hb _ ro r' ds K kk => ?_, λ hb _ ro r' ds K kk => ?_⟩
   ·have hb := of_decide_eq_true hb
    refine Ops.conv_sb hS hD hE hx hw ht λ A c => ?_
    refine zjv (ct := .byt s) (l := r') hH hs rfl rfl (.inl ?_) λ b W' hA hm hH' hst => ?_
    ·intro h0
     have := congrArg List.length h0
     simp at this
     rw [this] at hb; simp at hb
    ·subst hA
     exact kk _ (List.mem_singleton.2 rfl) _ W' _ (zqm hH _) hH' (.inr ⟨b, c, zqe, by simp, by simpa using hm⟩) rfl hst
   ·have hb := of_decide_eq_false hb
    refine Ops.conv_sb hS hD hE hx hw ht λ A c => ?_
    refine Ops.weak ?_ (λ x hx => zkr hx)
    have hl : s.length = 0 := by omega
    rw [hl]
    exact kk _ (List.mem_singleton.2 rfl) _ W _ (Rho.le_refl _) hH ⟨A, c, rfl⟩ rfl .refl
  ·trivial
 ·trivial
theorem symText_ok (hH : HR ρ hp W) (hw : wants ops L ⟨some d, .convert X Y x, T, p, es, g⟩ = some true) (ht : Nat.blt d n = true) {a : V} (hx : evalL L x = some u) (hu : R ρ a u) (hD : P.underlying Y = some .string) :
  QSym P n ops ⟨some d, .convert X Y x, T, p, es, g⟩ ρ hp W L (zve P hp X a) := by
 intro q v rd hs hq
 unfold zve at hs
 split at hs
 ·rename_i e hS
  split at hs
  ·rename_i hE
   split at hs
   ·rename_i id i len s
    split at hs
    ·rename_i l ty hc
     split at hs
     ·rename_i hb
      cases hs
      have hb := beq_tt hb
      subst hb
      obtain ⟨⟨ch, hch⟩, b, c, rl, junk, fr, hW, hr, hct, h4, h5⟩ := hH.ctAt hc (by have := hq; show 0 < l.length; omega)
      have hct : rl = byV l := hct
      subst hct
      refine ⟨Lives.one hch, λ ds d hd => ?_⟩
      cases hd
      rcases hu with ⟨h0, _⟩ | ⟨b', c', hr', rfl, hle⟩
      ·exact absurd h0 (by omega)
      ·rw [hr] at hr'; cases hr'
       refine ⟨_, rfl, λ H hH' => ?_⟩
       obtain ⟨b2, ob, H', e1, pk⟩ := hH' _ (List.mem_singleton.2 rfl)
       have e1 := e1.eq
       dsimp only [wh] at e1
       rw [hW] at e1; cases e1
       have hbl : (byV l).length = l.length := by simp [byV]
       refine q_conv_bs hS hE hD hx pk (RdA.blk ?_) (by rw [List.length_take, List.length_drop]; omega) hw ht
       rw [Nat.mul_one, List.length_map, List.length_take, List.length_drop, Nat.min_eq_left (by omega)]
       rw [zqs (by omega), byV, <- List.map_drop, <- List.map_take]
     ·cases hs
    ·cases hs
   ·split at hs
    ·rename_i l rd' hel
     split at hs
     ·rename_i hlv
      cases hs
      obtain ⟨B, len, cap, nw, rfl, h1, h2, h3, h4⟩ := zjz hH hu hel
      refine ⟨λ id hid => live_ok hlv id hid, λ ds d hd => ?_⟩
      cases hd
      refine ⟨_, rfl, λ H hH' => ?_⟩
      obtain ⟨C, H2, pk, hR⟩ := h4 H hH'
      have hnw := byB_ok hq h1
      rw [hnw] at hR h2
      refine q_conv_bs hS hE hD hx pk hR ?_ hw ht
      simpa [byV] using h2
     ·cases hs
    ·cases hs
  ·cases hs
 ·cases hs
theorem noL_text {a : V} : noL (zve P hp X a) := by
 unfold zve
 split
 ·split
  ·split
   ·split
    ·split <;> trivial
    ·trivial
   ·split
    ·split <;> trivial
    ·trivial
  ·trivial
 ·trivial
theorem symConvS_ok (hG : GOk ρ G) (hE : RE ρ env L) (hH : HR ρ hp W) (hw : wants ops L ⟨some d, .convert X Y x, T, p, es, g⟩ = some true) (ht : Nat.blt d n = true) {a : V} (hx : evalL L x = some u) (hu : R ρ a u) :
  SymOk P n ops ⟨some d, .convert X Y x, T, p, es, g⟩ ρ hp W L (symConvS P hp X Y a) := by
 unfold symConvS
 split
 ·rename_i e hD
  exact symBytes_ok hH hw ht hx hu hD
 ·rename_i hD
  exact QSym.ok noL_text (symText_ok hH hw ht hx hu hD)
 ·trivial
def symCutS (id i len sz : Nat) (lo hi : Int) : SymR :=
 .f (decide (lo < hi)) (.q (0 <= lo /\ hi <= (len : Int)) (.ssl id (i + lo.toNat) (hi.toNat - lo.toNat) sz) []) (.q (0 <= lo /\ lo <= hi /\ hi <= (len : Int)) .sle [])
def zvf (P : Program) (T : TypeId) (a : V) (lo hi : Option (Option Int)) : SymR := match a, P.underlying T with
 | .ssl id i len sz, some (.slice e) => match sizeP P e with
  | some k => match Nat.beq k sz, lo, hi with
   | true, some (some l), some (some h) => symCutS id i len sz l h
   | true, some (some l), some none => symCutS id i len sz l len
   | true, some none, some (some h) => symCutS id i len sz 0 h
   | _, _, _ => .bad
  | none => .bad
 | _, _ => .bad
theorem cutS_ok {id i len : Nat} {lo hi : Int} {u' : Value} (hx : evalL L x = some u) (hu : R ρ (.ssl id i len sz) u) {op : Op} (hA : ∀ A cap, u = .slice A len cap -> len <= cap -> 0 <= lo -> lo <= hi -> hi <= (len : Int) -> ∀ ds H, QStep P n ops ⟨some d, op, T, p, es, g⟩ ds L H (.slice (cutA A sz lo.toNat cap) (hi.toNat - lo.toNat) (cap - lo.toNat))) :
  SymOk P n ops ⟨some d, op, T, p, es, g⟩ ρ hp W L (symCutS id i len sz lo hi) := by
 refine ⟨λ hb hq => ⟨.nil, λ ds d' hd => ?_⟩, λ hb hq => ⟨.nil, λ ds d' hd => ?_⟩⟩
 ·cases hd
  have hb := of_decide_eq_true hb
  rcases hu with ⟨h0, _⟩ | ⟨b, c, hr, rfl, hle⟩
  ·omega
  ·refine .pure (.inr ⟨b, c, hr, ?_, ?_⟩) λ H => hA _ _ rfl hle hq.1 (by omega) hq.2 ds H
   ·unfold cutA
    rw [if_neg (by omega)]
    simp only [Option.map_some, zqF, Value.slice.injEq, Option.some.injEq, Addr.mk.injEq, true_and, and_true]
    refine ⟨by rw [Nat.add_mul], by omega⟩
   ·omega
 ·cases hd
  have hb := of_decide_eq_false hb
  obtain ⟨q1, q2, q3⟩ := hq
  have h0 : hi.toNat - lo.toNat = 0 := by omega
  rcases hu with ⟨hl, rfl⟩ | ⟨b, c, hr, rfl, hle⟩
  ·subst hl
   have := λ H => hA _ _ rfl (by omega) q1 q2 q3 ds H
   rw [h0] at this
   exact .pure ⟨_, _, rfl⟩ this
  ·have := λ H => hA _ _ rfl hle q1 q2 q3 ds H
   rw [h0] at this
   exact .pure ⟨_, _, rfl⟩ this
theorem cutA_zero {A : Option Addr} {cap : Nat} : cutA A sz 0 cap = A := by
 unfold cutA
 split
 ·rfl
 ·cases A <;> simp [Addr.add]
theorem symSliceS_ok (hG : GOk ρ G) (hE : RE ρ env L) {lo hi : Option Operand} (hw : wants ops L ⟨some d, .slice T' x lo hi none, T, p, es, g⟩ = some true) (ht : Nat.blt d n = true) {a : V} (hx : evalL L x = some u) (hu : R ρ a u) :
  SymOk P n ops ⟨some d, .slice T' x lo hi none, T, p, es, g⟩ ρ hp W L (zvf P T' a (optI G env lo) (optI G env hi)) := by
 unfold zvf
 split
 ·rename_i id i len sz e hT
  split
  ·rename_i k hk
   split
   ·rename_i l h hb hl hh
    obtain rfl := beq_tt hb
    rcases zxf hG hE hl with ⟨_, h1⟩ | ⟨ol, ml, kl, rfl, h1, hl1⟩
    ·cases h1
    cases h1
    rcases zxf hG hE hh with ⟨_, h1⟩ | ⟨oh, mh, kh, rfl, h1, hh1⟩
    ·cases h1
    cases h1
    exact cutS_ok (u' := u) hx hu λ A cap he hle q1 q2 q3 ds H => by subst he; exact zxW hT hk hx hl1 hh1 q1 q2 (by omega) hw ht
   ·rename_i l hb hl hh
    obtain rfl := beq_tt hb
    rcases zxf hG hE hl with ⟨_, h1⟩ | ⟨ol, ml, kl, rfl, h1, hl1⟩
    ·cases h1
    cases h1
    rcases zxf hG hE hh with ⟨rfl, _⟩ | ⟨oh, mh, kh, _, h1, hh1⟩
    rotate_left
    ·cases h1
    refine cutS_ok (u' := u) hx hu λ A cap he hle q1 q2 q3 ds H => ?_
    subst he
    rw [Int.toNat_natCast]
    exact zji hT hk hx hl1 q1 q2 hw ht
   ·rename_i h hb hl hh
    obtain rfl := beq_tt hb
    rcases zxf hG hE hl with ⟨rfl, _⟩ | ⟨ol, ml, kl, _, h1, hl1⟩
    rotate_left
    ·cases h1
    rcases zxf hG hE hh with ⟨_, h1⟩ | ⟨oh, mh, kh, rfl, h1, hh1⟩
    ·cases h1
    cases h1
    refine cutS_ok (u' := u) hx hu λ A cap he hle q1 q2 q3 ds H => ?_
    subst he
    rw [show (0 : Int).toNat = 0 from rfl, cutA_zero, Nat.sub_zero, Nat.sub_zero]
    exact zjj hT hk hx hh1 q2 (by omega) hw ht
   ·trivial
  ·trivial
 ·trivial
def symOC (P : Program) (G : GV) (env : Tr V) (hp : Mem) (d : Option Nat) (c : Call) : SymR := match c.callee with
 | .builtin .append => match d, c.args.toList, c.argTypes.toList with
  | some _, [x, y], [t, xt] => zvl P G env hp t xt x y
  | _, _, _ => .bad
 | .builtin .unsafeSliceData => match d with | some _ => symUData G env c.args.toList | none => .bad
 | .builtin .unsafeString => match d with | some _ => symUStr P G env hp c.argTypes.toList c.args.toList | none => .bad
 | _ => .bad
def symO (P : Program) (G : GV) (env : Tr V) (hp : Mem) (d : Option Nat) (op : Op) : SymR := match op with
 | .indexAddr t x y => match d, evO G env x, evO G env y with | some _, some a, some b => symAddr P t a b | _, _, _ => .bad
 | .fieldAddr s x f => match d, evO G env x with | some _, some a => symFA P s f a | _, _ => .bad
 | .nilCheck x => match d, evO G env x with | some _, some a => symNil a | _, _ => .bad
 | .load t x => match d, evO G env x with | some _, some a => zvj P hp t a | _, _ => .bad
 | .store t x y => match d with | none => symStore P G env hp t x y | some _ => .bad
 | .makeSlice t x y => match d with | some _ => symMake P G env hp t x y | none => .bad
 | .convert s t x => match d, evO G env x with | some _, some a => symConvS P hp s t a | _, _ => .bad
 | .slice t x lo hi none => match d, evO G env x with | some _, some a => zvf P t a (optI G env lo) (optI G env hi) | _, _ => .bad
 | .call c => symOC P G env hp d c
 | _ => .bad
theorem noL_addr {a b : V} : noL (symAddr P T a b) := by
 unfold symAddr; repeat' split
 all_goals trivial
theorem noL_fa {f : Nat} {a : V} : noL (symFA P X f a) := by
 unfold symFA; repeat' split
 all_goals trivial
theorem noL_nil {a : V} : noL (symNil a) := by
 unfold symNil; repeat' split
 all_goals trivial
theorem noL_load {a : V} : noL (zvj P hp T a) := by
 unfold zvj; repeat' split
 all_goals trivial
theorem symO_ok (hG : GOk ρ G) (hE : RE ρ env L) (hH : HR ρ hp W) {o : Oper} (hw : wants ops L o = some true) (ht : dstOk o.dst n = true) : SymOk P n ops o ρ hp W L (symO P G env hp o.dst o.op) := by
 obtain ⟨dd, op, T, p, es, g⟩ := o
 dsimp only at ht
 cases op <;> first | trivial | skip
 case indexAddr t x y =>
  simp only [symO]
  split
  ·rename_i hx hy
   obtain ⟨u1, h1, h2⟩ := evO_ok hG hE hx
   obtain ⟨u2, h3, h4⟩ := evO_ok hG hE hy
   exact QSym.ok noL_addr (symAddr_ok hw ht h1 h2 h3 h4)
  ·trivial
 case fieldAddr s x f =>
  simp only [symO]
  split
  ·rename_i hx
   obtain ⟨u1, h1, h2⟩ := evO_ok hG hE hx
   exact QSym.ok noL_fa (symFA_ok hw ht h1 h2)
  ·trivial
 case nilCheck x =>
  simp only [symO]
  split
  ·rename_i hx
   obtain ⟨u1, h1, h2⟩ := evO_ok hG hE hx
   exact QSym.ok noL_nil (symNil_ok hw ht h1 h2)
  ·trivial
 case load t x =>
  simp only [symO]
  split
  ·rename_i hx
   obtain ⟨u1, h1, h2⟩ := evO_ok hG hE hx
   exact QSym.ok noL_load (symLoad_ok hH hw ht h1 h2)
  ·trivial
 case store t x y =>
  simp only [symO]
  split
  ·exact symStore_ok hG hE hH hw
  ·trivial
 case makeSlice t x y =>
  simp only [symO]
  split
  ·exact symMake_ok hG hE hH hw ht
  ·trivial
 case convert s t x =>
  simp only [symO]
  split
  ·rename_i hx
   obtain ⟨u1, h1, h2⟩ := evO_ok hG hE hx
   exact symConvS_ok hG hE hH hw ht h1 h2
  ·trivial
 case slice t x lo hi mx =>
  cases mx with
  | some mx => trivial
  | none =>
   simp only [symO]
   split
   ·rename_i hx
    obtain ⟨u1, h1, h2⟩ := evO_ok hG hE hx
    exact symSliceS_ok hG hE hw ht h1 h2
   ·trivial
 case call c =>
  obtain ⟨cal, xs, ts⟩ := c
  show SymOk _ _ _ _ _ _ _ _ (symOC P G env hp dd ⟨cal, xs, ts⟩)
  unfold symOC
  split
  ·rename_i hcal
   dsimp only at hcal ⊢
   subst hcal
   split
   ·rename_i x y t xt hxs hts
    have e1 : xs = #[x, y] := by apply Array.ext'; simpa using hxs
    have e2 : ts = #[t, xt] := by apply Array.ext'; simpa using hts
    subst e1 e2
    exact symAppend_ok hG hE hH hw ht
   ·trivial
  ·rename_i hcal
   dsimp only at hcal ⊢
   subst hcal
   split
   ·exact symUData_ok hG hE hw ht
   ·trivial
  ·rename_i hcal
   dsimp only at hcal ⊢
   subst hcal
   split
   ·exact symUStr_ok hG hE hH hw ht
   ·trivial
  ·trivial
def symA (P : Program) (G : GV) (env : Tr V) (hp : Mem) (d : Option Nat) (op : Op) : SymR := match symS P G env hp d op with
 | .bad => symO P G env hp d op
 | s => s
theorem symA_ok (hG : GOk ρ G) (hE : RE ρ env L) (hH : HR ρ hp W) {o : Oper} (hw : wants ops L o = some true) (ht : dstOk o.dst n = true) : SymOk P n ops o ρ hp W L (symA P G env hp o.dst o.op) := by
 have h1 := symS_ok (P := P) hG hE hH hw ht
 have h2 := symO_ok (P := P) hG hE hH hw ht
 unfold symA
 split
 ·exact h2
 ·exact h1
end
end
end Go.Q
namespace Go.Q
open Go.Z Go.Y
noncomputable section
section
variable {P : Program} {n : Nat} {ops : Array Oper} {ds : List Deferred} {L : Lo} {H H' : List SP} {ρ : Rho} {W : RW} {G : GV} {env : Tr V} {hp hp' : Mem}
 {d : Nat} {T T' X Y t xt e sz by_ : TypeId} {p : String} {es : Array Edge} {g : Option (Nat × Bool)} {op : Op} {v : V} {u : Value} {x y z : Operand} {A : Option Addr} {m c : Nat} {cells : List Value} {C : SP}
def symIxA (P : Program) (T : TypeId) (a b : V) : SymR := match a, P.underlying T with
 | .ptr id off, some (.array m e) => match sizeP P e, intOf b with
  | some k, some (_, i) => match Nat.beq k 1 with
   | true => .q (0 <= i /\ i < (m : Int)) (.sptr id i.toNat off 1) []
   | false => .bad
  | _, _ => .bad
 | _, _ => .bad
theorem symIxA_ok (hw : wants ops L ⟨some d, .indexAddr T' x y, T, p, es, g⟩ = some true) (ht : Nat.blt d n = true) {a b : V} {u2 : Value} (hx : evalL L x = some u) (hu : R ρ a u) (hy : evalL L y = some u2) (hu2 : R ρ b u2) :
  QSym P n ops ⟨some d, .indexAddr T' x y, T, p, es, g⟩ ρ hp W L (symIxA P T' a b) := by
 intro q v rd hs hq
 unfold symIxA at hs
 split at hs
 ·rename_i id off m e hT
  split at hs
  ·rename_i k kk i hk hi
   split at hs
   ·rename_i hb
    cases hs
    have hb := beq_tt hb
    subst hb
    cases zqx hi hu2
    refine ⟨.nil, λ ds d hd => ?_⟩
    cases hd
    obtain ⟨b, c, hr, rfl⟩ := hu
    refine .pure ⟨b, c, hr, ?_⟩ λ H => q_indexAddr_ar1 hT hk hx hy hq.1 hq.2 hw ht
    rw [Nat.mul_one, Nat.add_comm]
   ·cases hs
  ·cases hs
 ·cases hs
def tabI (k : IntKind) : List V -> List Int
 | .int k' n :: l => match ikeq k k' with | true => n :: tabI k l | false => []
 | _ => []
theorem tabI_get {k : IntKind} : ∀ {l : List V} {i : Nat}, i < (tabI k l).length -> l[i]? = some (.int k ((tabI k l).getD i 0))
 | [], i, h => by simp [tabI] at h
 | v :: l, i, h => by
  unfold tabI at h ⊢
  split at h
  ·rename_i k' n l' heq
   cases heq
   split at h
   ·rename_i hk
    cases zqZ hk
    cases i with
    | zero => simp
    | succ i => simpa using tabI_get (l := l) (by simpa using h)
   ·simp at h
  ·simp at h
def symTab (P : Program) (hp : Mem) (T : TypeId) (a : V) : SymR := match a with
 | .sptr id i f sz => match Nat.beq sz 1, hp.t.get id, P.underlying T with
  | true, some (.cells l ty _), some (.int k) => .q (i < (tabI k (dropN f l)).length) (.sint k ((tabI k (dropN f l)).getD i 0)) [wh id]
  | _, _, _ => .bad
 | _ => .bad
theorem symTab_ok (hH : HR ρ hp W) (hw : wants ops L ⟨some d, .load T' x, T, p, es, g⟩ = some true) (ht : Nat.blt d n = true) {a : V} (hx : evalL L x = some u) (hu : R ρ a u) :
  QSym P n ops ⟨some d, .load T' x, T, p, es, g⟩ ρ hp W L (symTab P hp T' a) := by
 intro q v rd hs hq
 unfold symTab at hs
 split at hs
 ·rename_i id i f sz
  split at hs
  ·rename_i l ty s k hb hc hT
   cases hs
   have hb := beq_tt hb
   subst hb
   refine ⟨Lives.one hc, λ ds d hd => ?_⟩
   cases hd
   obtain ⟨b, o, hW, c, rl, junk, fr, hr, hrl, rfl, h4, h5⟩ := hH.rel id _ hc
   obtain ⟨b', c', hr', rfl⟩ := hu
   rw [hr] at hr'; cases hr'
   have hget := tabI_get hq
   rw [zqX, List.getElem?_drop] at hget
   obtain ⟨u, h1, h2⟩ := hrl.get hget
   refine ⟨u, by rw [show u = _ from h2, zqX]; exact rfl, λ H hH' => ?_⟩
   obtain ⟨b2, ob, H', e1, pk⟩ := hH' _ (List.mem_singleton.2 rfl)
   have e1 := e1.eq
   dsimp only [wh] at e1
   rw [hW] at e1; cases e1
   have hlt : f + i < rl.length := by
    rcases Nat.lt_or_ge (f + i) rl.length with h | h
    ·exact h
    ·rw [List.getElem?_eq_none h] at h1; cases h1
   refine q_load hT rfl hx pk ?_ hw ht
   rw [Nat.mul_one, Nat.add_comm, List.getElem?_append_left hlt]
   exact h1
  ·cases hs
 ·cases hs
def setKs : List (V × V × Nat) -> Option (List (List UInt8))
 | [] => some []
 | (.str w, .bool true, _) :: l => match setKs l with | some ks => some (w :: ks) | none => none
 | _ => none
def hasK (k : List UInt8) (l : List (List UInt8)) : Bool := decide (k ∈ l)
theorem setKs_find {k : List UInt8} : ∀ {es : List (V × V × Nat)} {ks : List (List UInt8)} {i : Nat}, setKs es = some ks -> (hasK k ks = true /\ ∃ j, findV (.str k) es i = some (some (j, .bool true))) \/ (hasK k ks = false /\ findV (.str k) es i = some none)
 | [], ks, i, h => by cases h; exact .inr ⟨by simp [hasK], rfl⟩
 | (a, b, c) :: es, ks, i, h => by
  unfold setKs at h
  split at h
  ·rename_i heq; cases heq
  ·rename_i w cc l heq
   cases heq
   split at h
   ·rename_i ks' hks
    cases h
    simp only [findV, keyEq]
    rw [eqB_ok]
    by_cases e : k = w
    ·subst e
     exact .inl ⟨by simp [hasK], i, by simp⟩
    ·simp only [e, decide_false]
     rcases setKs_find (k := k) (i := i + 1) hks with ⟨h1, h2⟩ | ⟨h1, h2⟩
     ·exact .inl ⟨by simp [hasK] at h1 ⊢; exact .inr h1, h2⟩
     ·exact .inr ⟨by simp [hasK] at h1 ⊢; exact ⟨e, h1⟩, h2⟩
   ·cases h
  ·cases h
def strD : TypeDesc -> Bool
 | .string => true
 | _ => false
def zvi (P : Program) (hp : Mem) (T : TypeId) (a k : V) (ok : Bool) : SymR := match a, k, ok, P.underlying T with
 | .map id, .sstr w, false, some (.map kt et) => match P.underlying kt, zeroV P et, hp.t.get id with
  | some kd, some (.bool false), some (.map es _) => match strD kd, setKs es with
   | true, some ks => .q True (.sbool (hasK w ks)) [wh id]
   | _, _ => .bad
  | _, _, _ => .bad
 | _, _, _, _ => .bad
theorem symLook_ok (hH : HR ρ hp W) {ok : Bool} (hw : wants ops L ⟨some d, .lookup T' x y ok, T, p, es, g⟩ = some true) (ht : Nat.blt d n = true) {a k : V} {uk : Value} (hx : evalL L x = some u) (hu : R ρ a u) (hy : evalL L y = some uk) (hk : R ρ k uk) :
  QSym P n ops ⟨some d, .lookup T' x y ok, T, p, es, g⟩ ρ hp W L (zvi P hp T' a k ok) := by
 intro q v rd hs hq
 unfold zvi at hs
 split at hs
 ·rename_i id w kt et hT
  split at hs
  ·rename_i kd ess clk hkd hz hc
   split at hs
   ·rename_i ks hkd2 hks
    cases hs
    have hkd2 : kd = .string := by cases kd <;> simp [strD] at hkd2; rfl
    subst hkd2
    refine ⟨Lives.one hc, λ ds d hd => ?_⟩
    cases hd
    have hm : mapOf hp (.map id) = some (ess, [wh id]) := by simp only [mapOf, hc]
    have hk2 : R ρ (.str w) uk := hk
    have main : ∀ b : Bool, zjk P hp T' (.map id) (.str w) false = some (.bool b, [wh id]) -> QOk P n ops ⟨some d, .lookup T' x y false, T, p, es, g⟩ ds L ρ W (.sbool b) [wh id] := by
     intro b hq2
     obtain ⟨u', h1, h2⟩ := qLookup_ok (P := P) (ds := ds) hH hw ht hx hu hy hk2 hq2
     exact ⟨u', h1, h2⟩
    rcases setKs_find (k := w) (i := 0) hks with ⟨h1, j, h2⟩ | ⟨h1, h2⟩
    ·rw [h1]
     exact main true (by simp only [zjk, hT, hkd, fits, hm, h2])
    ·rw [h1]
     exact main false (by simp only [zjk, hT, hkd, fits, hm, h2, hz])
   ·cases hs
  ·cases hs
 ·cases hs
theorem noL_ixA {a b : V} : noL (symIxA P T a b) := by
 unfold symIxA; repeat' split
 all_goals trivial
theorem noL_tab {a : V} : noL (symTab P hp T a) := by
 unfold symTab; repeat' split
 all_goals trivial
theorem noL_look {a b : V} {ok : Bool} : noL (zvi P hp T a b ok) := by
 unfold zvi; repeat' split
 all_goals trivial
def symNot (o : UnOp) (a : V) : SymR := match o, a with
 | .not, .sbool b => .q True (.sbool (!b)) []
 | _, _ => .bad
theorem symNot_ok {o : UnOp} (hw : wants ops L ⟨some d, .unOp o T' x, T, p, es, g⟩ = some true) (ht : Nat.blt d n = true) {a : V} (hx : evalL L x = some u) (hu : R ρ a u) : QSym P n ops ⟨some d, .unOp o T' x, T, p, es, g⟩ ρ hp W L (symNot o a) := by
 intro q v rd hs hq
 unfold symNot at hs
 split at hs
 ·cases hs
  refine ⟨.nil, λ ds d hd => ?_⟩
  cases hd
  have hu : u = .bool _ := hu
  subst hu
  exact .pure rfl λ H => q_not hx hw ht
 ·cases hs
theorem noL_not {o : UnOp} {a : V} : noL (symNot o a) := by
 unfold symNot; repeat' split
 all_goals trivial
def boolOf : V -> Option Bool
 | .bool b => some b
 | .sbool b => some b
 | _ => none
theorem zkp {a : V} {b : Bool} (h : boolOf a = some b) (hu : R ρ a u) : u = .bool b := by
 unfold boolOf at h
 split at h
 ·cases h; exact hu
 ·cases h; exact hu
 ·cases h
def eqS1 (P : Program) (t : TypeId) (a b : V) : Option Bool := match P.underlying t with
 | some .bool => match boolOf a, boolOf b with | some x, some y => some (decide (x = y)) | _, _ => none
 | some (.int _) => match intOf a, intOf b with
  | some (k, m), some (k', n) => (match ikeq k k' with | true => some (decide (m = n)) | false => none)
  | _, _ => none
 | some .string => match strOf a, strOf b with | some l, some m => some (decide (l = m)) | _, _ => none
 | _ => none
def eqFS (P : Program) (xs ys : List V) : List Field -> Option Bool
 | [] => some true
 | f :: fs => match f.name == "_" with
  | true => eqFS P xs ys fs
  | false => match partV P f.type xs f.offset, partV P f.type ys f.offset with
   | some a, some b => match eqS1 P f.type a b, eqFS P xs ys fs with
    | some r, some r' => some (and r r')
    | _, _ => none
   | _, _ => none
theorem eqS1_ok {d : Nat} {t : TypeId} {a b : V} {r : Bool} {u v : Value} (h : eqS1 P t a b = some r) (hx : R ρ a u) (hy : R ρ b v) (w : World) : (Op.equalIn (d + 1) t u v).run P w = .ok r w := by
 unfold eqS1 at h
 split at h
 ·rename_i hu
  split at h
  ·rename_i x y h1 h2
   cases h; cases zkp h1 hx; cases zkp h2 hy
   have : (x == y) = decide (x = y) := by cases x <;> cases y <;> rfl
   simp [Op.equalIn, run_underlying hu, this]
  ·cases h
 ·rename_i hu
  split at h
  ·split at h
   ·rename_i h1 h2 _ hk
    have hk := zqZ hk; subst hk
    cases h; cases zqx h1 hx; cases zqx h2 hy
    simp [Op.equalIn, run_underlying hu]; rfl
   ·cases h
  ·cases h
 ·rename_i hu
  split at h
  ·rename_i h1 h2
   cases h; cases zxm h1 hx; cases zxm h2 hy
   simp [Op.equalIn, run_underlying hu, beq_toListBytes, zko, beq_dec]
  ·cases h
 ·cases h
theorem eqFS_ok {d : Nat} {xs ys : List V} {us vs : List Value} (hx : RL ρ xs us) (hy : RL ρ ys vs) :
  ∀ {fs : List Field} {b : Bool}, eqFS P xs ys fs = some b -> ∀ w, (Op.eqFields (d + 1) us.toArray vs.toArray fs).run P w = .ok b w
 | [], b, h, w => by simp only [eqFS, Option.some.injEq] at h; subst h; simp [Op.eqFields]
 | f :: fs, b, h, w => by
  simp only [eqFS] at h
  split at h
  ·rename_i hn
   have hn' : ¬ f.name ≠ "_" := by simpa using hn
   simp only [Op.eqFields, if_neg hn']
   exact eqFS_ok hx hy h w
  ·rename_i hn
   have hn' : f.name ≠ "_" := by simpa using hn
   simp only [Op.eqFields, if_pos hn']
   split at h
   ·rename_i a b' ha hb
    obtain ⟨u, h1, h2⟩ := zxG ha hx
    obtain ⟨v, h3, h4⟩ := zxG hb hy
    split at h
    ·rename_i r r' hr hr'
     cases h
     have e1 := eqS1_ok (d := d) hr h1 h3 w
     have e2 := eqFS_ok (d := d) hx hy hr' w
     cases r with
     | true =>
      simp only [Sem.run_bind, h2, h4, Result.andThen_ok, e1, Bool.not_true, Bool.false_eq_true, if_false]
      exact e2
     | false =>
      simp only [Sem.run_bind, h2, h4, Result.andThen_ok, e1, Bool.not_false, if_true, Sem.run_pure]
      rfl
    ·cases h
   ·cases h
def symEqA (P : Program) (o : BinOp) (t : TypeId) (a b : V) : SymR := match a, b, P.underlying t with
 | .agg xs, .agg ys, some (.struct fs) => match P.stoodInHeld t, guardT P P.depth t, eqFS P xs ys fs.toList with
  | false, false, some r => match o with
   | .eql => .q True (.sbool r) []
   | .neq => .q True (.sbool (!r)) []
   | _ => .bad
  | _, _, _ => .bad
 | _, _, _ => .bad
theorem noL_eqA {o : BinOp} {a b : V} : noL (symEqA P o T a b) := by
 unfold symEqA; repeat' split
 all_goals trivial
theorem symEqA_ok {o : BinOp} (hw : wants ops L ⟨some d, .binOp o X x y Y, T, p, es, g⟩ = some true) (ht : Nat.blt d n = true) {a b : V} {u2 : Value} (hx : evalL L x = some u) (hu : R ρ a u) (hy : evalL L y = some u2) (hu2 : R ρ b u2) :
  QSym P n ops ⟨some d, .binOp o X x y Y, T, p, es, g⟩ ρ hp W L (symEqA P o X a b) := by
 intro q v rd hs hq
 unfold symEqA at hs
 split at hs
 ·rename_i xs ys fs hT
  have hu0 := hu
  obtain ⟨us, hus, rfl⟩ := hu
  obtain ⟨vs, hvs, rfl⟩ := hu2
  split at hs
  ·rename_i r hsi hg hr
   have heq : ∀ w, (Op.equal X (.agg us.toArray) (.agg vs.toArray)).run P w = .ok r w := by
    intro w
    have hf : P.fieldsOf X = fs := by simp [Program.fieldsOf, hT]
    show (Op.equalIn (9999 + 1) X _ _).run P w = _
    rw [run_equalIn_struct w 9999 X _ _ (by rw [hf]; exact hT) hsi, hf]
    exact eqFS_ok (d := 9998) hus hvs hr w
   split at hs
   ·cases hs
    refine ⟨.nil, λ ds d hd => ?_⟩
    cases hd
    exact .pure rfl λ H => zqH hx hy (λ w => run_eqGuard_agg w _ X x y _ _ (by rw [<- zjn]; exact hg)) (λ w => by rw [(zkj rfl hu0 _).1]; simp [heq w]) hw ht
   ·cases hs
    refine ⟨.nil, λ ds d hd => ?_⟩
    cases hd
    exact .pure rfl λ H => zqH hx hy (λ w => run_eqGuard_agg w _ X x y _ _ (by rw [<- zjn]; exact hg)) (λ w => by rw [(zkj rfl hu0 _).2]; simp [heq w]) hw ht
   ·cases hs
  ·cases hs
 ·cases hs
def symE (P : Program) (G : GV) (env : Tr V) (hp : Mem) (d : Option Nat) (op : Op) : SymR := match op with
 | .indexAddr t x y => match d, evO G env x, evO G env y with | some _, some a, some b => symIxA P t a b | _, _, _ => .bad
 | .load t x => match d, evO G env x with | some _, some a => symTab P hp t a | _, _ => .bad
 | .unOp o _ x => match d, evO G env x with | some _, some a => symNot o a | _, _ => .bad
 | .lookup t x k ok => match d, evO G env x, evO G env k with | some _, some a, some b => zvi P hp t a b ok | _, _, _ => .bad
 | .binOp o t x y _ => match d, evO G env x, evO G env y with | some _, some a, some b => symEqA P o t a b | _, _, _ => .bad
 | _ => .bad
theorem symE_ok (hG : GOk ρ G) (hE : RE ρ env L) (hH : HR ρ hp W) {o : Oper} (hw : wants ops L o = some true) (ht : dstOk o.dst n = true) : SymOk P n ops o ρ hp W L (symE P G env hp o.dst o.op) := by
 obtain ⟨dd, op, T, p, es, g⟩ := o
 dsimp only at ht
 cases op <;> first | trivial | skip
 case indexAddr t x y =>
  simp only [symE]
  split
  ·rename_i hx hy
   obtain ⟨u1, h1, h2⟩ := evO_ok hG hE hx
   obtain ⟨u2, h3, h4⟩ := evO_ok hG hE hy
   exact QSym.ok noL_ixA (symIxA_ok hw ht h1 h2 h3 h4)
  ·trivial
 case load t x =>
  simp only [symE]
  split
  ·rename_i hx
   obtain ⟨u1, h1, h2⟩ := evO_ok hG hE hx
   exact QSym.ok noL_tab (symTab_ok hH hw ht h1 h2)
  ·trivial
 case unOp o t x =>
  simp only [symE]
  split
  ·rename_i hx
   obtain ⟨u1, h1, h2⟩ := evO_ok hG hE hx
   exact QSym.ok noL_not (symNot_ok hw ht h1 h2)
  ·trivial
 case lookup t x k ok =>
  simp only [symE]
  split
  ·rename_i hx hy
   obtain ⟨u1, h1, h2⟩ := evO_ok hG hE hx
   obtain ⟨u2, h3, h4⟩ := evO_ok hG hE hy
   exact QSym.ok noL_look (symLook_ok hH hw ht h1 h2 h3 h4)
  ·trivial
 case binOp o t x y u =>
  simp only [symE]
  split
  ·rename_i hx hy
   obtain ⟨u1, h1, h2⟩ := evO_ok hG hE hx
   obtain ⟨u2, h3, h4⟩ := evO_ok hG hE hy
   exact QSym.ok noL_eqA (symEqA_ok hw ht h1 h2 h3 h4)
  ·trivial
end
end
end Go.Q
namespace Go.Q
open Go.Z Go.Y
noncomputable section
section
variable {P : Program} {n : Nat} {ops : Array Oper} {r : List Oper} {ds : List Deferred} {L : Lo} {H H' : List SP} {K : Kont} {ρ : Rho} {W : RW} {G : GV} {env : Tr V} {hp hp' : Mem} {ro : Option Nat}
 {d : Nat} {T T' X Y t xt e sz by_ : TypeId} {p : String} {es : Array Edge} {g : Option (Nat × Bool)} {op : Op} {v : V} {u : Value} {x y z : Operand} {A : Option Addr} {m c : Nat} {cells : List Value} {C : SP}
theorem zjB {ρ : Rho} {sh : List Sh} : ∀ {l : List (List V)} {us : List Value}, RXLL ρ.x l us -> (∀ r ∈ l, shR sh r) -> CtR ρ (.rows l sh) us
 | [], us, h, hs => ⟨by rw [show us = [] from h]; exact .nil, hs⟩
 | r :: l, us, h, hs => by
  obtain ⟨a, b, h1, h2, rfl⟩ := h
  have ih := zjB (ρ := ρ) h2 λ x hx => hs x (List.mem_cons_of_mem _ hx)
  exact ⟨by rw [List.flatten_cons]; exact (RXL_RL h1).append ih.1, hs⟩
theorem Xat_RdA {X : Hp} {us : List Value} (h : Xat X A us) : RdA (extSP X) A us := λ h' hc => by
 rcases h with h | ⟨b, off, cs, ty, fr, h1, h2, h3⟩
 ·exact .inl h
 ·exact .inr ⟨b, off, cs.toList, ty, fr, h1, by simpa using hc b _ h2, h3⟩
def symLenX (P : Program) (T : TypeId) (a : V) : SymR := match P.underlying T, a with
 | some (.slice _), .xs l sh => .q True (.sint .i64 l.length) []
 | _, _ => .bad
def zjS (P : Program) (T : TypeId) (a b : V) : SymR := match a, P.underlying T with
 | .xs l sh, some (.slice e) => match sizeP P e, intOf b with
  | some k, some (_, m) => match Nat.beq k sh.length, Nat.blt 0 k with
   | true, true => .q (0 <= m /\ m < (l.length : Int)) (.xp l m.toNat 0 sh) []
   | _, _ => .bad
  | _, _ => .bad
 | _, _ => .bad
def symFAX (P : Program) (s : TypeId) (f : Nat) (a : V) : SymR := match a, zkh P s f with
 | .xp l i g sh, some k => .q True (.xp l i (g + k) sh) []
 | _, _ => .bad
def zvg (a : V) : SymR := match a with
 | .xp l i g sh => .q True (.xp l i g sh) []
 | _ => .bad
def symLoadX (P : Program) (T : TypeId) (a : V) : SymR := match a with
 | .xp l i f sh => match sizeP P T, partV P T (rowV (l.getD i []) sh 0) f with
  | some (_ + 1), some v => .q (i < l.length) v []
  | _, _ => .bad
 | _ => .bad
def symCutX (l : List (List V)) (sh : List Sh) (lo hi : Int) : SymR := .q (0 <= lo /\ lo <= hi /\ hi <= (l.length : Int)) (.xs ((l.take hi.toNat).drop lo.toNat) sh) []
def zje (P : Program) (T : TypeId) (a : V) (lo hi : Option (Option Int)) : SymR := match a, P.underlying T with
 | .xs l sh, some (.slice e) => match sizeP P e with
  | some k => match Nat.beq k sh.length, lo, hi with
   | true, some (some i), some (some j) => symCutX l sh i j
   | true, some (some i), some none => symCutX l sh i l.length
   | true, some none, some (some j) => symCutX l sh 0 j
   | _, _, _ => .bad
  | none => .bad
 | _, _ => .bad
theorem symAddrX_ok (hw : wants ops L ⟨some d, .indexAddr T' x y, T, p, es, g⟩ = some true) (ht : Nat.blt d n = true) {a b : V} {u2 : Value} (hx : evalL L x = some u) (hu : R ρ a u) (hy : evalL L y = some u2) (hu2 : R ρ b u2) :
  QSym P n ops ⟨some d, .indexAddr T' x y, T, p, es, g⟩ ρ hp W L (zjS P T' a b) := by
 intro q v rd hs hq
 unfold zjS at hs
 split at hs
 ·rename_i l sh e hT
  split at hs
  ·rename_i k kk m hk hm
   split at hs
   ·rename_i hb hpos
    cases hs
    have hb := beq_tt hb
    have hpos := blt_tt hpos
    cases zqx hm hu2
    refine ⟨.nil, λ ds d hd => ?_⟩
    cases hd
    obtain ⟨A, c, us, rfl, hle, h1, h2, h3⟩ := hu
    have hct := zjB (ρ := ρ) h1 h2
    have hlen : us.length = l.length * sh.length := hct.length
    rcases h3 with rfl | ⟨b, off, cs, ty, fr, rfl, h4, h5⟩
    ·have : 0 < l.length * sh.length := Nat.mul_pos (by omega) (by omega)
     simp at hlen; omega
    ·exact .pure ⟨b, off, us, by rw [hb]; rfl, h1, h2, .inr ⟨b, off, cs, ty, fr, rfl, h4, h5⟩⟩ λ H => zxn hT hk hx hy hq.1 hq.2 hw ht
   ·cases hs
  ·cases hs
 ·cases hs
theorem symFAX_ok {f : Nat} (hw : wants ops L ⟨some d, .fieldAddr X x f, T, p, es, g⟩ = some true) (ht : Nat.blt d n = true) {a : V} (hx : evalL L x = some u) (hu : R ρ a u) :
  QSym P n ops ⟨some d, .fieldAddr X x f, T, p, es, g⟩ ρ hp W L (symFAX P X f a) := by
 intro q v rd hs hq
 unfold symFAX at hs
 split at hs
 ·rename_i l i gg sh k hk
  cases hs
  refine ⟨.nil, λ ds d hd => ?_⟩
  cases hd
  obtain ⟨b, off, us, rfl, h⟩ := hu
  exact .pure ⟨b, off, us, by rw [<- Nat.add_assoc, <- Nat.add_assoc, <- Nat.add_assoc], h⟩ λ H => zxY hk hx hw ht
 ·cases hs
theorem symNilX_ok (hw : wants ops L ⟨some d, .nilCheck x, T, p, es, g⟩ = some true) (ht : Nat.blt d n = true) {a : V} (hx : evalL L x = some u) (hu : R ρ a u) :
  QSym P n ops ⟨some d, .nilCheck x, T, p, es, g⟩ ρ hp W L (zvg a) := by
 intro q v rd hs hq
 unfold zvg at hs
 split at hs
 ·cases hs
  refine ⟨.nil, λ ds d hd => ?_⟩
  cases hd
  obtain ⟨b, off, us, rfl, h⟩ := hu
  exact .pure ⟨b, off, us, rfl, h⟩ λ H => q_nil hx hw ht
 ·cases hs
theorem symLoadX_ok (hH : HR ρ hp W) (hw : wants ops L ⟨some d, .load T' x, T, p, es, g⟩ = some true) (ht : Nat.blt d n = true) {a : V} (hx : evalL L x = some u) (hu : R ρ a u) :
  SymOk P n ops ⟨some d, .load T' x, T, p, es, g⟩ ρ hp W L (symLoadX P T' a) := by
 unfold symLoadX
 split
 ·rename_i l i f sh
  split
  ·rename_i k1 v hk1 hpart
   intro hi
   refine ⟨.nil, λ ds d hd => ?_⟩
   cases hd
   obtain ⟨b, off, us, rfl, h1, h2, h3⟩ := hu
   have hct := zjB (ρ := ρ) h1 h2
   have hroom := hct.room (i := i) hi
   have hrow : RL ρ (rowV (l.getD i []) sh 0) ((us.drop (i * sh.length)).take sh.length) := hct.row (i := i) hi
   have hroom : (i + 1) * sh.length <= us.length := hroom
   have hrl : ((us.drop (i * sh.length)).take sh.length).length = sh.length := by
    rw [Nat.add_mul, Nat.one_mul] at hroom
    rw [List.length_take, List.length_drop]; omega
   have hR := λ {X : Hp} (hX : Hp.le W.x X) => Xat_RdA (h3.mono (by rw [<- hH.ext]; exact hX))
   unfold partV at hpart
   split at hpart
   ·cases hpart
   ·rename_i sd hsd
    split at hpart
    ·rename_i hs
     rw [nth_eq] at hpart
     obtain ⟨u, h4, h5⟩ := hrow.get hpart
     have hf : f < sh.length := by
      rcases Nat.lt_or_ge f sh.length with hh | hh
      ·exact hh
      ·rw [List.getElem?_eq_none (by omega)] at h4; cases h4
     refine ⟨u, h5, λ H _ hx' => ?_⟩
     obtain ⟨X2, H', hX, pk⟩ := hx' rfl
     have hg : us[i * sh.length + f]? = some u := by
      rw [List.getElem?_take, if_pos hf, List.getElem?_drop] at h4
      exact h4
     exact q_loadr hsd hs hx pk (hR hX) hg hw ht
    ·rename_i hs
     split at hpart
     ·cases hpart
     ·rename_i k hk
      split at hpart
      ·rename_i r hr2
       cases hpart
       rw [zqX] at hr2
       obtain ⟨h4, h5⟩ := zqP hr2
       have h6 := RL.take k (RL.drop f hrow)
       rw [<- h4] at h6
       have hlen : ((((us.drop (i * sh.length)).take sh.length).drop f).take k).length = k := by rw [h6.length, h5]
       have hfk : k = 0 \/ f + k <= sh.length := by
        simp only [List.length_take, List.length_drop] at hlen hrl
        omega
       refine ⟨_, ⟨_, h6, rfl⟩, λ H _ hx' => ?_⟩
       obtain ⟨X2, H', hX, pk⟩ := hx' rfl
       rw [hk1] at hk; cases hk
       have hfk : f + (k1 + 1) <= sh.length := by omega
       have := row_in (rl := us) (junk := []) (i := i) (k := sh.length) (f := f) (j := k1 + 1) hroom hfk
       rw [List.append_nil] at this
       rw [<- this] at hlen ⊢
       exact q_loadar hsd hs hk1 hx pk (hR hX) rfl hlen (by simp) hw ht
      ·cases hpart
  ·trivial
 ·trivial
theorem RXLL_app {X : Hp} : ∀ {l m : List (List V)} {us : List Value}, RXLL X (l ++ m) us -> ∃ a b, RXLL X l a /\ RXLL X m b /\ us = a ++ b
 | [], m, us, h => ⟨[], us, rfl, h, rfl⟩
 | r :: l, m, us, h => by
  obtain ⟨a, b, h1, h2, rfl⟩ := h
  obtain ⟨c, d, h3, h4, rfl⟩ := RXLL_app h2
  exact ⟨a ++ c, d, ⟨a, c, h1, h3, rfl⟩, h4, by rw [List.append_assoc]⟩
theorem Xat_mid {X : Hp} {a m z : List Value} {b off : Nat} (h : Xat X (some ⟨b, off, none⟩) (a ++ m ++ z)) : Xat X (some ⟨b, off + a.length, none⟩) m := by
 rcases h with h | ⟨b', o', cs, ty, fr, e, h1, h2⟩
 ·exact .inl (by simp at h; exact h.2.1)
 ·cases e
  refine .inr ⟨b, _, cs, ty, fr, rfl, h1, ?_⟩
  have h3 := congrArg (λ l => (l.drop a.length).take m.length) h2
  rw [List.drop_take, List.drop_drop, List.take_take, List.append_assoc, List.drop_left, List.take_left'] at h3
  rw [Nat.min_eq_left (by simp)] at h3
  exact h3
  rfl
theorem xs_cut {X : Hp} {l : List (List V)} {sh : List Sh} {A : Option Addr} {c : Nat} (h : RX X (.xs l sh) (.slice A l.length c)) {i j : Nat} (hi : i <= j) (hj : j <= l.length) : RX X (.xs ((l.take j).drop i) sh) (.slice (cutA A sh.length i c) (j - i) (c - i)) := by
 obtain ⟨A', c', us, e, hc, h1, h2, h3⟩ := h
 cases e
 have el : l = (l.take i ++ (l.take j).drop i) ++ l.drop j := by
  rw [show l.take i = (l.take j).take i by rw [List.take_take, Nat.min_eq_left hi], List.take_append_drop, List.take_append_drop]
 have hm : ∀ r ∈ (l.take j).drop i, shR sh r := λ r hr => h2 r (List.mem_of_mem_take (List.mem_of_mem_drop hr))
 rw [el] at h1
 obtain ⟨ab, z, hab, hz, rfl⟩ := RXLL_app h1
 obtain ⟨a, m, ha, hmm, rfl⟩ := RXLL_app hab
 have hla : a.length = i * sh.length := by
  have := (zjB (ρ := norhoX X) ha λ r hr => h2 r (List.mem_of_mem_take hr)).length
  rw [this]; show (l.take i).length * sh.length = _; rw [List.length_take, Nat.min_eq_left (by omega)]
 have hlm : ((l.take j).drop i).length = j - i := by rw [List.length_drop, List.length_take]; omega
 refine ⟨cutA A sh.length i c, c - i, m, by rw [hlm], by rw [hlm]; omega, hmm, hm, ?_⟩
 by_cases e : c = i
 ·left
  have h0 : (l.take j).drop i = [] := List.length_eq_zero_iff.1 (by rw [hlm]; omega)
  rw [h0] at hmm
  exact hmm
 ·unfold cutA
  rw [if_neg e]
  rcases h3 with h3 | ⟨b, off, cs, ty, fr, rfl, h4, h5⟩
  ·exact .inl (by simp at h3; exact h3.2.1)
  ·have := Xat_mid (b := b) (off := off) (a := a) (m := m) (z := z) (.inr ⟨b, off, cs, ty, fr, rfl, h4, h5⟩)
   rw [hla] at this
   simp only [Option.map_some, zqF]
   exact this
theorem symSliceX_ok (hG : GOk ρ G) (hE : RE ρ env L) {lo hi : Option Operand} (hw : wants ops L ⟨some d, .slice T' x lo hi none, T, p, es, g⟩ = some true) (ht : Nat.blt d n = true) {a : V} (hx : evalL L x = some u) (hu : R ρ a u) :
  QSym P n ops ⟨some d, .slice T' x lo hi none, T, p, es, g⟩ ρ hp W L (zje P T' a (optI G env lo) (optI G env hi)) := by
 intro q v rd hs hq
 unfold zje at hs
 split at hs
 ·rename_i l sh e hT
  split at hs
  ·rename_i k hk
   have hu : RX ρ.x (.xs l sh) u := hu
   have hu0 := hu
   obtain ⟨A, c, us, rfl, hle, _, _, _⟩ := hu
   split at hs
   ·rename_i i j hb hl hh
    obtain rfl := beq_tt hb
    rcases zxf hG hE hl with ⟨_, h1⟩ | ⟨ol, ml, kl, rfl, h1, hl1⟩
    ·cases h1
    cases h1
    rcases zxf hG hE hh with ⟨_, h1⟩ | ⟨oh, mh, kh, rfl, h1, hh1⟩
    ·cases h1
    cases h1
    cases hs
    obtain ⟨q1, q2, q3⟩ := hq
    refine ⟨.nil, λ ds d' hd => ?_⟩
    cases hd
    have hc := xs_cut hu0 (i := i.toNat) (j := j.toNat) (by omega) (by omega)
    exact .pure (RX_R hc) λ H => zxW hT hk hx hl1 hh1 q1 q2 (by omega) hw ht
   ·rename_i i hb hl hh
    obtain rfl := beq_tt hb
    rcases zxf hG hE hl with ⟨_, h1⟩ | ⟨ol, ml, kl, rfl, h1, hl1⟩
    ·cases h1
    cases h1
    rcases zxf hG hE hh with ⟨rfl, _⟩ | ⟨oh, mh, kh, _, h1, hh1⟩
    rotate_left
    ·cases h1
    cases hs
    obtain ⟨q1, q2, q3⟩ := hq
    refine ⟨.nil, λ ds d' hd => ?_⟩
    cases hd
    have hc := xs_cut hu0 (i := i.toNat) (j := l.length) (by omega) (Nat.le_refl _)
    exact .pure (RX_R hc) λ H => zji hT hk hx hl1 q1 q2 hw ht
   ·rename_i j hb hl hh
    obtain rfl := beq_tt hb
    rcases zxf hG hE hl with ⟨rfl, _⟩ | ⟨ol, ml, kl, _, h1, hl1⟩
    rotate_left
    ·cases h1
    rcases zxf hG hE hh with ⟨_, h1⟩ | ⟨oh, mh, kh, rfl, h1, hh1⟩
    ·cases h1
    cases h1
    cases hs
    obtain ⟨q1, q2, q3⟩ := hq
    refine ⟨.nil, λ ds d' hd => ?_⟩
    cases hd
    have hc := xs_cut hu0 (i := 0) (j := j.toNat) (by omega) (by omega)
    rw [cutA_zero] at hc
    exact .pure (RX_R hc) λ H => zjj hT hk hx hh1 q2 (by omega) hw ht
   ·cases hs
  ·cases hs
 ·cases hs
def symLX (P : Program) (G : GV) (env : Tr V) (c : Call) : SymR := match c.callee with
 | .builtin .len => match c.args.toList, c.argTypes[0]? with
  | [x], some t => match evO G env x with | some a => symLenX P t a | none => .bad
  | _, _ => .bad
 | _ => .bad
def symEqB (P : Program) (o : BinOp) (t : TypeId) (a b : V) : SymR := match P.underlying t, boolOf a, boolOf b with
 | some .bool, some x, some y => match o with
  | .eql => .q True (.sbool (x == y)) []
  | .neq => .q True (.sbool (!(x == y))) []
  | _ => .bad
 | _, _, _ => .bad
theorem symEqB_ok {o : BinOp} (hw : wants ops L ⟨some d, .binOp o X x y Y, T, p, es, g⟩ = some true) (ht : Nat.blt d n = true) {a b : V} {u2 : Value} (hx : evalL L x = some u) (hu : R ρ a u) (hy : evalL L y = some u2) (hu2 : R ρ b u2) :
  QSym P n ops ⟨some d, .binOp o X x y Y, T, p, es, g⟩ ρ hp W L (symEqB P o X a b) := by
 intro q v rd hs hq
 unfold symEqB at hs
 split at hs
 ·rename_i hT h1 h2
  cases zkp h1 hu
  cases zkp h2 hu2
  split at hs
  ·cases hs
   refine ⟨.nil, λ ds d hd => ?_⟩
   cases hd
   exact .pure rfl λ H => q_bool_eql hT hx hy hw ht
  ·cases hs
   refine ⟨.nil, λ ds d hd => ?_⟩
   cases hd
   exact .pure rfl λ H => q_bool_neq hT hx hy hw ht
  ·cases hs
 ·cases hs
theorem noL_addrX {a b : V} : noL (zjS P T a b) := by
 unfold zjS; repeat' split
 all_goals trivial
theorem noL_faX {f : Nat} {a : V} : noL (symFAX P X f a) := by
 unfold symFAX; repeat' split
 all_goals trivial
theorem noL_nilX {a : V} : noL (zvg a) := by
 unfold zvg; repeat' split
 all_goals trivial
theorem noL_eqB {o : BinOp} {a b : V} : noL (symEqB P o T a b) := by
 unfold symEqB; repeat' split
 all_goals trivial
theorem noL_sliceX {a : V} {lo hi : Option (Option Int)} : noL (zje P T a lo hi) := by
 unfold zje symCutX; repeat' split
 all_goals trivial
def symX (P : Program) (G : GV) (env : Tr V) (hp : Mem) (d : Option Nat) (op : Op) : SymR := match op with
 | .indexAddr t x y => match d, evO G env x, evO G env y with | some _, some a, some b => zjS P t a b | _, _, _ => .bad
 | .fieldAddr s x f => match d, evO G env x with | some _, some a => symFAX P s f a | _, _ => .bad
 | .nilCheck x => match d, evO G env x with | some _, some a => zvg a | _, _ => .bad
 | .load t x => match d, evO G env x with | some _, some a => symLoadX P t a | _, _ => .bad
 | .slice t x lo hi none => match d, evO G env x with | some _, some a => zje P t a (optI G env lo) (optI G env hi) | _, _ => .bad
 | .binOp o t x y _ => match d, evO G env x, evO G env y with | some _, some a, some b => symEqB P o t a b | _, _, _ => .bad
 | .call c => symLX P G env c
 | _ => .bad
theorem symX_ok (hG : GOk ρ G) (hE : RE ρ env L) (hH : HR ρ hp W) {o : Oper} (hw : wants ops L o = some true) (ht : dstOk o.dst n = true) : SymOk P n ops o ρ hp W L (symX P G env hp o.dst o.op) := by
 obtain ⟨dd, op, T, p, es, g⟩ := o
 dsimp only at ht
 cases op <;> first | trivial | skip
 case indexAddr t x y =>
  simp only [symX]
  split
  ·rename_i hx hy
   obtain ⟨u1, h1, h2⟩ := evO_ok hG hE hx
   obtain ⟨u2, h3, h4⟩ := evO_ok hG hE hy
   exact QSym.ok noL_addrX (symAddrX_ok hw ht h1 h2 h3 h4)
  ·trivial
 case fieldAddr s x f =>
  simp only [symX]
  split
  ·rename_i hx
   obtain ⟨u1, h1, h2⟩ := evO_ok hG hE hx
   exact QSym.ok noL_faX (symFAX_ok hw ht h1 h2)
  ·trivial
 case nilCheck x =>
  simp only [symX]
  split
  ·rename_i hx
   obtain ⟨u1, h1, h2⟩ := evO_ok hG hE hx
   exact QSym.ok noL_nilX (symNilX_ok hw ht h1 h2)
  ·trivial
 case load t x =>
  simp only [symX]
  split
  ·rename_i hx
   obtain ⟨u1, h1, h2⟩ := evO_ok hG hE hx
   exact symLoadX_ok hH hw ht h1 h2
  ·trivial
 case slice t x lo hi mx =>
  cases mx with
  | some mx => trivial
  | none =>
   simp only [symX]
   split
   ·rename_i hx
    obtain ⟨u1, h1, h2⟩ := evO_ok hG hE hx
    exact QSym.ok noL_sliceX (symSliceX_ok hG hE hw ht h1 h2)
   ·trivial
 case binOp o t x y u =>
  simp only [symX]
  split
  ·rename_i hx hy
   obtain ⟨u1, h1, h2⟩ := evO_ok hG hE hx
   obtain ⟨u2, h3, h4⟩ := evO_ok hG hE hy
   exact QSym.ok noL_eqB (symEqB_ok hw ht h1 h2 h3 h4)
  ·trivial
 case call c =>
  obtain ⟨cal, xs, ts⟩ := c
  show SymOk _ _ _ _ _ _ _ _ (symLX P G env ⟨cal, xs, ts⟩)
  unfold symLX
  split
  ·rename_i hcal
   dsimp only at hcal ⊢
   subst hcal
   split
   ·rename_i x t hxs hts
    have e1 : xs = #[x] := by apply Array.ext'; simpa using hxs
    subst e1
    split
    ·rename_i a ha
     obtain ⟨u1, h1, h2⟩ := evO_ok hG hE ha
     unfold symLenX
     split
     ·rename_i e l sh hT
      refine λ _ => ⟨.nil, λ ds d hd => ?_⟩
      cases hd
      obtain ⟨A, c, us, rfl, _⟩ := h2
      exact .pure rfl λ H => zxX hts hT h1 hw ht
     ·trivial
    ·trivial
   ·trivial
  ·trivial
def symB (P : Program) (G : GV) (env : Tr V) (hp : Mem) (d : Option Nat) (op : Op) : SymR := match symA P G env hp d op with
 | .bad => match symE P G env hp d op with
  | .bad => symX P G env hp d op
  | s => s
 | s => s
theorem symB_ok (hG : GOk ρ G) (hE : RE ρ env L) (hH : HR ρ hp W) {o : Oper} (hw : wants ops L o = some true) (ht : dstOk o.dst n = true) : SymOk P n ops o ρ hp W L (symB P G env hp o.dst o.op) := by
 have h1 := symA_ok (P := P) hG hE hH hw ht
 have h2 := symE_ok (P := P) hG hE hH hw ht
 have h3 := symX_ok (P := P) (hp := hp) (W := W) hG hE hH hw ht
 unfold symB
 split
 ·split
  ·exact h3
  ·exact h2
 ·exact h1
end
end
end Go.Q
namespace Go.Q
open Go.Z Go.Y
noncomputable section
section
variable {P : Program} {n : Nat} {ops : Array Oper} {r : List Oper} {ds : List Deferred} {L : Lo} {H H' : List SP} {K : Kont} {ρ : Rho} {W : RW} {G : GV} {env : Tr V} {hp hp' : Mem} {ro : Option Nat}
 {d : Nat} {dd : Option Nat} {T T' X Y t xt e sz by_ : TypeId} {p : String} {es : Array Edge} {g : Option (Nat × Bool)} {op : Op} {v : V} {u : Value} {x y z : Operand} {A : Option Addr} {m c : Nat} {cells : List Value} {C : SP}
def zvk (P : Program) (T : TypeId) (a : V) : SymR := match a, P.underlying T with
 | .ssl id i len s, some (.array N e) => .q (N <= len /\ 0 < len) (.sptr id i 0 s) []
 | _, _ => .bad
theorem symArrP_ok (hw : wants ops L ⟨some d, .sliceToArrayPointer T' x, T, p, es, g⟩ = some true) (ht : Nat.blt d n = true) {a : V} (hx : evalL L x = some u) (hu : R ρ a u) :
  QSym P n ops ⟨some d, .sliceToArrayPointer T' x, T, p, es, g⟩ ρ hp W L (zvk P T' a) := by
 intro q v rd hs hq
 unfold zvk at hs
 split at hs
 ·rename_i id i len s N e hT
  cases hs
  refine ⟨.nil, λ ds d hd => ?_⟩
  cases hd
  rcases hu with ⟨h0, _⟩ | ⟨b, c, hr, rfl, hle⟩
  ·omega
  ·exact .pure ⟨b, c, hr, rfl⟩ λ H => zkN hT hx hq.1 hw ht
 ·cases hs
def arrF (l : List UInt8) : Nat -> Nat -> List V
 | 0, _ => []
 | n + 1, j => .sint .u8 ((l.getD j 0).toNat : Int) :: arrF l n (j + 1)
theorem arrF_ok (l : List UInt8) : ∀ (n j : Nat), j + n <= l.length -> RL ρ (arrF l n j) (((byV l).drop j).take n)
 | 0, j, _ => by rw [List.take_zero]; exact .nil
 | n + 1, j, h => by
  have hj : j < (byV l).length := by unfold byV; rw [List.length_map]; omega
  rw [List.drop_eq_getElem_cons hj, List.take_succ_cons]
  refine .cons ?_ (arrF_ok l n (j + 1) (by omega))
  have e1 : (byV l)[j]? = some (Value.int .u8 ((l.getD j 0).toNat : Int)) := by
   unfold byV
   rw [List.getElem?_map, List.getElem?_eq_getElem (by omega), List.getD_eq_getElem?_getD, List.getElem?_eq_getElem (by omega)]
   rfl
  rw [List.getElem?_eq_getElem hj] at e1
  exact Option.some.inj e1
def arrU8 (P : Program) (T : TypeId) : Option Nat := match P.underlying T with
 | some (.array N e) => match P.underlying e with | some (.int .u8) => some N | _ => none
 | _ => none
def zjR (P : Program) (hp : Mem) (T : TypeId) (a : V) : SymR := match a, arrU8 P T with
 | .sptr id i f s, some N => match ctAt hp id, sizeP P T with
  | some (.byt l, ty), some k => match Nat.beq s 1, Nat.beq k N with
   | true, true => .q (i + f + N <= l.length /\ 0 < l.length) (.agg (arrF l N (i + f))) [wh id]
   | _, _ => .bad
  | _, _ => .bad
 | _, _ => .bad
theorem symLoadB_ok (hH : HR ρ hp W) (hw : wants ops L ⟨some d, .load T' x, T, p, es, g⟩ = some true) (ht : Nat.blt d n = true) {a : V} (hx : evalL L x = some u) (hu : R ρ a u) :
  QSym P n ops ⟨some d, .load T' x, T, p, es, g⟩ ρ hp W L (zjR P hp T' a) := by
 intro q v rd hs hq
 unfold zjR at hs
 split at hs
 ·rename_i id i f s N hN
  split at hs
  ·rename_i l ty k hc hk
   split at hs
   ·rename_i h1 h2
    cases hs
    obtain rfl := beq_tt h1
    obtain rfl := beq_tt h2
    obtain ⟨⟨ch, hch⟩, b, c, rl, junk, fr, hW, hr, hct, h4, h5⟩ := hH.ctAt hc hq.2
    obtain ⟨b', c', hr', rfl⟩ := hu
    rw [hr] at hr'; cases hr'
    obtain rfl : rl = byV l := hct
    have hlen : (byV l).length = l.length := by unfold byV; simp
    refine ⟨Lives.one hch, λ ds d hd => ?_⟩
    cases hd
    refine ⟨_, ⟨_, arrF_ok l k (i + f) hq.1, rfl⟩, λ H hH' => ?_⟩
    obtain ⟨b2, ob, H', e1, pk⟩ := hH' _ (List.mem_singleton.2 rfl)
    have e1 := e1.eq
    dsimp only [wh] at e1
    rw [hW] at e1; cases e1
    unfold arrU8 at hN
    split at hN
    ·rename_i N' e hT
     split at hN
     ·cases hN
      rw [Nat.mul_one] at hx
      refine zjI hT rfl hk hx pk ?_ ?_ hw ht
      ·rw [zqs (by omega)]
      ·rw [List.length_take, List.length_drop]; omega
     ·cases hN
    ·cases hN
   ·cases hs
  ·cases hs
 ·cases hs
def zjQ (P : Program) (T : TypeId) (a : V) (lo hi : Option (Option Int)) : SymR := match a, P.underlying T with
 | .sptr id i f s, some (.array N e) => match sizeP P e, lo, hi with
  | some (Nat.succ 0), some none, some (some m) => .q (0 <= m /\ m <= (N : Int)) (.sl id i (i * s + f) m.toNat (some N)) []
  | _, _, _ => .bad
 | _, _ => .bad
theorem symSlArr_ok (hG : GOk ρ G) (hE : RE ρ env L) {lo hi : Option Operand} (hw : wants ops L ⟨some d, .slice T' x lo hi none, T, p, es, g⟩ = some true) (ht : Nat.blt d n = true) {a : V} (hx : evalL L x = some u) (hu : R ρ a u) :
  QSym P n ops ⟨some d, .slice T' x lo hi none, T, p, es, g⟩ ρ hp W L (zjQ P T' a (optI G env lo) (optI G env hi)) := by
 intro q v rd hs hq
 unfold zjQ at hs
 split at hs
 ·rename_i id i f s N e hT
  split at hs
  ·rename_i hk hlo hhi
   rename_i m'
   cases hs
   cases lo with
   | some y => exact (by
     unfold optI at hlo
     repeat' split at hlo
     all_goals first | contradiction | cases hlo)
   | none =>
    cases hi with
    | none => cases hhi
    | some y =>
     unfold optI at hhi
     dsimp only at hhi
     split at hhi
     ·rename_i vv hv
      split at hhi
      ·rename_i k2 m2 hm
       cases hhi
       obtain ⟨uy, huy, hvy⟩ := evO_ok hG hE hv
       cases zqx hm hvy
       obtain ⟨b, c, hr, rfl⟩ := hu
       refine ⟨.nil, λ ds d hd => ?_⟩
       cases hd
       exact .pure ⟨b, c, hr, rfl, by show m'.toNat <= N; omega⟩ λ H => zkM hT hk hx huy hq.1 hq.2 hw ht
      ·cases hhi
     ·cases hhi
  ·cases hs
 ·cases hs
def byR (l : List UInt8) : List V := l.map λ b => V.sint .u8 (b.toNat : Int)
theorem byR_ok (l : List UInt8) : RL ρ (byR l) (byV l) := by
 induction l with
 | nil => exact .nil
 | cons a l ih => exact .cons rfl ih
def allU8 : List Sh -> Bool
 | [] => true
 | .int .u8 :: l => allU8 l
 | _ => false
theorem allU8_shR : ∀ {sh : List Sh}, allU8 sh = true -> ∀ {r : List V}, shR sh r ↔ (r.length = sh.length /\ ∀ v ∈ r, shV (.int .u8) v)
 | [], _, r => ⟨λ h => by rw [show r = [] from h]; exact ⟨rfl, λ v hv => by cases hv⟩, λ h => List.eq_nil_of_length_eq_zero h.1⟩
 | s :: sh, h, r => by
  have hs : s = .int .u8 /\ allU8 sh = true := by
   unfold allU8 at h
   split at h
   ·rename_i e; cases e
   ·rename_i e; cases e; exact ⟨rfl, h⟩
   ·cases h
  obtain ⟨rfl, h⟩ := hs
  have ih := λ r => @allU8_shR sh h r
  constructor
  ·rintro ⟨v, r', rfl, h1, h2⟩
   obtain ⟨h3, h4⟩ := (ih r').1 h2
   refine ⟨by simp [h3], λ w hw => ?_⟩
   rcases List.mem_cons.1 hw with rfl | hw
   ·exact h1
   ·exact h4 w hw
  ·rintro ⟨h1, h2⟩
   cases r with
   | nil => cases h1
   | cons v r => exact ⟨v, r, rfl, h2 v List.mem_cons_self, (ih r).2 ⟨by simpa using h1, λ w hw => h2 w (List.mem_cons_of_mem _ hw)⟩⟩
def overR (r : List V) (s : List UInt8) (len : Nat) : List V := byR (s.take len) ++ r.drop (Nat.min s.length len)
def symCopy (P : Program) (G : GV) (env : Tr V) (hp : Mem) (t : TypeId) (x y : Operand) : SymR := match P.underlying t, evO G env x, evO G env y with
 | some (.slice e), some (.sl id i off len (some cap)), some b => match sizeP P e, ctAt hp id, strOf b with
  | some (Nat.succ 0), some (.rows l sh, ty), some s => match allU8 sh, hp.putS id (some (.rows (l.set i (overR (l.getD i []) s len)) sh ty)) with
   | true, some h => .l (off = i * sh.length /\ i < l.length /\ len <= sh.length) [(.sint .i64 ((Nat.min s.length len : Nat) : Int), h)]
   | _, _ => .bad
  | _, _, _ => .bad
 | _, _, _ => .bad
theorem symCopy_ok {xs : Array Operand} {ts : Array TypeId} (hxs : xs.toList = [x, y]) (hts : ts[0]? = some t) (hG : GOk ρ G) (hE : RE ρ env L) (hH : HR ρ hp W) (hw : wants ops L ⟨dd, .call { callee := .builtin .copy, args := xs, argTypes := ts }, T, p, es, g⟩ = some true) (ht : dstOk dd n = true) :
  SymOk P n ops ⟨dd, .call { callee := .builtin .copy, args := xs, argTypes := ts }, T, p, es, g⟩ ρ hp W L (symCopy P G env hp t x y) := by
 unfold symCopy
 split
 ·rename_i e id i off len cap b hT hx hy
  split
  ·rename_i l sh ty s hsz hc hs'
   split
   ·rename_i h hall hput
    rintro ⟨hoff, hi, hlen⟩ ro r' ds K kk
    have hro := zqA hput
    obtain ⟨hs, rfl⟩ := zqB hput
    refine Ops.of_run hw (by simp) ht (λ Γ F a w he hh => ?_) kk
    obtain ⟨⟨ch, hch⟩, bb, cc, rl, junk, fr, hW, hr, hct, h4, h5⟩ := hH.ctAt hc (by show 0 < l.length; omega)
    obtain ⟨ux, hux, b', c', hr', rfl, hlc⟩ := evO_ok hG hE hx
    rw [hr] at hr'; cases hr'
    obtain ⟨uy, huy, hvy⟩ := evO_ok hG hE hy
    cases zxm hs' hvy
    have hlt : id < hp.n := hH.lt hch
    have hroom := hct.room (i := i) hi
    have hrow : RL ρ l.flatten rl := hct.1
    have hlsh : ∀ r ∈ l, r.length = sh.length := λ r hr => zxz (hct.2 r hr)
    have hrl : rl.length = l.length * sh.length := by rw [hrow.length, zkg hlsh]
    have hroom : (i + 1) * sh.length <= rl.length := hroom
    rw [Nat.add_mul, Nat.one_mul] at hroom
    have hmin : Nat.min s.length len <= sh.length := Nat.le_trans (Nat.min_le_right _ _) hlen
    have hlen' : (byV (s.take len)).length = Nat.min s.length len := by unfold byV; rw [List.length_map, List.length_take]; exact Nat.min_comm _ _
    have hget : l.getD i [] = l[i] := by rw [List.getD_eq_getElem?_getD, List.getElem?_eq_getElem hi]; rfl
    have hcells : (Builtin.firstCells 1 (Nat.min s.length len) (.string (Z.bs s))).run P w = .ok (byV (s.take len)).toArray w := by
     simp only [Builtin.firstCells, Sem.run_pure, zxv]
     congr 1
     apply Array.ext'
     simp only [Nat.mul_one]
     have e0 : s.take (Nat.min s.length len) = s.take len := by
      rcases Nat.le_total s.length len with h | h
      ·rw [show Nat.min s.length len = s.length from Nat.min_eq_left h, List.take_length, List.take_of_length_le h]
      ·rw [show Nat.min s.length len = len from Nat.min_eq_right h]
     simp [bs, byV, e0]
    have hsc : Z.scal (byV (s.take len)) = true := by
     generalize s.take len = q
     unfold Z.scal byV
     simp [Value.oneCell']
    have hargs := two_args hxs (he.eval hux) (he.eval huy)
    obtain ⟨w', hst, hh'⟩ := zqM (P := P) (off := off) (byV (s.take len)) 0 (rl ++ junk) w _ hh (zqf hlt hW) hsc (by simp only [List.length_append]; omega) (λ j hj => h5.2 _ (by simp only [List.length_append]; omega))
    have hct2 : CtR ρ (.rows (l.set i (overR (l.getD i []) s len)) sh) (putAt rl off (byV (s.take len))) := by
     have hr0 := hct.row hi
     have hrowi : RL ρ (l.getD i []) ((rl.drop (i * sh.length)).take sh.length) := by
      have := (hrow.drop (i * sh.length)).take sh.length
      rw [<- zxB hlsh, List.drop_eq_getElem_cons hi, List.flatten_cons, List.take_left' (hlsh _ (List.getElem_mem hi))] at this
      rw [hget]; exact this
     have hshi : shR sh (l.getD i []) := by rw [hget]; exact hct.2 _ (List.getElem_mem hi)
     obtain ⟨g1, g2⟩ := (allU8_shR hall).1 hshi
     have hnew : RL ρ (overR (l.getD i []) s len) (byV (s.take len) ++ ((rl.drop (i * sh.length)).take sh.length).drop (Nat.min s.length len)) := (byR_ok _).append (hrowi.drop _)
     have hlnew : (overR (l.getD i []) s len).length = sh.length := by
      unfold overR byR
      rw [List.length_append, List.length_map, List.length_take, List.length_drop, g1]
      have : Nat.min s.length len = min len s.length := Nat.min_comm _ _
      omega
     refine ⟨?_, λ r hr => ?_⟩
     ·rw [List.set_eq_take_append_cons_drop, if_pos hi, List.flatten_append, List.flatten_cons, zjo hlsh, zxB hlsh]
      have e1 : putAt rl off (byV (s.take len)) = rl.take (i * sh.length) ++ ((byV (s.take len) ++ ((rl.drop (i * sh.length)).take sh.length).drop (Nat.min s.length len)) ++ rl.drop ((i + 1) * sh.length)) := by
       unfold putAt
       rw [hoff, hlen', List.drop_take, List.drop_drop, Nat.add_mul, Nat.one_mul]
       have e9 : rl.drop (i * sh.length + Nat.min s.length len) = (rl.drop (i * sh.length + Nat.min s.length len)).take (sh.length - Nat.min s.length len) ++ rl.drop (i * sh.length + sh.length) := by
        conv => lhs; rw [<- List.take_append_drop (sh.length - Nat.min s.length len) (rl.drop (i * sh.length + Nat.min s.length len)), List.drop_drop]
        congr 2
        omega
       simp only [List.append_assoc]
       rw [<- e9]
      rw [e1]
      exact (hrow.take _).append (hnew.append (hrow.drop _))
     ·rcases List.mem_or_eq_of_mem_set hr with hr | rfl
      ·exact hct.2 r hr
      ·refine (allU8_shR hall).2 ⟨hlnew, λ v hv => ?_⟩
       rcases List.mem_append.1 hv with hv | hv
       ·obtain ⟨b, _, rfl⟩ := List.mem_map.1 hv
        exact ⟨_, .inl rfl⟩
       ·exact g2 v (List.mem_of_mem_drop hv)
    have e1 : putAt (rl ++ junk) off (byV (s.take len)) = putAt rl off (byV (s.take len)) ++ junk := by
     unfold putAt
     rw [List.take_append_of_le_length (by omega), List.drop_append_of_le_length (by omega)]
     simp
    have hpl : (putAt rl off (byV (s.take len))).length = rl.length := zqR (by omega)
    refine ⟨_, List.mem_singleton.2 rfl, ρ, upd W id (some (bb, .cells (putAt rl off (byV (s.take len)) ++ junk).toArray ty fr)), .int .i64 ((Nat.min s.length len : Nat) : Int), w', ?_, ?_, Rho.le_refl _, hH.put hs (CRel.ct (ct := .rows _ sh) hr hct2 ?_ ?_), rfl, rfl, Stay.put hro⟩
    ·simp only [execOp, resolve, invoke, builtin, Builtin.copy_, hargs, hts, Sem.run_bind, Sem.run_pure, Result.andThen_ok, List.getElem?_toArray, List.getElem?_cons_zero, List.getElem?_cons_succ, underlying, run_program, hT, Builtin.lenOf, zxb, zqg w hsz, hcells, List.toList_toArray, hst]
     rfl
    ·rw [Nat.add_zero, e1] at hh'
     refine hh'.weaken λ q hq => ?_
     have := zxx (W := upd W id none) hlt q hq
     rwa [zxT] at this
    ·rw [List.length_append, hpl, <- List.length_append, h4]; rfl
    ·rw [List.length_append, hpl, <- List.length_append]; exact h5
   ·trivial
  ·trivial
 ·trivial
def dstX (hp : Mem) (e sz : Nat) (z x : V) : Option (Ct × Nat × Prop × Mem) := match x with
 | .sl id 0 0 0 none => match hp.t.get id, ctZ z 0 with
  | some (.cells [] ty s), some ct => match Nat.beq ty e, Nat.beq s sz, hp.putS id none with
   | true, true, some h => some (ct, 0, True, h)
   | _, _, _ => none
  | _, _ => none
 | x => dstS hp e sz z x
theorem dstX_ok (hH : HR ρ hp W) {z a : V} {zc : List Value} (hz : RL ρ (cellsV z) zc) (hzl : (cellsV z).length = sz) (hu : R ρ a u) {ct0 : Ct} {m0 : Nat} {q : Prop} {h0 : Mem} (h : dstX hp e sz z a = some (ct0, m0, q, h0)) (hsz : 0 < sz) (hq : q) :
  ∃ A c W0 cells, u = .slice A m0 c /\ HR ρ h0 W0 /\ h0.n = hp.n /\ CtR ρ ct0 cells /\ ct0.sz = sz /\ ct0.len = m0 /\ (Stay hp W W0 /\ h0.ro = hp.ro) /\ ∀ x, sep (spl hp.n W) x -> sep (Own e sz A m0 c cells :: spl hp.n W0) x := by
 unfold dstX at h
 split at h
 ·rename_i id
  split at h
  ·rename_i ty s ct hc hct
   split at h
   ·rename_i h' b1 b2 hput
    cases h
    have hro := zqA hput
    obtain ⟨hs, rfl⟩ := zqB hput
    obtain rfl := beq_tt b1
    obtain rfl := beq_tt b2
    obtain ⟨c1, c2, c3⟩ := ctZ_ok hz hct
    obtain ⟨b, c, rl, junk, fr, hW, hr, hl, h4, h5⟩ := hH.cells hc
    obtain ⟨b', c', hr', rfl, hle⟩ := hu
    rw [hr] at hr'; cases hr'
    obtain rfl : rl = [] := hl
    have hid : id < hp.n := hH.lt hc
    obtain ⟨o1, o2⟩ := own_ofG (hp := hp) (len := 0) hW hid h4 h5 (by simp) hsz
    rw [Nat.zero_mul, List.take_zero] at o2
    exact ⟨some ⟨b, 0, none⟩, c, upd W id none, [], by simp, hH.kill hs, rfl, by simpa using c1, by rw [c2, hzl], c3, ⟨Stay.put hro, rfl⟩, o2⟩
   ·cases h
  ·cases h
 ·exact dstS_ok hH hz hzl hu h hsz hq
def Ct.appE : Ct -> Ct -> Option Ct
 | .rows [] _, .rows m sh => some (.rows m sh)
 | a, b => a.app b
theorem CtR.appE {ct cu cv : Ct} {us vs : List Value} (h1 : CtR ρ ct us) (h2 : CtR ρ cu vs) (hs : cu.sz = ct.sz) (h : ct.appE cu = some cv) : CtR ρ cv (us ++ vs) /\ cv.sz = ct.sz /\ cv.len = ct.len + cu.len := by
 unfold Ct.appE at h
 split at h
 ·cases h
  rw [show us = [] from h1.1]
  exact ⟨h2, hs, by simp [Ct.len]⟩
 ·exact h1.app h2 h
def symAppX (P : Program) (G : GV) (env : Tr V) (hp : Mem) (t xt : TypeId) (x y : Operand) : SymR := match P.underlying t, P.underlying xt, evO G env y with
 | some (.slice e), some (.slice _), some (.xs l sh) => match sizeP P e, bytesP P e, zeroV P e, evO G env x with
  | some sz, some by_, some z, some a => match Nat.blt 0 sz, Nat.blt 0 by_, Nat.beq (cellsV z).length sz, dstX hp e sz z a with
   | true, true, true, some (ct0, m0, q0, h0) => match Nat.beq sh.length sz, noAny sh, ct0.appE (.rows l sh) with
    | true, true, some ct => match h0.newS (ct.chunk e) with
     | some h => .l (q0 /\ (m0 + l.length) * by_ <= 140737488355328 /\ 0 < m0 + l.length) [(.ssl h0.n 0 (m0 + l.length) sz, h)]
     | none => .bad
    | _, _, _ => .bad
   | _, _, _, _ => .bad
  | _, _, _, _ => .bad
 | _, _, _ => .bad
theorem symAppX_ok (hG : GOk ρ G) (hE : RE ρ env L) (hH : HR ρ hp W) (hw : wants ops L ⟨some d, .call { callee := .builtin .append, args := #[x, y], argTypes := #[t, xt] }, T, p, es, g⟩ = some true) (ht : Nat.blt d n = true) :
  SymOk P n ops ⟨some d, .call { callee := .builtin .append, args := #[x, y], argTypes := #[t, xt] }, T, p, es, g⟩ ρ hp W L (symAppX P G env hp t xt x y) := by
 unfold symAppX
 split
 ·rename_i e e' l sh hT hxt hy
  split
  ·rename_i sz by_ z a hsz hby hz hx
   split
   ·rename_i ct0 m0 q0 h0 b1 b2 b3 hdst
    split
    ·rename_i ct hb4 hna happ
     split
     ·rename_i h hnew
      rintro ⟨hq0, hbd, hps⟩ ro r' ds K kk
      have hsz0 := blt_tt b1
      have b3 := beq_tt b3
      have hb4 := beq_tt hb4
      obtain ⟨zr, hzr, hzv⟩ := zqO (ρ := ρ) hz
      obtain ⟨zc, hc1, hc2⟩ := zqC hzv
      have hzs : zr.cells.size = sz := by rw [hc1]; simp [hc2.length, b3]
      obtain ⟨ux, hux, hvx⟩ := evO_ok hG hE hx
      obtain ⟨uy, huy, hvy⟩ := evO_ok hG hE hy
      obtain ⟨A, c, W0, cells, rfl, hH0, hn0, hct0, hsz1, hlen0, hst, hsplit⟩ := dstX_ok hH hc2 b3 hvx hdst hsz0 hq0
      refine Ops.weak ?_ hsplit
      rw [<- hn0]
      obtain ⟨hs, rfl⟩ := zqw hnew
      obtain ⟨B, cap, new, rfl, hlc, hrx, hsh, hxat⟩ := hvy
      have hct1 : CtR ρ (.rows l sh) new := zjB hrx hsh
      have hle0 : Hp.le ρ.x W0.x := by rw [hH0.ext]; exact λ _ _ e => e
      have hnl : new.length = l.length * sz := by rw [hct1.length]; show l.length * sh.length = _; rw [hb4]
      obtain ⟨a1, a2, a3⟩ := hct0.appE hct1 (by rw [hsz1]; exact hb4) happ
      obtain ⟨H2, pk2⟩ : ∃ H2, Pick (spl h0.n W0) (extSP W0.x) H2 := ⟨splR h0.n W0, λ x => (zxg x).1⟩
      refine Ops.append hT hxt hsz hby hzr hzs b2 hux huy Pick.head (.tail pk2) (Xat_RdA (hxat.mono hle0)) hnl (hct1.scal hna) hbd hw ht λ A' c' => ?_
      have hne : cells ++ new ≠ [] := by
       intro h
       have hl := a1.length
       rw [h, a2, a3, hlen0, hsz1] at hl
       have h2 : ct0.len + Ct.len (.rows l sh) = m0 + l.length := by rw [hlen0]; rfl
       have := Nat.mul_pos hps hsz0
       have h3 : Ct.len (.rows l sh) = l.length := rfl
       rw [h3] at hl
       simp only [List.length_nil] at hl
       omega
      refine zjv (l := r') hH0 hs a1 (by rw [a2, hsz1]) (.inl hne) λ b W' hA hm hH' hst' => ?_
      subst hA
      exact kk _ (List.mem_singleton.2 rfl) _ W' _ (zqm hH0 _) hH' (.inr ⟨b, c', zqe, by simp, by simpa using hm⟩) hst.2 (λ j hj => (hst.1 j hj).trans (hst' j (by rw [hst.2]; exact hj)))
     ·trivial
    ·trivial
   ·trivial
  ·trivial
 ·trivial
def zvh (P : Program) (o : BinOp) (t : TypeId) (a b : V) : SymR := match P.underlying t, a, b with
 | some (.slice _), .xs l sh, .nils => match o, Nat.blt 0 sh.length with
  | .eql, true => .q (0 < l.length) (.bool false) []
  | _, _ => .bad
 | _, _, _ => .bad
theorem symNilE_ok {o : BinOp} {X Y : TypeId} {x y : Operand} (hw : wants ops L ⟨some d, .binOp o X x y Y, T, p, es, g⟩ = some true) (ht : Nat.blt d n = true) {a b : V} {u u2 : Value} (hx : evalL L x = some u) (hu : R ρ a u) (hy : evalL L y = some u2) (hu2 : R ρ b u2) :
  QSym P n ops ⟨some d, .binOp o X x y Y, T, p, es, g⟩ ρ hp W L (zvh P o X a b) := by
 intro q v rd hs hq
 unfold zvh at hs
 split at hs
 ·rename_i e l sh hT
  split at hs
  ·rename_i hb
   cases hs
   obtain ⟨A, c, us, rfl, hle, hrx, hsh, hxat⟩ := hu
   have hu2 : u2 = .slice none 0 0 := hu2
   subst hu2
   have hlen : us.length = l.length * sh.length := (zjB (ρ := ρ) hrx hsh).length
   have hA : A.isNone = false := by
    rcases hxat with h | ⟨b, off, cs, ty, fr, h, _⟩
    ·rw [h] at hlen
     have := Nat.mul_pos hq (blt_tt hb)
     simp only [List.length_nil] at hlen
     omega
    ·rw [h]; rfl
   refine ⟨.nil, λ ds d hd => ?_⟩
   cases hd
   refine .pure (show R ρ (.bool false) (.bool A.isNone) by rw [hA]; rfl) λ H => q_slnil_eql hT hx hy hw ht
  ·cases hs
 ·cases hs
theorem noL_nilE {o : BinOp} {a b : V} : noL (zvh P o T a b) := by
 unfold zvh; repeat' split
 all_goals trivial
def symYC (P : Program) (G : GV) (env : Tr V) (hp : Mem) (d : Option Nat) (c : Call) : SymR := match c.callee with
 | .builtin .append => match d, c.args.toList, c.argTypes.toList with
  | some _, [x, y], [t, xt] => symAppX P G env hp t xt x y
  | _, _, _ => .bad
 | .builtin .copy => match c.args.toList, c.argTypes[0]? with
  | [x, y], some t => symCopy P G env hp t x y
  | _, _ => .bad
 | _ => .bad
def symY (P : Program) (G : GV) (env : Tr V) (hp : Mem) (d : Option Nat) (op : Op) : SymR := match op with
 | .sliceToArrayPointer t x => match d, evO G env x with | some _, some a => zvk P t a | _, _ => .bad
 | .load t x => match d, evO G env x with | some _, some a => zjR P hp t a | _, _ => .bad
 | .slice t x lo hi none => match d, evO G env x with | some _, some a => zjQ P t a (optI G env lo) (optI G env hi) | _, _ => .bad
 | .binOp o t x y _ => match d, evO G env x, evO G env y with | some _, some a, some b => zvh P o t a b | _, _, _ => .bad
 | .call c => symYC P G env hp d c
 | _ => .bad
theorem noL_arrP {a : V} : noL (zvk P T a) := by
 unfold zvk; repeat' split
 all_goals trivial
theorem noL_loadB {a : V} : noL (zjR P hp T a) := by
 unfold zjR; repeat' split
 all_goals trivial
theorem noL_slArr {a : V} {lo hi : Option (Option Int)} : noL (zjQ P T a lo hi) := by
 unfold zjQ; repeat' split
 all_goals trivial
theorem symY_ok (hG : GOk ρ G) (hE : RE ρ env L) (hH : HR ρ hp W) {o : Oper} (hw : wants ops L o = some true) (ht : dstOk o.dst n = true) : SymOk P n ops o ρ hp W L (symY P G env hp o.dst o.op) := by
 obtain ⟨dd, op, T, p, es, g⟩ := o
 dsimp only at ht
 cases op <;> first | trivial | skip
 case sliceToArrayPointer t x =>
  simp only [symY]
  split
  ·rename_i hx
   obtain ⟨u1, h1, h2⟩ := evO_ok hG hE hx
   exact QSym.ok noL_arrP (symArrP_ok hw ht h1 h2)
  ·trivial
 case load t x =>
  simp only [symY]
  split
  ·rename_i hx
   obtain ⟨u1, h1, h2⟩ := evO_ok hG hE hx
   exact QSym.ok noL_loadB (symLoadB_ok hH hw ht h1 h2)
  ·trivial
 case slice t x lo hi mx =>
  cases mx with
  | some mx => trivial
  | none =>
   simp only [symY]
   split
   ·rename_i hx
    obtain ⟨u1, h1, h2⟩ := evO_ok hG hE hx
    exact QSym.ok noL_slArr (symSlArr_ok hG hE hw ht h1 h2)
   ·trivial
 case binOp o t x y u =>
  simp only [symY]
  split
  ·rename_i hx hy
   obtain ⟨u1, h1, h2⟩ := evO_ok hG hE hx
   obtain ⟨u2, h3, h4⟩ := evO_ok hG hE hy
   exact QSym.ok noL_nilE (symNilE_ok hw ht h1 h2 h3 h4)
  ·trivial
 case call c =>
  obtain ⟨cal, xs, ts⟩ := c
  show SymOk _ _ _ _ _ _ _ _ (symYC P G env hp dd ⟨cal, xs, ts⟩)
  unfold symYC
  split
  ·rename_i hcal
   dsimp only at hcal ⊢
   subst hcal
   split
   ·rename_i x y t xt hxs hts
    have e1 : xs = #[x, y] := by apply Array.ext'; simpa using hxs
    have e2 : ts = #[t, xt] := by apply Array.ext'; simpa using hts
    subst e1 e2
    exact symAppX_ok hG hE hH hw ht
   ·trivial
  ·rename_i hcal
   dsimp only at hcal ⊢
   subst hcal
   split
   ·rename_i x y t hxs hts
    exact symCopy_ok hxs hts hG hE hH hw ht
   ·trivial
  ·trivial
def symD (P : Program) (G : GV) (env : Tr V) (hp : Mem) (d : Option Nat) (op : Op) : SymR := match symB P G env hp d op with
 | .bad => symY P G env hp d op
 | s => s
theorem symD_ok (hG : GOk ρ G) (hE : RE ρ env L) (hH : HR ρ hp W) {o : Oper} (hw : wants ops L o = some true) (ht : dstOk o.dst n = true) : SymOk P n ops o ρ hp W L (symD P G env hp o.dst o.op) := by
 have h1 := symB_ok (P := P) hG hE hH hw ht
 have h2 := symY_ok (P := P) hG hE hH hw ht
 unfold symD
 split
 ·exact h2
 ·exact h1
end
end
end Go.Q
