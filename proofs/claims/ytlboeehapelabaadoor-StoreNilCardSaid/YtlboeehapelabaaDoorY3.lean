/- Quiet operations. -/
import Derived.Test.YtlboeehapelabaaDoorY2
set_option linter.unusedVariables false
set_option linter.unusedSimpArgs false
namespace Go.Y
open Go.Z
noncomputable section
/-! ### Constants, operands -/
def ofC0 : Value → Option V
  | .bool b => some (.bool b)
  | .int k n => some (.int k n)
  | .string s => some (.str s.data.toList)
  | .pointer none => some .nilp
  | .slice none m c => match Nat.beq m 0, Nat.beq c 0 with | true, true => some .nils | _, _ => none
  | .map none => some .nilm
  | .nilFunc => some .nilf
  | .nilIface => some .nili
  | _ => none
def mapO {α β : Type} (f : α → Option β) : List α → Option (List β)
  | [] => some []
  | x :: l => match f x with
    | some y => match mapO f l with
      | some ys => some (y :: ys)
      | none => none
    | none => none
def ofC : Value → Option V
  | .agg cs => (mapO ofC0 cs.toList).map .agg
  | .tuple cs => match cs.toList with | [] => some .und | _ => none
  | v => ofC0 v
theorem ofC0_ok {ρ : Rho} {u : Value} {v : V} (h : ofC0 u = some v) : R ρ v u := by
  unfold ofC0 at h
  split at h
  · cases h; exact rfl
  · cases h; exact rfl
  · cases h; exact congrArg Value.string (bs_data _).symm
  · cases h; exact rfl
  · rename_i m c
    split at h
    · rename_i h1 h2; cases h; rw [beq_tt h1, beq_tt h2]; exact rfl
    · cases h
  · cases h; exact rfl
  · cases h; exact rfl
  · cases h; exact rfl
  · cases h
theorem mapO_ok {ρ : Rho} : ∀ {l : List Value} {vs : List V}, mapO ofC0 l = some vs → RL ρ vs l
  | [], vs, h => by simp only [mapO, Option.some.injEq] at h; subst h; exact .nil
  | x :: l, vs, h => by
    simp only [mapO] at h
    split at h
    · rename_i y hy
      split at h
      · rename_i ys hys; cases h; exact .cons (ofC0_ok hy) (mapO_ok hys)
      · cases h
    · cases h
theorem ofC_ok {ρ : Rho} {u : Value} {v : V} (h : ofC u = some v) : R ρ v u := by
  unfold ofC at h
  split at h
  · rename_i cs
    cases hm : mapO ofC0 cs.toList with
    | none => rw [hm] at h; cases h
    | some l => rw [hm] at h; cases h; exact ⟨cs.toList, mapO_ok hm, by simp⟩
  · rename_i cs
    split at h
    · rename_i he
      cases h
      have : cs = #[] := by cases cs; simp at he; simp [he]
      subst this; exact rfl
    · cases h
  · exact ofC0_ok h
/-- what package-level variables' blocks are numbered; functions without arguments whose results are known -/
structure GV where
  t : Tr Nat
  kn : List (Nat × V)
def GV.get (G : GV) (g : Nat) : Option Nat := G.t.get g
def evO (G : GV) (env : Tr V) : Operand → Option V
  | .tmp t => env.get t
  | .const c => ofC c
  | .func f => some (.fn (.func f) [] [])
  | .global g => match G.get g with | some id => some (.ptr id 0) | none => none
def GOk (ρ : Rho) (G : GV) : Prop := ∀ g id, G.get g = some id → ∃ c, ρ id = some (g, c)
theorem GOk.mono {ρ ρ' : Rho} {G : GV} (h : GOk ρ G) (le : ρ.le ρ') : GOk ρ' G := fun g id e => let ⟨c, h1⟩ := h g id e; ⟨c, le _ _ h1⟩
section
variable {ρ : Rho} {G : GV} {env : Tr V} {L : Lo}
theorem evO_ok (hG : GOk ρ G) (hE : RE ρ env L) {x : Operand} {v : V} (h : evO G env x = some v) : ∃ u, evalL L x = some u ∧ R ρ v u := by
  cases x with
  | tmp t => exact hE t v h
  | const c => exact ⟨c, rfl, ofC_ok h⟩
  | func f => cases h; exact ⟨_, rfl, [], [], .nil, .nil, rfl⟩
  | global g =>
    simp only [evO] at h
    split at h
    · rename_i id hid; cases h; obtain ⟨c, hc⟩ := hG g id hid; exact ⟨_, rfl, g, c, hc, rfl⟩
    · cases h
theorem evOs_ok (hG : GOk ρ G) (hE : RE ρ env L) : ∀ {xs : List Operand} {vs : List V}, mapO (evO G env) xs = some vs → ∃ us, evalAll L xs = some us ∧ RL ρ vs us
  | [], vs, h => by simp only [mapO, Option.some.injEq] at h; subst h; exact ⟨[], rfl, .nil⟩
  | x :: xs, vs, h => by
    simp only [mapO] at h
    split at h
    · rename_i y hy
      split at h
      · rename_i ys hys
        cases h
        obtain ⟨u, h1, h2⟩ := evO_ok hG hE hy
        obtain ⟨us, h3, h4⟩ := evOs_ok hG hE hys
        exact ⟨u :: us, by simp [evalAll, h1, h3], .cons h2 h4⟩
      · cases h
    · cases h
end
/-! ### Numbers -/
def ikn : IntKind → Nat
  | .i8 => 0 | .i16 => 1 | .i32 => 2 | .i64 => 3 | .u8 => 4 | .u16 => 5 | .u32 => 6 | .u64 => 7
def ikeq (a b : IntKind) : Bool := Nat.beq (ikn a) (ikn b)
theorem ikeq_ok {a b : IntKind} (h : ikeq a b = true) : a = b := by
  have := beq_tt h
  cases a <;> cases b <;> first | rfl | (simp [ikn] at this)
def maxN : IntKind → Nat
  | .i8 => 127 | .i16 => 32767 | .i32 => 2147483647 | .i64 => 9223372036854775807 | .u8 => 255 | .u16 => 65535 | .u32 => 4294967295 | .u64 => 18446744073709551615
def minN : IntKind → Nat
  | .i8 => 128 | .i16 => 32768 | .i32 => 2147483648 | .i64 => 9223372036854775808 | _ => 0
def wr (k : IntKind) : Int → Int
  | .ofNat m => match Nat.ble m (maxN k) with | true => .ofNat m | false => k.wrap (.ofNat m)
  | .negSucc m => match Nat.ble (Nat.succ m) (minN k) with | true => .negSucc m | false => k.wrap (.negSucc m)
theorem wr_ok (k : IntKind) (n : Int) : wr k n = k.wrap n := by
  unfold wr
  split
  · rename_i m
    split
    · rename_i h
      have h := Nat.le_of_ble_eq_true h
      refine (wrap_in ?_).symm
      cases k <;> simp only [maxN] at h <;> simp only [inK, IntKind.min, IntKind.max, IntKind.signed, IntKind.bits] <;> (have : Int.ofNat m = (m : Int) := rfl) <;> simp <;> omega
    · rfl
  · rename_i m
    split
    · rename_i h
      have h := Nat.le_of_ble_eq_true h
      refine (wrap_in ?_).symm
      cases k <;> simp only [minN] at h <;> simp only [inK, IntKind.min, IntKind.max, IntKind.signed, IntKind.bits] <;> (have : Int.negSucc m = -((m : Int) + 1) := by omega) <;> simp <;> omega
    · rfl
def ltI : Int → Int → Bool
  | .ofNat a, .ofNat b => Nat.blt a b
  | .ofNat _, .negSucc _ => false
  | .negSucc _, .ofNat _ => true
  | .negSucc a, .negSucc b => Nat.blt b a
def eqI : Int → Int → Bool
  | .ofNat a, .ofNat b => Nat.beq a b
  | .negSucc a, .negSucc b => Nat.beq a b
  | _, _ => false
theorem ltI_ok (a b : Int) : ltI a b = decide (a < b) := by
  cases a <;> cases b <;> simp only [ltI] <;> rename_i m n <;> (rw [Bool.eq_iff_iff]; simp [Nat.blt_eq]; try omega)
theorem eqI_ok (a b : Int) : eqI a b = decide (a = b) := by
  cases a <;> cases b <;> simp only [eqI] <;> rename_i m n <;> (rw [Bool.eq_iff_iff]; simp; try omega)
def eqB : List UInt8 → List UInt8 → Bool
  | [], [] => true
  | a :: l, b :: m => match Nat.beq a.toNat b.toNat with | true => eqB l m | false => false
  | _, _ => false
theorem eqB_ok : ∀ (l m : List UInt8), eqB l m = decide (l = m)
  | [], [] => by simp [eqB]
  | [], _ :: _ => by simp [eqB]
  | _ :: _, [] => by simp [eqB]
  | a :: l, b :: m => by
    simp only [eqB]
    cases h : Nat.beq a.toNat b.toNat with
    | true =>
      have : a = b := UInt8.toNat_inj.1 (beq_tt h)
      subst this
      simp only [eqB_ok l m]; simp
    | false =>
      have : a ≠ b := fun e => beq_ff h (by rw [e])
      simp [this]
def ltB : List UInt8 → List UInt8 → Bool
  | _, [] => false
  | [], _ :: _ => true
  | a :: l, b :: m => match Nat.blt a.toNat b.toNat with
    | true => true
    | false => match Nat.beq a.toNat b.toNat with | true => ltB l m | false => false
theorem ltB_ok : ∀ (l m : List UInt8), ltB l m = Op.bytesLess l m
  | [], [] => rfl
  | _ :: _, [] => rfl
  | [], _ :: _ => rfl
  | a :: l, b :: m => by
    simp only [ltB, Op.bytesLess]
    cases h : Nat.blt a.toNat b.toNat with
    | true =>
      have : a < b := by rw [UInt8.lt_iff_toNat_lt]; simpa [Nat.blt_eq] using h
      simp [this]
    | false =>
      have h1 : ¬ a < b := by
        rw [UInt8.lt_iff_toNat_lt]
        intro h2
        have : Nat.blt a.toNat b.toNat = true := by simpa [Nat.blt_eq] using h2
        rw [h] at this; cases this
      cases h2 : Nat.beq a.toNat b.toNat with
      | true =>
        have : a = b := UInt8.toNat_inj.1 (beq_tt h2)
        subst this
        simp [ltB_ok l m, h1]
      | false =>
        have : a ≠ b := fun e => beq_ff h2 (by rw [e])
        simp [h1, this]
def shN : IntKind → Int → Option Nat
  | k, .ofNat m => some (Nat.min m k.bits)
  | _, _ => none
def intBin2 (op : BinOp) (k : IntKind) (a b : Int) : Option V :=
  match op with
  | .add => some (.int k (wr k (a + b)))
  | .sub => some (.int k (wr k (a - b)))
  | .mul => some (.int k (wr k (a * b)))
  | .quo => match eqI b 0 with | true => none | false => some (.int k (wr k (a.tdiv b)))
  | .rem => match eqI b 0 with | true => none | false => some (.int k (a.tmod b))
  | .and => some (.int k (wr k (BitVec.ofInt k.bits a &&& BitVec.ofInt k.bits b).toNat))
  | .or => some (.int k (wr k (BitVec.ofInt k.bits a ||| BitVec.ofInt k.bits b).toNat))
  | .xor => some (.int k (wr k (BitVec.ofInt k.bits a ^^^ BitVec.ofInt k.bits b).toNat))
  | .andNot => some (.int k (wr k (BitVec.ofInt k.bits a &&& ~~~BitVec.ofInt k.bits b).toNat))
  | .lss => some (.bool (ltI a b))
  | .gtr => some (.bool (ltI b a))
  | .leq => some (.bool (!ltI b a))
  | .geq => some (.bool (!ltI a b))
  | .eql => some (.bool (eqI a b))
  | .neq => some (.bool (!eqI a b))
  | _ => none
def intBin (op : BinOp) (k : IntKind) (a : Int) (k' : IntKind) (b : Int) : Option V :=
  match op with
  | .shl => match b with | .ofNat m => some (.int k (wr k (a * 2 ^ min m k.bits))) | _ => none
  | .shr => match b with | .ofNat m => some (.int k (a.fdiv (2 ^ min m k.bits))) | _ => none
  | op => match ikeq k k' with
    | false => none
    | true => intBin2 op k a b
def strBin (op : BinOp) (a b : List UInt8) : Option V :=
  match op with
  | .add => match Nat.ble (a.length + b.length) 9223372036854775807 with | true => some (.str (a ++ b)) | false => none
  | .eql => some (.bool (eqB a b))
  | .neq => some (.bool (!eqB a b))
  | .lss => some (.bool (ltB a b))
  | .geq => some (.bool (!ltB a b))
  | .leq => some (.bool (ltB a b || eqB a b))
  | .gtr => some (.bool (!(ltB a b || eqB a b)))
  | _ => none
theorem intBin2_ok {P : Program} {ρ : Rho} {op : BinOp} {k : IntKind} {a b : Int} {v : V} {X : TypeId} (h : intBin2 op k a b = some v) : ∃ u, R ρ v u ∧ ∀ w, (binOp op X (.int k a) (.int k b)).run P w = .ok u w := by
  unfold intBin2 at h
  cases op
  case quo =>
    dsimp only at h
    split at h
    · cases h
    · rename_i h0; rw [eqI_ok] at h0; cases h
      have h0 : ¬ b = 0 := by simpa using h0
      exact ⟨_, rfl, fun w => by simp [binOp, Op.intDiv, h0, wr_ok]⟩
  case rem =>
    dsimp only at h
    split at h
    · cases h
    · rename_i h0; rw [eqI_ok] at h0; cases h
      have h0 : ¬ b = 0 := by simpa using h0
      exact ⟨_, rfl, fun w => by simp [binOp, Op.intDiv, h0]⟩
  case leq => cases h; exact ⟨_, rfl, fun w => by simp [binOp, Op.intCmp, ltI_ok, ← Int.not_lt, decide_not]⟩
  case geq => cases h; exact ⟨_, rfl, fun w => by simp [binOp, Op.intCmp, ltI_ok, ← Int.not_lt, decide_not]⟩
  case add => cases h; exact ⟨_, rfl, fun w => by simp [binOp, Op.intArith, wr_ok]⟩
  case sub => cases h; exact ⟨_, rfl, fun w => by simp [binOp, Op.intArith, wr_ok]⟩
  case mul => cases h; exact ⟨_, rfl, fun w => by simp [binOp, Op.intArith, wr_ok]⟩
  case and => cases h; exact ⟨_, rfl, fun w => by simp only [binOp, Op.intBits, wr_ok]; simp⟩
  case or => cases h; exact ⟨_, rfl, fun w => by simp only [binOp, Op.intBits, wr_ok]; simp⟩
  case xor => cases h; exact ⟨_, rfl, fun w => by simp only [binOp, Op.intBits, wr_ok]; simp⟩
  case andNot => cases h; exact ⟨_, rfl, fun w => by simp only [binOp, Op.intBits, wr_ok]; simp⟩
  case lss => cases h; exact ⟨_, rfl, fun w => by simp [binOp, Op.intCmp, ltI_ok]⟩
  case gtr => cases h; exact ⟨_, rfl, fun w => by simp [binOp, Op.intCmp, ltI_ok]⟩
  case eql => cases h; exact ⟨_, rfl, fun w => by simp [binOp, Op.intCmp, eqI_ok]; rfl⟩
  case neq => cases h; exact ⟨_, rfl, fun w => by simp [binOp, Op.intCmp, eqI_ok]; rfl⟩
  all_goals cases h
theorem intBin_ok {P : Program} {ρ : Rho} {op : BinOp} {k k' : IntKind} {a b : Int} {v : V} {X : TypeId} (h : intBin op k a k' b = some v) : ∃ u, R ρ v u ∧ ∀ w, (binOp op X (.int k a) (.int k' b)).run P w = .ok u w := by
  unfold intBin at h
  split at h
  · split at h
    · rename_i m; cases h
      refine ⟨_, rfl, fun w => ?_⟩
      have h1 : ¬ (m : Int) < 0 := by omega
      simp [binOp, Op.shift, h1, wr_ok]
    · cases h
  · split at h
    · rename_i m; cases h
      refine ⟨_, rfl, fun w => ?_⟩
      have h1 : ¬ (m : Int) < 0 := by omega
      simp [binOp, Op.shift, h1]
    · cases h
  · split at h
    · cases h
    · rename_i hk
      have hk := ikeq_ok hk
      subst hk
      exact intBin2_ok h
theorem strBin_ok {P : Program} {ρ : Rho} {op : BinOp} {a b : List UInt8} {v : V} {X : TypeId} (h : strBin op a b = some v) : ∃ u, R ρ v u ∧ ∀ w, (binOp op X (.string (bs a)) (.string (bs b))).run P w = .ok u w := by
  have hb : binOp op X (.string (bs a)) (.string (bs b)) = Op.stringOp op (bs a) (bs b) := by cases op <;> rfl
  rw [hb]
  unfold strBin at h
  cases op
  case add =>
    dsimp only at h
    split at h
    · rename_i hl
      cases h
      have hl := Nat.le_of_ble_eq_true hl
      refine ⟨_, rfl, fun w => ?_⟩
      have hm : ¬ (((bs a).size + (bs b).size : Nat) : Int) > IntKind.i64.max := by
        rw [bs_size, bs_size]
        have : IntKind.i64.max = 9223372036854775807 := rfl
        omega
      simp only [Op.stringOp, if_neg hm, Sem.run_pure, bs_append]
    · cases h
  all_goals first
    | (cases h; exact ⟨_, rfl, fun w => by simp only [Op.stringOp, bs_toList, Sem.run_pure, beq_dec, eqB_ok, ltB_ok]⟩)
    | (cases h; done)
/-! ### Values of which nothing is known -/
def isCmp : BinOp → Bool
  | .lss => true | .gtr => true | .leq => true | .geq => true | .eql => true | .neq => true | _ => false
def isTot : BinOp → Bool
  | .add => true | .sub => true | .mul => true | .and => true | .or => true | .xor => true | .andNot => true | _ => false
def isDiv : BinOp → Bool
  | .quo => true | .rem => true | _ => false
def kindV : V → Option IntKind
  | .int k _ => some k
  | .anyI k => some k
  | _ => none
def isStrV : V → Bool
  | .str _ => true
  | .anyS => true
  | _ => false
def nonZ : V → Bool
  | .int _ n => !eqI n 0
  | _ => false
def anyBin (op : BinOp) (a b : V) : Option V :=
  match kindV a, kindV b with
  | some k, some k' => match ikeq k k' with
    | false => none
    | true => match isCmp op, isTot op || (isDiv op && nonZ b) with
      | true, _ => some .anyB
      | false, true => some (.anyI k)
      | false, false => none
  | _, _ => match isStrV a && isStrV b && isCmp op with
    | true => some .anyB
    | false => none
theorem kindV_ok {ρ : Rho} {a : V} {k : IntKind} {u : Value} (h : kindV a = some k) (hu : R ρ a u) : ∃ n, u = .int k n ∧ (nonZ a = true → n ≠ 0) := by
  unfold kindV at h
  split at h
  · rename_i k0 n0
    cases h
    refine ⟨n0, hu, fun hz => ?_⟩
    simp only [nonZ, eqI_ok] at hz
    simpa using hz
  · cases h
    obtain ⟨n, rfl⟩ := hu
    exact ⟨n, rfl, fun hz => by cases hz⟩
  · cases h
theorem isStrV_ok {ρ : Rho} {a : V} {u : Value} (h : isStrV a = true) (hu : R ρ a u) : ∃ l, u = .string (bs l) := by
  unfold isStrV at h
  split at h
  · exact ⟨_, hu⟩
  · exact hu
  · cases h
theorem anyBin_ok {P : Program} {ρ : Rho} {op : BinOp} {a b v : V} {u1 u2 : Value} {X : TypeId} (h : anyBin op a b = some v) (h1 : R ρ a u1) (h2 : R ρ b u2) :
    (∀ (w : World) (x y : Operand), (eqGuard op X x y u1 u2).run P w = .ok () w) ∧ ∃ u, R ρ v u ∧ ∀ w, (binOp op X u1 u2).run P w = .ok u w := by
  unfold anyBin at h
  split at h
  · rename_i k k' hk hk'
    obtain ⟨m, rfl, _⟩ := kindV_ok hk h1
    obtain ⟨n, rfl, hnz⟩ := kindV_ok hk' h2
    refine ⟨fun w x y => by cases op <;> simp [eqGuard], ?_⟩
    split at h
    · cases h
    · rename_i he
      have he := ikeq_ok he
      subst he
      split at h
      · rename_i hc
        cases h
        obtain ⟨c, hc⟩ : ∃ c, intBin2 op k m n = some (.bool c) := by
          cases op <;> first | (cases hc; done) | exact ⟨_, rfl⟩
        obtain ⟨u, hu, hr⟩ := intBin2_ok (P := P) (ρ := ρ) (X := X) hc
        exact ⟨u, ⟨_, hu⟩, hr⟩
      · rename_i hc ht
        cases h
        simp only [Bool.or_eq_true, Bool.and_eq_true] at ht
        have hz : isDiv op = true → eqI n 0 = false := fun hd => by
          rcases ht with ht | ⟨_, ht⟩
          · cases op <;> first | (cases hd; done) | cases ht
          · rw [eqI_ok]; simpa using hnz ht
        obtain ⟨c, hc⟩ : ∃ c, intBin2 op k m n = some (.int k c) := by
          cases op <;> first | (cases hc; done) | (rcases ht with ht | ⟨ht, _⟩ <;> cases ht; done) | exact ⟨_, rfl⟩ | (simp only [intBin2, hz rfl]; exact ⟨_, rfl⟩)
        obtain ⟨u, hu, hr⟩ := intBin2_ok (P := P) (ρ := ρ) (X := X) hc
        exact ⟨u, ⟨_, hu⟩, hr⟩
      · cases h
  · split at h
    · rename_i hs
      cases h
      simp only [Bool.and_eq_true] at hs
      obtain ⟨⟨hs1, hs2⟩, hc⟩ := hs
      obtain ⟨l, rfl⟩ := isStrV_ok hs1 h1
      obtain ⟨m, rfl⟩ := isStrV_ok hs2 h2
      refine ⟨fun w x y => by cases op <;> simp [eqGuard], ?_⟩
      obtain ⟨c, hc⟩ : ∃ c, strBin op l m = some (.bool c) := by
        cases op <;> first | (cases hc; done) | exact ⟨_, rfl⟩
      obtain ⟨u, hu, hr⟩ := strBin_ok (P := P) (ρ := ρ) (X := X) hc
      exact ⟨u, ⟨_, hu⟩, hr⟩
    · cases h
end
end Go.Y
