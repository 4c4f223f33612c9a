/- More rules: strings, slices, structs by value, bits, calls; loops as the generator writes them. -/
import Derived.Test.YtlboeehapelabaaDoorZ4
import Derived.KernelRfl
import Derived.Laws.Strings
set_option linter.unusedVariables false
namespace Go.Z
theorem Pick.p0 {A0 : SP} {H : List SP} : Pick (A0 :: H) A0 H := .head
theorem Pick.p1 {A0 A1 : SP} {H : List SP} : Pick (A0 :: A1 :: H) A1 (A0 :: H) := .tail .p0
theorem Pick.p2 {A0 A1 A2 : SP} {H : List SP} : Pick (A0 :: A1 :: A2 :: H) A2 (A0 :: A1 :: H) := .tail .p1
theorem Pick.p3 {A0 A1 A2 A3 : SP} {H : List SP} : Pick (A0 :: A1 :: A2 :: A3 :: H) A3 (A0 :: A1 :: A2 :: H) := .tail .p2
theorem Pick.p4 {A0 A1 A2 A3 A4 : SP} {H : List SP} : Pick (A0 :: A1 :: A2 :: A3 :: A4 :: H) A4 (A0 :: A1 :: A2 :: A3 :: H) := .tail .p3
theorem Pick.p5 {A0 A1 A2 A3 A4 A5 : SP} {H : List SP} : Pick (A0 :: A1 :: A2 :: A3 :: A4 :: A5 :: H) A5 (A0 :: A1 :: A2 :: A3 :: A4 :: H) := .tail .p4
theorem Pick.p6 {A0 A1 A2 A3 A4 A5 A6 : SP} {H : List SP} : Pick (A0 :: A1 :: A2 :: A3 :: A4 :: A5 :: A6 :: H) A6 (A0 :: A1 :: A2 :: A3 :: A4 :: A5 :: H) := .tail .p5
theorem Pick.p7 {A0 A1 A2 A3 A4 A5 A6 A7 : SP} {H : List SP} : Pick (A0 :: A1 :: A2 :: A3 :: A4 :: A5 :: A6 :: A7 :: H) A7 (A0 :: A1 :: A2 :: A3 :: A4 :: A5 :: A6 :: H) := .tail .p6
theorem Pick.p8 {A0 A1 A2 A3 A4 A5 A6 A7 A8 : SP} {H : List SP} : Pick (A0 :: A1 :: A2 :: A3 :: A4 :: A5 :: A6 :: A7 :: A8 :: H) A8 (A0 :: A1 :: A2 :: A3 :: A4 :: A5 :: A6 :: A7 :: H) := .tail .p7
theorem Pick.p9 {A0 A1 A2 A3 A4 A5 A6 A7 A8 A9 : SP} {H : List SP} : Pick (A0 :: A1 :: A2 :: A3 :: A4 :: A5 :: A6 :: A7 :: A8 :: A9 :: H) A9 (A0 :: A1 :: A2 :: A3 :: A4 :: A5 :: A6 :: A7 :: A8 :: H) := .tail .p8
theorem Pick.p10 {A0 A1 A2 A3 A4 A5 A6 A7 A8 A9 B : SP} {H : List SP} : Pick (A0 :: A1 :: A2 :: A3 :: A4 :: A5 :: A6 :: A7 :: A8 :: A9 :: B :: H) B (A0 :: A1 :: A2 :: A3 :: A4 :: A5 :: A6 :: A7 :: A8 :: A9 :: H) := .tail .p9
theorem Pick.p11 {A A0 A1 A2 A3 A4 A5 A6 A7 A8 A9 B : SP} {H : List SP} : Pick (A :: A0 :: A1 :: A2 :: A3 :: A4 :: A5 :: A6 :: A7 :: A8 :: A9 :: B :: H) B (A :: A0 :: A1 :: A2 :: A3 :: A4 :: A5 :: A6 :: A7 :: A8 :: A9 :: H) := .tail .p10
theorem Pick.p12 {C A A0 A1 A2 A3 A4 A5 A6 A7 A8 A9 B : SP} {H : List SP} : Pick (C :: A :: A0 :: A1 :: A2 :: A3 :: A4 :: A5 :: A6 :: A7 :: A8 :: A9 :: B :: H) B (C :: A :: A0 :: A1 :: A2 :: A3 :: A4 :: A5 :: A6 :: A7 :: A8 :: A9 :: H) := .tail .p11
theorem Pick.p13 {D C A A0 A1 A2 A3 A4 A5 A6 A7 A8 A9 B : SP} {H : List SP} : Pick (D :: C :: A :: A0 :: A1 :: A2 :: A3 :: A4 :: A5 :: A6 :: A7 :: A8 :: A9 :: B :: H) B (D :: C :: A :: A0 :: A1 :: A2 :: A3 :: A4 :: A5 :: A6 :: A7 :: A8 :: A9 :: H) := .tail .p12
/-- Everything on the side that a region's loud operations may turn. -/
theorem Split.all {H : List SP} : Split H H [] := fun h x => by simpa using x

section
variable {P : Program} {ro : Option Nat} {n : Nat} {ops : Array Oper} {r : List Oper} {ds : List Deferred} {L : Lo} {H H' : List SP} {K : Kont}
  {T T' : TypeId} {p : String} {es : Array Edge} {g : Option (Nat × Bool)} {d b off : Nat} {l : List Value} {ty : TypeId} {fr : Nat × Nat} {sd : TypeDesc} {x y z : Operand} {v : Value}
theorem RD.nil {Hq Hw : List SP} (k : K .normal ds L (Hw ++ Hq)) : RD P ro n ops ds Hq K [] L Hw := ⟨L, .refl L, k⟩
theorem Kw.nil {Hq Hw : List SP} {R : Lo → List SP → Prop} (k : R L Hw) : Kw ds Hq K R .normal ds L Hw := ⟨rfl, k⟩
theorem Go.keep {c : Code} {L' : Lo} (s : Sub L L') (k : Go P ro n c ds L' H K) : Go P ro n c ds L H K := k.sub s
theorem Go.cond_onlyt {c : Operand} {x y : Code} {t : Bool} (hc : evalL L c = some (.bool t)) (hd : t = true) (ht : t = true → Go P ro n x ds L H K) : Go P ro n (.cond c x y) ds L H K := Go.cond hc ht (fun e => by rw [hd] at e; cases e)
theorem Go.cond_onlyf {c : Operand} {x y : Code} {t : Bool} (hc : evalL L c = some (.bool t)) (hd : t = false) (hf : t = false → Go P ro n y ds L H K) : Go P ro n (.cond c x y) ds L H K := Go.cond hc (fun e => by rw [hd] at e; cases e) hf
theorem Go.loopx {α : Type} {c : Code} {Hc : List SP} (Lx : α → Lo) (Lc : Lo) (Hx : α → List SP) (φ : α → Prop) (μ : α → Nat) (x0 : α) (h0 : φ x0) (hL : Sub L (Lx x0)) (hLc : Sub L Lc) (hH : Split H (Hx x0) Hc)
    (round : ∀ x, φ x → Go P ro n c ds (Lx x ++ Lc) (Hx x ++ Hc) (Kont.seq (fun ds' L' H' => ∃ x', φ x' ∧ μ x' < μ x ∧ ds' = ds ∧ Sub L' (Lx x' ++ Lc) ∧ ∀ h, sep H' h → sep (Hx x' ++ Hc) h) K)) : Go P ro n (.loop c) ds L H K := by
  refine Go.loop (fun x => Lx x ++ Lc) (fun x => Hx x ++ Hc) φ μ x0 h0 ?_ hH round
  intro t v hl
  have : ∀ (A B : Lo) (t : Nat), lk (A ++ B) t = (lk A t).or (lk B t) := by
    intro A B t
    induction A with
    | nil => simp [lk]
    | cons a A ih => simp only [List.cons_append, lk]; split <;> simp [ih]
  rw [this] at hl
  cases h1 : lk (Lx x0) t with
  | none => rw [h1] at hl; exact hLc t v (by simpa using hl)
  | some u => rw [h1] at hl; simp at hl; subst hl; exact hL t u h1
theorem Go.back {α : Type} {φ : α → Prop} {μ : α → Nat} {ds' : List Deferred} {x : α} {L' : Lo} {Lx : α → Lo} {Lc : Lo} {Hx : α → List SP} {Hc : List SP} (x' : α) (h : φ x') (hm : μ x' < μ x) (s : Sub L' (Lx x' ++ Lc)) (w : ∀ h, sep H' h → sep (Hx x' ++ Hc) h) :
    ∃ x', φ x' ∧ μ x' < μ x ∧ ds = ds ∧ Sub L' (Lx x' ++ Lc) ∧ ∀ h, sep H' h → sep (Hx x' ++ Hc) h := ⟨x', h, hm, rfl, s, w⟩
theorem ret_mk {fn : Func} {Post : Ending → List SP → Prop} (hd : ds = []) (hr : ResV P fn n L H v) (hp : Post (.returned v) H') (hw : ∀ h, sep H h → sep H' h) :
    ds = [] ∧ ∃ v H', ResV P fn n L H v ∧ Post (.returned v) H' ∧ ∀ h, sep H h → sep H' h := ⟨hd, v, H', hr, hp, hw⟩
theorem resc1 {fn : Func} {t k : Nat} {vs : List Value} (h : fn.results = #[.cell t T]) (e : lk L t = some (.pointer (some ⟨b, off, none⟩))) (hu : P.underlying T = some sd) (hk : sizeP P T = some k) (pk : Pick H (blk b l ty fr) H')
    (hs : scDesc sd = false) (hv : (l.drop off).take k = vs) (hl : vs.length = k) : ResV P fn n L H (.agg vs.toArray) := fun Γ F a w he hh => by
  have hg := he.getD e
  simp [results, h, hg, asAddr, loadVar_ag hu hs hk (fun j => hh.cell pk j) hv hl]
theorem Ops.split {t : Nat} {b : Bool} (h : lk L t = some (.bool b)) (kt : b = true → Ops P ro n ops r ds ((t, .bool true) :: L) H K) (kf : b = false → Ops P ro n ops r ds ((t, .bool false) :: L) H K) : Ops P ro n ops r ds L H K := by
  cases b
  · exact Ops.sub (kf rfl) (.cons h (.refl _))
  · exact Ops.sub (kt rfl) (.cons h (.refl _))
theorem RD.split {l : List (Nat × Md)} {Hq Hw : List SP} {t : Nat} {b : Bool} (h : lk L t = some (.bool b)) (kt : b = true → RD P ro n ops ds Hq K l ((t, .bool true) :: L) Hw) (kf : b = false → RD P ro n ops ds Hq K l ((t, .bool false) :: L) Hw) : RD P ro n ops ds Hq K l L Hw := by
  cases b
  · exact RD.sub (.cons h (.refl _)) (kf rfl)
  · exact RD.sub (.cons h (.refl _)) (kt rfl)
theorem Ops.split_t {t : Nat} {b : Bool} (h : lk L t = some (.bool b)) (hd : b = true) (kt : b = true → Ops P ro n ops r ds ((t, .bool true) :: L) H K) : Ops P ro n ops r ds L H K := Ops.split h kt (fun e => by rw [hd] at e; cases e)
theorem Ops.split_f {t : Nat} {b : Bool} (h : lk L t = some (.bool b)) (hd : b = false) (kt : b = false → Ops P ro n ops r ds ((t, .bool false) :: L) H K) : Ops P ro n ops r ds L H K := Ops.split h (fun e => by rw [hd] at e; cases e) kt
theorem RD.split_t {l : List (Nat × Md)} {Hq Hw : List SP} {t : Nat} {b : Bool} (h : lk L t = some (.bool b)) (hd : b = true) (kt : b = true → RD P ro n ops ds Hq K l ((t, .bool true) :: L) Hw) : RD P ro n ops ds Hq K l L Hw := RD.split h kt (fun e => by rw [hd] at e; cases e)
theorem RD.split_f {l : List (Nat × Md)} {Hq Hw : List SP} {t : Nat} {b : Bool} (h : lk L t = some (.bool b)) (hd : b = false) (kt : b = false → RD P ro n ops ds Hq K l ((t, .bool false) :: L) Hw) : RD P ro n ops ds Hq K l L Hw := RD.split h (fun e => by rw [hd] at e; cases e) kt

/-! ### Small things -/
theorem q_not_d {q : Prop} [Decidable q] {T' : TypeId} (hx : evalL L x = some (.bool (!decide q))) (hw : wants ops L ⟨some d, .unOp .not T' x, T, p, es, g⟩ = some true) (ht : Nat.blt d n = true) : QStep P n ops ⟨some d, .unOp .not T' x, T, p, es, g⟩ ds L H (.bool (decide q)) := by
  have := q_not (P := P) (H := H) (T := T) (p := p) (es := es) (g := g) (ds := ds) hx hw ht
  simpa using this
theorem i64_in {m : Int} (h : -9223372036854775808 ≤ m ∧ m ≤ 9223372036854775807) : inK .i64 m := h
theorem i32_in {m : Int} (h : -2147483648 ≤ m ∧ m ≤ 2147483647) : inK .i32 m := h
theorem u8_in {m : Int} (h : 0 ≤ m ∧ m ≤ 255) : inK .u8 m := h
theorem u16_in {m : Int} (h : 0 ≤ m ∧ m ≤ 65535) : inK .u16 m := h
theorem u32_in {m : Int} (h : 0 ≤ m ∧ m ≤ 4294967295) : inK .u32 m := h
theorem u64_in {m : Int} (h : 0 ≤ m ∧ m ≤ 18446744073709551615) : inK .u64 m := h
variable {X Y : TypeId} {k k' : IntKind} {a b' : Int}
theorem q_max {ts : Array TypeId} (hx : evalL L x = some (.int k a)) (hy : evalL L y = some (.int k b')) (hw : wants ops L ⟨some d, .call { callee := .builtin .max, args := #[x, y], argTypes := ts }, T, p, es, g⟩ = some true) (ht : Nat.blt d n = true) :
    QStep P n ops ⟨some d, .call { callee := .builtin .max, args := #[x, y], argTypes := ts }, T, p, es, g⟩ ds L H (.int k (max a b')) :=
  qpure hw ht (by simp) fun A w he => by
    have e : max a b' = if b' > a then b' else a := by omega
    simp [execOp, resolve, invoke, builtin, Builtin.max_, Builtin.max2, he.eval hx, he.eval hy, e, List.foldlM]
theorem q_min {ts : Array TypeId} (hx : evalL L x = some (.int k a)) (hy : evalL L y = some (.int k b')) (hw : wants ops L ⟨some d, .call { callee := .builtin .min, args := #[x, y], argTypes := ts }, T, p, es, g⟩ = some true) (ht : Nat.blt d n = true) :
    QStep P n ops ⟨some d, .call { callee := .builtin .min, args := #[x, y], argTypes := ts }, T, p, es, g⟩ ds L H (.int k (min a b')) :=
  qpure hw ht (by simp) fun A w he => by
    have e : min a b' = if b' < a then b' else a := by omega
    simp [execOp, resolve, invoke, builtin, Builtin.min_, Builtin.min2, he.eval hx, he.eval hy, e, List.foldlM]
/-- '<<' and '>>' by a known count. -/
theorem q_shl {m : Int} (hx : evalL L x = some (.int k a)) (hy : evalL L y = some (.int k' m)) (h0 : 0 ≤ m) (hm : m.toNat ≤ k.bits) (hb : inK k (a * 2 ^ m.toNat)) (hw : wants ops L ⟨some d, .binOp .shl X x y Y, T, p, es, g⟩ = some true) (ht : Nat.blt d n = true) : QStep P n ops ⟨some d, .binOp .shl X x y Y, T, p, es, g⟩ ds L H (.int k (a * 2 ^ m.toNat)) :=
  qpure hw ht (by simp) fun A w he => by
    have h1 : ¬ m < 0 := by omega
    have h2 : min m.toNat k.bits = m.toNat := by omega
    simp [execOp, he.eval hx, he.eval hy, eqGuard, binOp, Op.shift, h1, h2, wrap_in hb]
theorem q_shlw {m : Int} (hx : evalL L x = some (.int k a)) (hy : evalL L y = some (.int k' m)) (h0 : 0 ≤ m) (hm : m.toNat ≤ k.bits) (hw : wants ops L ⟨some d, .binOp .shl X x y Y, T, p, es, g⟩ = some true) (ht : Nat.blt d n = true) : QStep P n ops ⟨some d, .binOp .shl X x y Y, T, p, es, g⟩ ds L H (.int k (k.wrap (a * 2 ^ m.toNat))) :=
  qpure hw ht (by simp) fun A w he => by
    have h1 : ¬ m < 0 := by omega
    have h2 : min m.toNat k.bits = m.toNat := by omega
    simp [execOp, he.eval hx, he.eval hy, eqGuard, binOp, Op.shift, h1, h2]
theorem q_shr {m : Int} (hx : evalL L x = some (.int k a)) (hy : evalL L y = some (.int k' m)) (h0 : 0 ≤ m) (hm : m.toNat ≤ k.bits) (hw : wants ops L ⟨some d, .binOp .shr X x y Y, T, p, es, g⟩ = some true) (ht : Nat.blt d n = true) : QStep P n ops ⟨some d, .binOp .shr X x y Y, T, p, es, g⟩ ds L H (.int k (a / 2 ^ m.toNat)) :=
  qpure hw ht (by simp) fun A w he => by
    have h1 : ¬ m < 0 := by omega
    have h2 : min m.toNat k.bits = m.toNat := by omega
    have h3 : a.fdiv (2 ^ m.toNat) = a / 2 ^ m.toNat := Int.fdiv_eq_ediv_of_nonneg a (by have : (0 : Int) < 2 ^ m.toNat := Int.pow_pos (by omega); omega)
    simp [execOp, he.eval hx, he.eval hy, eqGuard, binOp, Op.shift, h1, h2, h3]
/-- 'x | y' where no bit is set in both: 'x' a multiple of 2^j, 'y' below it. -/
theorem or_add {j : Nat} {u v : Int} (h0 : 0 ≤ u) (h1 : (2 ^ j : Nat) ∣ u.toNat) (h2 : 0 ≤ v) (h3 : v.toNat < 2 ^ j) : (u.toNat ||| v.toNat : Nat) = u.toNat + v.toNat := by
  obtain ⟨m, hm⟩ := h1
  rw [hm]
  exact (Nat.two_pow_add_eq_or_of_lt h3 m).symm
theorem q_or_nat (hx : evalL L x = some (.int k a)) (hy : evalL L y = some (.int k b')) (ha : 0 ≤ a) (hb : 0 ≤ b') (hka : a ≤ k.max) (hkb : b' ≤ k.max) (hw : wants ops L ⟨some d, .binOp .or X x y Y, T, p, es, g⟩ = some true) (ht : Nat.blt d n = true) : QStep P n ops ⟨some d, .binOp .or X x y Y, T, p, es, g⟩ ds L H (.int k ((a.toNat ||| b'.toNat : Nat) : Int)) :=
  q_bin_int hx hy (fun w => by
    obtain ⟨u, rfl⟩ := Int.eq_ofNat_of_zero_le ha
    obtain ⟨v, rfl⟩ := Int.eq_ofNat_of_zero_le hb
    have hm : k.max < 2 ^ k.bits := by cases k <;> decide
    have hu : u < 2 ^ k.bits := by have : (u : Int) < 2 ^ k.bits := by omega
                                   exact_mod_cast this
    have hv : v < 2 ^ k.bits := by have : (v : Int) < 2 ^ k.bits := by omega
                                   exact_mod_cast this
    have hor : u ||| v < 2 ^ k.bits := Nat.or_lt_two_pow hu hv
    have hmax : ((u ||| v : Nat) : Int) ≤ k.max := by
      have hkm : ∃ j, k.max = 2 ^ j - 1 := by
        cases k
        · exact ⟨7, rfl⟩
        · exact ⟨15, rfl⟩
        · exact ⟨31, rfl⟩
        · exact ⟨63, rfl⟩
        · exact ⟨8, rfl⟩
        · exact ⟨16, rfl⟩
        · exact ⟨32, rfl⟩
        · exact ⟨64, rfl⟩
      obtain ⟨j, hj⟩ := hkm
      rw [hj] at hka hkb ⊢
      have h1 : u < 2 ^ j := by have : (u : Int) < 2 ^ j := by omega
                                exact_mod_cast this
      have h2 : v < 2 ^ j := by have : (v : Int) < 2 ^ j := by omega
                                exact_mod_cast this
      have h3 := Nat.or_lt_two_pow h1 h2
      have : ((u ||| v : Nat) : Int) < 2 ^ j := by exact_mod_cast h3
      omega
    have hmin : k.min ≤ 0 := by cases k <;> decide
    have hw := wrap_in (k := k) (n := ((u ||| v : Nat) : Int)) ⟨by omega, hmax⟩
    simp only [binOp, Op.intBits]
    simp [BitVec.toNat_or, Nat.mod_eq_of_lt hu, Nat.mod_eq_of_lt hv]
    exact hw) hw ht
end

/-! ### Strings -/
section
variable {P : Program} {ro : Option Nat} {n : Nat} {ops : Array Oper} {r : List Oper} {ds : List Deferred} {L : Lo} {H H' : List SP} {K : Kont}
  {T T' : TypeId} {p : String} {es : Array Edge} {g : Option (Nat × Bool)} {d b off : Nat} {x y z : Operand} {v : Value} {X Y : TypeId} {s t : ByteArray}
theorem q_bin_str {bo : BinOp} (hx : evalL L x = some (.string s)) (hy : evalL L y = some (.string t)) (hr : ∀ w, (Op.stringOp bo s t).run P w = .ok v w)
    (hw : wants ops L ⟨some d, .binOp bo X x y Y, T, p, es, g⟩ = some true) (ht : Nat.blt d n = true) : QStep P n ops ⟨some d, .binOp bo X x y Y, T, p, es, g⟩ ds L H v :=
  qpure hw ht (by simp) fun A w he => by
    have hg : (eqGuard bo X x y (.string s) (.string t)).run P w = .ok () w := by
      unfold eqGuard
      cases bo <;> simp
    have hb : binOp bo X (.string s) (.string t) = Op.stringOp bo s t := by cases bo <;> rfl
    simp only [execOp, he.eval hx, he.eval hy, Sem.run_bind, hg, Result.andThen_ok, hb, hr, Sem.run_pure]
/-- A string out of its bytes. -/
abbrev bs (l : List UInt8) : ByteArray := ⟨l.toArray⟩
theorem bs_toList (l : List UInt8) : (bs l).toList = l := Go.ByteArray.toList_mk l
theorem beq_dec {lx ly : List UInt8} : (lx == ly) = decide (lx = ly) := by rw [Bool.eq_iff_iff]; simp
theorem bs_data (s : ByteArray) : bs s.data.toList = s := by cases s; rfl
theorem bs_inj {l m : List UInt8} (h : bs l = bs m) : l = m := by
  have := congrArg ByteArray.toList h
  rwa [bs_toList, bs_toList] at this
theorem bs_size (l : List UInt8) : (bs l).size = l.length := by simp [ByteArray.size]
theorem bs_append (l m : List UInt8) : bs l ++ bs m = bs (l ++ m) := by
  apply ByteArray.ext; simp [bs]
theorem bs_get (l : List UInt8) (i : Nat) : (bs l)[i]? = l[i]? := by
  by_cases h : i < l.length
  · have h' : i < (bs l).size := by rw [bs_size]; exact h
    rw [getElem?_pos (bs l) i h', List.getElem?_eq_getElem h]
    simp only [bs, ByteArray.getElem_eq_getElem_data, List.getElem_toArray]
  · have h' : ¬ i < (bs l).size := by rw [bs_size]; exact h
    rw [getElem?_neg (bs l) i h', List.getElem?_eq_none (Nat.le_of_not_lt h)]
theorem bs_extract (l : List UInt8) (i j : Nat) : (bs l).extract i j = bs ((l.take j).drop i) := by
  apply ByteArray.ext
  simp [bs, ByteArray.data_extract, List.extract_toArray, List.extract_eq_take_drop, List.drop_take]
variable {lx ly : List UInt8} {i j : Int} {k k' : IntKind}
theorem q_str_eql (hx : evalL L x = some (.string (bs lx))) (hy : evalL L y = some (.string (bs ly))) (hw : wants ops L ⟨some d, .binOp .eql X x y Y, T, p, es, g⟩ = some true) (ht : Nat.blt d n = true) : QStep P n ops ⟨some d, .binOp .eql X x y Y, T, p, es, g⟩ ds L H (.bool (decide (lx = ly))) :=
  q_bin_str hx hy (fun w => by simp only [Op.stringOp, bs_toList, Sem.run_pure, beq_dec]) hw ht
theorem q_str_neq (hx : evalL L x = some (.string (bs lx))) (hy : evalL L y = some (.string (bs ly))) (hw : wants ops L ⟨some d, .binOp .neq X x y Y, T, p, es, g⟩ = some true) (ht : Nat.blt d n = true) : QStep P n ops ⟨some d, .binOp .neq X x y Y, T, p, es, g⟩ ds L H (.bool (!decide (lx = ly))) :=
  q_bin_str hx hy (fun w => by simp only [Op.stringOp, bs_toList, Sem.run_pure, beq_dec]) hw ht
theorem q_str_lss (hx : evalL L x = some (.string (bs lx))) (hy : evalL L y = some (.string (bs ly))) (hw : wants ops L ⟨some d, .binOp .lss X x y Y, T, p, es, g⟩ = some true) (ht : Nat.blt d n = true) : QStep P n ops ⟨some d, .binOp .lss X x y Y, T, p, es, g⟩ ds L H (.bool (Op.bytesLess lx ly)) :=
  q_bin_str hx hy (fun w => by simp only [Op.stringOp, bs_toList, Sem.run_pure]) hw ht
theorem q_str_geq (hx : evalL L x = some (.string (bs lx))) (hy : evalL L y = some (.string (bs ly))) (hw : wants ops L ⟨some d, .binOp .geq X x y Y, T, p, es, g⟩ = some true) (ht : Nat.blt d n = true) : QStep P n ops ⟨some d, .binOp .geq X x y Y, T, p, es, g⟩ ds L H (.bool (!Op.bytesLess lx ly)) :=
  q_bin_str hx hy (fun w => by simp only [Op.stringOp, bs_toList, Sem.run_pure]) hw ht
theorem q_str_add (hx : evalL L x = some (.string (bs lx))) (hy : evalL L y = some (.string (bs ly))) (hb : lx.length + ly.length ≤ 9223372036854775807) (hw : wants ops L ⟨some d, .binOp .add X x y Y, T, p, es, g⟩ = some true) (ht : Nat.blt d n = true) : QStep P n ops ⟨some d, .binOp .add X x y Y, T, p, es, g⟩ ds L H (.string (bs (lx ++ ly))) :=
  q_bin_str hx hy (fun w => by
    have hm : ¬ (((bs lx).size + (bs ly).size : Nat) : Int) > IntKind.i64.max := by
      rw [bs_size, bs_size]
      have : IntKind.i64.max = 9223372036854775807 := rfl
      omega
    simp only [Op.stringOp, if_neg hm, Sem.run_pure, bs_append]) hw ht
theorem q_len_s {ts : Array TypeId} {t0 : TypeId} (h0 : ts[0]? = some t0) (hu : P.underlying t0 = some .string) (hx : evalL L x = some (.string (bs lx)))
    (hw : wants ops L ⟨some d, .call { callee := .builtin .len, args := #[x], argTypes := ts }, T, p, es, g⟩ = some true) (ht : Nat.blt d n = true) :
    QStep P n ops ⟨some d, .call { callee := .builtin .len, args := #[x], argTypes := ts }, T, p, es, g⟩ ds L H (.int .i64 lx.length) := by
  have := q_len_str (P := P) (H := H) (T := T) (p := p) (es := es) (g := g) (ds := ds) h0 hu hx hw ht
  rwa [bs_size] at this
theorem q_index_s {c : UInt8} (hu : P.underlying T' = some .string) (hx : evalL L x = some (.string (bs lx))) (hy : evalL L y = some (.int k i)) (h0 : 0 ≤ i) (hc : lx[i.toNat]? = some c)
    (hw : wants ops L ⟨some d, .index T' x y, T, p, es, g⟩ = some true) (ht : Nat.blt d n = true) : QStep P n ops ⟨some d, .index T' x y, T, p, es, g⟩ ds L H (.int .u8 c.toNat) :=
  q_index_str hu hx hy h0 (by rw [bs_get]; exact hc) hw ht
/-- cutting strings. -/
theorem q_slice_str_lh {lo hi : Operand} (hu : P.underlying T' = some .string) (hx : evalL L x = some (.string (bs lx))) (hl : evalL L lo = some (.int k i)) (hh : evalL L hi = some (.int k' j)) (h0 : 0 ≤ i) (h1 : i ≤ j) (h2 : j ≤ lx.length)
    (hw : wants ops L ⟨some d, .slice T' x (some lo) (some hi) none, T, p, es, g⟩ = some true) (ht : Nat.blt d n = true) : QStep P n ops ⟨some d, .slice T' x (some lo) (some hi) none, T, p, es, g⟩ ds L H (.string (bs ((lx.take j.toNat).drop i.toNat))) :=
  qpure hw ht (by simp) fun a w he => by
    have hs := bs_size lx
    have h3 : 0 ≤ j ∧ j ≤ ((bs lx).size : Int) := by rw [hs]; omega
    have h4 : 0 ≤ i ∧ i ≤ ((j.toNat : Nat) : Int) := by omega
    simp only [execOp, Option.map_some, Option.map_none, Instr.sliceAt, he.eval hx, he.eval hl, he.eval hh, Sem.run_bind, underlying, run_program, Result.andThen_ok, hu, Sem.run_pure, Instr.slice, Option.isSome_none, Bool.false_eq_true, if_false, Instr.sliceBounds, Instr.sliceBound, asIntOf]
    simp only [Sem.run_ite, Sem.run_pure, h3, h4, and_self, if_true, Result.andThen_ok, bs_extract]
theorem q_slice_str_l {lo : Operand} (hu : P.underlying T' = some .string) (hx : evalL L x = some (.string (bs lx))) (hl : evalL L lo = some (.int k i)) (h0 : 0 ≤ i) (h1 : i ≤ lx.length)
    (hw : wants ops L ⟨some d, .slice T' x (some lo) none none, T, p, es, g⟩ = some true) (ht : Nat.blt d n = true) : QStep P n ops ⟨some d, .slice T' x (some lo) none none, T, p, es, g⟩ ds L H (.string (bs (lx.drop i.toNat))) :=
  qpure hw ht (by simp) fun a w he => by
    have hs := bs_size lx
    have h4 : 0 ≤ i ∧ i ≤ ((bs lx).size : Int) := by rw [hs]; omega
    have e : (lx.take (bs lx).size).drop i.toNat = lx.drop i.toNat := by rw [hs, List.take_length]
    simp only [execOp, Option.map_some, Option.map_none, Instr.sliceAt, he.eval hx, he.eval hl, Sem.run_bind, underlying, run_program, Result.andThen_ok, hu, Sem.run_pure, Instr.slice, Option.isSome_none, Bool.false_eq_true, if_false, Instr.sliceBounds, Instr.sliceBound, asIntOf]
    simp only [Sem.run_pure, h4, and_self, if_true, Result.andThen_ok, bs_extract, e]
theorem q_slice_str_h {hi : Operand} (hu : P.underlying T' = some .string) (hx : evalL L x = some (.string (bs lx))) (hh : evalL L hi = some (.int k j)) (h0 : 0 ≤ j) (h1 : j ≤ lx.length)
    (hw : wants ops L ⟨some d, .slice T' x none (some hi) none, T, p, es, g⟩ = some true) (ht : Nat.blt d n = true) : QStep P n ops ⟨some d, .slice T' x none (some hi) none, T, p, es, g⟩ ds L H (.string (bs (lx.take j.toNat))) :=
  qpure hw ht (by simp) fun a w he => by
    have hs := bs_size lx
    have h3 : 0 ≤ j ∧ j ≤ ((bs lx).size : Int) := by rw [hs]; omega
    simp only [execOp, Option.map_some, Option.map_none, Instr.sliceAt, he.eval hx, he.eval hh, Sem.run_bind, underlying, run_program, Result.andThen_ok, hu, Sem.run_pure, Instr.slice, Option.isSome_none, Bool.false_eq_true, if_false, Instr.sliceBounds, Instr.sliceBound, asIntOf]
    simp only [Sem.run_pure, h3, and_self, if_true, Result.andThen_ok, bs_extract, List.drop_zero]
end
/-! ### Calls, as the generator writes them -/
def Callable (P : Program) (f : FuncId) : Prop := ∃ fn, P.funcs[f]? = some fn ∧ fn.body.isNone = false ∧ (fn.name == "runtime.NumGoroutine") = false
section
variable {P : Program} {ro : Option Nat} {n : Nat} {ops : Array Oper} {r : List Oper} {ds : List Deferred} {L : Lo} {H : List SP} {K : Kont}
theorem Ops.call' {d : Option Nat} {f : FuncId} {xs : Array Operand} {ts : Array TypeId} {T : TypeId} {p : String} {es : Array Edge} {g : Option (Nat × Bool)} {vs : List Value} {Hc Hr : List SP} {Post : Ending → List SP → Prop}
    (hc : Callable P f) (hw : wants ops L ⟨d, .call { callee := .value (.func f), args := xs, argTypes := ts }, T, p, es, g⟩ = some true) (ht : dstOk d n = true)
    (hx : evalAll L xs.toList = some vs) (spec : Fn P f vs Hc Post) (s : Split H Hc Hr)
    (k : ∀ e Hc', Post e Hc' → After P ro n ops r d ds L Hr K e Hc') : Ops P ro n ops (⟨d, .call { callee := .value (.func f), args := xs, argTypes := ts }, T, p, es, g⟩ :: r) ds L H K := by
  obtain ⟨fn, h1, h2, h3⟩ := hc
  exact Ops.call h1 h2 h3 hw ht hx spec s k
end
end Go.Z
