/- Loud operations: new memory, stores, slices. -/
import Derived.Test.YtlboeehapelabaaDoorYa
set_option linter.unusedVariables false
set_option linter.unusedSimpArgs false
namespace Go.Y
open Go.Z
noncomputable section
def Mem.newS (hp : Mem) (ch : Chunk) : Option Mem := match small hp.n with | true => some (hp.new ch) | false => none
def inN (x : Nat) : List Nat → Bool
  | [] => false
  | y :: l => match Nat.beq y x with | true => true | false => inN x l
theorem inN_no {x : Nat} : ∀ {l : List Nat}, inN x l = false → ∀ y ∈ l, y ≠ x
  | [], _, y, h => by cases h
  | z :: l, h, y, hy => by
    simp only [inN] at h
    split at h
    · cases h
    · rename_i hz
      cases hy with
      | head => exact beq_ff hz
      | tail _ hy => exact inN_no h y hy
def Mem.putS (hp : Mem) (id : Nat) (ch : Option Chunk) : Option Mem := match small id, inN id hp.ro with | true, false => some (hp.put id ch) | _, _ => none
section
variable {P : Program} {ro : Option Nat} {n : Nat} {ops : Array Oper} {r : List Oper} {ds : List Deferred} {L : Lo} {H H' : List SP} {K : Kont} {ρ : Rho} {W : RW} {G : GV} {env : Tr V} {hp hp' : Mem}
  {d : Nat} {T T' X Y t xt e sz by_ : TypeId} {p : String} {es : Array Edge} {g : Option (Nat × Bool)} {op : Op} {v : V} {u : Value} {x y z : Operand} {A : Option Addr} {m c : Nat} {cells : List Value}
theorem newS_ok {ch : Chunk} (h : hp.newS ch = some hp') : small hp.n = true ∧ hp' = hp.new ch := by
  unfold Mem.newS at h; split at h <;> cases h; rename_i h; exact ⟨h, rfl⟩
theorem putS_ok {ch : Option Chunk} {id : Nat} (h : hp.putS id ch = some hp') : small id = true ∧ hp' = hp.put id ch := by
  unfold Mem.putS at h; split at h
  · rename_i h1 h2; cases h; exact ⟨h1, rfl⟩
  · cases h
theorem putS_ro {ch : Option Chunk} {id : Nat} (h : hp.putS id ch = some hp') : ∀ j ∈ hp.ro, j ≠ id := by
  unfold Mem.putS at h; split at h
  · rename_i h1 h2; exact inN_no h2
  · cases h
/-- what must stay stays -/
def Stay (hp : Mem) (W W' : RW) : Prop := ∀ id ∈ hp.ro, W' id = W id
theorem Stay.refl {W : RW} : Stay hp W W := fun _ _ => rfl
theorem Stay.put {W : RW} {id : Nat} {x : Option (Nat × Obj)} (h : ∀ j ∈ hp.ro, j ≠ id) : Stay hp W (upd W id x) := fun j hj => upd_other (h j hj)
theorem Stay.new {W : RW} {x : Option (Nat × Obj)} (hH : HR ρ hp W) : Stay hp W (upd W hp.n x) := fun j hj => upd_other (Nat.ne_of_lt (hH.rol j hj))
theorem Ops.open_own {l : List Oper} (hne : cells ≠ [] ∨ c ≠ 0) (k : ∀ b junk fr, A = some ⟨b, 0, none⟩ → cells.length = m * sz → (cells ++ junk).length = c * sz → m ≤ c → FrOk fr (c * sz) → Ops P ro n ops l ds L (blk b (cells ++ junk) e fr :: H) K) :
    Ops P ro n ops l ds L (Own e sz A m c cells :: H) K := by
  intro Γ F a w Q he hh hq
  obtain ⟨h1, h2, d, eh, ho, r⟩ := hh.pick Pick.head
  rcases ho with ⟨_, _, h3, h4, _⟩ | ⟨b, junk, fr, h3, h4, h5, h6, h7, h8⟩
  · rcases hne with hne | hne
    · exact absurd h4 hne
    · exact absurd h3 hne
  · exact k b junk fr h3 h4 h5 h6 h7 Γ F a w Q he ⟨hh.os, hh.tape, hh.output, by rw [eh]; exact star_left_comm ⟨h1, h2, d, rfl, h8, r⟩⟩ hq
/-- An owned slice becomes a numbered block. -/
theorem own_close {l : List Oper} {vs : List V} (hH : HR ρ hp W) (hs : small hp.n = true) (hv : RL ρ vs cells) (hne : cells ≠ [] ∨ c ≠ 0)
    (k : ∀ b W' , A = some ⟨b, 0, none⟩ → m ≤ c → HR (upd ρ hp.n (some (b, c))) (hp.new (.cells vs e sz)) W' → Stay hp W W' → Ops P ro n ops l ds L (spl (hp.n + 1) W') K) :
    Ops P ro n ops l ds L (Own e sz A m c cells :: spl hp.n W) K := by
  refine Ops.open_own hne fun b junk fr hA h1 h2 h3 h4 => ?_
  refine Ops.weak ?_ (fun x hx => spl_new (b := b) (o := .cells (cells ++ junk).toArray e fr) x hx)
  refine k b _ hA h3 (hH.new hs ?_) (Stay.new hH)
  exact ⟨c, cells, junk, fr, upd_same, hv.mono (rho_new hH _), rfl, h2, by rw [h2]; exact h4⟩
/-- A numbered block as an owned slice. -/
theorem own_of {l : List V} {id ty s len : Nat} (hH : HR ρ hp W) (hc : hp.t.get id = some (.cells l ty s)) (hlen : len * s ≤ l.length) (hpos : 0 < s) :
    ∃ b c, ρ id = some (b, c) ∧ id < hp.n ∧ len ≤ c ∧ ∃ rl, RL ρ (l.take (len * s)) rl ∧ ∀ x, sep (spl hp.n W) x → sep (Own ty s (some ⟨b, 0, none⟩) len c rl :: spl hp.n (upd W id none)) x := by
  obtain ⟨b, c, rl, junk, fr, hW, hr, hl, h4, h5⟩ := hH.cells hc
  have hll := hl.length
  have hle : len ≤ c := by
    have h6 : len * s ≤ c * s := by
      rw [← h4]; simp; omega
    exact Nat.le_of_mul_le_mul_right h6 hpos
  refine ⟨b, c, hr, hH.lt hc, hle, rl.take (len * s), hl.take _, fun x hx => ?_⟩
  refine star_mono (fun y hy => ?_) (fun _ h => h) (spl_pick (hH.lt hc) hW x hx)
  refine .inr ⟨b, rl.drop (len * s) ++ junk, fr, rfl, by simp; omega, ?_, hle, by rw [← h4]; exact h5, ?_⟩
  · rw [← h4]; simp; omega
  · have : rl.take (len * s) ++ (rl.drop (len * s) ++ junk) = rl ++ junk := by rw [← List.append_assoc, List.take_append_drop]
    rw [this]; exact hy
/-- A block of its own becomes numbered. -/
theorem blk_new {l : List Oper} {vs : List V} {us : List Value} {b ty s c : Nat} (hH : HR ρ hp W) (hs : small hp.n = true) (hv : RL ρ vs us) (hl : us.length = c * s)
    (k : ∀ W', HR (upd ρ hp.n (some (b, c))) (hp.new (.cells vs ty s)) W' → Stay hp W W' → Ops P ro n ops l ds L (spl (hp.n + 1) W') K) :
    Ops P ro n ops l ds L (blk b us ty :: spl hp.n W) K := by
  refine Ops.weak ?_ (fun x hx => spl_new (b := b) (o := .cells us.toArray ty) x hx)
  refine k _ (hH.new hs ?_) (Stay.new hH)
  exact ⟨c, us, [], (0, 0), upd_same, hv.mono (rho_new hH _), by simp, by simpa using hl, .zero⟩
/-- What follows behind a loud operation. -/
def Cont (P : Program) (ro : Option Nat) (n : Nat) (ops : Array Oper) (r : List Oper) (ds : List Deferred) (L : Lo) (K : Kont) (ρ : Rho) (hp : Mem) (W : RW) (dd : Option Nat) (outs : List (V × Mem)) : Prop :=
  ∀ q ∈ outs, ∀ ρ' W' u, ρ.le ρ' → HR ρ' q.2 W' → R ρ' q.1 u → q.2.ro = hp.ro → Stay hp W W' → Ops P ro n ops r ds (putL dd u L) (spl q.2.n W') K
def one (v : V) (hp : Option Mem) : Option (List (V × Mem)) := match hp with | some h => some [(v, h)] | none => none
theorem one_ok {q : Option Mem} {outs : List (V × Mem)} (h : one v q = some outs) : ∃ hp', q = some hp' ∧ outs = [(v, hp')] := by
  unfold one at h; split at h <;> cases h; exact ⟨_, rfl, rfl⟩
def lAlloc (P : Program) (hp : Mem) (t : TypeId) : Option (List (V × Mem)) :=
  match zeroV P t with
  | some z => one (.ptr hp.n 0) (hp.newS (.cells (cellsV z) t (cellsV z).length))
  | none => none
theorem lAlloc_ok (hH : HR ρ hp W) (hw : wants ops L ⟨some d, .alloc T', T, p, es, g⟩ = some true) (ht : Nat.blt d n = true) {outs : List (V × Mem)} (h : lAlloc P hp T' = some outs) (k : Cont P ro n ops r ds L K ρ hp W (some d) outs) :
    Ops P ro n ops (⟨some d, .alloc T', T, p, es, g⟩ :: r) ds L (spl hp.n W) K := by
  unfold lAlloc at h
  split at h
  · rename_i z hz
    obtain ⟨hp', h1, rfl⟩ := one_ok h
    obtain ⟨hs, rfl⟩ := newS_ok h1
    obtain ⟨zr, hzr, hzv⟩ := zeroV_ok (ρ := ρ) hz
    obtain ⟨us, hc1, hc2⟩ := cellsV_ok hzv
    refine Ops.alloc hzr hw ht fun b => ?_
    rw [hc1, List.toList_toArray]
    exact blk_new (c := 1) hH hs hc2 (by rw [hc2.length]; omega) fun W' hH' hst => k _ (List.mem_singleton.2 rfl) _ W' _ (rho_new hH _) hH' ⟨b, 1, upd_same, rfl⟩ rfl hst
  · cases h
def lBox (G : GV) (env : Tr V) (hp : Mem) (t : TypeId) (x : Operand) : Option (List (V × Mem)) :=
  match evO G env x with
  | some v => one (.ptr hp.n 0) (hp.newS (.cells (cellsV v) t (cellsV v).length))
  | none => none
theorem lBox_ok (hG : GOk ρ G) (hE : RE ρ env L) (hH : HR ρ hp W) (hw : wants ops L ⟨some d, .box T' x, T, p, es, g⟩ = some true) (ht : Nat.blt d n = true) {outs : List (V × Mem)} (h : lBox G env hp T' x = some outs) (k : Cont P ro n ops r ds L K ρ hp W (some d) outs) :
    Ops P ro n ops (⟨some d, .box T' x, T, p, es, g⟩ :: r) ds L (spl hp.n W) K := by
  unfold lBox at h
  split at h
  · rename_i z hz
    obtain ⟨hp', h1, rfl⟩ := one_ok h
    obtain ⟨hs, rfl⟩ := newS_ok h1
    obtain ⟨zr, hzr, hzv⟩ := evO_ok hG hE hz
    obtain ⟨us, hc1, hc2⟩ := cellsV_ok hzv
    refine Ops.box hzr hw ht fun b => ?_
    rw [hc1, List.toList_toArray]
    exact blk_new (c := 1) hH hs hc2 (by rw [hc2.length]; omega) fun W' hH' hst => k _ (List.mem_singleton.2 rfl) _ W' _ (rho_new hH _) hH' ⟨b, 1, upd_same, rfl⟩ rfl hst
  · cases h
def lStore (P : Program) (G : GV) (env : Tr V) (hp : Mem) (t : TypeId) (x y : Operand) : Option (List (V × Mem)) :=
  match evO G env x, evO G env y with
  | some (.ptr id off), some v => match hp.t.get id, sizeP P t with
    | some (.cells l ty s), some k => match Nat.beq (cellsV v).length k, allScal (cellsV v), overV l off (cellsV v) with
      | true, true, some l' => one .und (hp.putS id (some (.cells l' ty s)))
      | _, _, _ => none
    | _, _ => none
  | _, _ => none
theorem lStore_ok (hG : GOk ρ G) (hE : RE ρ env L) (hH : HR ρ hp W) (hw : wants ops L ⟨none, .store T' x y, T, p, es, g⟩ = some true) {outs : List (V × Mem)} (h : lStore P G env hp T' x y = some outs) (k : Cont P ro n ops r ds L K ρ hp W none outs) :
    Ops P ro n ops (⟨none, .store T' x y, T, p, es, g⟩ :: r) ds L (spl hp.n W) K := by
  unfold lStore at h
  split at h
  · rename_i id off v hx hy
    split at h
    · rename_i l ty s kk hc hk
      split at h
      · rename_i l' hsz hsc ho
        obtain ⟨hp', h1, rfl⟩ := one_ok h
        have hro := putS_ro h1
        obtain ⟨hs, rfl⟩ := putS_ok h1
        have hsz := beq_tt hsz
        obtain ⟨b, c, rl, junk, fr, hW, hr, hl, h4, h5⟩ := hH.cells hc
        obtain ⟨ux, hux, b', c', hr', rfl⟩ := evO_ok hG hE hx
        rw [hr] at hr'; cases hr'
        obtain ⟨uy, huy, hvy⟩ := evO_ok hG hE hy
        obtain ⟨us, hc1, hc2⟩ := cellsV_ok hvy
        obtain ⟨h6, h7, h8⟩ := overV_ok ho hl hc2
        have hul : us.length = kk := by rw [hc2.length, hsz]
        refine Ops.storev hk hux huy (by rw [hc1]; simpa using hul) (by rw [hc1]; simpa using allScal_ok hc2 hsc) (spl_pick (hH.lt hc) hW) (by simp; omega) (fun j hj => h5.2 _ (by simp; omega)) hw ?_
        rw [hc1, List.toList_toArray]
        have e1 : putAt (rl ++ junk) off us = putAt rl off us ++ junk := by
          unfold putAt
          rw [List.take_append_of_le_length (by omega), List.drop_append_of_le_length (by omega)]
          simp
        rw [e1]
        refine Ops.weak ?_ (fun x hx => spl_put (hH.lt hc) x hx)
        rw [upd_upd]
        refine k _ (List.mem_singleton.2 rfl) ρ _ undef (Rho.le_refl _) (hH.put hs ?_) rfl rfl (Stay.put hro)
        refine ⟨c, putAt rl off us, junk, fr, hr, h6, rfl, ?_, ?_⟩
        · rw [← h4]; simp [putAt_length h7]
        · rw [show (putAt rl off us ++ junk).length = (rl ++ junk).length by simp [putAt_length h7]]; exact h5
      · cases h
    · cases h
  · cases h
end
end
end Go.Y
