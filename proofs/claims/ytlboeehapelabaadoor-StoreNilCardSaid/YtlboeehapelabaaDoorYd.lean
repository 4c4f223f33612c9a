/- Loud operations: append, copy, strings to bytes. -/
import Derived.Test.YtlboeehapelabaaDoorYc
set_option linter.unusedVariables false
set_option linter.unusedSimpArgs false
namespace Go.Y
open Go.Z
noncomputable section
def live (hp : Mem) : List Nat → Bool
  | [] => true
  | id :: l => match hp.t.get id with | some _ => live hp l | none => false
def strCells (s : List UInt8) : List V := s.map fun c => V.int .u8 (.ofNat c.toNat)
section
variable {P : Program} {ro : Option Nat} {n : Nat} {ops : Array Oper} {r : List Oper} {ds : List Deferred} {L : Lo} {H H' : List SP} {K : Kont} {ρ : Rho} {W : RW} {G : GV} {env : Tr V} {hp hp' : Mem}
  {d : Nat} {T T' X Y t xt e sz by_ : TypeId} {p : String} {es : Array Edge} {g : Option (Nat × Bool)} {op : Op} {v : V} {u : Value} {x y z : Operand} {A : Option Addr} {m c : Nat} {cells : List Value} {C : SP}
theorem Hold_drop {B : SP} {h : Hp} (hx : sep (B :: H) h) : sep H h := by
  obtain ⟨h1, h2, d, rfl, _, h⟩ := hx
  exact sep_up H d h
theorem live_ok : ∀ {rd : List Nat}, live hp rd = true → ∀ id ∈ rd, ∃ ch, hp.t.get id = some ch
  | [], _, id, hm => by cases hm
  | i :: l, h, id, hm => by
    simp only [live] at h
    split at h
    · rename_i ch hc
      cases hm with
      | head => exact ⟨ch, hc⟩
      | tail _ hm => exact live_ok h id hm
    · cases h
theorem live_holds (hH : HR ρ hp W) {rd : List Nat} (h : live hp rd = true) {n : Nat} (hn : hp.n ≤ n) : Holds W (spl n W) rd := fun id hm => by
  obtain ⟨ch, hc⟩ := live_ok h id hm
  obtain ⟨b, o, hw, _⟩ := hH.rel id ch hc
  exact ⟨b, o, _, hw, spl_pick (Nat.lt_of_lt_of_le (hH.lt hc) hn) hw⟩
theorem Holds.tail {rd : List Nat} {B : SP} (h : Holds W H rd) : Holds W (B :: H) rd := fun id hm => let ⟨b, o, H', h1, h2⟩ := h id hm; ⟨b, o, _, h1, .tail h2⟩
theorem strCells_ok (s : List UInt8) : RL ρ (strCells s) (s.map fun c => Value.int .u8 (c.toNat : Int)) := by
  induction s with
  | nil => exact .nil
  | cons a s ih => exact .cons rfl ih
theorem RdA.pre (h : RdA C A cells) (k : Nat) : RdA C A (cells.take k) := fun hp hc => by
  rcases h hp hc with h | ⟨b, off, l, ty, fr, h1, h2, h3⟩
  · left; simp [h]
  · right
    refine ⟨b, off, l, ty, fr, h1, h2, ?_⟩
    have : (l.drop off).take (cells.take k).length = ((l.drop off).take cells.length).take k := by
      rw [List.take_take, List.length_take]
    rw [this, h3]
/-- What stands behind an append. -/
theorem app_close {l : List Oper} {h0 : Mem} {W0 : RW} {vs : List V} {k0 : Nat} {outs : List (V × Mem)} {sz0 : Nat} {dd : Nat} (hH0 : HR ρ h0 W0) (hv : RL ρ vs cells) (hlen : cells.length = k0 * sz0) (hpos : 0 < k0) (hsz : 0 < sz0)
    (h : one (.sl h0.n 0 0 k0 none) (h0.newS (.cells vs e sz0)) = some outs) (hst : Stay hp W W0 ∧ h0.ro = hp.ro) (k : Cont P ro n ops r ds L K ρ hp W (some dd) outs) (A : Option Addr) (c : Nat) :
    Ops P ro n ops r ds ((dd, .slice A k0 c) :: L) (Own e sz0 A k0 c cells :: spl h0.n W0) K := by
  obtain ⟨hp', h1, rfl⟩ := one_ok h
  obtain ⟨hs, rfl⟩ := newS_ok h1
  have hne : cells ≠ [] := by
    rintro rfl
    have : 0 < k0 * sz0 := Nat.mul_pos hpos hsz
    simp at hlen; omega
  exact own_close (l := r) hH0 hs hv (.inl hne) fun b W' hA hm hH' hst' => by
    subst hA
    exact k _ (List.mem_singleton.2 rfl) _ W' _ (rho_new hH0 _) hH' ⟨b, c, upd_same, rfl, hm⟩ hst.2 (fun j hj => (hst' j (by rw [hst.2]; exact hj)).trans (hst.1 j hj))
def lAppend (P : Program) (G : GV) (env : Tr V) (hp : Mem) (t xt : TypeId) (x y : Operand) : Option (List (V × Mem)) :=
  match P.underlying t with
  | some (.slice e) => match sizeP P e, bytesP P e, zeroV P e, evO G env x with
    | some sz, some by_, some z, some a => match Nat.blt 0 sz, Nat.blt 0 by_, Nat.beq (cellsV z).length sz, dstOf hp e sz a with
      | true, true, true, some (r0, m, h0, _) => match P.underlying xt, evO G env y with
        | some .string, some (.str s) => match Nat.beq sz 1, Nat.ble ((m + s.length) * by_) 140737488355328, Nat.blt 0 (m + s.length) with
          | true, true, true => one (.sl h0.n 0 0 (m + s.length) none) (h0.newS (.cells (r0 ++ strCells s) e sz))
          | _, _, _ => none
        | some (.slice _), some b => match elemsV h0 sz b, lenV b with
          | some (new, rd), some k => match live h0 rd, allScal new, Nat.ble ((m + k) * by_) 140737488355328, Nat.blt 0 (m + k) with
            | true, true, true, true => one (.sl h0.n 0 0 (m + k) none) (h0.newS (.cells (r0 ++ new) e sz))
            | _, _, _, _ => none
          | _, _ => none
        | some (.int _), some (.int _ (.ofNat k)) => match allScal (cellsV z), Nat.ble ((m + k) * by_) 140737488355328, Nat.blt 0 (m + k) with
          | true, true, true => one (.sl h0.n 0 0 (m + k) none) (h0.newS (.cells (r0 ++ flatV k (cellsV z)) e sz))
          | _, _, _ => none
        | _, _ => none
      | _, _, _, _ => none
    | _, _, _, _ => none
  | _ => none
theorem lAppend_ok (hG : GOk ρ G) (hE : RE ρ env L) (hH : HR ρ hp W) (hw : wants ops L ⟨some d, .call { callee := .builtin .append, args := #[x, y], argTypes := #[t, xt] }, T, p, es, g⟩ = some true) (ht : Nat.blt d n = true) {outs : List (V × Mem)} (h : lAppend P G env hp t xt x y = some outs) (k : Cont P ro n ops r ds L K ρ hp W (some d) outs) :
    Ops P ro n ops (⟨some d, .call { callee := .builtin .append, args := #[x, y], argTypes := #[t, xt] }, T, p, es, g⟩ :: r) ds L (spl hp.n W) K := by
  unfold lAppend at h
  split at h
  · rename_i e hT
    split at h
    · rename_i sz by_ z a hsz hby hz hx
      split at h
      · rename_i r0 m h0 idk hb1 hb2 hb3 hdst
        have hsz0 := blt_tt hb1
        have hb3 := beq_tt hb3
        obtain ⟨zr, hzr, hzv⟩ := zeroV_ok (ρ := ρ) hz
        obtain ⟨zc, hc1, hc2⟩ := cellsV_ok hzv
        have hzs : zr.cells.size = sz := by rw [hc1]; simp [hc2.length, hb3]
        have hzl : zr.cells.toList = zc := by rw [hc1]
        obtain ⟨ux, hux, hvx⟩ := evO_ok hG hE hx
        obtain ⟨A, c, W0, cells, rfl, hH0, hn0, hr0, hcl, _, hst, hsplit⟩ := dstOf_ok hH hvx hdst hsz0
        refine Ops.weak ?_ hsplit
        rw [← hn0]
        split at h
        · rename_i s hxt hy
          split at h
          · rename_i hs1 hbd hps
            have hs1 := beq_tt hs1
            subst hs1
            obtain ⟨uy, huy, hvy⟩ := evO_ok hG hE hy
            cases hvy
            refine Ops.append_str hT hxt hsz hby hzr hzs hb2 hux huy Pick.head rfl (Nat.le_of_ble_eq_true hbd) hw ht fun A' c' => ?_
            exact app_close (l := r) hH0 (hr0.append (strCells_ok s)) (by simp [hcl]) (blt_tt hps) hsz0 h hst k A' c'
          · cases h
        · rename_i e' b hxt hy
          split at h
          · rename_i new rd kk hel hlen
            split at h
            · rename_i hlv hsc hbd hps
              obtain ⟨uy, huy, hvy⟩ := evO_ok hG hE hy
              obtain ⟨B, len, cap, nw, rfl, h1, h2, h3, h4⟩ := elems_ok hH0 hvy hel
              have hlk : len = kk := by
                unfold lenV at hlen
                split at hlen
                · cases hlen; obtain ⟨_, _, _, he, _⟩ := hvy; cases he; rfl
                · cases hlen; cases hvy; rfl
                · cases hlen; obtain ⟨_, _, he⟩ := hvy; cases he; rfl
                · cases hlen
              subst hlk
              obtain ⟨C, H2, pk2, hR⟩ := h4 _ (Holds.tail (B := Own e sz A m c cells) (live_holds hH0 hlv (Nat.le_refl _)))
              refine Ops.append hT hxt hsz hby hzr hzs hb2 hux huy Pick.head pk2 hR h2 (allScal_ok h1 hsc) (Nat.le_of_ble_eq_true hbd) hw ht fun A' c' => ?_
              exact app_close (l := r) hH0 (hr0.append h1) (by simp [hcl, h2, Nat.add_mul]) (blt_tt hps) hsz0 h hst k A' c'
            · cases h
          · cases h
        · rename_i ki kx kn hxt hy
          split at h
          · rename_i hsc hbd hps
            obtain ⟨uy, huy, hvy⟩ := evO_ok hG hE hy
            cases hvy
            have := Ops.append_zeros (i := Int.ofNat kn) hT hxt hsz hby hzr hzs hb2 hb1 (by rw [hzl]; exact allScal_ok hc2 hsc) hux huy (by simp) Pick.head (by simpa using Nat.le_of_ble_eq_true hbd) hw ht
              (r := r) (ro := ro) (K := K) (H' := spl h0.n W0) (cells := cells) (fun A' c' => by
                simp only [Int.ofNat_eq_natCast, Int.toNat_natCast, hzl]
                exact app_close (l := r) hH0 (hr0.append (hc2.flat kn)) (by simp [hcl, hc2.length, hb3, Nat.add_mul]) (blt_tt hps) hsz0 h hst k A' c')
            exact this
          · cases h
        · cases h
      · cases h
    · cases h
  · cases h
/-- bytes to bytes of the same type: the memory is marked behind its end, nothing else -/
def lSame (P : Program) (hp : Mem) (S D : TypeId) (x : Option V) : Option (List (V × Mem)) :=
  match x, P.underlying S, P.underlying D, Nat.beq S D with
  | some (.sl id i off len cap), some (.slice _), some (.slice e), true => match P.underlying e, hp.t.get id with
    | some (.int .u8), some (.cells l ty s) => one (.sl id i off len cap) (hp.putS id (some (.cells l ty s)))
    | _, _ => none
  | _, _, _, _ => none
def lConv (P : Program) (G : GV) (env : Tr V) (hp : Mem) (S D : TypeId) (x : Operand) : Option (List (V × Mem)) :=
  match P.underlying S, P.underlying D, evO G env x with
  | some .string, some (.slice e), some (.str s) => match P.underlying e with
    | some (.int .u8) => match s with
      | [] => some [(.sle, hp)]
      | s => one (.sl hp.n 0 0 s.length none) (hp.newS (.cells (strCells s) e 1))
    | _ => none
  | _, _, _ => none
theorem lConv_ok (hG : GOk ρ G) (hE : RE ρ env L) (hH : HR ρ hp W) (hw : wants ops L ⟨some d, .convert X Y x, T, p, es, g⟩ = some true) (ht : Nat.blt d n = true) {outs : List (V × Mem)} (h : lConv P G env hp X Y x = some outs) (k : Cont P ro n ops r ds L K ρ hp W (some d) outs) :
    Ops P ro n ops (⟨some d, .convert X Y x, T, p, es, g⟩ :: r) ds L (spl hp.n W) K := by
  unfold lConv at h
  split at h
  · rename_i e s hS hD hx
    obtain ⟨ux, hux, hvx⟩ := evO_ok hG hE hx
    cases hvx
    split at h
    · rename_i hE'
      split at h
      · cases h
        refine Ops.conv_sb hS hD hE' hux hw ht fun A c => ?_
        refine Ops.weak ?_ (fun x hx => Hold_drop hx)
        exact k _ (List.mem_singleton.2 rfl) ρ W _ (Rho.le_refl _) hH ⟨A, c, rfl⟩ rfl .refl
      · rename_i hne
        refine Ops.conv_sb hS hD hE' hux hw ht fun A c => ?_
        have hl : 0 < s.length := by cases s with | nil => exact absurd rfl hne | cons => simp
        exact app_close (l := r) hH (strCells_ok s) (by simp) hl (by omega) h ⟨.refl, rfl⟩ k A c
    · cases h
  · cases h
end
end
end Go.Y
