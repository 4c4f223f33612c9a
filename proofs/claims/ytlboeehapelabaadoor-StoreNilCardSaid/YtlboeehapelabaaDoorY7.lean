/- Quiet operations that look at memory, and the rest: soundness. -/
import Derived.Test.YtlboeehapelabaaDoorY6
set_option linter.unusedVariables false
set_option linter.unusedSimpArgs false
namespace Go.Y
open Go.Z
noncomputable section
section
variable {P : Program} {n : Nat} {ops : Array Oper} {ds : List Deferred} {L : Lo} {ρ : Rho} {W : RW} {G : GV} {env : Tr V} {hp : Mem}
  {d : Nat} {T T' X Y : TypeId} {p : String} {es : Array Edge} {g : Option (Nat × Bool)} {op : Op} {v : V} {u : Value} {x y z : Operand}
def Holds (W : RW) (H : List SP) (rd : List Nat) : Prop := ∀ id ∈ rd, ∃ b ob H', W id = some (b, ob) ∧ Pick H (pt b ob) H'
theorem HR.cells (hH : HR ρ hp W) {id ty sz : Nat} {l : List V} (e : hp.t.get id = some (.cells l ty sz)) :
    ∃ b c rl junk fr, W id = some (b, .cells (rl ++ junk).toArray ty fr) ∧ ρ id = some (b, c) ∧ RL ρ l rl ∧ (rl ++ junk).length = c * sz ∧ FrOk fr (rl ++ junk).length := by
  obtain ⟨b, o, h1, c, rl, junk, fr, h2, h3, rfl, h4, h5⟩ := hH.rel id _ e
  exact ⟨b, c, rl, junk, fr, h1, h2, h3, h4, h5⟩
theorem drop_take_app {α : Type} {a b : List α} {off k : Nat} (h : off + k ≤ a.length) : ((a ++ b).drop off).take k = (a.drop off).take k := by
  rw [List.drop_append_of_le_length (by omega), List.take_append_of_le_length (by simp; omega)]
theorem getA {α : Type} {a b : List α} {i : Nat} {x : α} (h : a[i]? = some x) : (a ++ b)[i]? = some x := by
  have : i < a.length := by
    rcases Nat.lt_or_ge i a.length with h' | h'
    · exact h'
    · rw [List.getElem?_eq_none h'] at h; cases h
  rw [List.getElem?_append_left this]; exact h
theorem qLoad_ok (hH : HR ρ hp W) (hw : wants ops L ⟨some d, .load T' x, T, p, es, g⟩ = some true) (ht : Nat.blt d n = true) {a : V} {rd : List Nat} (hx : evalL L x = some u) (hu : R ρ a u) (h : qLoad P hp T' a = some (v, rd)) :
    QOk P n ops ⟨some d, .load T' x, T, p, es, g⟩ ds L ρ W v rd := by
  unfold qLoad at h
  split at h
  · rename_i id off
    split at h
    · rename_i l ty s hc
      split at h
      · rename_i v' hp'
        cases h
        obtain ⟨b, c, rl, junk, fr, hW, hr, hl, h4, h5⟩ := hH.cells hc
        obtain ⟨b', c', hr', rfl⟩ := hu
        rw [hr] at hr'; cases hr'
        unfold partV at hp'
        split at hp'
        · cases hp'
        · rename_i sd hsd
          split at hp'
          · rename_i hs
            rw [nth_eq] at hp'
            obtain ⟨u, h1, h2⟩ := hl.get hp'
            refine ⟨u, h2, fun H hH' => ?_⟩
            obtain ⟨b2, ob, H', e1, pk⟩ := hH' id (by simp)
            rw [hW] at e1; cases e1
            exact q_load hsd hs hx pk (getA h1) hw ht
          · rename_i hs
            split at hp'
            · cases hp'
            · rename_i k hk
              split at hp'
              · rename_i r hr2
                cases hp'
                rw [dropN_eq] at hr2
                obtain ⟨h1, h2⟩ := takeN_ok hr2
                have h3 := RL.take k (RL.drop off hl)
                rw [← h1] at h3
                have hlen : ((rl.drop off).take k).length = k := by rw [h3.length, h2]
                refine ⟨_, ⟨_, h3, rfl⟩, fun H hH' => ?_⟩
                obtain ⟨b2, ob, H', e1, pk⟩ := hH' id (by simp)
                rw [hW] at e1; cases e1
                by_cases hk0 : k = 0
                · subst hk0
                  exact q_loada hsd hs hk hx pk (by simp) (by simp)
                    hw ht
                · refine q_loada hsd hs hk hx pk (drop_take_app ?_) hlen hw ht
                  simp only [List.length_take, List.length_drop] at hlen
                  omega
              · cases hp'
      · cases h
    · cases h
  · cases h
theorem elems_ok (hH : HR ρ hp W) {sz : Nat} {a : V} {r : List V} {rd : List Nat} (hu : R ρ a u) (h : elemsV hp sz a = some (r, rd)) :
    ∃ A len cap new, u = .slice A len cap ∧ RL ρ r new ∧ new.length = len * sz ∧ len ≤ cap ∧ ∀ H, Holds W H rd → ∃ C H', Pick H C H' ∧ RdA C A new := by
  unfold elemsV at h
  split at h
  · cases h; cases hu
    exact ⟨none, 0, 0, [], rfl, .nil, by simp, Nat.le_refl _, fun H _ => ⟨tru, H, fun _ => sep_tru H, .nil⟩⟩
  · cases h; obtain ⟨A, c, rfl⟩ := hu
    exact ⟨A, 0, c, [], rfl, .nil, by simp, Nat.zero_le _, fun H _ => ⟨tru, H, fun _ => sep_tru H, .nil⟩⟩
  · rename_i id i off len cap
    split at h
    · rename_i l ty s hc
      split at h
      · rename_i r' hr2
        cases h
        obtain ⟨b, c, rl, junk, fr, hW, hr, hl, h4, h5⟩ := hH.cells hc
        obtain ⟨b', c', hr', rfl, hlc⟩ := hu
        rw [hr] at hr'; cases hr'
        rw [dropN_eq] at hr2
        obtain ⟨h1, h2⟩ := takeN_ok hr2
        have h3 := RL.take (len * sz) (RL.drop off hl)
        rw [← h1] at h3
        have hlen : ((rl.drop off).take (len * sz)).length = len * sz := by rw [h3.length, h2]
        refine ⟨_, len, _, (rl.drop off).take (len * sz), rfl, h3, hlen, hlc, fun H hH' => ?_⟩
        obtain ⟨b2, ob, H', e1, pk⟩ := hH' id (by simp)
        rw [hW] at e1; cases e1
        refine ⟨_, H', pk, ?_⟩
        by_cases hk0 : len * sz = 0
        · rw [hk0]; simpa using RdA.nil
        · refine RdA.blk ?_
          rw [hlen]
          refine drop_take_app ?_
          simp only [List.length_take, List.length_drop] at hlen
          omega
      · cases h
    · cases h
  · cases h
theorem bytesV_ok : ∀ {l : List V} {us : List Value} {r : List UInt8}, bytesV l = some r → RL ρ l us → us = r.map fun c => Value.int .u8 (c.toNat : Int)
  | [], us, r, h, hl => by simp only [bytesV, Option.some.injEq] at h; subst h; rw [show us = [] from hl]; rfl
  | v :: l, us, r, h, hl => by
    obtain ⟨u, us', h1, h2, rfl⟩ := hl
    unfold bytesV at h
    split at h
    · rename_i h'; cases h'
    · rename_i n l' he
      cases he
      split at h
      · rename_i r' hn hr
        cases h
        have hn := blt_tt hn
        have := bytesV_ok hr h2
        cases h1
        simp only [List.map_cons]
        rw [← this]
        congr 2
        have : (UInt8.ofNat n).toNat = n := by simp; omega
        rw [this]; rfl
      · cases h
    · cases h
theorem qConv_ok (hH : HR ρ hp W) (hw : wants ops L ⟨some d, .convert X Y x, T, p, es, g⟩ = some true) (ht : Nat.blt d n = true) {a : V} {rd : List Nat} (hx : evalL L x = some u) (hu : R ρ a u) (h : qConv P hp X Y a = some (v, rd)) :
    QOk P n ops ⟨some d, .convert X Y x, T, p, es, g⟩ ds L ρ W v rd := by
  unfold qConv at h
  split at h
  · cases h
  · rename_i sd hS
    split at h
    · rename_i k' hD
      split at h
      · cases h
        cases hu
        exact .pure rfl fun H => by rw [wr_ok]; exact q_convw hS hD hx hw ht
      · cases h
        obtain ⟨m, rfl⟩ := hu
        exact .pure ⟨_, rfl⟩ fun H => q_convw hS hD hx hw ht
      · cases h
    · rename_i hD
      split at h
      · cases h; cases hu; exact .pure rfl fun H => q_conv_same hS hD hx hw ht
      · cases h; obtain ⟨l, rfl⟩ := hu; exact .pure ⟨l, rfl⟩ fun H => q_conv_same hS hD hx hw ht
      · split at h
        · rename_i e
          split at h
          · rename_i hE
            split at h
            · rename_i l rd' hel
              split at h
              · rename_i r hr
                cases h
                obtain ⟨A, len, cap, new, rfl, h1, h2, h3, h4⟩ := elems_ok hH hu hel
                have := bytesV_ok hr h1
                subst this
                refine ⟨_, rfl, fun H hH' => ?_⟩
                obtain ⟨C, H', pk, hR⟩ := h4 H hH'
                exact q_conv_bs hS hE hD hx pk hR (by simpa using h2) hw ht
              · cases h
            · cases h
          · cases h
        · cases h
    · cases h
theorem qUn_ok {o : UnOp} (hw : wants ops L ⟨some d, .unOp o T' x, T, p, es, g⟩ = some true) (ht : Nat.blt d n = true) {a : V} (hx : evalL L x = some u) (hu : R ρ a u) (h : qUn o a = some v) :
    QOk P n ops ⟨some d, .unOp o T' x, T, p, es, g⟩ ds L ρ W v [] := by
  unfold qUn at h
  split at h
  · cases h; cases hu; exact .pure rfl fun H => q_not hx hw ht
  · cases h; cases hu
    exact .run hw ht (by simp) rfl fun a w he => by simp [execOp, Op.unary, Op.intArith, he.eval hx, wr_ok]
  · cases hu
    unfold intBin2 at h
    cases h
    exact .run hw ht (by simp) rfl fun a w he => by simp [execOp, Op.unary, Op.intBits, he.eval hx, wr_ok]
  · cases h
theorem isAgg_ok {a : V} (h : isAggV a = true) (hu : R ρ a u) : ∃ l, u = .agg l := by
  cases a <;> first | (cases h; done) | (obtain ⟨l, _, rfl⟩ := hu; exact ⟨_, rfl⟩)
theorem notBoth {a b : V} {u w : Value} (h : bothNil a b = false) (hu : R ρ a u) (hw : R ρ b w) : ¬ (u = .nilIface ∧ w = .nilIface) := by
  rintro ⟨rfl, rfl⟩
  have h1 : a = .nili := by
    cases a <;> first
      | rfl
      | (cases hu; done)
      | (obtain ⟨_, _, _, h⟩ := hu; cases h; done)
      | (obtain ⟨_, _, _, h, _⟩ := hu; cases h; done)
      | (obtain ⟨_, _, _, _, h⟩ := hu; cases h; done)
      | (obtain ⟨_, _, h⟩ := hu; cases h; done)
      | (obtain ⟨_, h⟩ := hu; cases h; done)
  have h2 : b = .nili := by
    cases b <;> first
      | rfl
      | (cases hw; done)
      | (obtain ⟨_, _, _, h⟩ := hw; cases h; done)
      | (obtain ⟨_, _, _, h, _⟩ := hw; cases h; done)
      | (obtain ⟨_, _, _, _, h⟩ := hw; cases h; done)
      | (obtain ⟨_, _, h⟩ := hw; cases h; done)
      | (obtain ⟨_, h⟩ := hw; cases h; done)
  rw [h1, h2] at h; cases h
theorem notAgg {a : V} {u : Value} (h : isAggV a = false) (hu : R ρ a u) : ∀ l, u ≠ .agg l := by
  rintro l rfl
  cases a <;> first
      | (cases h; done)
      | (cases hu; done)
      | (obtain ⟨_, _, _, h⟩ := hu; cases h; done)
      | (obtain ⟨_, _, _, h, _⟩ := hu; cases h; done)
      | (obtain ⟨_, _, _, _, h⟩ := hu; cases h; done)
      | (obtain ⟨_, _, h⟩ := hu; cases h; done)
      | (obtain ⟨_, h⟩ := hu; cases h; done)
theorem guard_skip {o : BinOp} {u1 u2 : Value} (w : World) (hn : ¬ (u1 = .nilIface ∧ u2 = .nilIface)) (ha : (∀ l, u1 ≠ .agg l) ∨ (∀ l, u2 ≠ .agg l)) : (eqGuard o X x y u1 u2).run P w = .ok () w := by
  unfold eqGuard
  cases o <;> first
    | (simp; done)
    | (cases u1 <;> cases u2 <;> first
        | (simp; done)
        | (exact absurd ⟨rfl, rfl⟩ hn)
        | (rcases ha with ha | ha
           · exact absurd rfl (ha _)
           · exact absurd rfl (ha _)))
theorem qEq_ok {a b : V} {u1 u2 : Value} {r : Bool} {o : BinOp} (h : qEq P X x y a b = some r) (h1 : R ρ a u1) (h2 : R ρ b u2) (w : World) :
    (eqGuard o X x y u1 u2).run P w = .ok () w ∧ (Op.equal X u1 u2).run P w = .ok r w := by
  unfold qEq at h
  split at h
  · rename_i hb
    split at h
    · rename_i hc
      refine ⟨?_, eqV_ok 30 10000 X a b r u1 u2 (by omega) h h1 h2 w⟩
      unfold bothNil at hb
      split at hb
      · cases h1; cases h2
        simp only [Bool.or_eq_true] at hc
        unfold eqGuard
        cases o <;> simp
        all_goals
          rcases hc with hc | hc
          · cases x <;> simp_all [isConst]
          · cases y <;> simp_all [isConst]
            try (cases x <;> simp_all)
      · cases hb
    · cases h
  · rename_i hb
    have hnb := notBoth hb h1 h2
    split at h
    · rename_i ha
      simp only [Bool.and_eq_true] at ha
      obtain ⟨l1, rfl⟩ := isAgg_ok ha.1 h1
      obtain ⟨l2, rfl⟩ := isAgg_ok ha.2 h2
      split at h
      · cases h
      · rename_i hg
        exact ⟨run_eqGuard_agg w o X x y l1 l2 hg, eqV_ok 30 10000 X a b r _ _ (by omega) h h1 h2 w⟩
    · rename_i ha
      refine ⟨?_, eqV_ok 30 10000 X a b r u1 u2 (by omega) h h1 h2 w⟩
      simp only [Bool.and_eq_false_iff] at ha
      exact guard_skip w hnb (ha.imp (fun ha => notAgg ha h1) (fun ha => notAgg ha h2))
theorem eqable_ok {a : V} {u : Value} (h : eqable a = true) (hu : R ρ a u) (u2 : Value) : (binOp .eql X u u2 = (do Pure.pure (.bool (← Op.equal X u u2)))) ∧ (binOp .neq X u u2 = (do Pure.pure (.bool (!(← Op.equal X u u2))))) := by
  cases a <;> first
    | (cases h; done)
    | (cases hu; constructor <;> cases u2 <;> rfl)
    | (obtain ⟨_, _, _, rfl⟩ := hu; constructor <;> cases u2 <;> rfl)
    | (obtain ⟨_, _, _, rfl, _⟩ := hu; constructor <;> cases u2 <;> rfl)
    | (obtain ⟨_, _, _, _, rfl⟩ := hu; constructor <;> cases u2 <;> rfl)
    | (obtain ⟨_, _, rfl⟩ := hu; constructor <;> cases u2 <;> rfl)
theorem qBin_ok {o : BinOp} (hw : wants ops L ⟨some d, .binOp o X x y Y, T, p, es, g⟩ = some true) (ht : Nat.blt d n = true) {a b : V} {u1 u2 : Value} (hx : evalL L x = some u1) (hy : evalL L y = some u2) (h1 : R ρ a u1) (h2 : R ρ b u2) (h : qBin P o X x y a b = some v) :
    QOk P n ops ⟨some d, .binOp o X x y Y, T, p, es, g⟩ ds L ρ W v [] := by
  unfold qBin at h
  split at h
  · cases h1; cases h2
    obtain ⟨u, hu, hr⟩ := intBin_ok (P := P) (ρ := ρ) (X := X) h
    exact .pure hu fun H => q_bin_raw hx hy (fun w => by cases o <;> simp [eqGuard]) hr hw ht
  · cases h1; cases h2
    obtain ⟨u, hu, hr⟩ := strBin_ok (P := P) (ρ := ρ) (X := X) h
    exact .pure hu fun H => q_bin_raw hx hy (fun w => by cases o <;> simp [eqGuard]) hr hw ht
  · split at h
    · obtain ⟨hg, u, hu, hr⟩ := anyBin_ok (P := P) (X := X) h h1 h2
      exact .pure hu fun H => q_bin_raw hx hy (fun w => hg w x y) hr hw ht
    · rename_i _ hq1
      split at h
      · rename_i r hq
        cases h
        exact .pure rfl fun H => q_bin_raw hx hy (fun w => (qEq_ok hq h1 h2 w).1) (fun w => by rw [(eqable_ok hq1 h1 u2).1]; simp [(qEq_ok (o := .eql) hq h1 h2 w).2]) hw ht
      · cases h
    · rename_i _ hq1
      split at h
      · rename_i r hq
        cases h
        exact .pure rfl fun H => q_bin_raw hx hy (fun w => (qEq_ok hq h1 h2 w).1) (fun w => by rw [(eqable_ok hq1 h1 u2).2]; simp [(qEq_ok (o := .eql) hq h1 h2 w).2]) hw ht
      · cases h
    · cases h
end
end
end Go.Y
