/- What the propositions of the quiet operations say of the machine's operations. -/
import Derived.Test.YtljaocdmeoheaaaDenOps
set_option linter.unusedSimpArgs false
namespace Go.Den
variable {P : Program}

theorem run_underlying' {t : TypeId} {d : TypeDesc} (h : P.underlying t = some d) (w : World) : (underlying t).run P w = .ok d w := by
  simp [underlying, h]

theorem run_sizeOf' {t : TypeId} {n : Nat} (h : sizeT P t = some n) (w : World) : (sizeOf t).run P w = .ok n w := by
  unfold sizeT at h
  cases hi : P.info? t with
  | none => simp [hi] at h
  | some i => simp [hi] at h; simp [sizeOf, typeInfo, hi, h]

theorem run_zeroValue' {t : TypeId} {z : Value} (h : zeroOf P t = some z) (w : World) : (zeroValue t).run P w = .ok z w := by
  unfold zeroOf at h
  cases hi : P.info? t with
  | none => simp [hi] at h
  | some i =>
    simp [hi] at h
    cases hz : i.zero with
    | none => simp [hz] at h
    | some z' => simp [hz] at h; simp [zeroValue, typeInfo, hi, hz, h]

theorem zeroOf_size {t : TypeId} {z : Value} (h : zeroOf P t = some z) : sizeT P t = some z.cells.size := by
  unfold zeroOf at h; unfold sizeT
  cases hi : P.info? t with
  | none => simp [hi] at h
  | some i =>
    simp [hi] at h
    cases hz : i.zero with
    | none => simp [hz] at h
    | some z' => simp [hz] at h; obtain ⟨h, rfl⟩ := h; simp [h]

theorem run_isAgg' {t : TypeId} {b : Bool} (h : isAggT P t = some b) (w : World) : (isAgg t).run P w = .ok b w := by
  unfold isAggT at h
  cases hd : P.underlying t with
  | none => simp [hd] at h
  | some d => cases d <;> simp [hd] at h <;> subst h <;> simp [isAgg, run_underlying' hd]

theorem cellsAt_get {w : World} {a : Addr} : ∀ {vs : List Value} {i : Nat}, cellsAt w a vs i → ∀ j v, vs[j]? = some v → w.cell? (a.add (i + j)) = some v
  | [], _, _, j, v, h => by simp at h
  | u :: vs, i, h, j, v, hj => by
    cases j with
    | zero => simp at hj; subst hj; exact h.1
    | succ j => simp at hj; have := cellsAt_get h.2 j v hj; rwa [show i + (j + 1) = i + 1 + j by omega]

theorem run_loadVar_leaf {t : TypeId} (h : isAggT P t = some false) {a : Addr} {v : Value} {w : World} (hc : w.cell? a = some v) : (loadVar t a).run P w = .ok v w := by
  simp [loadVar, run_isAgg' h, hc]

theorem run_loadVar_agg {t : TypeId} (h : isAggT P t = some true) {a : Addr} {vs : List Value} (hn : sizeT P t = some vs.length) {w : World} (hc : cellsAt w a vs 0) :
    (loadVar t a).run P w = .ok (.agg vs.toArray) w := by
  simp [loadVar, run_isAgg' h, run_sizeOf' hn, run_loadCells_list w a vs (fun j v hj => by simpa using cellsAt_get hc j v hj)]

theorem load_sound {C : (World → Prop) → Prop} (hC : ∀ φ ψ : World → Prop, (∀ w, φ w → ψ w) → C φ → C ψ) {t : TypeId} {a : Addr} {K : Value → Prop} (h : loadP P t a C K) :
    ∃ v, K v ∧ C fun w => (loadVar t a).run P w = .ok v w := by
  unfold loadP at h
  split at h
  · rename_i cs hz ha
    obtain ⟨vs, hl, hc, hk⟩ := exLeaves_some h
    have hs := zeroOf_size hz
    simp only [Value.cells] at hs
    exact ⟨_, hk, hC _ _ (fun w hw => run_loadVar_agg ha (by rw [hs, hl]; simp) hw) hc⟩
  · rename_i ha
    obtain ⟨v, hc, hk⟩ := exLeaf_some h
    exact ⟨v, hk, hC _ _ (fun w hw => run_loadVar_leaf ha hw) hc⟩
  · exact h.elim

theorem run_part {t : TypeId} {cs : Array Value} {off : Nat} {v : Value} (h : partL P t cs.toList off = some v) (w : World) : (part t cs off).run P w = .ok v w := by
  unfold partL at h
  split at h
  · rename_i n ha hn
    split at h
    · cases h
      simp only [part, Sem.run_bind, run_isAgg' ha, Result.andThen_ok, if_true, run_sizeOf' hn]
      simp only [Sem.run_pure]
      congr 2
      apply Array.ext'
      simp [Array.toList_extract, List.take_drop, Nat.add_comm]
    · cases h
  · rename_i ha
    rw [Array.getElem?_toList] at h
    simp [part, run_isAgg' ha, h]
  · cases h

theorem evs_sound {ε : Env} {a : Act} (hε : EnvOk ε a) : ∀ {xs : List Operand} {vs : List Value}, evs ε xs = some vs → xs.map a.eval = vs
  | [], vs, h => by simp [evs] at h; simp [h]
  | x :: xs, vs, h => by
    simp only [evs] at h
    cases hx : ev ε x with
    | none => simp [hx] at h
    | some v =>
      simp only [hx] at h
      cases hr : evs ε xs with
      | none => simp [hr] at h
      | some us => simp only [hr] at h; cases h; simp [hε.eval hx, evs_sound hε hr]

theorem evs_array {ε : Env} {a : Act} (hε : EnvOk ε a) {xs : Array Operand} {vs : List Value} (h : evs ε xs.toList = some vs) : xs.map a.eval = vs.toArray := by
  apply Array.ext'
  simp [evs_sound hε h]

theorem evParts_sound {ε : Env} {a : Act} (hε : EnvOk ε a) : ∀ {xs : List (Nat × Operand)} {vs : List (Nat × Value)}, evParts ε xs = some vs → xs.map (fun x => (x.1, a.eval x.2)) = vs
  | [], vs, h => by simp [evParts] at h; simp [h]
  | (i, x) :: xs, vs, h => by
    simp only [evParts] at h
    cases hx : ev ε x with
    | none => simp [hx] at h
    | some v =>
      simp only [hx] at h
      cases hr : evParts ε xs with
      | none => simp [hr] at h
      | some us => simp only [hr] at h; cases h; simp [hε.eval hx, evParts_sound hε hr]

theorem intsOf_sound {ε : Env} {a : Act} (hε : EnvOk ε a) {x : Option Operand} {n : Option Int} (h : intsOf ε x = some n) :
    (n = none ∧ x = none) ∨ ∃ k m y, n = some m ∧ x = some y ∧ a.eval y = .int k m := by
  cases x with
  | none => simp [intsOf] at h; exact .inl ⟨h.symm, rfl⟩
  | some x =>
    simp only [intsOf] at h
    split at h
    · rename_i k m hx; cases h; exact .inr ⟨k, m, x, rfl, rfl, hε.eval hx⟩
    · cases h

/-! ### arithmetic -/
theorem run_intArith_all (op : BinOp) (k : IntKind) (a b : Int) (w : World) : ∀ v, (op = .add ∧ v = .int k (k.wrap (a + b))) ∨ (op = .sub ∧ v = .int k (k.wrap (a - b))) ∨ (op = .mul ∧ v = .int k (k.wrap (a * b))) →
    (Op.intArith op k a b).run P w = .ok v w := by
  rintro v (⟨rfl, rfl⟩ | ⟨rfl, rfl⟩ | ⟨rfl, rfl⟩) <;> simp [Op.intArith]

theorem intOp_sound {op : BinOp} {k : IntKind} {a b : Int} {K : Value → Prop} (h : intOp op k a b K) (t : TypeId) :
    ∃ v, K v ∧ ∀ w, (binOp op t (.int k a) (.int k b)).run P w = .ok v w := by
  cases op <;> simp only [intOp] at h
  case add => exact ⟨_, h, fun w => by simp [binOp, Op.intArith]⟩
  case sub => exact ⟨_, h, fun w => by simp [binOp, Op.intArith]⟩
  case mul => exact ⟨_, h, fun w => by simp [binOp, Op.intArith]⟩
  case quo => exact ⟨_, h.2, fun w => by simp [binOp, Op.intDiv, h.1]⟩
  case rem => exact ⟨_, h.2, fun w => by simp [binOp, Op.intDiv, h.1]⟩
  case and => exact ⟨_, h, fun w => by simp [binOp, Op.intBits]⟩
  case or => exact ⟨_, h, fun w => by simp [binOp, Op.intBits]⟩
  case xor => exact ⟨_, h, fun w => by simp [binOp, Op.intBits]⟩
  case andNot => exact ⟨_, h, fun w => by simp [binOp, Op.intBits]⟩
  all_goals exact ⟨_, h, fun w => by simp [binOp, Op.intCmp]⟩

theorem strOp_sound {op : BinOp} {a b : ByteArray} {K : Value → Prop} (h : strOp op a b K) (t : TypeId) :
    ∃ v, K v ∧ ∀ w, (binOp op t (.string a) (.string b)).run P w = .ok v w := by
  cases op <;> simp only [strOp] at h
  case add =>
    refine ⟨_, h.2, fun w => ?_⟩
    have h1 : ¬ ((a.size + b.size : Nat) : Int) > IntKind.i64.max := by have := h.1; show ¬ ((a.size + b.size : Nat) : Int) > 9223372036854775807; omega
    simp only [binOp, Op.stringOp]
    rw [Sem.run_ite, if_neg h1]; rfl
  case eql => exact ⟨_, h, fun w => by simp [binOp, Op.stringOp]⟩
  case neq => exact ⟨_, h, fun w => by simp [binOp, Op.stringOp]⟩
  case lss => exact ⟨_, h, fun w => by simp [binOp, Op.stringOp]⟩
  case leq => exact ⟨_, h, fun w => by simp [binOp, Op.stringOp]⟩
  case gtr => exact ⟨_, h, fun w => by simp [binOp, Op.stringOp]⟩
  case geq => exact ⟨_, h, fun w => by simp [binOp, Op.stringOp]⟩
  all_goals exact h.elim

theorem equalIn_ptr {t e : TypeId} {n : Nat} (ht : P.underlying t = some (.pointer e)) (hs : sizeT P e = some (n + 1)) {p q : Option Addr} {K : Bool → Prop} (h : ptrEq p q K) :
    ∃ b, K b ∧ ∀ (d : Nat) (w : World), (Op.equalIn (d + 1) t (.pointer p) (.pointer q)).run P w = .ok b w := by
  unfold ptrEq at h
  cases q with
  | none => exact ⟨_, h, fun d w => by cases p <;> simp [Op.equalIn, run_underlying' ht]⟩
  | some b =>
    cases p with
    | none => exact ⟨_, h, fun d w => by simp [Op.equalIn, run_underlying' ht]⟩
    | some a =>
      refine ⟨_, h.2, fun d w => ?_⟩
      have hb : (a.block == b.block) = true := by simp [h.1]
      simp only [Op.equalIn, Sem.run_bind, run_underlying' ht, Result.andThen_ok, run_sizeOf' hs]
      simp [sameAddr, hb]
theorem equal_ptr {t e : TypeId} {n : Nat} (ht : P.underlying t = some (.pointer e)) (hs : sizeT P e = some (n + 1)) {p q : Option Addr} {K : Bool → Prop} (h : ptrEq p q K) :
    ∃ b, K b ∧ ∀ w, (Op.equal t (.pointer p) (.pointer q)).run P w = .ok b w := by
  obtain ⟨b, hb, hw⟩ := equalIn_ptr ht hs h
  exact ⟨b, hb, fun w => hw 9999 w⟩
theorem equal_bool {t : TypeId} (ht : P.underlying t = some .bool) (a b : Bool) (w : World) : (Op.equal t (.bool a) (.bool b)).run P w = .ok (a == b) w :=
  run_equalIn_bool' w 9999 t a b ht
theorem equal_slice_nil {t e : TypeId} (ht : P.underlying t = some (.slice e)) (a : Option Addr) (l c l' c' : Nat) (w : World) : (Op.equal t (.slice a l c) (.slice none l' c')).run P w = .ok a.isNone w := by
  have key : ∀ d, (Op.equalIn (d + 1) t (.slice a l c) (.slice none l' c')).run P w = .ok a.isNone w := fun d => by cases a <;> simp [Op.equalIn, run_underlying' ht]
  exact key 9999

theorem eqGo_sound {d k : Nat} {w : World} (ih : ∀ (t : TypeId) (x y : Value) (r : Bool), eqV P d t x y = some r → (Op.equalIn (d + k) t x y).run P w = .ok r w) (xs ys : Array Value) :
    ∀ (fs : List Field) (r : Bool), eqGo P (eqV P d) xs.toList ys.toList fs = some r → (Op.eqFields (d + k) xs ys fs).run P w = .ok r w
  | [], r, h => by simp [eqGo] at h; subst h; simp [Op.eqFields]
  | f :: fs, r, h => by
    simp only [eqGo] at h
    split at h
    · cases h
    · rename_i hn
      split at h
      · rename_i a b ha hb
        split at h
        · rename_i p q hp hq
          cases h
          have h1 := ih _ _ _ _ hp
          have h2 := eqGo_sound ih xs ys fs q hq
          simp only [Op.eqFields]
          rw [if_pos hn]
          simp only [Sem.run_bind, run_part ha, run_part hb, Result.andThen_ok, h1]
          cases p <;> simp [h2]
        · cases h
      · cases h

theorem eqV_sound (w : World) (k : Nat) : ∀ (d : Nat) (t : TypeId) (x y : Value) (r : Bool), eqV P d t x y = some r → (Op.equalIn (d + k) t x y).run P w = .ok r w
  | 0, _, _, _, _, h => by simp [eqV] at h
  | d + 1, t, x, y, r, h => by
    rw [show d + 1 + k = (d + k) + 1 by omega]
    simp only [eqV] at h
    split at h
    · rename_i ht
      unfold eqB at h
      split at h
      · cases h; exact run_equalIn_bool' w (d + k) t _ _ ht
      · cases h
    · rename_i ht
      unfold eqI at h
      split at h
      · split at h
        · rename_i e; subst e; cases h; exact run_equalIn_int w (d + k) t _ _ _ _ ht
        · cases h
      · cases h
    · rename_i ht
      unfold eqS at h
      split at h
      · cases h; exact run_equalIn_string w (d + k) t _ _ ht
      · cases h
    · rename_i fs ht
      split at h
      · rename_i xs ys hx hy
        unfold aggOf at hx hy
        split at hx <;> cases hx
        split at hy <;> cases hy
        split at h
        · cases h
        · rename_i hp
          have hf : P.fieldsOf t = fs := by simp [Program.fieldsOf, ht]
          rw [run_equalIn_struct w (d + k) t xs ys (by rw [hf]; exact ht) (by simpa using hp), hf]
          exact eqGo_sound (fun t x y r h => eqV_sound w k d t x y r h) xs ys _ r h
      · cases h
    · cases h

theorem binP_sound {op : BinOp} {t : TypeId} {x y : Value} {K : Value → Prop} (h : binP P op t x y K) (ox oy : Operand) :
    ∃ v, K v ∧ ∀ w, (do eqGuard op t ox oy x y; binOp op t x y : Sem Value).run P w = .ok v w := by
  unfold binP at h
  split at h
  · split at h
    · rename_i k a k' b
      refine ⟨_, h.2, fun w => ?_⟩
      have h0 := h.1
      have h1 : ¬ b < 0 := by omega
      simp [eqGuard, binOp, Op.shift, shlV, h1]
    · exact h.elim
  · split at h
    · rename_i k a k' b
      refine ⟨_, h.2, fun w => ?_⟩
      have h0 := h.1
      have h1 : ¬ b < 0 := by omega
      simp [eqGuard, binOp, Op.shift, shrV, h1]
    · exact h.elim
  · rename_i hl hr
    split at h
    · rename_i k a k' b
      split at h
      · rename_i e; subst e
        obtain ⟨v, hv, hw⟩ := intOp_sound (P := P) h t
        refine ⟨v, hv, fun w => ?_⟩
        have : (eqGuard op t ox oy (.int k a) (.int k b)).run P w = .ok () w := by cases op <;> simp [eqGuard]
        simp [this, hw]
      · exact h.elim
    · rename_i a b
      obtain ⟨v, hv, hw⟩ := strOp_sound (P := P) h t
      refine ⟨v, hv, fun w => ?_⟩
      have : (eqGuard op t ox oy (.string a) (.string b)).run P w = .ok () w := by cases op <;> simp [eqGuard]
      simp [this, hw]
    · rename_i a b
      split at h
      · rename_i ht
        split at h
        · exact ⟨_, h, fun w => by simp [eqGuard, binOp, equal_bool ht]⟩
        · exact ⟨_, h, fun w => by simp [eqGuard, binOp, equal_bool ht]⟩
        · exact h.elim
      · exact h.elim
    · rename_i p q
      split at h
      · rename_i e ht
        split at h
        · rename_i hs
          split at h
          · obtain ⟨b, hb, hw⟩ := equal_ptr ht hs h
            exact ⟨_, hb, fun w => by simp [eqGuard, binOp, hw]⟩
          · obtain ⟨b, hb, hw⟩ := equal_ptr ht hs h
            exact ⟨_, hb, fun w => by simp [eqGuard, binOp, hw]⟩
          · exact h.elim
        · exact h.elim
      · exact h.elim
    · rename_i a l c _ _
      split at h
      · rename_i e ht
        split at h
        · exact ⟨_, h, fun w => by simp [eqGuard, binOp, equal_slice_nil ht]⟩
        · exact ⟨_, h, fun w => by simp [eqGuard, binOp, equal_slice_nil ht]⟩
        · exact h.elim
      · exact h.elim
    · rename_i xs ys
      split at h
      · exact h.elim
      · rename_i hg
        split at h
        · rename_i b hb
          have hb' : ∀ w, (Op.equalIn 10000 t (.agg xs) (.agg ys)).run P w = .ok b w := fun w => eqV_sound w 9991 9 _ _ _ _ hb
          have hgu : ∀ w, (eqGuard op t ox oy (.agg xs) (.agg ys)).run P w = .ok () w := fun w => run_eqGuard_agg w op t ox oy xs ys (by simpa using hg)
          split at h
          · refine ⟨_, h, fun w => ?_⟩
            rw [Sem.run_bind, hgu, Result.andThen_ok, run_eql_struct w, hb', Result.andThen_ok]
          · refine ⟨_, h, fun w => ?_⟩
            rw [Sem.run_bind, hgu, Result.andThen_ok, run_neq_struct w, hb', Result.andThen_ok]
          · exact h.elim
        · exact h.elim
    · exact h.elim

end Go.Den
