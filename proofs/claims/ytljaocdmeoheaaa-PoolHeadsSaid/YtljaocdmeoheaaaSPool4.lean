/- Contracts of layer 4 (pool): Taken. -/
import Derived.Test.YtljaocdmeoheaaaSPool3
set_option linter.unusedVariables false
set_option linter.unusedSimpArgs false
set_option maxRecDepth 4000
namespace Go.Den

/-! ### Sorting -/
def pref {α : Type} (lt : α → α → Bool) (l : List α) (i : Nat) : List α := (l.take i).foldl (fun acc x => sink lt x acc) []
theorem sink_length {α : Type} (lt : α → α → Bool) (x : α) (l : List α) : (sink lt x l).length = l.length + 1 := by
  induction l with
  | nil => rfl
  | cons y l ih => unfold sink; split <;> simp [ih]
theorem pref_succ {α : Type} (lt : α → α → Bool) (l : List α) (i : Nat) (hi : i < l.length) : pref lt l (i + 1) = sink lt l[i] (pref lt l i) := by
  unfold pref
  rw [List.take_succ_eq_append_getElem hi, List.foldl_append]
  rfl
theorem pref_length {α : Type} (lt : α → α → Bool) (l : List α) (i : Nat) (hi : i ≤ l.length) : (pref lt l i).length = i := by
  induction i with
  | zero => simp [pref]
  | succ i ih => rw [pref_succ lt l i hi, sink_length, ih (by omega)]
theorem pref_all {α : Type} (lt : α → α → Bool) (l : List α) : (pref lt l l.length).reverse = isort lt l := by simp [pref, isort]
theorem sink_mem {α : Type} (lt : α → α → Bool) (x y : α) (l : List α) : y ∈ sink lt x l ↔ y = x ∨ y ∈ l := by
  induction l with
  | nil => simp [sink]
  | cons z l ih =>
    unfold sink
    split
    · simp [ih]; constructor
      · rintro (h | h | h)
        · exact .inr (.inl h)
        · exact .inl h
        · exact .inr (.inr h)
      · rintro (h | h | h)
        · exact .inr (.inl h)
        · exact .inl h
        · exact .inr (.inr h)
    · simp
theorem isort_mem {α : Type} (lt : α → α → Bool) (y : α) (l : List α) : y ∈ isort lt l ↔ y ∈ l := by
  unfold isort
  rw [List.mem_reverse]
  have : ∀ (acc : List α), y ∈ l.foldl (fun acc x => sink lt x acc) acc ↔ y ∈ acc ∨ y ∈ l := by
    induction l with
    | nil => intro acc; simp
    | cons x l ih =>
      intro acc
      rw [List.foldl_cons, ih, sink_mem]
      simp only [List.mem_cons]
      constructor
      · rintro ((h | h) | h)
        · exact .inr (.inl h)
        · exact .inl h
        · exact .inr (.inr h)
      · rintro (h | h | h)
        · exact .inl (.inr h)
        · exact .inl (.inl h)
        · exact .inr h
  rw [this]; simp
theorem isort_length {α : Type} (lt : α → α → Bool) (l : List α) : (isort lt l).length = l.length := by
  rw [← pref_all, List.length_reverse, pref_length lt l _ (Nat.le_refl _)]

abbrev takenV (t : Taken) : Value := .agg #[.int .i64 t.block, bv t.head.kind, .int .u32 t.head.era, .int .u64 t.head.seq, .bool t.bad]
theorem pool_Taken_1_spec (a b : Taken) (ha : a.block < 1000000) (hb : b.block < 1000000) (w : World) :
    CallsR prog K.pool_Pool_Taken_1 #[takenV a, takenV b] w fun v w' => ∃ x : Int, v = .int .i64 x ∧ decide (x < 0) = takenLt a b ∧ Ext w w' := by
  apply pool_Pool_Taken_1.sh
  intro B₁ w₁ hn1 B₂ w₂ hn2
  have e2 := hn1.upd.trans hn2.upd
  have h1 := Ext.get hn2.upd hn1.get
  have h2 := hn2.get
  simp only [add_lit]
  refine ⟨_, cell_of h1 rfl, _, cell_of h2 rfl, br_dec (fun hlt => ⟨_, rfl, ?_, e2⟩) fun hge => ⟨_, cell_of h1 rfl, _, cell_of h2 rfl, br_dec (fun hgt => ⟨_, rfl, ?_, e2⟩) fun hle => ⟨_, cell_of h1 rfl, _, cell_of h2 rfl, _, rfl, ?_, e2⟩⟩⟩
  · have q : decide (a.head.seq < b.head.seq) = true := decide_eq_true (by omega)
    simp [takenLt, q]
  · have q : decide (a.head.seq < b.head.seq) = false := decide_eq_false (by omega)
    have q2 : decide (a.head.seq = b.head.seq) = false := decide_eq_false (by omega)
    simp [takenLt, q, q2]
  · have q : decide (a.head.seq < b.head.seq) = false := decide_eq_false (by omega)
    have q2 : decide (a.head.seq = b.head.seq) = true := decide_eq_true (by omega)
    rw [w64 (by omega) (by omega)]
    simp only [takenLt, q, q2, Bool.false_or, Bool.true_and]
    exact decide_eq_decide.2 (by omega)

theorem swap_list {α : Type} (A R : List α) (x y : α) : ((A ++ y :: x :: R).set (A.length + 1) y).set A.length x = A ++ x :: y :: R := by
  rw [List.set_append_right _ _ (by omega), List.set_append_right _ _ (by omega)]
  simp

/-- an element of a row of the call's own is written -/
theorem own_set {α : Type} {f : α → List Value} {k : Nat} (hf : ∀ x, (f x).length = k) {w : World} {b cap : Nat} {e : TypeId} {l : List α} (h : OwnAt w (some ⟨b, 0, none⟩) l.length cap e k (l.flatMap f)) {i : Nat} (hi : i < l.length) (x : α) {K : World → Prop}
    (hk : ∀ w', Upd (· = b) w w' → OwnAt w' (some ⟨b, 0, none⟩) (l.set i x).length cap e k ((l.set i x).flatMap f) → K w') : storeP w ⟨b, i * k, none⟩ (f x) K := by
  refine own_store h (by rw [flat_len hf, hf, ← Nat.succ_mul]; exact Nat.mul_le_mul_right _ hi) fun w' hu ho => hk w' hu ?_
  rw [hf, flat_set hf l hi x] at ho
  rw [List.length_set]
  exact ho

theorem insertionSort_spec {w : World} {a : Option Addr} {l : List Taken} {cap cp : Nat} (h : OwnAt w a l.length cap T.api_Taken 5 (l.flatMap Taken.vals)) (hb : ∀ t ∈ l, t.block < 1000000) (hl : l.length < 1000) :
    CallsR prog K.slices_insertionSortCmpFunc_api_Taken #[.slice a l.length cp, .int .i64 0, .int .i64 l.length, .func (.func K.pool_Pool_Taken_1) #[] #[]] w fun v w' => v = .tuple #[] ∧ Upd (fun b => a = some ⟨b, 0, none⟩) w w' ∧ OwnAt w' a (isort takenLt l).length cap T.api_Taken 5 ((isort takenLt l).flatMap Taken.vals) := by
  apply slices_insertionSortCmpFunc_api_Taken.sh
  have e01 : IntKind.i64.wrap ((0 : Int) + 1) = ((1 : Nat) : Int) := by decide
  unfold slices_insertionSortCmpFunc_api_Taken.body
  rw [e01]
  refine ⟨fun x u => ∃ i : Nat, x = i ∧ 1 ≤ i ∧ (i ≤ l.length ∨ i = 1) ∧ Upd (fun b => a = some ⟨b, 0, none⟩) w u ∧ OwnAt u a ((pref takenLt l i).reverse ++ l.drop i).length cap T.api_Taken 5 (((pref takenLt l i).reverse ++ l.drop i).flatMap Taken.vals),
    fun x _ => (l.length - x).toNat, ⟨1, rfl, by omega, .inr rfl, Upd.refl _ _, ?_⟩, ?_⟩
  · have : (pref takenLt l 1).reverse ++ l.drop 1 = l := by
      cases l with
      | nil => rfl
      | cons x l => rfl
    rw [this]; exact h
  rintro x u ⟨i, rfl, hi1, hi, hu, ho⟩
  refine br_dec (fun hlt => ?_) fun hge => ?_
  · have hil : i < l.length := by omega
    have hpl := pref_length takenLt l i (by omega)
    have hdrop : l.drop i = l[i] :: l.drop (i + 1) := List.drop_eq_getElem_cons hil
    have hblk : ∀ t, t ∈ pref takenLt l i → t.block < 1000000 := by
      intro t ht
      have : t ∈ isort takenLt (l.take i) := by unfold isort; exact List.mem_reverse.2 ht
      rw [isort_mem] at this
      exact hb t (List.mem_of_mem_take this)
    have hbi : l[i].block < 1000000 := hb _ (List.getElem_mem hil)
    rw [hdrop] at ho
    obtain ⟨B, rfl⟩ : ∃ B, a = some ⟨B, 0, none⟩ := by
      obtain ⟨_, _, hx⟩ := h
      rcases hx with ⟨_, hx, _⟩ | ⟨b, cur, hx, _⟩
      · omega
      · exact ⟨b, hx⟩
    have hF : ∀ {u u' : World}, Upd (· = B) u u' → Upd (fun b => (some ⟨B, 0, none⟩ : Option Addr) = some ⟨b, 0, none⟩) u u' := fun k => k.mono fun x _ hx => by rw [hx]
    have e1 : IntKind.i64.wrap ((i : Int) + 1) = ((i + 1 : Nat) : Int) := w64 (by omega) (by omega)
    -- the element's way
    refine ⟨fun x v => ∃ A D : List Taken, x = (A.length : Int) ∧ pref takenLt l i = D ++ A ∧ sink takenLt l[i] (pref takenLt l i) = D ++ sink takenLt l[i] A ∧ Upd (fun b => (some ⟨B, 0, none⟩ : Option Addr) = some ⟨b, 0, none⟩) w v ∧
        OwnAt v (some ⟨B, 0, none⟩) (A.reverse ++ l[i] :: (D.reverse ++ l.drop (i + 1))).length cap T.api_Taken 5 ((A.reverse ++ l[i] :: (D.reverse ++ l.drop (i + 1))).flatMap Taken.vals), fun x _ => x.toNat, ⟨pref takenLt l i, [], by rw [hpl], rfl, rfl, hu, ho⟩, ?_⟩
    rintro y v ⟨A, D, rfl, hAD, hsk, huv, hov⟩ w₃ hd3
    have hlen : ∀ X : Taken, (A.reverse ++ X :: (D.reverse ++ l.drop (i + 1))).length = l.length := by
      intro X
      have : D.length + A.length = i := by rw [← hpl, hAD, List.length_append]
      simp; omega
    -- the end of the way
    have hend : ∀ {v' : World}, sink takenLt l[i] A = l[i] :: A → Upd (fun b => (some ⟨B, 0, none⟩ : Option Addr) = some ⟨b, 0, none⟩) w v' →
        OwnAt v' (some ⟨B, 0, none⟩) (A.reverse ++ l[i] :: (D.reverse ++ l.drop (i + 1))).length cap T.api_Taken 5 ((A.reverse ++ l[i] :: (D.reverse ++ l.drop (i + 1))).flatMap Taken.vals) →
        (∃ i' : Nat, IntKind.i64.wrap ((i : Int) + 1) = i' ∧ 1 ≤ i' ∧ (i' ≤ l.length ∨ i' = 1) ∧ Upd (fun b => (some ⟨B, 0, none⟩ : Option Addr) = some ⟨b, 0, none⟩) w v' ∧ OwnAt v' (some ⟨B, 0, none⟩) ((pref takenLt l i').reverse ++ l.drop i').length cap T.api_Taken 5 (((pref takenLt l i').reverse ++ l.drop i').flatMap Taken.vals)) ∧
          ((l.length : Int) - IntKind.i64.wrap ((i : Int) + 1)).toNat < ((l.length : Int) - (i : Int)).toNat := by
      intro v' hs hu' ho'
      rw [e1]
      refine ⟨⟨i + 1, rfl, by omega, .inl hil, hu', ?_⟩, meas hil⟩
      have : (pref takenLt l (i + 1)).reverse ++ l.drop (i + 1) = A.reverse ++ l[i] :: (D.reverse ++ l.drop (i + 1)) := by
        rw [pref_succ takenLt l i hil, hsk, hs]
        simp
      rw [this]; exact ho'
    have hov3 := OwnAt.ext hov hd3.upd
    have huv3 := huv.then hd3.upd
    refine ⟨fun z => z = w₃, rfl, br_dec (fun hpos => ?_) fun hzero => ?_⟩
    · obtain ⟨y, A', rfl⟩ : ∃ y A', A = y :: A' := by
        cases A with
        | nil => simp at hpos
        | cons y A' => exact ⟨y, A', rfl⟩
      have hly := hlen l[i]
      simp only [List.reverse_cons, List.append_assoc, List.singleton_append, List.length_cons] at hov3 hpos hly ⊢
      generalize hR : D.reverse ++ l.drop (i + 1) = R at *
      have hA : A'.reverse.length = A'.length := List.length_reverse
      have hlx : A'.length + 1 < (A'.reverse ++ y :: l[i] :: R).length := by simp
      have hgx : (A'.reverse ++ y :: l[i] :: R)[A'.length + 1] = l[i] := by rw [List.getElem_append_right (by omega)]; simp
      have hgy : (A'.reverse ++ y :: l[i] :: R)[A'.length] = y := by rw [List.getElem_append_right (by omega)]; simp
      have em : IntKind.i64.wrap (((A'.length + 1 : Nat) : Int) - 1) = ((A'.length : Nat) : Int) := by rw [w64 (by omega) (by omega)]; omega
      rw [em]
      refine idx_flat (f := Taken.vals) (l := A'.reverse ++ y :: l[i] :: R) Taken.vals_length (by omega) hov3.row (by omega) hlx fun b o hab hr => ?_
      cases hab
      rw [hgx] at hr
      refine ⟨l[i].block, l[i].head.kind.toNat, l[i].head.era, l[i].head.seq, l[i].bad, fun z hz => hz ▸ RowAt.cells hr, ?_⟩
      refine idx_flat (f := Taken.vals) (l := A'.reverse ++ y :: l[i] :: R) Taken.vals_length (by omega) hov3.row (by omega) (by omega) fun b o hab hr => ?_
      cases hab
      rw [hgy] at hr
      refine ⟨y.block, y.head.kind.toNat, y.head.era, y.head.seq, y.bad, fun z hz => hz ▸ RowAt.cells hr, ?_⟩
      have hby : y.block < 1000000 := hblk y (by rw [hAD]; simp)
      refine ⟨rfl, ?_⟩
      refine (pool_Taken_1_spec l[i] y hbi hby w₃).mono ?_
      rintro _ w₄ ⟨x11, rfl, hx11, he4⟩
      have hov4 := OwnAt.ext hov3 he4
      have huv4 := huv3.then he4
      refine ⟨_, rfl, ?_⟩
      rw [hx11]
      refine br_intro (fun ht => ?_) fun hf => ?_
      · intro w₅ hd5
        have hov5 := OwnAt.ext hov4 hd5.upd
        have huv5 := huv4.then hd5.upd
        refine ⟨fun z => z = w₅, rfl, ?_⟩
        refine idx_flat (f := Taken.vals) (l := A'.reverse ++ y :: l[i] :: R) Taken.vals_length (by omega) hov5.row (by omega) (by omega) fun b o hab hr => ?_
        cases hab
        rw [hgy] at hr
        refine ⟨y.block, y.head.kind.toNat, y.head.era, y.head.seq, y.bad, fun z hz => hz ▸ RowAt.cells hr, ?_⟩
        refine idx_flat (f := Taken.vals) (l := A'.reverse ++ y :: l[i] :: R) Taken.vals_length (by omega) hov5.row (by omega) hlx fun b o hab hr => ?_
        cases hab
        rw [hgx] at hr
        refine ⟨l[i].block, l[i].head.kind.toNat, l[i].head.era, l[i].head.seq, l[i].bad, fun z hz => hz ▸ RowAt.cells hr, ?_⟩
        refine idx_flat (f := Taken.vals) (l := A'.reverse ++ y :: l[i] :: R) Taken.vals_length (by omega) hov5.row (by omega) hlx fun b o hab _ => ?_
        cases hab
        rw [Nat.zero_add]
        refine own_set Taken.vals_length hov5 hlx y fun w₆ hu6 ho6 => ?_
        refine idx_flat (f := Taken.vals) Taken.vals_length (by omega) ho6.row (by rw [List.length_set]; omega) (by rw [List.length_set]; omega) fun b o hab _ => ?_
        cases hab
        rw [Nat.zero_add]
        refine own_set Taken.vals_length ho6 (by rw [List.length_set]; omega) l[i] fun w₇ hu7 ho7 => ?_
        have hsw : ((A'.reverse ++ y :: l[i] :: R).set (A'.length + 1) y).set A'.length l[i] = A'.reverse ++ l[i] :: y :: R := by
          have := swap_list A'.reverse R l[i] y
          rw [hA] at this
          exact this
        rw [hsw] at ho7
        refine ⟨⟨A', D ++ [y], rfl, by rw [hAD]; simp, ?_, (huv5.trans (hF hu6)).trans (hF hu7), ?_⟩, by omega⟩
        · rw [hsk]
          have : sink takenLt l[i] (y :: A') = y :: sink takenLt l[i] A' := by rw [sink, if_pos ht]
          rw [this]; simp
        · have : A'.reverse ++ l[i] :: ((D ++ [y]).reverse ++ l.drop (i + 1)) = A'.reverse ++ l[i] :: y :: R := by rw [← hR]; simp
          rw [this]; exact ho7
      · refine hend ?_ huv4 ?_
        · rw [sink, if_neg (by rw [hf]; simp)]
        · simp only [List.reverse_cons, List.append_assoc, List.singleton_append]
          exact hov4
    · have : A = [] := List.eq_nil_of_length_eq_zero (by omega)
      subst this
      exact hend rfl huv3 hov3
  · refine ⟨by trivial, hu, ?_⟩
    rcases hi with hi | hi
    · have : i = l.length := by omega
      subst this
      rw [pref_all, List.drop_length, List.append_nil] at ho
      exact ho
    · subst hi
      have : (pref takenLt l 1).reverse ++ l.drop 1 = isort takenLt l := by
        match l, hge with
        | [], _ => rfl
        | [x], _ => rfl
        | x :: y :: l, hge => simp at hge; omega
      rw [this] at ho
      exact ho

theorem sortStable_spec {w : World} {a : Option Addr} {l : List Taken} {cap cp : Nat} (h : OwnAt w a l.length cap T.api_Taken 5 (l.flatMap Taken.vals)) (hb : ∀ t ∈ l, t.block < 1000000) (hl : l.length < 20) :
    CallsR prog K.slices_SortStableFunc_api_Taken #[.slice a l.length cp, .func (.func K.pool_Pool_Taken_1) #[] #[]] w fun v w' => v = .tuple #[] ∧ Upd (fun b => a = some ⟨b, 0, none⟩) w w' ∧ OwnAt w' a (isort takenLt l).length cap T.api_Taken 5 ((isort takenLt l).flatMap Taken.vals) := by
  apply slices_SortStableFunc_api_Taken.sh
  have key : CallsR prog K.slices_stableCmpFunc_api_Taken #[.slice a l.length cp, .int .i64 l.length, .func (.func K.pool_Pool_Taken_1) #[] #[]] w fun v w' => v = .tuple #[] ∧ Upd (fun b => a = some ⟨b, 0, none⟩) w w' ∧ OwnAt w' a (isort takenLt l).length cap T.api_Taken 5 ((isort takenLt l).flatMap Taken.vals) := by
    apply slices_stableCmpFunc_api_Taken.sh
    refine ⟨fun x y u => x = 0 ∧ y = 20 ∧ u = w, fun _ _ _ => 0, ⟨rfl, rfl, rfl⟩, ?_⟩
    rintro x y u ⟨rfl, rfl, rfl⟩
    refine br_dec (fun h => by omega) fun _ => ?_
    refine (insertionSort_spec (cp := cp) h hb (by omega)).mono ?_
    rintro _ w₃ ⟨rfl, hu, ho⟩
    refine ⟨rfl, fun x u => x = 20 ∧ u = w₃, fun _ _ => 0, ⟨rfl, rfl⟩, ?_⟩
    rintro x v ⟨rfl, rfl⟩
    exact br_dec (fun h => by omega) fun _ => ⟨by trivial, hu, ho⟩
  refine key.mono ?_
  rintro _ w' ⟨rfl, hr⟩
  exact ⟨rfl, by trivial, hr⟩

theorem takenRaw_length (P : Pool) (c : Chip) (n : Nat) : (takenRaw P c n).length ≤ n := by
  unfold takenRaw
  exact Nat.le_trans (List.length_filterMap_le _ _) (by simp)
theorem takenRaw_succ (P : Pool) (c : Chip) (n : Nat) : takenRaw P c (n + 1) = takenRaw P c n ++ if (P.blk n).what = 2 then [⟨n, (P.blk n).head, c.isBad n⟩] else [] := by
  unfold takenRaw
  rw [List.range_succ, List.filterMap_append]
  congr 1
  simp only [List.filterMap_cons, List.filterMap_nil]
  split <;> simp_all
theorem takenRaw_block {P : Pool} {c : Chip} {n : Nat} {t : Taken} (h : t ∈ takenRaw P c n) : t.block < n := by
  unfold takenRaw at h
  rw [List.mem_filterMap] at h
  obtain ⟨i, hi, h⟩ := h
  split at h
  · simp at h hi
    rw [← h]; exact hi
  · cases h

theorem pool_Taken_spec {w : World} {M : PLoc} {P : Pool} {c : Chip} {L : Loc} {G : Nat → Prop} (h : PC w M P c L G) (hnb : c.nb < 20) :
    CallsR prog K.pool_Pool_Taken #[.pointer (some ⟨M.q, 0, none⟩)] w fun v w' => Ext w w' ∧ ∃ a cap, v = .slice a (takenPool P c).length cap ∧ OwnAt w' a (takenPool P c).length cap T.api_Taken 5 ((takenPool P c).flatMap Taken.vals) ∧ Fresh w a := by
  apply pool_Pool_Taken.sh
  unfold pool_Pool_Taken.body
  refine (pool_off_spec h).mono ?_
  rintro _ _ ⟨rfl, rfl⟩
  rename_i w
  refine ⟨_, rfl, ?_⟩
  simp only [br_false, nilC_some', add_lit]
  refine ⟨_, _, _, cell_of h.head rfl, ?_⟩
  refine ⟨fun a l cap x u => ∃ i : Nat, x = i ∧ i ≤ c.nb ∧ l = (takenRaw P c i).length ∧ Ext w u ∧ OwnAt u a (takenRaw P c i).length cap T.api_Taken 5 ((takenRaw P c i).flatMap Taken.vals) ∧ Fresh w a, fun _ _ _ x _ => (c.nb - x).toNat,
    ⟨0, rfl, by omega, rfl, Upd.refl _ _, OwnAt.nil _ _ _, Fresh.none _⟩, ?_⟩
  rintro a l cap x u ⟨i, rfl, hi, rfl, hu, ho, hf⟩
  have hpu := h.ext hu
  refine br_dec (fun hlt => ?_) fun hge => ?_
  · have hi' : i < c.nb := by omega
    have e1 : IntKind.i64.wrap ((i : Int) + 1) = ((i + 1 : Nat) : Int) := w64 (by omega) (by omega)
    have hlen := takenRaw_length P c i
    have hsucc := takenRaw_succ P c i
    refine hpu.idx hi' fun hr => ?_
    refine ⟨(P.blk i).what, (P.blk i).head.kind.toNat, (P.blk i).head.era, (P.blk i).head.seq, RowAt.cells hr, fun B w₃ hn3 => ?_⟩
    refine store_of hn3.get (by simp) fun w₄ hput4 => ?_
    have hB : B = u.heap.size := hn3.num
    have hsu := hu.size
    have e34 : Ext u w₄ := Put.upd hn3.upd hput4 (.inl (by omega))
    have e4 := hu.trans e34
    have hg4 := hput4.get
    rw [splice_all _ _ (by simp)] at hg4
    have hp4 := h.ext e4
    refine ⟨(P.blk i).what, cell_of hg4 rfl, br_eq (fun h2 => ?_) fun h2 => ?_⟩
    · rw [if_pos (by omega)] at hsucc
      intro w₅ hd5
      have e5 := e4.trans hd5.upd
      have hp5 := h.ext e5
      have hg5 := Ext.get hd5.upd hg4
      have hs3 := hn3.size
      have hs4 := hput4.size
      have hown : ∀ b, a = some ⟨b, 0, none⟩ → w.heap.size ≤ b ∧ b < u.heap.size := fun b hb => ⟨hf _ hb, OwnAt.blk ho hb⟩
      have hqw : M.q < w.heap.size := (Array.getElem?_eq_some_iff.1 h.head).1
      refine ⟨fun v => Upd (fun b => a = some ⟨b, 0, none⟩) w₅ v, Upd.refl _ _, (P.blk i).head.kind.toNat, (P.blk i).head.era, (P.blk i).head.seq, fun v hv => ?_, _, fun v hv => cell_of (hv.get hp5.head (fun e => by have := hown _ e; omega)) rfl, ?_⟩
      · have := hv.get hg5 (fun e => by have := hown _ e; omega)
        exact cellsAt_of (o := 1) this (fun j v hj => by
          match j, hj with
          | 0, hj => simpa using hj
          | 1, hj => simpa using hj
          | 2, hj => simpa using hj
          | j + 3, hj => simp at hj)
      refine (nand_Bad_spec hp5.chip _).mono ?_
      rintro _ _ ⟨rfl, rfl⟩
      rename_i w₅
      have hd0 : decide ((0 : Int) ≤ ((i : Nat) : Int)) = true := decide_eq_true (by omega)
      refine ⟨_, rfl, Upd.refl _ _, ?_⟩
      rw [hd0, Bool.true_and, Int.toNat_natCast]
      intro B2 w₇ hn7
      refine ⟨Upd.ext hn7.upd, ?_⟩
      have ho7 : OwnAt w₇ a (takenRaw P c i).length cap T.api_Taken 5 ((takenRaw P c i).flatMap Taken.vals) := OwnAt.ext ho ((e34.trans hd5.upd).trans hn7.upd)
      refine append_flat (f := Taken.vals) Taken.vals_length (x := ⟨i, (P.blk i).head, c.isBad i⟩) ho7 (by simp [Taken.vals]) hn7 rfl (by intro v hv; simp [Taken.vals] at hv; rcases hv with rfl | rfl | rfl | rfl | rfl <;> rfl) rfl (by omega) (by omega) fun a' c' w₈ hu8 ho8 hf8 => ?_
      rw [← hsucc] at ho8 ⊢
      have e7 := e5.trans hn7.upd
      refine ⟨(Upd.ext hn7.upd).trans hu8, ⟨i + 1, e1, hi', rfl, Upd.beyond e7 hu8 (fun x hx => (hown x hx).1), ho8, ?_⟩, by rw [e1]; exact meas hi'⟩
      rcases hf8 with rfl | ⟨b, rfl, hb⟩
      · exact hf
      · exact Fresh.some (by have := e7.size; omega)
    · rw [if_neg (by omega), List.append_nil] at hsucc
      refine ⟨⟨i + 1, e1, hi', by rw [hsucc], e4, by rw [hsucc]; exact OwnAt.ext ho e34, hf⟩, by rw [e1]; exact meas hi'⟩
  · have : i = c.nb := by omega
    subst this
    have hlen := takenRaw_length P c c.nb
    refine (sortStable_spec (cp := cap) ho (fun t ht => by have := takenRaw_block ht; omega) (by omega)).mono ?_
    rintro _ w₉ ⟨rfl, hu9, ho9⟩
    have e9 : Ext w w₉ := Upd.beyond hu hu9 (fun x hx => hf _ hx)
    refine ⟨rfl, e9, a, cap, ?_, ho9, hf⟩
    unfold takenPool
    rw [isort_length]

end Go.Den
