/- Words for contracts: rows of structs. -/
import Derived.Test.YtljaocdmeoheaaaRep2
set_option linter.unusedSimpArgs false
set_option linter.unusedVariables false
namespace Go.Den

theorem meas {n i : Nat} (h : i < n) : ((n : Int) - ((i + 1 : Nat) : Int)).toNat < ((n : Int) - (i : Int)).toNat := by omega

variable {α : Type} {f : α → List Value} {k : Nat}
theorem flat_len (hf : ∀ x, (f x).length = k) (l : List α) : (l.flatMap f).length = l.length * k := by
  induction l with
  | nil => simp
  | cons x l ih => simp [hf, ih, Nat.succ_mul, Nat.add_comm]
theorem flat_drop (hf : ∀ x, (f x).length = k) (l : List α) (i : Nat) : (l.flatMap f).drop (i * k) = (l.drop i).flatMap f := by
  induction i generalizing l with
  | zero => simp
  | succ i ih =>
    cases l with
    | nil => simp
    | cons x l =>
      rw [List.flatMap_cons, List.drop_succ_cons, ← ih, Nat.succ_mul, Nat.add_comm, ← List.drop_drop]
      congr 1
      rw [← hf x]; simp
theorem flat_take (hf : ∀ x, (f x).length = k) (l : List α) (i : Nat) : (l.flatMap f).take (i * k) = (l.take i).flatMap f := by
  induction i generalizing l with
  | zero => simp
  | succ i ih =>
    cases l with
    | nil => simp
    | cons x l =>
      rw [List.flatMap_cons, List.take_succ_cons, List.flatMap_cons, ← ih, Nat.succ_mul, Nat.add_comm, List.take_append, hf x]
      rw [List.take_of_length_le (by rw [hf]; omega)]
      congr 2
      omega
theorem flat_set (hf : ∀ x, (f x).length = k) (l : List α) {i : Nat} (hi : i < l.length) (x : α) : (l.flatMap f).take (i * k) ++ f x ++ (l.flatMap f).drop (i * k + k) = (l.set i x).flatMap f := by
  have e : i * k + k = (i + 1) * k := by rw [Nat.succ_mul]
  rw [e, flat_drop hf, flat_take hf, List.set_eq_take_append_cons_drop, if_pos hi]
  simp
theorem flat_get (hf : ∀ x, (f x).length = k) (l : List α) {i : Nat} (hi : i < l.length) : ((l.flatMap f).drop (i * k)).take k = f l[i] := by
  rw [flat_drop hf, List.drop_eq_getElem_cons hi, List.flatMap_cons, ← hf l[i]]
  simp

/-- an element is pointed at -/
theorem idx_flat (hf : ∀ x, (f x).length = k) (hk : 1 ≤ k) {w : World} {a : Option Addr} {l : List α} {n i : Nat} (hr : RowAt w a (l.flatMap f)) (hn : n = l.length) (hi : i < l.length) {K : Addr → Prop}
    (h : ∀ b o, a = some ⟨b, o, none⟩ → RowAt w (some ⟨b, o + i * k, none⟩) (f l[i]) → K ⟨b, o + i * k, none⟩) : idxP a n (i : Int) k K := by
  subst hn
  refine ⟨by omega, by omega, ?_⟩
  have hne : l.flatMap f ≠ [] := List.ne_nil_of_length_pos (by rw [flat_len hf]; exact Nat.mul_pos (by omega) (by omega))
  obtain ⟨b, o, rfl, _⟩ := RowAt.blk hr hne
  simp only [nilC_some', add_lit, Int.toNat_natCast]
  refine h b o rfl ?_
  rw [← flat_get hf l hi]
  exact RowAt.take (RowAt.drop hr (i * k)) k

/-- append of an element out of a block of its own -/
theorem append_flat (hf : ∀ x, (f x).length = k) {w₀ w₁ : World} {a : Option Addr} {l : List α} {cap n bytes : Nat} {e : TypeId} {z : List Value} (h : OwnAt w₁ a l.length cap e k (l.flatMap f)) {B : Nat} {x : α} {cs : Array Value} (hcs : cs.toList = f x) (hn : New w₀ (.cells cs e) B w₁) (hnl : n = l.length)
    (h1 : ∀ v ∈ f x, v.oneCell' = true) (hz : z.length = k) (hb : l.length ≤ 1000000000) (hby : bytes ≤ 10000) {K : Option Addr → Nat → Nat → World → Prop}
    (hk : ∀ a' c' w', Upd (fun b => a = some ⟨b, 0, none⟩) w₁ w' → OwnAt w' a' (l ++ [x]).length c' e k ((l ++ [x]).flatMap f) → (a' = a ∨ ∃ b, a' = some ⟨b, 0, none⟩ ∧ w₁.heap.size ≤ b) → K a' (l ++ [x]).length c' w') :
    appendP e k bytes z a n cap (.slice (some ⟨B, 0, none⟩) 1 1) w₁ K := by
  subst hnl
  have hrow : RowAt w₁ (some ⟨B, 0, none⟩) (f x) := RowAt.of hn.get fun j v hj => by rw [← hcs] at hj; simpa using hj
  refine append_own h rfl (read_row hrow (by rw [hf]; omega)) (by rw [hf]; omega) h1 hz ?_ (by omega) fun a' c' w' hu ho hf' => ?_
  · have : (2 * (l.length + 1) + 192) * bytes ≤ (2 * (1000000000 + 1) + 192) * 10000 := Nat.mul_le_mul (by omega) hby
    omega
  · have := hk a' c' w' hu (by simpa using ho) hf'
    simpa using this

/-- append of elements that lie elsewhere -/
theorem append_rows (hf : ∀ x, (f x).length = k) {w₁ : World} {a ax : Option Addr} {l xs : List α} {cap cx n m bytes : Nat} {e : TypeId} {z : List Value} (h : OwnAt w₁ a l.length cap e k (l.flatMap f)) (hx : RowAt w₁ ax (xs.flatMap f)) (hnl : n = l.length) (hm : m = xs.length)
    (h1 : ∀ x ∈ xs, ∀ v ∈ f x, v.oneCell' = true) (hz : z.length = k) (hb : l.length + xs.length ≤ 1000000000) (hby : bytes ≤ 10000) {K : Option Addr → Nat → Nat → World → Prop}
    (hk : ∀ a' c' w', Upd (fun b => a = some ⟨b, 0, none⟩) w₁ w' → OwnAt w' a' (l ++ xs).length c' e k ((l ++ xs).flatMap f) → (a' = a ∨ ∃ b, a' = some ⟨b, 0, none⟩ ∧ w₁.heap.size ≤ b) → K a' (l ++ xs).length c' w') :
    appendP e k bytes z a n cap (.slice ax m cx) w₁ K := by
  subst hnl; subst hm
  refine append_own h rfl (read_row hx (by rw [flat_len hf])) (by rw [flat_len hf]) (fun v hv => ?_) hz ?_ (by omega) fun a' c' w' hu ho hf' => ?_
  · obtain ⟨x, hx, hv⟩ := List.mem_flatMap.1 hv
    exact h1 x hx v hv
  · have : (2 * (l.length + xs.length) + 192) * bytes ≤ (2 * 1000000000 + 192) * 10000 := Nat.mul_le_mul (by omega) hby
    omega
  · have := hk a' c' w' hu (by simpa using ho) hf'
    simpa using this

/-- s[:k] -/
theorem slice_to {size : Nat} {a : Option Addr} {len cap : Nat} {j : Int} {K : Option Addr → Nat → Nat → Prop} (h0 : 0 ≤ j) (h1 : j ≤ len) (h2 : len ≤ cap) (hk : K a j.toNat cap) : sliceP size a len cap none (some j) none K := by
  refine ⟨by simp, by simp, by simpa using h0, by simp; omega, by simp, by simpa using h0, by simp, ?_⟩
  have e2 : (if (Option.getD none (cap : Int)).toNat = (Option.getD none (0 : Int)).toNat then a else Option.map (fun x => Addr.add x ((Option.getD none (0 : Int)).toNat * size)) a) = a := by
    cases a <;> simp [add_zero]
  rw [e2]
  simpa using hk
/-- what s[k:] reads as -/
theorem row_from {w : World} {a : Option Addr} {vs : List Value} {len cap size j : Nat} (h : RowAt w a vs) (hl : vs.length = len * size) (hc : len ≤ cap) : RowAt w (if cap = j then a else a.map (·.add (j * size))) (vs.drop (j * size)) := by
  split
  · rename_i e
    have : vs.drop (j * size) = [] := List.drop_of_length_le (by rw [hl]; exact Nat.mul_le_mul_right _ (by omega))
    rw [this]; exact RowAt.nil _ _
  · by_cases hv : vs = []
    · subst hv
      simp only [List.drop_nil]
      exact RowAt.nil _ _
    · obtain ⟨b, o, rfl, _⟩ := RowAt.blk h hv
      simp only [Option.map_some, add_lit]
      exact RowAt.drop h _

end Go.Den
