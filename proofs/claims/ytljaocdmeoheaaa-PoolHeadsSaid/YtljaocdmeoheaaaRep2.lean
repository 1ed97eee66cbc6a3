/- Words for contracts: slices of the call's own, that are appended to, copied into, cut. -/
import Derived.Test.YtljaocdmeoheaaaRep
set_option linter.unusedSimpArgs false
set_option linter.unusedVariables false
namespace Go.Den

theorem growBy_le (n : Nat) : ∀ k c, c ≤ 2 * n + 192 → Builtin.growBy n k c ≤ 2 * n + 192
  | 0, c, h => h
  | k + 1, c, h => by
    unfold Builtin.growBy
    split
    · exact h
    · exact growBy_le n k _ (by omega)
theorem nextcap_le {n c : Nat} (h : c < n) : Builtin.nextslicecap n c ≤ 2 * n + 192 := by
  unfold Builtin.nextslicecap
  split
  · omega
  · split
    · omega
    · exact growBy_le n 4 c (by omega)

/-- a slice of the call's own: its elements' cells, its block from the begin -/
def OwnAt (w : World) (a : Option Addr) (len cap : Nat) (e : TypeId) (size : Nat) (cells : List Value) : Prop :=
  cells.length = len * size ∧ len ≤ cap ∧ ((a = none ∧ len = 0 ∧ cap = 0) ∨
    ∃ b cur, a = some ⟨b, 0, none⟩ ∧ w.heap[b]? = some (.cells cur e (0, 0)) ∧ cur.size = cap * size ∧ cur.toList.take (len * size) = cells)
theorem OwnAt.nil (w : World) (e : TypeId) (size : Nat) : OwnAt w none 0 0 e size [] := ⟨by simp, Nat.le_refl _, .inl ⟨rfl, rfl, rfl⟩⟩
theorem OwnAt.row {w : World} {a : Option Addr} {len cap : Nat} {e : TypeId} {size : Nat} {cells : List Value} (h : OwnAt w a len cap e size cells) : RowAt w a cells := by
  obtain ⟨hl, _, h⟩ := h
  rcases h with ⟨rfl, rfl, rfl⟩ | ⟨b, cur, rfl, hb, hs, ht⟩
  · exact .inl (List.eq_nil_of_length_eq_zero (by simpa using hl))
  · refine RowAt.of hb fun j v hj => ?_
    rw [← ht] at hj
    rw [List.getElem?_take] at hj
    split at hj
    · simpa using hj
    · cases hj
theorem OwnAt.upd {F : Nat → Prop} {w w' : World} {a : Option Addr} {len cap : Nat} {e : TypeId} {size : Nat} {cells : List Value} (h : OwnAt w a len cap e size cells) (k : Upd F w w') (hf : ∀ b, a = some ⟨b, 0, none⟩ → ¬ F b) : OwnAt w' a len cap e size cells := by
  obtain ⟨hl, hc, h⟩ := h
  refine ⟨hl, hc, ?_⟩
  rcases h with h | ⟨b, cur, rfl, hb, hs, ht⟩
  · exact .inl h
  · exact .inr ⟨b, cur, rfl, k.get hb (hf b rfl), hs, ht⟩
theorem OwnAt.ext {w w' : World} {a : Option Addr} {len cap : Nat} {e : TypeId} {size : Nat} {cells : List Value} (h : OwnAt w a len cap e size cells) (k : Ext w w') : OwnAt w' a len cap e size cells := OwnAt.upd h k fun _ _ hf => hf
theorem OwnAt.blk {w : World} {a : Option Addr} {len cap : Nat} {e : TypeId} {size : Nat} {cells : List Value} (h : OwnAt w a len cap e size cells) {b : Nat} (ha : a = some ⟨b, 0, none⟩) : b < w.heap.size := by
  obtain ⟨_, _, h⟩ := h
  rcases h with ⟨h, _⟩ | ⟨b', cur, h, hb, _⟩
  · rw [h] at ha; cases ha
  · rw [h] at ha; cases ha; exact (Array.getElem?_eq_some_iff.1 hb).1
/-- of a new block -/
theorem OwnAt.new {w w' : World} {b : Nat} {cs : Array Value} {e : TypeId} (h : New w (.cells cs e) b w') {n size : Nat} (hs : cs.size = n * size) : OwnAt w' (some ⟨b, 0, none⟩) n n e size cs.toList :=
  ⟨by simpa using hs, Nat.le_refl _, .inr ⟨b, cs, rfl, h.get, hs, by rw [List.take_of_length_le (by simp [hs])]⟩⟩

/-- what is read of a row, as append and copy read it -/
theorem read_row {w : World} {a : Option Addr} {len cap size : Nat} {vs : List Value} (h : RowAt w a vs) (hl : vs.length = len * size) : readP w size (.slice a len cap) len vs := by
  unfold readP
  cases vs with
  | nil => cases a <;> simp at hl ⊢ <;> simp [cellsAt, ← hl]
  | cons v vs =>
    obtain ⟨b, o, rfl, _⟩ := RowAt.blk h (by simp)
    exact ⟨hl, RowAt.cells h⟩

/-- append onto a slice of the call's own -/
theorem append_own {w : World} {a : Option Addr} {len cap : Nat} {e : TypeId} {size bytes : Nat} {z : List Value} {cells : List Value} (h : OwnAt w a len cap e size cells) {x : Value} {m : Nat} {new : List Value}
    (hx : lenV x = some m) (hr : readP w size x m new) (hm : new.length = m * size) (h1 : ∀ v ∈ new, v.oneCell' = true) (hz : z.length = size) (hbig : (2 * (len + m) + 192) * bytes ≤ 2 ^ 48) (hb : len + m < 9223372036854775808)
    {K : Option Addr → Nat → Nat → World → Prop}
    (hk : ∀ a' c' w', Upd (fun b => a = some ⟨b, 0, none⟩) w w' → OwnAt w' a' (len + m) c' e size (cells ++ new) → (a' = a ∨ ∃ b, a' = some ⟨b, 0, none⟩ ∧ w.heap.size ≤ b) → K a' (len + m) c' w') :
    appendP e size bytes z a len cap x w K := by
  obtain ⟨hl, hc, h⟩ := h
  refine ⟨m, hx, new, hr, h1, fun hroom => ?_, fun hgrow => ⟨hb, ?_, cells, ?_, ?_⟩⟩
  · rcases h with ⟨rfl, rfl, rfl⟩ | ⟨b, cur, rfl, hbk, hs, ht⟩
    · have hm0 : m = 0 := by omega
      subst hm0
      have hn : new = [] := List.eq_nil_of_length_eq_zero (by simpa using hm)
      have hc0 : cells = [] := List.eq_nil_of_length_eq_zero (by simpa using hl)
      subst hn; subst hc0
      exact hk none 0 w (Upd.refl _ _) (OwnAt.nil _ _ _) (.inl rfl)
    · simp only [add_lit, Nat.zero_add]
      have hfit : len * size + new.length ≤ cur.size := by rw [hm, hs, ← Nat.add_mul]; exact Nat.mul_le_mul_right _ hroom
      refine store_of hbk hfit fun w' hput => hk _ _ w' (Put.upd (Upd.refl _ _) hput (.inr rfl)) ?_ (.inl rfl)
      refine ⟨by simp [hl, hm, Nat.add_mul], hroom, .inr ⟨b, _, rfl, hput.get, by rw [splice_size _ _ _ hfit, hs], ?_⟩⟩
      simp only [splice]
      rw [← ht, Nat.add_mul, ← hm]
      have : (cur.toList.take (len * size) ++ new).length = len * size + new.length := by simp; omega
      rw [← this, List.take_append_of_le_length (Nat.le_refl _), List.take_length]
  · have := nextcap_le hgrow
    exact Nat.le_trans (Nat.mul_le_mul_right _ this) hbig
  · exact read_row (by
      rcases h with ⟨rfl, rfl, rfl⟩ | ⟨b, cur, rfl, hbk, hs, ht⟩
      · exact .inl (List.eq_nil_of_length_eq_zero (by simpa using hl))
      · exact OwnAt.row ⟨hl, hc, .inr ⟨b, cur, rfl, hbk, hs, ht⟩⟩) hl
  · intro cap' b w' hcap hnew
    have e1 : Ext w w' := (drew_upd w).trans hnew.upd
    refine hk _ _ w' (Upd.ext e1) ?_ (.inr ⟨b, rfl, by rw [hnew.num]; exact Nat.le_refl _⟩)
    refine ⟨by simp [hl, hm, Nat.add_mul], hcap, .inr ⟨b, _, rfl, hnew.get, ?_, ?_⟩⟩
    · simp [hl, hm, zerosL_length, hz]
      rw [← Nat.add_mul, ← Nat.add_mul]
      congr 1
      omega
    · have : (cells ++ new).length = (len + m) * size := by simp [hl, hm, Nat.add_mul]
      simp only []
      rw [← this, List.take_append_of_le_length (Nat.le_refl _), List.take_length]

theorem oneCell_bytes {l : List UInt8} : ∀ v ∈ l.map bv, v.oneCell' = true := by
  intro v hv
  simp at hv
  obtain ⟨x, _, rfl⟩ := hv
  rfl

/-- append of bytes onto bytes of the call's own -/
theorem append_bytes {w : World} {a : Option Addr} {l : List UInt8} {cap : Nat} (h : OwnAt w a l.length cap T.uint8 1 (l.map bv)) {ax : Option Addr} {xs : List UInt8} {cx : Nat} (hx : BytesAt w ax xs)
    (hb : l.length + xs.length ≤ 100000000000000) {K : Option Addr → Nat → Nat → World → Prop}
    (hk : ∀ a' c' w', Upd (fun b => a = some ⟨b, 0, none⟩) w w' → OwnAt w' a' (l ++ xs).length c' T.uint8 1 ((l ++ xs).map bv) → (a' = a ∨ ∃ b, a' = some ⟨b, 0, none⟩ ∧ w.heap.size ≤ b) → K a' (l ++ xs).length c' w') :
    appendP T.uint8 1 1 [Value.int .u8 0] a l.length cap (.slice ax xs.length cx) w K := by
  refine append_own h rfl (read_row hx (by simp)) (by simp) oneCell_bytes rfl (by omega) (by omega) fun a' c' w' hu ho hf => ?_
  have := hk a' c' w' hu (by simpa [List.length_append] using ho) hf
  simpa [List.length_append] using this

/-- append of one byte, out of a block of its own -/
theorem append_byte {w w₁ : World} {a : Option Addr} {l : List UInt8} {cap : Nat} (h : OwnAt w a l.length cap T.uint8 1 (l.map bv)) {B : Nat} {x : UInt8} (hn : New w (.cells #[bv x] T.uint8) B w₁)
    (hb : l.length + 1 ≤ 100000000000000) {K : Option Addr → Nat → Nat → World → Prop}
    (hk : ∀ a' c' w', Upd (fun b => a = some ⟨b, 0, none⟩) w w' → OwnAt w' a' (l ++ [x]).length c' T.uint8 1 ((l ++ [x]).map bv) → (a' = a ∨ ∃ b, a' = some ⟨b, 0, none⟩ ∧ w.heap.size ≤ b) → K a' (l ++ [x]).length c' w') :
    appendP T.uint8 1 1 [Value.int .u8 0] a l.length cap (.slice (some ⟨B, 0, none⟩) 1 1) w₁ K := by
  refine append_bytes (xs := [x]) (cx := 1) (h.ext hn.upd) (RowAt.of hn.get fun j v hj => by simpa using hj) (by simpa using hb) fun a' c' w' hu ho hf => ?_
  refine hk a' c' w' ((Upd.ext hn.upd).trans hu) ho ?_
  rcases hf with hf | ⟨b, hb', hs⟩
  · exact .inl hf
  · exact .inr ⟨b, hb', Nat.le_trans hn.upd.size hs⟩

/-- s[k:] -/
theorem slice_from {size : Nat} {a : Option Addr} {len cap : Nat} {k : Int} {K : Option Addr → Nat → Nat → Prop} (h0 : 0 ≤ k) (h1 : k ≤ len) (h2 : len ≤ cap)
    (hk : K (if cap = k.toNat then a else a.map (·.add (k.toNat * size))) (len - k.toNat) (cap - k.toNat)) : sliceP size a len cap (some k) none none K := by
  refine ⟨by simp, by simp, by simp, by simp; omega, by simpa using h0, by simpa using h1, by simp, ?_⟩
  simpa using hk
/-- b[k:] of bytes -/
theorem slice_bytes_from {w : World} {a : Option Addr} {l : List UInt8} {cap : Nat} (h : BytesAt w a l) {k : Int} {K : Option Addr → Nat → Nat → Prop} (h0 : 0 ≤ k) (h1 : k ≤ l.length) (h2 : l.length ≤ cap)
    (hk : ∀ a' c', BytesAt w a' (l.drop k.toNat) → (l.drop k.toNat).length ≤ c' → (a' = a ∨ a' = a.map (·.add k.toNat)) → (cap = k.toNat → a' = a) → (cap ≠ k.toNat → a' = a.map (·.add k.toNat)) → K a' (l.drop k.toNat).length c') : sliceP 1 a l.length cap (some k) none none K := by
  refine slice_from h0 h1 h2 ?_
  rw [show l.length - k.toNat = (l.drop k.toNat).length by simp]
  refine hk _ _ ?_ (by simp; omega) ?_ ?_ ?_
  · split
    · rename_i hc
      have : l.drop k.toNat = [] := List.drop_of_length_le (by omega)
      rw [this]; exact BytesAt.nil _ _
    · simpa using BytesAt.from h k.toNat
  · split
    · exact .inl rfl
    · exact .inr (by simp)
  · intro h; rw [if_pos h]
  · intro h; rw [if_neg h]; simp
/-- b[:k:k], b[:k] -/
theorem slice_bytes_to {w : World} {a : Option Addr} {l : List UInt8} {cap : Nat} (h : BytesAt w a l) {k : Int} {mx : Option Int} {K : Option Addr → Nat → Nat → Prop} (h0 : 0 ≤ k) (h1 : k ≤ l.length) (h2 : l.length ≤ cap) (hm : mx = none ∨ mx = some k)
    (hk : ∀ c', BytesAt w a (l.take k.toNat) → (l.take k.toNat).length ≤ c' → K a (l.take k.toNat).length c') : sliceP 1 a l.length cap none (some k) mx K := by
  have e : (l.take k.toNat).length = k.toNat := by simp; omega
  rcases hm with rfl | rfl
  · refine ⟨by simp, by simp, by simpa using h0, by simp; omega, by simp, by simpa using h0, by simp, ?_⟩
    have := hk cap (BytesAt.take h _) (by omega)
    rw [e] at this
    have e2 : (if (Option.getD none (cap : Int)).toNat = (Option.getD none (0 : Int)).toNat then a else Option.map (fun x => Addr.add x ((Option.getD none (0 : Int)).toNat * 1)) a) = a := by
      cases a <;> simp [add_zero]
    rw [e2]
    simpa using this
  · refine ⟨by simpa using h0, by simp; omega, by simpa using h0, by simp, by simp, by simpa using h0, by simp, ?_⟩
    have := hk k.toNat (BytesAt.take h _) (by omega)
    rw [e] at this
    have e2 : (if (Option.getD (some k) (cap : Int)).toNat = (Option.getD none (0 : Int)).toNat then a else Option.map (fun x => Addr.add x ((Option.getD none (0 : Int)).toNat * 1)) a) = a := by
      cases a <;> simp [add_zero]
    rw [e2]
    simpa using this
/-- b[k:m] -/
theorem slice_bytes_mid {w : World} {a : Option Addr} {l : List UInt8} {cap : Nat} (h : BytesAt w a l) {k m : Int} {mx : Option Int} {K : Option Addr → Nat → Nat → Prop} (h0 : 0 ≤ k) (h1 : k ≤ m) (hml : m ≤ l.length) (h2 : l.length ≤ cap) (hm : mx = none ∨ mx = some m)
    (hk : ∀ a' c', BytesAt w a' ((l.take m.toNat).drop k.toNat) → ((l.take m.toNat).drop k.toNat).length ≤ c' → K a' ((l.take m.toNat).drop k.toNat).length c') : sliceP 1 a l.length cap (some k) (some m) mx K := by
  have e : ((l.take m.toNat).drop k.toNat).length = m.toNat - k.toNat := by simp; omega
  have key : ∀ M : Nat, m.toNat ≤ M → BytesAt w (if M = k.toNat then a else a.map (·.add (k.toNat * 1))) ((l.take m.toNat).drop k.toNat) := by
    intro M hM
    split
    · rename_i hc
      have : (l.take m.toNat).drop k.toNat = [] := List.drop_of_length_le (by simp; omega)
      rw [this]; exact BytesAt.nil _ _
    · simpa using BytesAt.from (BytesAt.take h m.toNat) k.toNat
  rcases hm with rfl | rfl
  · refine ⟨by simp, by simp, by simp; omega, by simp; omega, by simpa using h0, by simpa using h1, by simp, ?_⟩
    have := hk _ (cap - k.toNat) (key cap (by omega)) (by omega)
    rw [e] at this
    simpa using this
  · refine ⟨by simp; omega, by simp; omega, by simp; omega, by simp, by simpa using h0, by simpa using h1, by simp, ?_⟩
    have := hk _ (m.toNat - k.toNat) (key m.toNat (Nat.le_refl _)) (by omega)
    rw [e] at this
    simpa using this

end Go.Den
