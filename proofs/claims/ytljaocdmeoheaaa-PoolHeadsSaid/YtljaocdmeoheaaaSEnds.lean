/- Contracts of layer 1 (ends) and of its reference: numbers as bytes. -/
import Derived.Test.YtljaocdmeoheaaaSh0
import Derived.Test.YtljaocdmeoheaaaSh1
import Derived.Test.YtljaocdmeoheaaaSh2
import Derived.Test.YtljaocdmeoheaaaSh3
import Derived.Test.YtljaocdmeoheaaaSh4
import Derived.Test.YtljaocdmeoheaaaRep
set_option linter.unusedVariables false
set_option linter.unusedSimpArgs false
namespace Go.Den

/-- a number's bytes, the lowest first -/
def leB (n : Nat) : Nat → List UInt8
  | 0 => []
  | k + 1 => UInt8.ofNat (n % 256) :: leB (n / 256) k
/-- the number of such bytes -/
def fromLE : List UInt8 → Nat
  | [] => 0
  | b :: l => b.toNat + 256 * fromLE l
theorem leB_length (k : Nat) : ∀ n, (leB n k).length = k := by
  induction k with
  | zero => intro n; rfl
  | succ k ih => intro n; simp [leB, ih]
theorem leB_getD (k : Nat) : ∀ n i, i < k → (leB n k)[i]? = some (UInt8.ofNat (n / 256 ^ i % 256)) := by
  induction k with
  | zero => intro n i h; omega
  | succ k ih =>
    intro n i h
    cases i with
    | zero => simp [leB]
    | succ i => simp [leB]; rw [ih _ _ (by omega), Nat.div_div_eq_div_mul, Nat.pow_succ, Nat.mul_comm]
theorem fromLE_lt (l : List UInt8) : fromLE l < 256 ^ l.length := by
  induction l with
  | nil => simp [fromLE]
  | cons b l ih => have := b.toNat_lt; simp only [fromLE, List.length_cons, Nat.pow_succ]; omega
theorem fromLE_leB (k : Nat) : ∀ n, n < 256 ^ k → fromLE (leB n k) = n := by
  induction k with
  | zero => intro n h; simp at h; simp [leB, fromLE, h]
  | succ k ih =>
    intro n h
    rw [Nat.pow_succ] at h
    simp only [leB, fromLE]
    rw [ih (n / 256) (by omega)]
    simp
    omega
theorem leB_fromLE (l : List UInt8) : leB (fromLE l) l.length = l := by
  induction l with
  | nil => rfl
  | cons b l ih =>
    have := b.toNat_lt
    simp only [fromLE, List.length_cons, leB]
    rw [show (b.toNat + 256 * fromLE l) / 256 = fromLE l by omega, show (b.toNat + 256 * fromLE l) % 256 = b.toNat by omega, ih]
    simp
theorem fromLE_append (l m : List UInt8) : fromLE (l ++ m) = fromLE l + 256 ^ l.length * fromLE m := by
  induction l with
  | nil => simp [fromLE]
  | cons b l ih => simp only [List.cons_append, fromLE, ih, List.length_cons, Nat.pow_succ]; rw [Nat.mul_add, Nat.add_assoc, ← Nat.mul_assoc, Nat.mul_comm 256 (256 ^ _)]

def isSz (n : Int) : Bool := n == 1 || n == 2 || n == 4 || n == 8
theorem ends_isSize_spec (n : Int) (w : World) : CallsR prog K.ends_isSize #[.int .i64 n] w fun v w' => v = .bool (isSz n) ∧ w' = w := by
  apply ends_isSize.sh
  unfold ends_isSize.body isSz
  refine br_eq (fun h => ?_) fun h => br_eq (fun h => ?_) fun h => br_eq (fun h => ?_) fun h => ?_ <;> simp [*]
theorem carrackref01_Size_spec (n : Int) (w : World) : CallsR prog K.carrackref01_Size #[.int .i64 n] w fun v w' => v = .bool (isSz n) ∧ w' = w := by
  apply carrackref01_Size.sh
  unfold carrackref01_Size.body isSz
  refine br_eq (fun h => ?_) fun h => br_eq (fun h => ?_) fun h => br_eq (fun h => ?_) fun h => ?_ <;> simp [*]

theorem isSz_cases {k : Nat} (h : isSz k = true) : k = 1 ∨ k = 2 ∨ k = 4 ∨ k = 8 := by
  simp [isSz] at h; omega

theorem pow256 {k : Nat} (h : isSz k = true) : (256 : Nat) ^ k ≤ 18446744073709551616 := by
  rcases isSz_cases h with rfl | rfl | rfl | rfl <;> decide
theorem pow_shift (i : Nat) : (2 : Int) ^ (8 * i) = ((256 ^ i : Nat) : Int) := by
  rw [Int.pow_mul]; norm_cast

theorem shr_byte (n i : Nat) (hi : i < 8) : Int.fdiv n (2 ^ (min (Int.toNat (8 * (i : Int))) 64)) = ((n / 256 ^ i : Nat) : Int) := by
  have e1 : (8 * (i : Int)).toNat = 8 * i := by omega
  have e2 : min (8 * i) 64 = 8 * i := by omega
  rw [e1, e2, pow_shift, Int.fdiv_eq_ediv_of_nonneg _ (by exact Int.natCast_nonneg _)]
  exact (Int.natCast_ediv _ _).symm
theorem zeros_bytes (k : Nat) : zerosL [Value.int .u8 0] k = List.replicate k (Value.int .u8 0) := by
  induction k with
  | zero => rfl
  | succ m ih => simp [zerosL, ih, List.replicate_succ]
theorem bv_mod (m : Nat) : Value.int .u8 (IntKind.u8.wrap (m : Int)) = bv (UInt8.ofNat (m % 256)) := by
  rw [wu8_mod]
  simp

/-- ends.Put, of a number of the size -/
theorem ends_Put_spec (n k : Nat) (w : World) (hk : isSz k = true) (hn : n < 256 ^ k) :
    CallsR prog K.ends_Put #[.int .u64 n, .int .i64 k] w fun v w' => ∃ a c, v = .tuple #[.slice a k c, .int .i64 0] ∧ BytesAt w' a (leB n k) ∧ Fresh w a ∧ Ext w w' := by
  have hk8 : k ≤ 8 := by rcases isSz_cases hk with rfl | rfl | rfl | rfl <;> omega
  have hn64 := Nat.lt_of_lt_of_le hn (pow256 hk)
  apply ends_Put.sh
  refine ⟨fun u => u = w, ?_, ?_⟩
  · refine (ends_isSize_spec _ w).mono ?_
    rintro _ _ ⟨rfl, rfl⟩
    refine ⟨_, rfl, ?_⟩
    rw [hk]
    simp only [Bool.not_true, br_false]
    refine br_dec (fun h8 => ?_) fun h8 => trivial
    have h8' : k < 8 := by omega
    rw [w64 (by omega) (by omega), wu64 (by omega) (by omega)]
    refine ⟨by omega, br_ne (fun hne => ?_) fun _ => trivial⟩
    exfalso
    apply hne
    simp only [bits_u64]
    rw [shr_byte n k h8', Nat.div_eq_of_lt hn]
    rfl
  · rintro w' rfl
    refine ⟨by omega, by omega, by omega, by omega, rfl, fun b w₁ hnew => ?_⟩
    rw [zeros_bytes, Int.toNat_natCast] at hnew
    refine ⟨fun x w₂ => ∃ i : Nat, x = i ∧ i ≤ k ∧ Ext w' w₂ ∧ w₂.heap[b]? = some (.cells (((leB n k).map bv).take i ++ (List.replicate k (Value.int .u8 0)).drop i).toArray T.uint8 (0, 0)), fun x _ => ((k : Int) - x).toNat,
      ⟨0, rfl, by omega, hnew.upd, by simpa using hnew.get⟩, ?_⟩
    rintro x w₂ ⟨i, rfl, hi, hext, hb⟩
    refine br_dec (fun hlt => ?_) fun hge => ?_
    · simp only [Int.toNat_natCast] at hlt
      have hlt' : i < k := by omega
      have hl : i < ((leB n k).map bv).length := by simp [leB_length]; exact hlt'
      rw [w64 (by omega) (by omega), wu64 (by omega) (by omega)]
      refine ⟨by omega, by omega, by simp; omega, ?_⟩
      simp only [nilC_some', add_lit, Nat.mul_one, Nat.zero_add, Int.toNat_natCast, bits_u64]
      refine store_of hb (by simp [leB_length]; omega) fun w₃ hput => ?_
      have hval : Value.int .u8 (IntKind.u8.wrap (Int.fdiv n (2 ^ (min (Int.toNat (8 * (i : Int))) 64)))) = ((leB n k).map bv)[i] := by
        rw [shr_byte n i (by omega), bv_mod]
        have := leB_getD k n i hlt'
        have e := (List.getElem?_eq_some_iff.1 this).2
        simp only [List.getElem_map]
        rw [e]
      rw [hval, fill_step _ _ _ hl (by simp [leB_length])] at hput
      rw [w64 (by omega) (by omega)]
      refine ⟨⟨i + 1, by omega, by omega, Put.upd hext hput (.inl (by rw [hnew.num]; exact Nat.le_refl _)), hput.get⟩, by omega⟩
    · simp only [Int.toNat_natCast] at hge
      have : i = k := by omega
      subst this
      refine ⟨_, _, rfl, ?_, Fresh.some (by rw [hnew.num]; exact Nat.le_refl _), hext⟩
      refine RowAt.of hb fun j v hj => ?_
      rw [List.take_of_length_le (by simp [leB_length])]
      have hlt := (List.getElem?_eq_some_iff.1 hj).1
      simp only [Nat.zero_add]
      rw [List.getElem?_toArray, List.getElem?_append_left hlt]
      exact hj

/-! ### Readers -/
/-- a reader at r: what is left, and whether it refused -/
structure ReaderAt (w : World) (r : Nat) (l : List UInt8) (no : Bool) : Prop where
  at_ : ∃ a c, w.heap[r]? = some (.cells #[.bool true, .slice a l.length c, .bool no] T.ends_Reader (0, 0)) ∧ BytesAt w a l ∧ l.length ≤ c ∧ ∀ p, a = some p → p.block ≠ r

theorem clone_le (n : Nat) : Builtin.nextslicecap n 0 = n ∨ n = 0 := by
  unfold Builtin.nextslicecap
  by_cases h : n > 2 * 0
  · left; rw [if_pos h]
  · right; omega

/-- append(nil, s...) : a copy -/
theorem append_copy {a : Option Addr} {l : List UInt8} {c : Nat} {w : World} (hl : BytesAt w a l) (hn : l.length ≤ 281474976710656) {K : Option Addr → Nat → Nat → World → Prop}
    (hk : ∀ a' c' w', Ext w w' → BytesAt w' a' l → l.length ≤ c' → (∀ p, a' = some p → w.heap.size ≤ p.block) → (l = [] → a' = none) → K a' l.length c' w') :
    appendP T.uint8 1 1 [Value.int .u8 0] none 0 0 (Value.slice a l.length c) w K := by
  refine ⟨l.length, rfl, l.map bv, ?_, ?_, ?_, ?_⟩
  · unfold readP
    cases l with
    | nil => cases a <;> simp [cellsAt]
    | cons b l =>
      obtain ⟨b', o, rfl, _⟩ := RowAt.blk hl (by simp)
      exact ⟨by simp, hl.cells⟩
  · intro v hv
    simp at hv
    obtain ⟨x, _, rfl⟩ := hv
    rfl
  · intro h
    have : l = [] := List.eq_nil_of_length_eq_zero (by omega)
    subst this
    exact hk none 0 w (Upd.refl _ _) (RowAt.nil _ _) (by simp) (by simp) (by simp)
  · intro h
    refine ⟨by omega, ?_, [], rfl, ?_⟩
    · rcases clone_le l.length with h' | h'
      · simp only [Nat.zero_add]; rw [h']; omega
      · omega
    · intro cap b w' hcap hnew
      have e : Ext w w' := (drew_upd w).trans hnew.upd
      simp only [Nat.zero_add] at hcap ⊢
      refine hk (some ⟨b, 0, none⟩) cap w' e (RowAt.of hnew.get fun j v hj => ?_) hcap ?_ ?_
      · have hlt := (List.getElem?_eq_some_iff.1 hj).1
        simp only [List.nil_append, Nat.zero_add, List.getElem?_toArray]
        rw [List.getElem?_append_left hlt]
        exact hj
      · rintro p hp
        cases hp
        rw [hnew.num]
        exact Nat.le_refl _
      · rintro rfl
        simp at h

theorem ends_New_spec (a : Option Addr) (l : List UInt8) (c : Nat) (w : World) (hl : BytesAt w a l) (hn : l.length ≤ 281474976710656) :
    CallsR prog K.ends_New #[.slice a l.length c] w fun v w' => ∃ r, v = .pointer (some ⟨r, 0, none⟩) ∧ w.heap.size ≤ r ∧ ReaderAt w' r l false ∧ Ext w w' := by
  apply ends_New.sh
  unfold ends_New.body
  refine append_copy hl hn fun a' c' w₁ e hb hc hfr _ r w₂ hnew => ?_
  refine ⟨r, rfl, ?_, ⟨a', c', hnew.get, hb.ext hnew.upd, hc, ?_⟩, e.trans hnew.upd⟩
  · rw [hnew.num]; exact e.size
  · rintro p rfl heq
    have h1 := hnew.num
    by_cases hl0 : l = []
    · rename_i h0; exact absurd (h0 hl0) (by simp)
    · obtain ⟨b, o, hab, hlt⟩ := RowAt.blk hb (by simpa using hl0)
      cases hab
      simp at heq
      omega

theorem ends_Reader_off_spec (r : Nat) (l : List UInt8) (no : Bool) (w : World) (h : ReaderAt w r l no) :
    CallsR prog K.ends_Reader_off #[.pointer (some ⟨r, 0, none⟩)] w fun v w' => v = .bool false ∧ w' = w := by
  obtain ⟨a, c, hr, _⟩ := h.at_
  apply ends_Reader_off.sh
  simp only [ends_Reader_off.body, Option.isNone_some, br_false, nilC_some']
  exact ⟨true, cell_of hr rfl, rfl, trivial⟩

theorem ends_Reader_cut_spec (r k : Nat) (l : List UInt8) (no : Bool) (w : World) (h : ReaderAt w r l no) :
    CallsR prog K.ends_Reader_cut #[.pointer (some ⟨r, 0, none⟩), .int .i64 k] w fun v w' => Upd (· = r) w w' ∧
      if no = true ∨ l.length < k then v = .tuple #[.slice none 0 0, .int .i64 4] ∧ ReaderAt w' r l true
      else ∃ a c, v = .tuple #[.slice a k c, .int .i64 0] ∧ BytesAt w' a (l.take k) ∧ ReaderAt w' r (l.drop k) false := by
  obtain ⟨a, c, hr, hb, hlc, hne⟩ := h.at_
  apply ends_Reader_cut.sh
  simp only [ends_Reader_cut.body, nilC_some', add_lit, Nat.zero_add]
  refine ⟨no, cell_of hr rfl, ?_⟩
  have hno : ∀ w', Put w r (.cells (splice #[Value.bool true, Value.slice a l.length c, Value.bool no] 2 [Value.bool true]) T.ends_Reader (0, 0)) w' → ReaderAt w' r l true := by
    intro w' hput
    refine ⟨a, c, hput.get, RowAt.upd hb hput.upd1 fun p hp => hne p hp, hlc, hne⟩
  cases no with
  | true =>
    simp only [br_true]
    refine store_of hr (by simp) fun w' hput => ⟨hput.upd1, ?_⟩
    simp only [true_or, if_true]
    exact ⟨trivial, hno w' hput⟩
  | false =>
    simp only [br_false]
    refine ⟨a, l.length, c, cell_of hr rfl, br_dec (fun hlt => ?_) fun hge => ?_⟩
    · refine store_of hr (by simp) fun w' hput => ⟨hput.upd1, ?_⟩
      have : l.length < k := by omega
      simp only [this, or_true, if_true]
      exact ⟨trivial, hno w' hput⟩
    · have hk : k ≤ l.length := by omega
      refine ⟨a, l.length, c, cell_of hr rfl, ?_⟩
      refine ⟨by simp, by simp; omega, by simp, by simp, by simp, by simp, by simp, a, l.length, c, cell_of hr rfl, ?_⟩
      refine ⟨by simp, by simp, by simp, by simp; omega, by simp, by simp; omega, by simp, ?_⟩
      refine store_of hr (by simp) fun w' hput => ⟨hput.upd1, ?_⟩
      have hnk : ¬ (false = true ∨ l.length < k) := by simp; omega
      rw [if_neg hnk]
      have hb' : BytesAt w' a l := RowAt.upd hb hput.upd1 fun p hp => hne p hp
      refine ⟨_, _, rfl, ?_, ?_⟩
      · simp only [Option.getD_some, Option.getD_none, Int.toNat_natCast, Int.toNat_zero, Nat.zero_mul]
        have e : (if k = 0 then a else Option.map (fun x => Addr.add x 0) a) = a := by
          cases a <;> simp [add_zero]
        rw [e]
        exact BytesAt.take hb' k
      · simp only [Option.getD_some, Option.getD_none, Int.toNat_natCast, Nat.mul_one] at hput ⊢
        by_cases hck : c = k
        · have hlk : l.length = k := by omega
          rw [if_pos hck] at hput
          have hd : l.drop k = [] := List.drop_of_length_le (by omega)
          refine ⟨a, c - k, ?_, by rw [hd]; exact RowAt.nil _ _, by simp; omega, hne⟩
          rw [hput.get]
          simp [splice]
        · rw [if_neg hck] at hput
          refine ⟨a.map (·.add k), c - k, ?_, ?_, by simp; omega, ?_⟩
          · rw [hput.get]
            simp [splice]
          · exact BytesAt.from hb' k
          · intro p hp
            cases ha : a with
            | none => simp [ha] at hp
            | some q =>
              simp [ha] at hp
              subst hp
              have := hne q ha
              simp only [Addr.add]
              split <;> exact this

end Go.Den
