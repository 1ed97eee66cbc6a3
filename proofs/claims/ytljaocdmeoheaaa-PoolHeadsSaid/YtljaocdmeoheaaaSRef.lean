/- Contracts of the references of layers 0, 1, 2. -/
import Derived.Test.YtljaocdmeoheaaaSNand8
set_option linter.unusedVariables false
set_option linter.unusedSimpArgs false
set_option maxRecDepth 4000
namespace Go.Den

theorem wu64n {m : Nat} (h : m < 18446744073709551616) : IntKind.u64.wrap (m : Int) = m := wu64 (Int.natCast_nonneg _) (by omega)
theorem w64n {m : Nat} (h : m < 9223372036854775808) : IntKind.i64.wrap (m : Int) = m := w64 (by have := Int.natCast_nonneg m; omega) (by omega)
theorem tdiv_nat (i n : Nat) : Int.tdiv (i : Int) (n : Int) = ((i / n : Nat) : Int) := by
  rw [Int.tdiv_eq_ediv_of_nonneg (by omega)]; rfl

/-! ### Same -/
theorem carrackref00_Same_spec {w : World} {a b : Option Addr} {l m : List UInt8} {c d : Nat} (ha : BytesAt w a l) (hb : BytesAt w b m) (hn : l.length ≤ 1000000000000) :
    CallsR prog K.carrackref00_Same #[.slice a l.length c, .slice b m.length d] w fun v w' => v = .bool (l == m) ∧ Ext w w' := by
  apply carrackref00_Same.sh
  refine br_ne (fun hne => ⟨?_, Upd.refl _ _⟩) fun heq => ?_
  · have : l ≠ m := fun e => hne (by rw [e])
    rw [beq_eq_false_iff_ne.2 this]
  · have hlm : l.length = m.length := by omega
    refine ⟨fun x u => ∃ i : Nat, x = i ∧ i ≤ l.length ∧ l.take i = m.take i ∧ Ext w u, fun x _ => (l.length - x).toNat, ⟨0, rfl, by omega, by simp, Upd.refl _ _⟩, ?_⟩
    rintro x u ⟨i, rfl, hi, ht, he⟩
    refine br_dec (fun hlt => ?_) fun hge => ?_
    · intro w₂ hd
      have e2 := he.trans hd.upd
      have hil : i < l.length := by omega
      have him : i < m.length := by omega
      refine ⟨fun v => v = w₂, rfl, idx_byteS (l := l) (fun v hv => hv ▸ RowAt.ext ha e2) ⟨_, rfl⟩ (by omega) (by omega) (idx_byteS (l := m) (fun v hv => hv ▸ RowAt.ext hb e2) ⟨_, rfl⟩ (by omega) (by omega) ?_)⟩
      simp only [Int.toNat_natCast]
      have e1 : l.getD i 0 = l[i] := by simp [List.getD, hil]
      have e3 : m.getD i 0 = m[i] := by simp [List.getD, him]
      rw [e1, e3]
      refine br_ne (fun hne => ⟨?_, e2⟩) fun heq => ?_
      · have : l ≠ m := fun e => by subst e; exact hne rfl
        rw [beq_eq_false_iff_ne.2 this]
      · have e : IntKind.i64.wrap ((i : Int) + 1) = ((i + 1 : Nat) : Int) := w64 (by omega) (by omega)
        rw [e]
        refine ⟨⟨i + 1, rfl, hil, ?_, e2⟩, by omega⟩
        rw [List.take_succ_eq_append_getElem hil, List.take_succ_eq_append_getElem him, ht]
        have : l[i] = m[i] := UInt8.toNat_inj.1 (by omega)
        rw [this]
    · have : i = l.length := by omega
      subst this
      refine ⟨?_, he⟩
      rw [List.take_length, hlm, List.take_length] at ht
      rw [ht]; simp

/-! ### Numbers -/
theorem leB_succ (i : Nat) : ∀ n, leB n (i + 1) = leB n i ++ [UInt8.ofNat (n / 256 ^ i % 256)] := by
  induction i with
  | zero => intro n; simp [leB]
  | succ i ih =>
    intro n
    rw [leB, ih (n / 256), leB]
    simp only [List.cons_append]
    rw [Nat.div_div_eq_div_mul, Nat.pow_succ, Nat.mul_comm]

theorem carrackref01_Put_spec (n k : Nat) (w : World) (hk : isSz k = true) (hn : n < 256 ^ k) :
    CallsR prog K.carrackref01_Put #[.int .u64 n, .int .i64 k] w fun v w' => ∃ a c, v = .tuple #[.slice a k c, .int .i64 0] ∧ OwnAt w' a k c T.uint8 1 ((leB n k).map bv) ∧ Fresh w a ∧ Ext w w' := by
  have hk8 : k ≤ 8 := by rcases isSz_cases hk with rfl | rfl | rfl | rfl <;> omega
  have hn64 := Nat.lt_of_lt_of_le hn (pow256 hk)
  apply carrackref01_Put.sh
  unfold carrackref01_Put.body
  refine (carrackref01_Size_spec _ w).mono ?_
  rintro _ _ ⟨rfl, rfl⟩
  rename_i w
  refine ⟨_, rfl, ?_⟩
  rw [hk]
  simp only [Bool.not_true, br_false]
  refine ⟨fun x a l c y u => ∃ i : Nat, y = i ∧ i ≤ k ∧ x = (n / 256 ^ i : Nat) ∧ l = (leB n i).length ∧ OwnAt u a (leB n i).length c T.uint8 1 ((leB n i).map bv) ∧ Ext w u ∧ Fresh w a, fun _ _ _ _ y _ => (k - y).toNat,
    ⟨0, rfl, by omega, by simp, rfl, OwnAt.nil _ _ _, Upd.refl _ _, Fresh.none _⟩, ?_⟩
  rintro x a l c y u ⟨i, rfl, hi, rfl, rfl, ho, he, hf⟩
  refine br_dec (fun hlt => ?_) fun hge => ?_
  · refine ⟨by omega, fun B w₃ hn3 => ?_⟩
    have et : Int.tmod ((n / 256 ^ i : Nat) : Int) 256 = ((n / 256 ^ i % 256 : Nat) : Int) := tmod_nat _ 256
    rw [et, bv_mod, Nat.mod_mod] at hn3
    have hli := leB_length i n
    refine append_byte ho hn3 (by omega) fun a' c' w' hu ho' hf' => ?_
    rw [← leB_succ] at ho' ⊢
    have e1 : IntKind.i64.wrap ((i : Int) + 1) = ((i + 1 : Nat) : Int) := w64 (by omega) (by omega)
    have e2 : Int.tdiv ((n / 256 ^ i : Nat) : Int) 256 = ((n / 256 ^ (i + 1) : Nat) : Int) := by
      have := tdiv_nat (n / 256 ^ i) 256
      rw [Nat.div_div_eq_div_mul, ← Nat.pow_succ] at this
      exact this
    have hle : n / 256 ^ (i + 1) ≤ n := Nat.div_le_self _ _
    have e3 : IntKind.u64.wrap ((n / 256 ^ (i + 1) : Nat) : Int) = ((n / 256 ^ (i + 1) : Nat) : Int) := wu64n (Nat.lt_of_le_of_lt hle hn64)
    rw [e1, e2, e3]
    refine ⟨by omega, ⟨i + 1, rfl, by omega, rfl, rfl, ho', Upd.beyond he hu (fun x hx => hf _ hx), ?_⟩, by simp only []; omega⟩
    rcases hf' with rfl | ⟨b, rfl, hb⟩
    · exact hf
    · exact Fresh.some (by have := he.size; omega)
  · have : i = k := by omega
    subst this
    rw [Nat.div_eq_of_lt hn]
    refine br_dec (fun h => by omega) fun _ => ?_
    rw [leB_length] at ho ⊢
    exact ⟨a, c, rfl, ho, hf, he⟩

structure RReaderAt (w : World) (r : Nat) (l : List UInt8) (no : Bool) : Prop where
  at_ : ∃ a c, w.heap[r]? = some (.cells #[.slice a l.length c, .bool no] T.carrackref01_Reader (0, 0)) ∧ BytesAt w a l ∧ l.length ≤ c ∧ ∀ p, a = some p → p.block ≠ r

theorem carrackref01_Reader_Take_spec (r k : Nat) (l : List UInt8) (no : Bool) (w : World) (hk : isSz k = true) (h : RReaderAt w r l no) :
    CallsR prog K.carrackref01_Reader_Take #[.pointer (some ⟨r, 0, none⟩), .int .i64 k] w fun v w' => Upd (· = r) w w' ∧
      if no = true ∨ l.length < k then v = .tuple #[.int .u64 0, .int .i64 4] ∧ RReaderAt w' r l true
      else v = .tuple #[.int .u64 (fromLE (l.take k)), .int .i64 0] ∧ RReaderAt w' r (l.drop k) false := by
  have hk8 : k ≤ 8 := by rcases isSz_cases hk with rfl | rfl | rfl | rfl <;> omega
  have hk1 : 1 ≤ k := by rcases isSz_cases hk with rfl | rfl | rfl | rfl <;> omega
  obtain ⟨a, c, hr, hb, hlc, hne⟩ := h.at_
  apply carrackref01_Reader_Take.sh
  unfold carrackref01_Reader_Take.body
  refine (carrackref01_Size_spec _ w).mono ?_
  rintro _ _ ⟨rfl, rfl⟩
  rename_i w
  refine ⟨_, rfl, ?_⟩
  rw [hk]
  simp only [Bool.not_true, br_false, nilC_some', add_lit, Nat.zero_add]
  have hno : ∀ w', Put w r (.cells (splice #[Value.slice a l.length c, Value.bool no] 1 [Value.bool true]) T.carrackref01_Reader (0, 0)) w' → RReaderAt w' r l true := by
    intro w' hput
    exact ⟨a, c, hput.get, RowAt.upd hb hput.upd1 fun p hp => hne p hp, hlc, hne⟩
  refine ⟨no, cell_of hr rfl, ?_⟩
  cases no with
  | true =>
    simp only [br_true]
    refine store_of hr (by simp) fun w' hput => ⟨hput.upd1, ?_⟩
    simp only [true_or, if_true]
    exact ⟨trivial, hno w' hput⟩
  | false =>
    simp only [br_false]
    refine ⟨a, l.length, c, cell_of hr rfl, br_dec (fun hlt => ?_) fun hge => ?_⟩
    · refine store_of hr (by simp) fun w' hput => ⟨hput.upd1, ?_⟩
      have : l.length < k := by omega
      simp only [this, or_true, if_true]
      exact ⟨trivial, hno w' hput⟩
    · have hkl : k ≤ l.length := by omega
      have hlen : (l.take k).length = k := by simp; omega
      have e0 : IntKind.i64.wrap ((k : Int) - 1) = (k : Int) - 1 := w64 (by omega) (by omega)
      rw [e0]
      refine ⟨fun x y u => ∃ i : Nat, y = (i : Int) - 1 ∧ i ≤ k ∧ x = (fromLE ((l.take k).drop i) : Nat) ∧ u = w, fun _ y _ => (y + 1).toNat, ⟨k, rfl, by omega, by rw [List.drop_of_length_le (by omega)]; rfl, rfl⟩, ?_⟩
      rintro x y u ⟨i, rfl, hi, rfl, rfl⟩
      refine br_dec (fun hge => ?_) fun hlt => ?_
      · refine ⟨a, l.length, c, cell_of hr rfl, idx_byte hb (by omega) (by omega) ?_⟩
        obtain ⟨j, rfl⟩ : ∃ j, i = j + 1 := ⟨i - 1, by omega⟩
        have ej : (((j + 1 : Nat) : Int) - 1).toNat = j := by omega
        have e1 : IntKind.i64.wrap (((j + 1 : Nat) : Int) - 1 - 1) = (j : Int) - 1 := by rw [w64 (by omega) (by omega)]; omega
        have hjl : j < l.length := by omega
        have hd : (l.take k).drop j = l.getD j 0 :: (l.take k).drop (j + 1) := by
          rw [List.drop_eq_getElem_cons (by omega)]
          simp [List.getD, hjl]
        have hv : fromLE ((l.take k).drop j) = (l.getD j 0).toNat + 256 * fromLE ((l.take k).drop (j + 1)) := by rw [hd]; rfl
        have hlt2 := fromLE_lt ((l.take k).drop j)
        have hlt3 : fromLE ((l.take k).drop j) < 18446744073709551616 := by
          refine Nat.lt_of_lt_of_le hlt2 ?_
          have : ((l.take k).drop j).length ≤ 8 := by simp; omega
          have := Nat.pow_le_pow_right (n := 256) (by omega) this
          have e : (256 : Nat) ^ 8 = 18446744073709551616 := by decide
          omega
        rw [ej, e1]
        have hbx := (l.getD j 0).toNat_lt
        have q1 : IntKind.u64.wrap ((256 : Int) * (fromLE ((l.take k).drop (j + 1)) : Nat)) = (256 : Int) * (fromLE ((l.take k).drop (j + 1)) : Nat) := wu64 (by omega) (by omega)
        have q2 : IntKind.u64.wrap ((l.getD j 0).toNat : Int) = ((l.getD j 0).toNat : Int) := wu64 (by omega) (by omega)
        have q3 : IntKind.u64.wrap ((256 : Int) * (fromLE ((l.take k).drop (j + 1)) : Nat) + ((l.getD j 0).toNat : Int)) = ((fromLE ((l.take k).drop j) : Nat) : Int) := by rw [wu64 (by omega) (by omega), hv]; omega
        simp only []
        rw [q1, q2, q3]
        exact ⟨⟨j, rfl, by omega, rfl, by trivial⟩, by omega⟩
      · have : i = 0 := by omega
        subst this
        refine ⟨a, l.length, c, cell_of hr rfl, ?_⟩
        refine slice_bytes_from hb (by omega) (by omega) hlc fun a' c' hb' hc' ha' _ _ => ?_
        simp only [Int.toNat_natCast] at hb' hc' ha' ⊢
        refine store_of hr (by simp) fun w' hput => ⟨hput.upd1, ?_⟩
        have hnk : ¬ (false = true ∨ l.length < k) := by simp; omega
        rw [if_neg hnk]
        have hne' : ∀ p, a' = some p → p.block ≠ r := by
          intro p hp
          rcases ha' with ha' | ha'
          · exact hne p (ha' ▸ hp)
          · rw [ha'] at hp
            cases a with
            | none => simp at hp
            | some q =>
              simp at hp
              have := hne q rfl
              rw [← hp]
              unfold Addr.add
              split <;> exact this
        exact ⟨by rw [List.drop_zero], a', c', hput.get, RowAt.upd hb' hput.upd1 fun p hp => hne' p hp, hc', hne'⟩

/-! ### Pages -/
def zb (b : UInt8) (j : Nat) : Nat := ((List.range j).filter fun k => b.toNat / 2 ^ k % 2 == 0).length
theorem zb_succ (b : UInt8) (j : Nat) : zb b (j + 1) = zb b j + if b.toNat / 2 ^ j % 2 = 0 then 1 else 0 := by
  unfold zb
  rw [List.range_succ, List.filter_append, List.length_append]
  congr 1
  by_cases h : b.toNat / 2 ^ j % 2 = 0 <;> simp [h]

theorem carrackref02_Noughts_spec {a : Option Addr} {l : List UInt8} {c : Nat} {w : World} (h : BytesAt w a l) (hn : l.length ≤ 100000) :
    CallsR prog K.carrackref02_Noughts #[.slice a l.length c] w fun v w' => v = .int .i64 (noughts l : Nat) ∧ w' = w := by
  apply carrackref02_Noughts.sh
  refine ⟨fun x y u => ∃ i : Nat, y = i ∧ i ≤ l.length ∧ x = (noughts (l.take i) : Nat) ∧ u = w, fun _ y _ => ((l.length : Int) - y).toNat, ⟨0, rfl, by omega, by simp [noughts], rfl⟩, ?_⟩
  rintro x y u ⟨i, rfl, hi, rfl, rfl⟩
  refine br_dec (fun hlt => ?_) fun hge => ?_
  · have hil : i < l.length := by omega
    refine ⟨fun x k u' => ∃ j : Nat, k = (2 ^ j : Nat) ∧ j ≤ 8 ∧ x = (noughts (l.take i) + zb (l.getD i 0) j : Nat) ∧ u' = u, fun _ k _ => (256 - k).toNat, ⟨0, rfl, by omega, by simp [zb], rfl⟩, ?_⟩
    rintro x k u' ⟨j, rfl, hj, rfl, rfl⟩
    have hpow : j < 8 → 2 ^ j ≤ 128 := fun h => by
      have := Nat.pow_le_pow_right (n := 2) (by omega) (show j ≤ 7 by omega)
      exact this
    have hpos : 0 < 2 ^ j := Nat.two_pow_pos j
    have h1 := noughts_le (l.take i)
    have h2 : (l.take i).length ≤ i := by simp; omega
    refine br_dec (fun hle => ?_) fun hgt => ?_
    · have hj8 : j < 8 := by
        rcases Nat.lt_or_ge j 8 with h | h
        · exact h
        · have : j = 8 := by omega
          subst this
          have : (2 : Nat) ^ 8 = 256 := by decide
          omega
      refine idx_byte h (by omega) (by omega) ?_
      refine ⟨by omega, by omega, ?_⟩
      simp only [Int.toNat_natCast]
      have hbx := (l.getD i 0).toNat_lt
      have hd := Nat.div_le_self (l.getD i 0).toNat (2 ^ j)
      have q1 : IntKind.i64.wrap ((l.getD i 0).toNat : Int) = ((l.getD i 0).toNat : Int) := w64 (by omega) (by omega)
      have q2 : IntKind.i64.wrap (Int.tdiv ((l.getD i 0).toNat : Int) ((2 ^ j : Nat) : Int)) = (((l.getD i 0).toNat / 2 ^ j : Nat) : Int) := by rw [tdiv_nat]; exact w64n (Nat.lt_of_le_of_lt hd (by omega))
      have q3 : Int.tmod (((l.getD i 0).toNat / 2 ^ j : Nat) : Int) 2 = (((l.getD i 0).toNat / 2 ^ j % 2 : Nat) : Int) := tmod_nat _ 2
      have q4 : IntKind.i64.wrap ((2 : Int) * ((2 ^ j : Nat) : Int)) = ((2 ^ (j + 1) : Nat) : Int) := by
        have := hpow hj8
        rw [Nat.pow_succ, w64 (by omega) (by omega)]; omega
      have hz : zb (l.getD i 0) j ≤ j := by unfold zb; exact Nat.le_trans (List.length_filter_le _ _) (by simp)
      have q5 : IntKind.i64.wrap (((noughts (l.take i) + zb (l.getD i 0) j : Nat) : Int) + 1) = ((noughts (l.take i) + (zb (l.getD i 0) j + 1) : Nat) : Int) := by rw [w64 (by omega) (by omega)]; omega
      have hlt256 : 2 ^ j < 2 ^ (j + 1) := by rw [Nat.pow_succ]; omega
      have hle128 := hpow hj8
      rw [q1, q2, q3, q4, q5]
      have hs := zb_succ (l.getD i 0) j
      refine br_eq (fun h0 => ?_) fun h0 => ?_
      · rw [if_pos (by omega)] at hs
        exact ⟨⟨j + 1, rfl, hj8, by rw [hs], by trivial⟩, by omega⟩
      · rw [if_neg (by omega)] at hs
        exact ⟨⟨j + 1, rfl, hj8, by rw [hs]; rfl, by trivial⟩, by omega⟩
    · have hj8 : j = 8 := by
        rcases Nat.lt_or_ge j 8 with h | h
        · have := hpow h; omega
        · omega
      subst hj8
      have e : IntKind.i64.wrap ((i : Int) + 1) = ((i + 1 : Nat) : Int) := w64 (by omega) (by omega)
      rw [e]
      refine ⟨⟨i + 1, rfl, hil, ?_, by trivial⟩, by simp only []; omega⟩
      rw [noughts_take_succ l i hil]
      rfl
  · have : i = l.length := by omega
    subst this
    rw [List.take_length]
    exact ⟨rfl, by trivial⟩

theorem carrackref02_Blank_spec {a : Option Addr} {l : List UInt8} {c : Nat} {w : World} (h : BytesAt w a l) (hn : l.length ≤ 100000) :
    CallsR prog K.carrackref02_Blank #[.slice a l.length c] w fun v w' => v = .bool (isBlank l) ∧ w' = w := by
  apply carrackref02_Blank.sh
  refine (carrackref02_Noughts_spec h hn).mono ?_
  rintro _ _ ⟨rfl, rfl⟩
  refine ⟨_, rfl, ?_, by trivial⟩
  have := noughts_zero l
  cases hb : isBlank l with
  | true => rw [this.2 hb]; rfl
  | false =>
    have : noughts l ≠ 0 := fun e => by rw [this.1 e] at hb; cases hb
    congr 1
    exact beq_eq_false_iff_ne.2 (by omega)

end Go.Den
