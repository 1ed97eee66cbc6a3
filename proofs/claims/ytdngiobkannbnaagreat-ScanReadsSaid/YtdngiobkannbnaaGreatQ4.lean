/- Contracts of layer 6 (fact) and its reference: a key is read. (Merged by program: SRef SRef2 SHead SHead2 Rep3 MPool RPool SPool SPool2 SPool3 SPool4 SRef4 MLaw4a SLaw4 Rep4 Rep5 Rep6 SRead MFact SFact SKey.) -/
import Derived.Test.YtdngiobkannbnaaGreatQ3
section
set_option linter.unusedVariables false
set_option linter.unusedSimpArgs false
set_option maxRecDepth 8000
namespace Go.Den
theorem wu64n {m : Nat} (h : m < 18446744073709551616) : IntKind.u64.wrap (m : Int) = m := wu64 (Int.natCast_nonneg _) (by omega)
theorem w64n {m : Nat} (h : m < 9223372036854775808) : IntKind.i64.wrap (m : Int) = m := w64 (by have := Int.natCast_nonneg m; omega) (by omega)
theorem tdiv_nat (i n : Nat) : Int.tdiv (i : Int) (n : Int) = ((i / n : Nat) : Int) := by
  rw [Int.tdiv_eq_ediv_of_nonneg (by omega)]; rfl
/-! ### Same -/
theorem carrackref00_Same_spec {w : World} {a b : Option Addr} {l m : List UInt8} {c d : Nat} (ha : BytesAt w a l) (hb : BytesAt w b m) (hn : l.length ≤ 1000000000000) :
    CallsR prog K.carrackref00_Same #[.slice a l.length c, .slice b m.length d] w fun v w' => v = .bool (l == m) ∧ Ext w w' := by
  apply carrackref00_Same.sh
  refine br_ne (fun hne => ⟨?_, Upd.refl _ _⟩) fun heq => ?_
  · have : l ≠ m := fun e => hne (by rw [e])
    rw [beq_eq_false_iff_ne.2 this]
  · have hlm : l.length = m.length := by omega
    refine ⟨fun x u => ∃ i : Nat, x = i ∧ i ≤ l.length ∧ l.take i = m.take i ∧ Ext w u, fun x _ => (l.length - x).toNat, ⟨0, rfl, by omega, by simp, Upd.refl _ _⟩, ?_⟩
    rintro x u ⟨i, rfl, hi, ht, he⟩
    refine br_dec (fun hlt => ?_) fun hge => ?_
    · intro w₂ hd
      have e2 := he.trans hd.upd
      have hil : i < l.length := by omega
      have him : i < m.length := by omega
      refine ⟨fun v => v = w₂, rfl, idx_byteS (l := l) (fun v hv => hv ▸ RowAt.ext ha e2) ⟨_, rfl⟩ (by omega) (by omega) (idx_byteS (l := m) (fun v hv => hv ▸ RowAt.ext hb e2) ⟨_, rfl⟩ (by omega) (by omega) ?_)⟩
      simp only [Int.toNat_natCast]
      have e1 : l.getD i 0 = l[i] := by simp [List.getD, hil]
      have e3 : m.getD i 0 = m[i] := by simp [List.getD, him]
      rw [e1, e3]
      refine br_ne (fun hne => ⟨?_, e2⟩) fun heq => ?_
      · have : l ≠ m := fun e => by subst e; exact hne rfl
        rw [beq_eq_false_iff_ne.2 this]
      · have e : IntKind.i64.wrap ((i : Int) + 1) = ((i + 1 : Nat) : Int) := w64 (by omega) (by omega)
        rw [e]
        refine ⟨⟨i + 1, rfl, hil, ?_, e2⟩, by omega⟩
        rw [List.take_succ_eq_append_getElem hil, List.take_succ_eq_append_getElem him, ht]
        have : l[i] = m[i] := UInt8.toNat_inj.1 (by omega)
        rw [this]
    · have : i = l.length := by omega
      subst this
      refine ⟨?_, he⟩
      rw [List.take_length, hlm, List.take_length] at ht
      rw [ht]; simp
/-! ### Numbers -/
theorem leB_succ (i : Nat) : ∀ n, leB n (i + 1) = leB n i ++ [UInt8.ofNat (n / 256 ^ i % 256)] := by
  induction i with
  | zero => intro n; simp [leB]
  | succ i ih =>
    intro n
    rw [leB, ih (n / 256), leB]
    simp only [List.cons_append]
    rw [Nat.div_div_eq_div_mul, Nat.pow_succ, Nat.mul_comm]
theorem carrackref01_Put_spec (n k : Nat) (w : World) (hk : isSz k = true) (hn : n < 256 ^ k) :
    CallsR prog K.carrackref01_Put #[.int .u64 n, .int .i64 k] w fun v w' => ∃ a c, v = .tuple #[.slice a k c, .int .i64 0] ∧ OwnAt w' a k c T.uint8 1 ((leB n k).map bv) ∧ Fresh w a ∧ Ext w w' := by
  have hk8 : k ≤ 8 := by rcases isSz_cases hk with rfl | rfl | rfl | rfl <;> omega
  have hn64 := Nat.lt_of_lt_of_le hn (pow256 hk)
  apply carrackref01_Put.sh
  unfold carrackref01_Put.body
  refine (carrackref01_Size_spec _ w).mono ?_
  rintro _ _ ⟨rfl, rfl⟩
  rename_i w
  refine ⟨_, rfl, ?_⟩
  rw [hk]
  simp only [Bool.not_true, br_false]
  refine ⟨fun x a l c y u => ∃ i : Nat, y = i ∧ i ≤ k ∧ x = (n / 256 ^ i : Nat) ∧ l = (leB n i).length ∧ OwnAt u a (leB n i).length c T.uint8 1 ((leB n i).map bv) ∧ Ext w u ∧ Fresh w a, fun _ _ _ _ y _ => (k - y).toNat,
    ⟨0, rfl, by omega, by simp, rfl, OwnAt.nil _ _ _, Upd.refl _ _, Fresh.none _⟩, ?_⟩
  rintro x a l c y u ⟨i, rfl, hi, rfl, rfl, ho, he, hf⟩
  refine br_dec (fun hlt => ?_) fun hge => ?_
  · refine ⟨by omega, fun B w₃ hn3 => ?_⟩
    have et : Int.tmod ((n / 256 ^ i : Nat) : Int) 256 = ((n / 256 ^ i % 256 : Nat) : Int) := tmod_nat _ 256
    rw [et, bv_mod, Nat.mod_mod] at hn3
    have hli := leB_length i n
    refine append_byte ho hn3 (by omega) fun a' c' w' hu ho' hf' => ?_
    rw [← leB_succ] at ho' ⊢
    have e1 : IntKind.i64.wrap ((i : Int) + 1) = ((i + 1 : Nat) : Int) := w64 (by omega) (by omega)
    have e2 : Int.tdiv ((n / 256 ^ i : Nat) : Int) 256 = ((n / 256 ^ (i + 1) : Nat) : Int) := by
      have := tdiv_nat (n / 256 ^ i) 256
      rw [Nat.div_div_eq_div_mul, ← Nat.pow_succ] at this
      exact this
    have hle : n / 256 ^ (i + 1) ≤ n := Nat.div_le_self _ _
    have e3 : IntKind.u64.wrap ((n / 256 ^ (i + 1) : Nat) : Int) = ((n / 256 ^ (i + 1) : Nat) : Int) := wu64n (Nat.lt_of_le_of_lt hle hn64)
    rw [e1, e2, e3]
    refine ⟨by omega, ⟨i + 1, rfl, by omega, rfl, rfl, ho', Upd.beyond he hu (fun x hx => hf _ hx), ?_⟩, by simp only []; omega⟩
    rcases hf' with rfl | ⟨b, rfl, hb⟩
    · exact hf
    · exact Fresh.some (by have := he.size; omega)
  · have : i = k := by omega
    subst this
    rw [Nat.div_eq_of_lt hn]
    refine br_dec (fun h => by omega) fun _ => ?_
    rw [leB_length] at ho ⊢
    exact ⟨a, c, rfl, ho, hf, he⟩
structure RReaderIn (G : Nat → Prop) (w : World) (r : Nat) (l : List UInt8) (no : Bool) : Prop where
  at_ : ∃ a c, w.heap[r]? = some (.cells #[.slice a l.length c, .bool no] T.carrackref01_Reader (0, 0)) ∧ BytesAt w a l ∧ l.length ≤ c ∧ ∀ p, a = some p → G p.block
abbrev RReaderAt (w : World) (r : Nat) (l : List UInt8) (no : Bool) : Prop := RReaderIn (· ≠ r) w r l no
theorem carrackref01_Reader_Take_in {G : Nat → Prop} (r k : Nat) (l : List UInt8) (no : Bool) (w : World) (hk : isSz k = true) (hG : ¬ G r) (h : RReaderIn G w r l no) :
    CallsR prog K.carrackref01_Reader_Take #[.pointer (some ⟨r, 0, none⟩), .int .i64 k] w fun v w' => Upd (· = r) w w' ∧
      if no = true ∨ l.length < k then v = .tuple #[.int .u64 0, .int .i64 4] ∧ RReaderIn G w' r l true
      else v = .tuple #[.int .u64 (fromLE (l.take k)), .int .i64 0] ∧ RReaderIn G w' r (l.drop k) false := by
  have hk8 : k ≤ 8 := by rcases isSz_cases hk with rfl | rfl | rfl | rfl <;> omega
  have hk1 : 1 ≤ k := by rcases isSz_cases hk with rfl | rfl | rfl | rfl <;> omega
  obtain ⟨a, c, hr, hb, hlc, hne⟩ := h.at_
  apply carrackref01_Reader_Take.sh
  unfold carrackref01_Reader_Take.body
  refine (carrackref01_Size_spec _ w).mono ?_
  rintro _ _ ⟨rfl, rfl⟩
  rename_i w
  refine ⟨_, rfl, ?_⟩
  rw [hk]
  simp only [Bool.not_true, br_false, nilC_some', add_lit, Nat.zero_add]
  have hno : ∀ w', Put w r (.cells (splice #[Value.slice a l.length c, Value.bool no] 1 [Value.bool true]) T.carrackref01_Reader (0, 0)) w' → RReaderIn G w' r l true := by
    intro w' hput
    exact ⟨a, c, hput.get, RowAt.upd hb hput.upd1 fun p hp e => hG (e ▸ hne p hp), hlc, hne⟩
  refine ⟨no, cell_of hr rfl, ?_⟩
  cases no with
  | true =>
    simp only [br_true]
    refine store_of hr (by simp) fun w' hput => ⟨hput.upd1, ?_⟩
    simp only [true_or, if_true]
    exact ⟨trivial, hno w' hput⟩
  | false =>
    simp only [br_false]
    refine ⟨a, l.length, c, cell_of hr rfl, br_dec (fun hlt => ?_) fun hge => ?_⟩
    · refine store_of hr (by simp) fun w' hput => ⟨hput.upd1, ?_⟩
      have : l.length < k := by omega
      simp only [this, or_true, if_true]
      exact ⟨trivial, hno w' hput⟩
    · have hkl : k ≤ l.length := by omega
      have hlen : (l.take k).length = k := by simp; omega
      have e0 : IntKind.i64.wrap ((k : Int) - 1) = (k : Int) - 1 := w64 (by omega) (by omega)
      rw [e0]
      refine ⟨fun x y u => ∃ i : Nat, y = (i : Int) - 1 ∧ i ≤ k ∧ x = (fromLE ((l.take k).drop i) : Nat) ∧ u = w, fun _ y _ => (y + 1).toNat, ⟨k, rfl, by omega, by rw [List.drop_of_length_le (by omega)]; rfl, rfl⟩, ?_⟩
      rintro x y u ⟨i, rfl, hi, rfl, rfl⟩
      refine br_dec (fun hge => ?_) fun hlt => ?_
      · refine ⟨a, l.length, c, cell_of hr rfl, idx_byte hb (by omega) (by omega) ?_⟩
        obtain ⟨j, rfl⟩ : ∃ j, i = j + 1 := ⟨i - 1, by omega⟩
        have ej : (((j + 1 : Nat) : Int) - 1).toNat = j := by omega
        have e1 : IntKind.i64.wrap (((j + 1 : Nat) : Int) - 1 - 1) = (j : Int) - 1 := by rw [w64 (by omega) (by omega)]; omega
        have hjl : j < l.length := by omega
        have hd : (l.take k).drop j = l.getD j 0 :: (l.take k).drop (j + 1) := by
          rw [List.drop_eq_getElem_cons (by omega)]
          simp [List.getD, hjl]
        have hv : fromLE ((l.take k).drop j) = (l.getD j 0).toNat + 256 * fromLE ((l.take k).drop (j + 1)) := by rw [hd]; rfl
        have hlt2 := fromLE_lt ((l.take k).drop j)
        have hlt3 : fromLE ((l.take k).drop j) < 18446744073709551616 := by
          refine Nat.lt_of_lt_of_le hlt2 ?_
          have : ((l.take k).drop j).length ≤ 8 := by simp; omega
          have := Nat.pow_le_pow_right (n := 256) (by omega) this
          have e : (256 : Nat) ^ 8 = 18446744073709551616 := by decide
          omega
        rw [ej, e1]
        have hbx := (l.getD j 0).toNat_lt
        have q1 : IntKind.u64.wrap ((256 : Int) * (fromLE ((l.take k).drop (j + 1)) : Nat)) = (256 : Int) * (fromLE ((l.take k).drop (j + 1)) : Nat) := wu64 (by omega) (by omega)
        have q2 : IntKind.u64.wrap ((l.getD j 0).toNat : Int) = ((l.getD j 0).toNat : Int) := wu64 (by omega) (by omega)
        have q3 : IntKind.u64.wrap ((256 : Int) * (fromLE ((l.take k).drop (j + 1)) : Nat) + ((l.getD j 0).toNat : Int)) = ((fromLE ((l.take k).drop j) : Nat) : Int) := by rw [wu64 (by omega) (by omega), hv]; omega
        simp only []
        rw [q1, q2, q3]
        exact ⟨⟨j, rfl, by omega, rfl, by trivial⟩, by omega⟩
      · have : i = 0 := by omega
        subst this
        refine ⟨a, l.length, c, cell_of hr rfl, ?_⟩
        refine slice_bytes_from hb (by omega) (by omega) hlc fun a' c' hb' hc' ha' _ _ => ?_
        simp only [Int.toNat_natCast] at hb' hc' ha' ⊢
        refine store_of hr (by simp) fun w' hput => ⟨hput.upd1, ?_⟩
        have hnk : ¬ (false = true ∨ l.length < k) := by simp; omega
        rw [if_neg hnk]
        have hne' : ∀ p, a' = some p → G p.block := by
          intro p hp
          rcases ha' with ha' | ha'
          · exact hne p (ha' ▸ hp)
          · rw [ha'] at hp
            cases a with
            | none => simp at hp
            | some q =>
              simp at hp
              have := hne q rfl
              rw [← hp]
              unfold Addr.add
              split <;> exact this
        exact ⟨by rw [List.drop_zero], a', c', hput.get, RowAt.upd hb' hput.upd1 fun p hp e => hG (e ▸ hne' p hp), hc', hne'⟩
/-! ### Pages -/
theorem carrackref01_Reader_Take_spec (r k : Nat) (l : List UInt8) (no : Bool) (w : World) (hk : isSz k = true) (h : RReaderAt w r l no) :
    CallsR prog K.carrackref01_Reader_Take #[.pointer (some ⟨r, 0, none⟩), .int .i64 k] w fun v w' => Upd (· = r) w w' ∧
      if no = true ∨ l.length < k then v = .tuple #[.int .u64 0, .int .i64 4] ∧ RReaderAt w' r l true
      else v = .tuple #[.int .u64 (fromLE (l.take k)), .int .i64 0] ∧ RReaderAt w' r (l.drop k) false := carrackref01_Reader_Take_in r k l no w hk (fun h => h rfl) h
def zb (b : UInt8) (j : Nat) : Nat := ((List.range j).filter fun k => b.toNat / 2 ^ k % 2 == 0).length
theorem zb_succ (b : UInt8) (j : Nat) : zb b (j + 1) = zb b j + if b.toNat / 2 ^ j % 2 = 0 then 1 else 0 := by
  unfold zb
  rw [List.range_succ, List.filter_append, List.length_append]
  congr 1
  by_cases h : b.toNat / 2 ^ j % 2 = 0 <;> simp [h]
theorem carrackref02_Noughts_spec {a : Option Addr} {l : List UInt8} {c : Nat} {w : World} (h : BytesAt w a l) (hn : l.length ≤ 100000) :
    CallsR prog K.carrackref02_Noughts #[.slice a l.length c] w fun v w' => v = .int .i64 (noughts l : Nat) ∧ w' = w := by
  apply carrackref02_Noughts.sh
  refine ⟨fun x y u => ∃ i : Nat, y = i ∧ i ≤ l.length ∧ x = (noughts (l.take i) : Nat) ∧ u = w, fun _ y _ => ((l.length : Int) - y).toNat, ⟨0, rfl, by omega, by simp [noughts], rfl⟩, ?_⟩
  rintro x y u ⟨i, rfl, hi, rfl, rfl⟩
  refine br_dec (fun hlt => ?_) fun hge => ?_
  · have hil : i < l.length := by omega
    refine ⟨fun x k u' => ∃ j : Nat, k = (2 ^ j : Nat) ∧ j ≤ 8 ∧ x = (noughts (l.take i) + zb (l.getD i 0) j : Nat) ∧ u' = u, fun _ k _ => (256 - k).toNat, ⟨0, rfl, by omega, by simp [zb], rfl⟩, ?_⟩
    rintro x k u' ⟨j, rfl, hj, rfl, rfl⟩
    have hpow : j < 8 → 2 ^ j ≤ 128 := fun h => by
      have := Nat.pow_le_pow_right (n := 2) (by omega) (show j ≤ 7 by omega)
      exact this
    have hpos : 0 < 2 ^ j := Nat.two_pow_pos j
    have h1 := noughts_le (l.take i)
    have h2 : (l.take i).length ≤ i := by simp; omega
    refine br_dec (fun hle => ?_) fun hgt => ?_
    · have hj8 : j < 8 := by
        rcases Nat.lt_or_ge j 8 with h | h
        · exact h
        · have : j = 8 := by omega
          subst this
          have : (2 : Nat) ^ 8 = 256 := by decide
          omega
      refine idx_byte h (by omega) (by omega) ?_
      refine ⟨by omega, by omega, ?_⟩
      simp only [Int.toNat_natCast]
      have hbx := (l.getD i 0).toNat_lt
      have hd := Nat.div_le_self (l.getD i 0).toNat (2 ^ j)
      have q1 : IntKind.i64.wrap ((l.getD i 0).toNat : Int) = ((l.getD i 0).toNat : Int) := w64 (by omega) (by omega)
      have q2 : IntKind.i64.wrap (Int.tdiv ((l.getD i 0).toNat : Int) ((2 ^ j : Nat) : Int)) = (((l.getD i 0).toNat / 2 ^ j : Nat) : Int) := by rw [tdiv_nat]; exact w64n (Nat.lt_of_le_of_lt hd (by omega))
      have q3 : Int.tmod (((l.getD i 0).toNat / 2 ^ j : Nat) : Int) 2 = (((l.getD i 0).toNat / 2 ^ j % 2 : Nat) : Int) := tmod_nat _ 2
      have q4 : IntKind.i64.wrap ((2 : Int) * ((2 ^ j : Nat) : Int)) = ((2 ^ (j + 1) : Nat) : Int) := by
        have := hpow hj8
        rw [Nat.pow_succ, w64 (by omega) (by omega)]; omega
      have hz : zb (l.getD i 0) j ≤ j := by unfold zb; exact Nat.le_trans (List.length_filter_le _ _) (by simp)
      have q5 : IntKind.i64.wrap (((noughts (l.take i) + zb (l.getD i 0) j : Nat) : Int) + 1) = ((noughts (l.take i) + (zb (l.getD i 0) j + 1) : Nat) : Int) := by rw [w64 (by omega) (by omega)]; omega
      have hlt256 : 2 ^ j < 2 ^ (j + 1) := by rw [Nat.pow_succ]; omega
      have hle128 := hpow hj8
      rw [q1, q2, q3, q4, q5]
      have hs := zb_succ (l.getD i 0) j
      refine br_eq (fun h0 => ?_) fun h0 => ?_
      · rw [if_pos (by omega)] at hs
        exact ⟨⟨j + 1, rfl, hj8, by rw [hs], by trivial⟩, by omega⟩
      · rw [if_neg (by omega)] at hs
        exact ⟨⟨j + 1, rfl, hj8, by rw [hs]; rfl, by trivial⟩, by omega⟩
    · have hj8 : j = 8 := by
        rcases Nat.lt_or_ge j 8 with h | h
        · have := hpow h; omega
        · omega
      subst hj8
      have e : IntKind.i64.wrap ((i : Int) + 1) = ((i + 1 : Nat) : Int) := w64 (by omega) (by omega)
      rw [e]
      refine ⟨⟨i + 1, rfl, hil, ?_, by trivial⟩, by simp only []; omega⟩
      rw [noughts_take_succ l i hil]
      rfl
  · have : i = l.length := by omega
    subst this
    rw [List.take_length]
    exact ⟨rfl, by trivial⟩
theorem carrackref02_Blank_spec {a : Option Addr} {l : List UInt8} {c : Nat} {w : World} (h : BytesAt w a l) (hn : l.length ≤ 100000) :
    CallsR prog K.carrackref02_Blank #[.slice a l.length c] w fun v w' => v = .bool (isBlank l) ∧ w' = w := by
  apply carrackref02_Blank.sh
  refine (carrackref02_Noughts_spec h hn).mono ?_
  rintro _ _ ⟨rfl, rfl⟩
  refine ⟨_, rfl, ?_, by trivial⟩
  have := noughts_zero l
  cases hb : isBlank l with
  | true => rw [this.2 hb]; rfl
  | false =>
    have : noughts l ≠ 0 := fun e => by rw [this.1 e] at hb; cases hb
    congr 1
    exact beq_eq_false_iff_ne.2 (by omega)
end Go.Den
end
section
set_option linter.unusedVariables false
set_option linter.unusedSimpArgs false
set_option maxRecDepth 8000
namespace Go.Den
theorem leB_two (m : Nat) : leB m 2 = [UInt8.ofNat (m % 256), UInt8.ofNat (m / 256 % 256)] := rfl
theorem append_bytes' {w : World} {a : Option Addr} {l : List UInt8} {n m cap : Nat} {ax : Option Addr} {xs : List UInt8} {cx : Nat} (hn : n = l.length) (hm : m = xs.length) (h : OwnAt w a l.length cap T.uint8 1 (l.map bv)) (hx : BytesAt w ax xs)
    (hb : l.length + xs.length ≤ 140737488355232) {K : Option Addr → Nat → Nat → World → Prop}
    (hk : ∀ a' c' w', Upd (fun b => a = some ⟨b, 0, none⟩) w w' → OwnAt w' a' (l ++ xs).length c' T.uint8 1 ((l ++ xs).map bv) → (a' = a ∨ ∃ b, a' = some ⟨b, 0, none⟩ ∧ w.heap.size ≤ b) → K a' (l ++ xs).length c' w') :
    appendP T.uint8 1 1 [Value.int .u8 0] a n cap (.slice ax m cx) w K := by
  subst hn; subst hm
  exact append_bytes h hx hb hk
theorem carrackref02_Put_own (size k : Int) (kind : UInt8) (hk : k = (kind.toNat : Int)) {a : Option Addr} {body : List UInt8} {c : Nat} {w : World} (h : BytesAt w a body) (hn : body.length ≤ 281474976710656) (hsz : size < 9223372036854775808) (hsz0 : -9223372036854775808 ≤ size) :
    CallsR prog K.carrackref02_Put #[.int .i64 size, .int .u8 k, .slice a body.length c] w fun v w' => Ext w w' ∧
      if isSize size = false ∨ kind < 1 ∨ kind > 7 then v = .tuple #[.slice none 0 0, .int .i64 2]
      else if (body.length : Int) > size - 5 then v = .tuple #[.slice none 0 0, .int .i64 3]
      else ∃ a c, v = .tuple #[.slice a size.toNat c, .int .i64 0] ∧ OwnAt w' a size.toNat c T.uint8 1 ((pageOf size.toNat kind body).map bv) ∧ Fresh w a ∧ size.toNat ≤ c := by
  subst hk
  have hklt := kind.toNat_lt
  apply carrackref02_Put.sh
  have e1 : kind < 1 ↔ (kind.toNat : Int) < 1 := by rw [UInt8.lt_iff_toNat_lt]; show kind.toNat < 1 ↔ _; omega
  have e7 : kind > 7 ↔ (kind.toNat : Int) > 7 := by show (7 : UInt8) < kind ↔ _; rw [UInt8.lt_iff_toNat_lt]; show 7 < kind.toNat ↔ _; omega
  refine ⟨fun u => u = w ∧ isSize size = true ∧ ¬ kind < 1 ∧ ¬ kind > 7, ?_, ?_⟩
  · refine (carrackref02_Size_spec _ w).mono ?_
    rintro _ _ ⟨rfl, rfl⟩
    refine ⟨_, rfl, ?_⟩
    cases hs : isSize size with
    | false => simp only [Bool.not_false, br_true, true_or, if_true]; exact ⟨Upd.refl _ _, trivial⟩
    | true =>
      simp only [Bool.not_true, br_false]
      refine br_dec (fun h1 => ⟨Upd.refl _ _, ?_⟩) fun h1 => br_dec (fun h7 => ⟨Upd.refl _ _, ?_⟩) fun h7 => ⟨by trivial, by trivial, fun h => h1 (e1.1 h), fun h => h7 (e7.1 h)⟩
      · rw [if_pos (.inr (.inl (e1.2 h1)))]; trivial
      · rw [if_pos (.inr (.inr (e7.2 h7)))]; trivial
  · rintro w' ⟨rfl, hs, hk1, hk7⟩
    have hs' := hs
    simp [isSize] at hs'
    have hcond : ¬ (isSize size = false ∨ kind < 1 ∨ kind > 7) := by rw [hs]; simp only [Bool.true_eq_false, false_or]; exact fun h => h.elim hk1 hk7
    simp only [if_neg hcond]
    rw [w64 (x := size - 5) (by omega) (by omega)]
    refine br_dec (fun hl => ?_) fun hl => ?_
    · simp only [if_pos hl]; exact ⟨Upd.refl _ _, by trivial⟩
    simp only [if_neg hl]
    obtain ⟨m, hm⟩ : ∃ m : Nat, size = (m + 5 : Nat) := ⟨(size - 5).toNat, by omega⟩
    subst hm
    have hbl' : body.length ≤ m := by omega
    refine ⟨by omega, by omega, fun B w₃ hn3 => ?_⟩
    have hB : B = w'.heap.size := hn3.num
    have hs3 := hn3.size
    have t1 : Int.tmod ((body.length : Nat) : Int) 256 = ((body.length % 256 : Nat) : Int) := tmod_nat _ 256
    have t2 : IntKind.i64.wrap (Int.tdiv ((body.length : Nat) : Int) 256) = ((body.length / 256 : Nat) : Int) := by
      have := tdiv_nat body.length 256
      rw [show ((256 : Nat) : Int) = 256 from rfl] at this
      rw [this]; exact w64n (by omega)
    rw [t1, t2, bv_mod, bv_mod, Nat.mod_mod] at hn3
    have ho3 : OwnAt w₃ (some ⟨B, 0, none⟩) ([0, 0, kind] ++ leB body.length 2).length 5 T.uint8 1 (([0, 0, kind] ++ leB body.length 2).map bv) := by
      have := OwnAt.new (n := 5) (size := 1) hn3 (by simp)
      exact this
    have hpre : ([0, 0, kind] ++ leB body.length 2).length = 5 := by simp [leB_length]
    refine append_bytes' (cap := 5) hpre.symm rfl ho3 (h.ext hn3.upd) (by omega) fun a1 c1 w₄ hu4 ho4 hf4 => ?_
    have hfr4 : Fresh w' a1 := by
      rcases hf4 with rfl | ⟨b, rfl, hb⟩
      · exact Fresh.some (by omega)
      · exact Fresh.some (by omega)
    have he4 : Ext w' w₄ := Upd.beyond hn3.upd hu4 (fun x hx => by cases hx; omega)
    have hl4 : ([0, 0, kind] ++ leB body.length 2 ++ body).length = 5 + body.length := by rw [List.length_append, hpre]
    generalize hP : [0, 0, kind] ++ leB body.length 2 ++ body = P at *
    refine ⟨fun a l c u => ∃ i : Nat, i ≤ m - body.length ∧ l = (P ++ List.replicate i 255).length ∧ OwnAt u a (P ++ List.replicate i 255).length c T.uint8 1 ((P ++ List.replicate i 255).map bv) ∧ Ext w' u ∧ Fresh w' a, fun _ l _ _ => m + 5 - l, ⟨0, by omega, by simp, by simpa using ho4, he4, hfr4⟩, ?_⟩
    rintro a2 l2 c2 w₅ ⟨i, hi, rfl, ho5, he5, hf5⟩
    have hl5 : (P ++ List.replicate i (255 : UInt8)).length = 5 + body.length + i := by simp [hl4]
    refine br_dec (fun hlt => ?_) fun hge => ?_
    · intro B2 w₆ hn6
      refine append_byte (x := 255) ho5 hn6 (by omega) fun a3 c3 w₇ hu7 ho7 hf7 => ?_
      have hr : P ++ List.replicate i (255 : UInt8) ++ [255] = P ++ List.replicate (i + 1) 255 := by
        rw [List.append_assoc, ← List.replicate_append_replicate (n := i) (m := 1)]; rfl
      rw [hr] at ho7 ⊢
      refine ⟨⟨i + 1, by omega, rfl, ho7, Upd.beyond he5 hu7 (fun x hx => hf5 _ hx), ?_⟩, by simp; simp at hlt hl5; omega⟩
      rcases hf7 with rfl | ⟨b, rfl, hb⟩
      · exact hf5
      · exact Fresh.some (by have := he5.size; omega)
    · have hi' : i = m - body.length := by omega
      subst hi'
      have hrest : P ++ List.replicate (m - body.length) (255 : UInt8) = [0, 0] ++ pageRest (m + 5) kind body := by
        rw [← hP, pageRest]
        simp only [List.append_assoc, List.cons_append, List.nil_append]
        rw [show m + 5 - 5 - body.length = m - body.length by omega]
      rw [hrest] at ho5 ⊢
      have hPR := pageRest_length (m + 5) kind body (by omega)
      have hl0 : ([0, 0] ++ pageRest (m + 5) kind body : List UInt8).length = m + 5 := by simp [hPR]
      have hcap := ho5.2.1
      obtain ⟨b, rfl⟩ : ∃ b, a2 = some ⟨b, 0, none⟩ := by
        obtain ⟨_, _, hx⟩ := ho5
        rcases hx with ⟨_, hx, _⟩ | ⟨b, cur, hx, _⟩
        · omega
        · exact ⟨b, hx⟩
      refine slice_bytes_from (l := [0, 0] ++ pageRest (m + 5) kind body) ho5.row (by omega) (by omega) hcap fun a' c' hb' _ _ _ _ => ?_
      have hd2 : ([0, 0] ++ pageRest (m + 5) kind body : List UInt8).drop (Int.toNat 2) = pageRest (m + 5) kind body := rfl
      rw [hd2] at hb' ⊢
      refine (carrackref02_Noughts_spec hb' (by omega)).mono ?_
      rintro _ _ ⟨rfl, rfl⟩
      rename_i w₅
      generalize hN : noughts (pageRest (m + 5) kind body) = N
      have hnl := noughts_le (pageRest (m + 5) kind body)
      refine ⟨_, rfl, by omega, by omega, ?_⟩
      have t3 : Int.tmod (N : Int) 256 = ((N % 256 : Nat) : Int) := tmod_nat _ 256
      have t4 : IntKind.i64.wrap (Int.tdiv (N : Int) 256) = ((N / 256 : Nat) : Int) := by
        have := tdiv_nat N 256
        rw [show ((256 : Nat) : Int) = 256 from rfl] at this
        rw [this]; exact w64n (by omega)
      rw [t3, t4, bv_mod, bv_mod, Nat.mod_mod]
      refine ⟨by omega, by omega, ?_⟩
      simp only [nilC_some', add_lit, tn0, tn1, Nat.zero_mul, Nat.one_mul, Nat.add_zero, Nat.zero_add]
      refine own_store ho5 (by simp) fun w₉ hu9 ho9 => ?_
      refine ⟨by omega, by omega, ?_⟩
      simp only [nilC_some', add_lit, tn0, tn1, Nat.zero_mul, Nat.one_mul, Nat.add_zero, Nat.zero_add]
      refine own_store ho9 (by simp) fun w₁₀ hu10 ho10 => ?_
      have hbn : w'.heap.size ≤ b := hf5 _ rfl
      refine ⟨Upd.beyond (Upd.beyond he5 hu9 (fun x hx => by omega)) hu10 (fun x hx => by omega), _, _, by rw [hl0]; rfl, ?_, hf5, by rw [← hl0]; exact hcap⟩
      have := ho10
      rw [hl0] at this
      have hfin : pageOf ((m + 5 : Nat) : Int).toNat kind body = [UInt8.ofNat (N % 256), UInt8.ofNat (N / 256 % 256)] ++ pageRest (m + 5) kind body := by
        rw [Int.toNat_natCast, pageOf, hN, leB_two]
      rw [hfin]
      show OwnAt w₁₀ _ (m + 5) _ T.uint8 1 (List.map bv _)
      simp only [List.map_append, List.map_cons, List.map_nil, List.cons_append, List.nil_append] at this ⊢
      exact this
theorem carrackref02_Put_spec (size k : Int) (kind : UInt8) (hk : k = (kind.toNat : Int)) {a : Option Addr} {body : List UInt8} {c : Nat} {w : World} (h : BytesAt w a body) (hn : body.length ≤ 281474976710656) (hsz : size < 9223372036854775808) (hsz0 : -9223372036854775808 ≤ size) :
    CallsR prog K.carrackref02_Put #[.int .i64 size, .int .u8 k, .slice a body.length c] w fun v w' => Ext w w' ∧
      if isSize size = false ∨ kind < 1 ∨ kind > 7 then v = .tuple #[.slice none 0 0, .int .i64 2]
      else if (body.length : Int) > size - 5 then v = .tuple #[.slice none 0 0, .int .i64 3]
      else ∃ a c, v = .tuple #[.slice a size.toNat c, .int .i64 0] ∧ BytesAt w' a (pageOf size.toNat kind body) ∧ Fresh w a ∧ size.toNat ≤ c := by
  refine (carrackref02_Put_own size k kind hk h hn hsz hsz0).mono ?_
  rintro v w' ⟨he, hv⟩
  refine ⟨he, ?_⟩
  split at hv
  · rename_i h1; rw [if_pos h1]; exact hv
  · rename_i h1
    rw [if_neg h1]
    split at hv
    · rename_i h2; rw [if_pos h2]; exact hv
    · rename_i h2
      rw [if_neg h2]
      obtain ⟨a', c', h3, h4, h5, h6⟩ := hv
      exact ⟨a', c', h3, h4.row, h5, h6⟩
theorem carrackref02_Get_spec {a : Option Addr} {b : List UInt8} {c : Nat} {w : World} (h : BytesAt w a b) (hc : b.length ≤ c) :
    CallsR prog K.carrackref02_Get #[.slice a b.length c] w fun v w' => Ext w w' ∧ GetIs w' v (getPage b) := by
  apply carrackref02_Get.sh
  unfold carrackref02_Get.body
  refine (carrackref02_Size_spec _ w).mono ?_
  rintro _ _ ⟨rfl, rfl⟩
  rename_i w
  refine ⟨_, rfl, ?_⟩
  unfold getPage
  cases hs : isSize b.length with
  | false =>
    simp only [Bool.not_false, br_true, if_true]
    exact ⟨Upd.refl _ _, none, 0, rfl, BytesAt.nil _ _, by simp⟩
  | true =>
  simp only [Bool.not_true, br_false]
  rw [if_neg (by simp)]
  have hs' := hs
  simp [isSize] at hs'
  refine (carrackref02_Blank_spec h (by omega)).mono ?_
  rintro _ _ ⟨rfl, rfl⟩
  rename_i w
  refine ⟨_, rfl, br_intro (fun hb => ?_) fun hb => ?_⟩
  · rw [if_pos hb]
    exact ⟨Upd.refl _ _, none, 0, rfl, BytesAt.nil _ _, by simp⟩
  rw [if_neg (by rw [hb]; simp)]
  intro w₃ hd3
  have hb3 := RowAt.ext h hd3.upd
  refine ⟨fun u => u = w₃, rfl, idx_byteS (l := b) (fun u hu => hu ▸ hb3) ⟨_, rfl⟩ (by omega) (by omega) (idx_byteS (l := b) (fun u hu => hu ▸ hb3) ⟨_, rfl⟩ (by omega) (by omega) ?_)⟩
  refine slice_bytes_from hb3 (by omega) (by omega) hc fun a1 c1 hb1 _ _ _ _ => ?_
  rw [tn2] at hb1 ⊢
  refine (carrackref02_Noughts_spec hb1 (by simp; omega)).mono ?_
  rintro _ _ ⟨rfl, rfl⟩
  rename_i w₃
  refine ⟨_, rfl, rfl, ?_⟩
  rw [tn0, tn1]
  have hbyte : ∀ i : Nat, (b.getD i 0).toNat < 256 := fun i => (b.getD i 0).toNat_lt
  have two : ∀ i : Nat, i + 1 < b.length → IntKind.i64.wrap (IntKind.i64.wrap ((b.getD i 0).toNat : Int) + IntKind.i64.wrap ((256 : Int) * IntKind.i64.wrap ((b.getD (i + 1) 0).toNat : Int))) = ((fromLE ((b.drop i).take 2) : Nat) : Int) := by
    intro i hi
    have h1 := hbyte i
    have h2 := hbyte (i + 1)
    have q1 : IntKind.i64.wrap ((b.getD i 0).toNat : Int) = ((b.getD i 0).toNat : Int) := w64n (by omega)
    have q2 : IntKind.i64.wrap ((b.getD (i + 1) 0).toNat : Int) = ((b.getD (i + 1) 0).toNat : Int) := w64n (by omega)
    have q3 : IntKind.i64.wrap ((256 : Int) * ((b.getD (i + 1) 0).toNat : Int)) = (256 : Int) * ((b.getD (i + 1) 0).toNat : Int) := w64 (by omega) (by omega)
    rw [q1, q2, q3, w64 (by omega) (by omega)]
    have hd : (b.drop i).take 2 = [b.getD i 0, b.getD (i + 1) 0] := by
      rw [List.drop_eq_getElem_cons (by omega), List.drop_eq_getElem_cons (by omega), List.take_succ_cons, List.take_succ_cons, List.take_zero]
      simp [List.getD, hi, show i < b.length by omega]
    rw [hd]
    simp only [fromLE]
    omega
  have t0 := two 0 (by omega)
  rw [List.drop_zero] at t0
  have t3 := two 3 (by omega)
  rw [t0]
  refine br_ne (fun hne => ?_) fun heq => ?_
  · rw [if_pos (by omega)]
    exact ⟨hd3.upd, none, 0, rfl, BytesAt.nil _ _, by simp⟩
  rw [if_neg (by omega)]
  intro w₅ hd5
  have e5 : Ext w w₅ := hd3.upd.trans hd5.upd
  have hb5 := RowAt.ext h e5
  have e1 : b.getD 2 0 < 1 ↔ ((b.getD 2 0).toNat : Int) < 1 := by rw [UInt8.lt_iff_toNat_lt]; show (b.getD 2 0).toNat < 1 ↔ _; omega
  have e7 : b.getD 2 0 > 7 ↔ ((b.getD 2 0).toNat : Int) > 7 := by show (7 : UInt8) < b.getD 2 0 ↔ _; rw [UInt8.lt_iff_toNat_lt]; show 7 < (b.getD 2 0).toNat ↔ _; omega
  refine ⟨fun u => u = w₅, rfl, idx_byteS (l := b) (fun u hu => hu ▸ hb5) ⟨_, rfl⟩ (by omega) (by omega) (idx_byteS (l := b) (fun u hu => hu ▸ hb5) ⟨_, rfl⟩ (by omega) (by omega) ?_)⟩
  rw [show Int.toNat 3 = 3 from rfl, show Int.toNat 4 = 4 from rfl]
  rw [t3]
  generalize hn : fromLE ((b.drop 3).take 2) = n
  refine idx_byte hb5 (by omega) (by omega) ?_
  rw [tn2]
  refine br_dec (fun h1 => ?_) fun h1 => ?_
  · rw [if_pos (.inl (e1.2 h1))]
    exact ⟨e5, none, 0, rfl, BytesAt.nil _ _, by simp⟩
  refine idx_byte hb5 (by omega) (by omega) ?_
  rw [tn2]
  refine br_dec (fun h7 => ?_) fun h7 => ?_
  · rw [if_pos (.inr (.inl (e7.2 h7)))]
    exact ⟨e5, none, 0, rfl, BytesAt.nil _ _, by simp⟩
  have q5 : IntKind.i64.wrap (((b.length : Nat) : Int) - 5) = (b.length : Int) - 5 := w64 (by omega) (by omega)
  rw [q5]
  refine br_dec (fun hl => ?_) fun hl => ?_
  · rw [if_pos (.inr (.inr (.inl (by omega))))]
    exact ⟨e5, none, 0, rfl, BytesAt.nil _ _, by simp⟩
  have q6 : IntKind.i64.wrap ((5 : Int) + (n : Int)) = ((5 + n : Nat) : Int) := by rw [w64 (by omega) (by omega)]; omega
  rw [q6]
  refine slice_bytes_from hb5 (by omega) (by omega) hc fun a2 c2 hb2 _ _ _ _ => ?_
  rw [Int.toNat_natCast] at hb2 ⊢
  refine (carrackref02_Blank_spec hb2 (by simp; omega)).mono ?_
  rintro _ _ ⟨rfl, rfl⟩
  rename_i w₅
  refine ⟨_, rfl, br_intro (fun hb => ?_) fun hb => ?_⟩
  · rw [if_pos (.inr (.inr (.inr (by simpa using hb))))]
    exact ⟨e5, none, 0, rfl, BytesAt.nil _ _, by simp⟩
  have hcond : ¬ (b.getD 2 0 < 1 ∨ b.getD 2 0 > 7 ∨ n > b.length - 5 ∨ isBlank (b.drop (5 + n)) = false) := by
    rintro (h | h | h | h)
    · exact h1 (e1.1 h)
    · exact h7 (e7.1 h)
    · omega
    · rw [h] at hb; cases hb
  rw [if_neg hcond]
  intro w₇ hd7
  have e7' : Ext w w₇ := e5.trans hd7.upd
  have hb7 := RowAt.ext h e7'
  refine ⟨fun u => Ext w₇ u, Upd.refl _ _, idx_byteS (l := b) (fun u hu => RowAt.ext hb7 hu) ⟨_, Upd.refl _ _⟩ (by omega) (by omega) ?_⟩
  refine slice_bytes_mid hb7 (by omega) (by omega) (by omega) hc (.inl rfl) fun a3 c3 hb3' _ => ?_
  rw [Int.toNat_natCast, show Int.toNat 5 = 5 from rfl] at hb3' ⊢
  refine append_copy hb3' (by simp; omega) fun a4 c4 w₈ he8 hb8 hc8 _ _ => ?_
  refine ⟨he8, e7'.trans he8, a4, c4, by rw [tn2]; rfl, hb8, hc8⟩
end Go.Den
end
section
set_option linter.unusedVariables false
set_option linter.unusedSimpArgs false
set_option maxRecDepth 8000
namespace Go.Den
structure Head where
  kind : UInt8
  era : Nat
  seq : Nat
  deriving DecidableEq
namespace Head
def Ok (h : Head) : Prop := h.era < 4294967296 ∧ h.seq < 18446744073709551616
def may (h : Head) : Bool := decide (1 ≤ h.kind.toNat) && decide (h.kind.toNat ≤ 3) && decide (1 ≤ h.era) && decide (1 ≤ h.seq)
def body (h : Head) : List UInt8 := h.kind :: (leB h.era 4 ++ leB h.seq 8)
def none : Head := ⟨0, 0, 0⟩
def vals (h : Head) : List Value := [bv h.kind, .int .u32 h.era, .int .u64 h.seq]
end Head
abbrev headV (h : Head) : Value := .agg #[bv h.kind, .int .u32 h.era, .int .u64 h.seq]
/-- a head's page, or an error -/
def putHead (size : Int) (h : Head) : List UInt8 × Nat :=
  if h.may = false ∨ isSize size = false then ([], 2) else (pageOf size.toNat 1 h.body, 0)
/-- the head of a page, or an error -/
def getHead (b : List UInt8) : Head × Nat :=
  if (getPage b).2.2 ≠ 0 then (Head.none, (getPage b).2.2)
  else if (getPage b).1 ≠ 1 ∨ (getPage b).2.1.length ≠ 13 then (Head.none, 5)
  else if (Head.mk ((getPage b).2.1.getD 0 0) (fromLE (((getPage b).2.1.drop 1).take 4)) (fromLE (((getPage b).2.1.drop 5).take 8))).may then
    (⟨(getPage b).2.1.getD 0 0, fromLE (((getPage b).2.1.drop 1).take 4), fromLE (((getPage b).2.1.drop 5).take 8)⟩, 0) else (Head.none, 5)
theorem Head.body_length (h : Head) : h.body.length = 13 := by simp [Head.body, leB_length]
theorem fromLE_lt4 (l : List UInt8) : fromLE (l.take 4) < 4294967296 := by
  have h := fromLE_lt (l.take 4)
  have h2 : (l.take 4).length ≤ 4 := by simp; omega
  have h3 := Nat.pow_le_pow_right (n := 256) (by omega) h2
  have e : (256 : Nat) ^ 4 = 4294967296 := by decide
  omega
theorem fromLE_take1 (l : List UInt8) : fromLE (l.take 1) = (l.getD 0 0).toNat := by
  cases l <;> simp [fromLE]
/-- bytes, and an error -/
def PutIs (w w' : World) (v : Value) (r : List UInt8 × Nat) : Prop :=
  ∃ a c, v = .tuple #[.slice a r.1.length c, .int .i64 (r.2 : Nat)] ∧ BytesAt w' a r.1 ∧ Fresh w a ∧ r.1.length ≤ c
theorem carrackref04_MayHead_spec (h : Head) (w : World) :
    CallsR prog K.carrackref04_MayHead #[headV h] w fun v w' => v = .bool h.may ∧ Ext w w' := by
  apply carrackref04_MayHead.sh
  intro B w₁ hn
  have hc := hn.get
  simp only [add_lit]
  refine ⟨_, cell_of hc rfl, br_dec (fun h1 => ⟨_, cell_of hc rfl, br_dec (fun h2 => ⟨_, cell_of hc rfl, br_dec (fun h3 => ⟨_, cell_of hc rfl, ?_, hn.upd⟩) fun h3 => ⟨?_, hn.upd⟩⟩) fun h2 => ⟨?_, hn.upd⟩⟩) fun h1 => ⟨?_, hn.upd⟩⟩
  · have a1 : decide (1 ≤ h.kind.toNat) = true := decide_eq_true (by omega)
    have a2 : decide (h.kind.toNat ≤ 3) = true := decide_eq_true (by omega)
    have a3 : decide (1 ≤ h.era) = true := decide_eq_true (by omega)
    simp only [Head.may, a1, a2, a3, Bool.true_and]
    congr 1
    exact decide_eq_decide.2 (by omega)
  · have a3 : decide (1 ≤ h.era) = false := decide_eq_false (by omega)
    simp [Head.may, a3]
  · have a3 : decide (h.kind.toNat ≤ 3) = false := decide_eq_false (by omega)
    simp [Head.may, a3]
  · have a3 : decide (1 ≤ h.kind.toNat) = false := decide_eq_false (by omega)
    simp [Head.may, a3]
theorem putHead_size {size : Int} (h : isSize size = true) : (13 : Int) ≤ size - 5 := by simp [isSize] at h; omega
theorem seal_put_head {size : Int} {h : Head} (hm : h.may = true) {w w₀ w' : World} {v : Value} (hf : w₀.heap.size ≤ w.heap.size)
    (hv : if isSize size = false ∨ (1 : UInt8) < 1 ∨ (1 : UInt8) > 7 then v = .tuple #[.slice none 0 0, .int .i64 2]
      else if (h.body.length : Int) > size - 5 then v = .tuple #[.slice none 0 0, .int .i64 3]
      else ∃ a c, v = .tuple #[.slice a size.toNat c, .int .i64 0] ∧ BytesAt w' a (pageOf size.toNat 1 h.body) ∧ Fresh w a ∧ size.toNat ≤ c) :
    PutIs w₀ w' v (putHead size h) ∧ ∃ (a4 : Option Addr) (l4 c4 : Nat) (x10 : Int), v = Value.tuple #[Value.slice a4 l4 c4, Value.int .i64 x10] := by
  have hk : ¬ ((1 : UInt8) < 1 ∨ (1 : UInt8) > 7) := by decide
  have hbl := h.body_length
  unfold putHead
  cases hs : isSize size with
  | false =>
    rw [if_pos (.inl hs)] at hv
    rw [if_pos (.inr rfl), hv]
    exact ⟨⟨none, 0, rfl, BytesAt.nil _ _, Fresh.none _, Nat.le_refl _⟩, _, _, _, _, rfl⟩
  | true =>
    have hsz := putHead_size hs
    rw [if_neg (by rw [hs]; simp only [Bool.true_eq_false, false_or]; exact hk), if_neg (by omega)] at hv
    rw [if_neg (by rw [hm]; simp)]
    obtain ⟨a, c, rfl, hb, hfr, hcp⟩ := hv
    have hl : (pageOf size.toNat 1 h.body).length = size.toNat := pageOf_length _ _ _ (by omega)
    refine ⟨⟨a, c, ?_, hb, Fresh.mono hfr hf, by rw [← hl] at hcp; exact hcp⟩, _, _, _, _, rfl⟩
    simp only [hl]
    rfl
theorem carrackref04_PutHead_spec (size : Int) (h : Head) (ho : h.Ok) (w : World) (hsz : size < 9223372036854775808) (hsz0 : -9223372036854775808 ≤ size) :
    CallsR prog K.carrackref04_PutHead #[.int .i64 size, headV h] w fun v w' => Ext w w' ∧ PutIs w w' v (putHead size h) := by
  apply carrackref04_PutHead.sh
  intro B w₁ hn
  have hc := hn.get
  simp only [add_lit]
  refine ⟨_, _, _, cellsAt_of (o := 0) (vs := h.vals) hc (fun j v hj => by simpa [Head.vals] using hj), ?_⟩
  refine (carrackref04_MayHead_spec h w₁).mono ?_
  rintro _ w₂ ⟨rfl, he2⟩
  have e2 : Ext w w₂ := hn.upd.trans he2
  refine ⟨_, rfl, ?_⟩
  cases hm : h.may with
  | false =>
    simp only [Bool.not_false, br_true]
    refine ⟨e2, ?_⟩
    unfold putHead
    rw [if_pos (.inl hm)]
    exact ⟨none, 0, rfl, BytesAt.nil _ _, Fresh.none _, Nat.le_refl _⟩
  | true =>
  simp only [Bool.not_true, br_false]
  have hc2 := Ext.get he2 hc
  refine ⟨_, cell_of hc2 rfl, fun B2 w₃ hn3 => ?_⟩
  have e3 := e2.trans hn3.upd
  have hc3 := Ext.get hn3.upd hc2
  refine ⟨_, cell_of hc3 rfl, ?_⟩
  have q : IntKind.u64.wrap (h.era : Int) = (h.era : Int) := wu64n (by have := ho.1; omega)
  rw [q]
  refine (carrackref01_Put_spec h.era 4 w₃ (by rfl) (by have : (256 : Nat) ^ 4 = 4294967296 := by decide
                                                        have := ho.1; omega)).mono ?_
  rintro _ w₄ ⟨a1, c1, rfl, ho1, hf1, he4⟩
  refine ⟨_, _, _, _, rfl, _, cell_of (Ext.get he4 hc3) rfl, ?_⟩
  refine (carrackref01_Put_spec h.seq 8 w₄ (by rfl) (by have : (256 : Nat) ^ 8 = 18446744073709551616 := by decide
                                                        have := ho.2; omega)).mono ?_
  rintro _ w₅ ⟨a2, c2, rfl, ho2, hf2, he5⟩
  refine ⟨_, _, _, _, rfl, ?_⟩
  have hB2 : B2 = w₂.heap.size := hn3.num
  have hs2 := hn3.size
  have ob : OwnAt w₅ (some ⟨B2, 0, none⟩) [h.kind].length 1 T.uint8 1 ([h.kind].map bv) := OwnAt.ext (OwnAt.ext (OwnAt.new (n := 1) (size := 1) hn3 (by simp)) he4) he5
  have hs4 := he4.size
  have hs5 := he5.size
  have b1 : BytesAt w₅ a1 (leB h.era 4) := RowAt.ext ho1.row he5
  refine append_bytes' (l := [h.kind]) (xs := leB h.era 4) rfl (by rw [leB_length]) ob b1 (by simp [leB_length]) fun a3 c3 w₆ hu6 ho6 hf6 => ?_
  have b2 : BytesAt w₆ a2 (leB h.seq 8) := RowAt.upd ho2.row hu6 (fun p hp e => by cases e; have := hf2 _ hp; omega)
  refine append_bytes' (l := [h.kind] ++ leB h.era 4) (xs := leB h.seq 8) rfl (by rw [leB_length]) ho6 b2 (by simp [leB_length]) fun a4 c4 w₇ hu7 ho7 hf7 => ?_
  have e5 : Ext w w₅ := (e3.trans he4).trans he5
  have hsw := e2.size
  have hf6' : Fresh w a3 := by
    rcases hf6 with rfl | ⟨b, rfl, hb⟩
    · exact Fresh.some (by omega)
    · exact Fresh.some (by omega)
  have e6 : Ext w w₆ := Upd.beyond e5 hu6 (fun x hx => by cases hx; omega)
  have e7 : Ext w w₇ := Upd.beyond e6 hu7 (fun x hx => hf6' _ hx)
  have hbody : [h.kind] ++ leB h.era 4 ++ leB h.seq 8 = h.body := by simp [Head.body]
  rw [hbody] at ho7 ⊢
  refine (carrackref02_Put_spec size 1 1 rfl ho7.row (by rw [h.body_length]; omega) hsz hsz0).mono ?_
  rintro v w₈ ⟨he8, hv⟩
  obtain ⟨hput, a, l, c, x, rfl⟩ := seal_put_head hm e7.size hv
  exact ⟨_, _, _, _, rfl, e7.trans he8, hput⟩
theorem pool_PutHead_spec (size : Int) (h : Head) (ho : h.Ok) (w : World) :
    CallsR prog K.pool_PutHead #[.int .i64 size, headV h] w fun v w' => Ext w w' ∧ PutIs w w' v (putHead size h) := by
  apply pool_PutHead.sh
  intro B w₁ hn
  have hc := hn.get
  simp only [add_lit]
  have hno : h.may = false → ∀ u, Ext w u → Ext w u ∧ PutIs w u (Value.tuple #[Value.slice none 0 0, Value.int .i64 2]) (putHead size h) := by
    intro hm u hu
    refine ⟨hu, ?_⟩
    unfold putHead
    rw [if_pos (.inl hm)]
    exact ⟨none, 0, rfl, BytesAt.nil _ _, Fresh.none _, Nat.le_refl _⟩
  refine ⟨fun u => u = w₁ ∧ h.may = true, ?_, ?_⟩
  · refine ⟨_, cell_of hc rfl, br_dec (fun h1 => hno ?_ _ hn.upd) fun h1 => ⟨_, cell_of hc rfl, br_dec (fun h2 => hno ?_ _ hn.upd) fun h2 => ⟨_, cell_of hc rfl, br_dec (fun h3 => hno ?_ _ hn.upd) fun h3 => ⟨_, cell_of hc rfl, br_dec (fun h4 => hno ?_ _ hn.upd) fun h4 => ⟨by trivial, ?_⟩⟩⟩⟩⟩
    · have a3 : decide (1 ≤ h.kind.toNat) = false := decide_eq_false (by omega)
      simp [Head.may, a3]
    · have a3 : decide (h.kind.toNat ≤ 3) = false := decide_eq_false (by omega)
      simp [Head.may, a3]
    · have a3 : decide (1 ≤ h.era) = false := decide_eq_false (by omega)
      simp [Head.may, a3]
    · have a3 : decide (1 ≤ h.seq) = false := decide_eq_false (by omega)
      simp [Head.may, a3]
    · simp [Head.may]
      omega
  rintro w₂ ⟨rfl, hm⟩
  refine ⟨_, cell_of hc rfl, ?_⟩
  have q : IntKind.u64.wrap (h.era : Int) = (h.era : Int) := wu64n (by have := ho.1; omega)
  rw [q]
  refine (ends_Put_spec h.era 4 w₂ (by rfl) (by have : (256 : Nat) ^ 4 = 4294967296 := by decide
                                                have := ho.1; omega)).mono ?_
  rintro _ w₃ ⟨a1, c1, rfl, hb1, hf1, he3⟩
  refine ⟨_, _, _, _, rfl, _, cell_of (Ext.get he3 hc) rfl, ?_⟩
  refine (ends_Put_spec h.seq 8 w₃ (by rfl) (by have : (256 : Nat) ^ 8 = 18446744073709551616 := by decide
                                                have := ho.2; omega)).mono ?_
  rintro _ w₄ ⟨a2, c2, rfl, hb2, hf2, he4⟩
  refine ⟨_, _, _, _, rfl, _, cell_of (Ext.get he4 (Ext.get he3 hc)) rfl, fun B2 w₅ hn5 B3 w₆ hn6 => ?_⟩
  have e4 := (hn.upd.trans he3).trans he4
  have e6 := (e4.trans hn5.upd).trans hn6.upd
  have hs : SlicesAt w₆ (some ⟨B3, 0, none⟩) [[h.kind], leB h.era 4, leB h.seq 8] := by
    refine ⟨_, RowAt.of hn6.get (vs := [Value.slice (some ⟨B2, 0, none⟩) 1 1, Value.slice a1 4 c1, Value.slice a2 8 c2]) (fun j v hj => by simpa using hj), rfl, fun i hi => ?_⟩
    match i, hi with
    | 0, _ => exact ⟨_, _, rfl, RowAt.ext (RowAt.of hn5.get fun j v hj => by simpa using hj) hn6.upd⟩
    | 1, _ => exact ⟨a1, c1, by simp [leB_length], RowAt.ext (RowAt.ext (RowAt.ext hb1 he4) hn5.upd) hn6.upd⟩
    | 2, _ => exact ⟨a2, c2, by simp [leB_length], RowAt.ext (RowAt.ext hb2 hn5.upd) hn6.upd⟩
  have hfl : ([[h.kind], leB h.era 4, leB h.seq 8] : List (List UInt8)).flatten = h.body := by simp [Head.body]
  have hcat := slices_Concat_spec (cp := 3) hs (by simp) (by rw [hfl, h.body_length]; omega)
  rw [hfl] at hcat
  refine hcat.mono ?_
  rintro _ w₇ ⟨he7, a3, c3, rfl, ho3, hf3⟩
  refine ⟨_, _, _, rfl, ?_⟩
  refine (seal_Put_spec size 1 1 rfl ho3.row (by rw [h.body_length]; omega)).mono ?_
  rintro v w₈ ⟨he8, hv⟩
  obtain ⟨hput, a, l, c, x, rfl⟩ := seal_put_head hm (e6.trans he7).size hv
  exact ⟨_, _, _, _, rfl, (e6.trans he7).trans he8, hput⟩
end Go.Den
end
section
set_option linter.unusedVariables false
set_option linter.unusedSimpArgs false
set_option maxRecDepth 8000
namespace Go.Den
theorem take_any (r k : Nat) (l : List UInt8) (no : Bool) (w : World) (hk : isSz k = true) (h : ReaderAt w r l no) :
    CallsR prog K.ends_Reader_Take #[.pointer (some ⟨r, 0, none⟩), .int .i64 k] w fun v w' => Upd (· = r) w w' ∧ ∃ (x e : Nat) (l' : List UInt8) (no' : Bool), v = .tuple #[.int .u64 x, .int .i64 e] ∧ ReaderAt w' r l' no' ∧ x < 256 ^ k ∧
      (no = false → k ≤ l.length → x = fromLE (l.take k) ∧ l' = l.drop k ∧ no' = false) := by
  refine (ends_Reader_Take_spec r k l no w hk h).mono ?_
  rintro v w' ⟨hu, hv⟩
  refine ⟨hu, ?_⟩
  split at hv
  · rename_i hc
    refine ⟨0, 4, l, true, hv.1, hv.2, Nat.pow_pos (by omega), fun h1 h2 => ?_⟩
    rcases hc with hc | hc
    · rw [h1] at hc; cases hc
    · omega
  · rename_i hc
    have hkl : k ≤ l.length := by
      rcases Nat.lt_or_ge l.length k with h' | h'
      · exact absurd (.inr h') hc
      · exact h'
    refine ⟨fromLE (l.take k), 0, l.drop k, false, hv.1, hv.2, ?_, fun h1 h2 => ⟨rfl, rfl, rfl⟩⟩
    have := fromLE_lt (l.take k)
    simpa [Nat.min_eq_left hkl] using this
theorem wrap8 {x : Nat} (h : x < 256) : Value.int .u8 (IntKind.u8.wrap (x : Int)) = bv (UInt8.ofNat x) := by
  rw [bv_mod, Nat.mod_eq_of_lt h]
theorem wrap32 {x : Nat} (h : x < 4294967296) : IntKind.u32.wrap (x : Int) = (x : Int) := wu32 (by omega) (by omega)
/-- a head is written over another, and read -/
theorem head_put {w : World} {B : Nat} {cs : Array Value} {h : Head} {K : World → Prop} (hc : w.heap[B]? = some (.cells cs T.api_Head (0, 0))) (hs : cs.size = 3) (hk : ∀ w', Put w B (.cells h.vals.toArray T.api_Head (0, 0)) w' → K w') :
    storeP w ⟨B, 0, none⟩ [bv h.kind, .int .u32 h.era, .int .u64 h.seq] K := by
  refine store_of hc (by simp [hs]) fun w' hput => ?_
  rw [splice_all _ _ (by simp [hs])] at hput
  exact hk w' hput
theorem head_cells {w : World} {B : Nat} {h : Head} (hc : w.heap[B]? = some (.cells h.vals.toArray T.api_Head (0, 0))) : cellsAt w ⟨B, 0, none⟩ [bv h.kind, .int .u32 h.era, .int .u64 h.seq] 0 :=
  cellsAt_of (o := 0) hc (fun j v hj => by simpa [Head.vals] using hj)
theorem head_zero : (#[Value.int .u8 0, Value.int .u32 0, Value.int .u64 0] : Array Value) = Head.none.vals.toArray := rfl
theorem pool_GetHead_spec {a : Option Addr} {b : List UInt8} {c : Nat} {w : World} (h : BytesAt w a b) (hc : b.length ≤ c) :
    CallsR prog K.pool_GetHead #[.slice a b.length c] w fun v w' => Ext w w' ∧ v = .tuple #[headV (getHead b).1, .int .i64 ((getHead b).2 : Nat)] := by
  apply pool_GetHead.sh
  intro B w₁ hn
  have hB : B = w.heap.size := hn.num
  rw [head_zero] at hn
  have hcB := hn.get
  refine (seal_Get_spec (h.ext hn.upd) hc).mono ?_
  rintro _ w₂ ⟨he2, a1, c1, rfl, hb2, hc2⟩
  have e2 : Ext w w₂ := hn.upd.trans he2
  have hcB2 := Ext.get he2 hcB
  have fin : ∀ {u u' : World} {h' : Head}, Ext w u → Put u B (.cells h'.vals.toArray T.api_Head (0, 0)) u' → Ext w u' := fun hu hp => Put.upd hu hp (.inl (by omega))
  refine ⟨_, _, _, _, _, rfl, br_ne (fun hne => ?_) fun heq => ?_⟩
  · refine head_put (h := Head.none) hcB2 rfl fun w₃ hput => ⟨_, _, _, head_cells hput.get, fin e2 hput, ?_⟩
    unfold getHead
    rw [if_pos (by omega)]
  have he0 : (getPage b).2.2 = 0 := by omega
  have hgb : isSize b.length = true := by
    cases hs : isSize b.length with
    | true => rfl
    | false =>
      have : (getPage b).2.2 = 2 := by unfold getPage; rw [if_pos hs]
      omega
  have hbb := hgb
  simp [isSize] at hbb
  have hbl : (getPage b).2.1.length ≤ 1000 := by
    unfold getPage
    split
    · simp
    · split
      · simp
      · split
        · simp
        · split
          · simp
          · simp; omega
  generalize hG : getPage b = G at *
  obtain ⟨kd, body, er⟩ := G
  simp only [] at *
  refine (ends_New_spec a1 body c1 w₂ hb2 (by omega)).mono ?_
  rintro _ w₄ ⟨r, rfl, hr, hra, he4⟩
  refine ⟨_, rfl, ?_⟩
  refine (take_any r 1 body false w₄ rfl hra).mono ?_
  rintro _ w₅ ⟨hu5, x6, x7, l5, no5, rfl, hr5, hx6, hg5⟩
  refine ⟨_, _, rfl, ?_⟩
  refine (take_any r 4 l5 no5 w₅ rfl hr5).mono ?_
  rintro _ w₆ ⟨hu6, x8, x9, l6, no6, rfl, hr6, hx8, hg6⟩
  refine ⟨_, _, rfl, ?_⟩
  refine (take_any r 8 l6 no6 w₆ rfl hr6).mono ?_
  rintro _ w₇ ⟨hu7, x10, x11, l7, no7, rfl, hr7, hx10, hg7⟩
  refine ⟨_, _, rfl, fun B2 w₈ hn8 => ?_⟩
  have e4 : Ext w w₄ := e2.trans he4
  have hs2 := e2.size
  have hu57 : Upd (· = r) w₄ w₇ := (hu5.trans hu6).trans hu7
  have e7 : Ext w w₇ := Upd.beyond e4 hu57 (fun x hx => by omega)
  have hs0 := hn.size
  have hs1 := he2.size
  have hcB7 : w₇.heap[B]? = _ := hu57.get (Ext.get he4 hcB2) (by omega)
  rw [show (256 : Nat) ^ 1 = 256 by decide] at hx6
  rw [show (256 : Nat) ^ 4 = 4294967296 by decide] at hx8
  rw [show (256 : Nat) ^ 8 = 18446744073709551616 by decide] at hx10
  rw [wrap8 hx6, wrap32 hx8]
  rw [head_zero] at hn8
  have hHok : (Head.mk (UInt8.ofNat x6) x8 x10).Ok := ⟨hx8, hx10⟩
  generalize hH : Head.mk (UInt8.ofNat x6) x8 x10 = H at hHok
  have hH1 : bv (UInt8.ofNat x6) = bv H.kind := by rw [← hH]
  have hH2 : (x8 : Int) = H.era := by rw [← hH]
  have hH3 : (x10 : Int) = H.seq := by rw [← hH]
  rw [hH1, hH2, hH3]
  refine head_put (h := H) hn8.get rfl fun w₉ hput9 => ⟨_, _, _, head_cells hput9.get, ?_⟩
  have hB2 : B2 = w₇.heap.size := hn8.num
  have hs7 := e7.size
  have e9 : Ext w w₉ := Put.upd (e7.trans hn8.upd) hput9 (.inl (by omega))
  have hsu57 := hu57.size
  have hs4 := he4.size
  have hcB9 : w₉.heap[B]? = _ := hput9.upd1.get (Ext.get hn8.upd hcB7) (by omega)
  refine (pool_PutHead_spec b.length H hHok w₉).mono ?_
  rintro _ w₁₀ ⟨he10, a2, c2, rfl, _, _⟩
  have e10 := e9.trans he10
  have hcB10 := Ext.get he10 hcB9
  have hpe : (putHead b.length H).2 = if H.may = false then 2 else 0 := by
    unfold putHead
    rw [hgb]
    cases H.may <;> simp
  have hcond : ¬ er ≠ 0 := by omega
  have hgen : kd = 1 → body.length = 13 → H = ⟨body.getD 0 0, fromLE ((body.drop 1).take 4), fromLE ((body.drop 5).take 8)⟩ := by
    intro hkd hbl
    obtain ⟨g1, g2, g3⟩ := hg5 rfl (by omega)
    obtain ⟨g4, g5, g6⟩ := hg6 g3 (by rw [g2]; simp; omega)
    obtain ⟨g7, g8, g9⟩ := hg7 g6 (by rw [g5, g2]; simp; omega)
    rw [← hH, g1, g4, g7, g5, g2, fromLE_take1]
    simp [List.drop_drop]
  have hcondG : getHead b = if kd ≠ 1 ∨ body.length ≠ 13 then (Head.none, 5) else if H.may = true then (H, 0) else (Head.none, 5) := by
    unfold getHead
    rw [hG]
    simp only []
    rw [if_neg hcond]
    by_cases hk : kd ≠ 1 ∨ body.length ≠ 13
    · rw [if_pos hk, if_pos hk]
    · rw [if_neg hk, if_neg hk]
      have hk' : kd = 1 ∧ body.length = 13 := ⟨Classical.byContradiction fun h => hk (.inl h), Classical.byContradiction fun h => hk (.inr h)⟩
      rw [hgen hk'.1 hk'.2]
  refine ⟨_, _, _, _, rfl, br_ne (fun hne => ?_) fun heq => ?_⟩
  · refine head_put (h := Head.none) hcB10 rfl fun w₃ hput => ⟨_, _, _, head_cells hput.get, fin e10 hput, ?_⟩
    have hm : H.may = false := by
      cases hm : H.may with
      | false => rfl
      | true => rw [hpe, hm] at hne; simp at hne
    rw [hcondG, hm]
    split <;> rfl
  have hm : H.may = true := by
    cases hm : H.may with
    | true => rfl
    | false => rw [hpe, hm] at heq; simp at heq
  have hkd : kd = 1 ↔ (kd.toNat : Int) = 1 := by
    constructor
    · rintro rfl; rfl
    · intro h; exact UInt8.toNat_inj.1 (by show kd.toNat = 1; omega)
  refine br_ne (fun hne => ?_) fun heq1 => ?_
  · refine head_put (h := Head.none) hcB10 rfl fun w₃ hput => ⟨_, _, _, head_cells hput.get, fin e10 hput, ?_⟩
    rw [hcondG, if_pos (.inl (fun h => hne (hkd.1 h)))]
    rfl
  refine br_ne (fun hne => ?_) fun heq2 => ?_
  · refine head_put (h := Head.none) hcB10 rfl fun w₃ hput => ⟨_, _, _, head_cells hput.get, fin e10 hput, ?_⟩
    rw [hcondG, if_pos (.inr (by omega))]
    rfl
  have hc9 := Ext.get he10 hput9.get
  refine ⟨_, _, _, head_cells hc9, head_put hcB10 rfl fun w₁₁ hput => ⟨_, _, _, head_cells hput.get, fin e10 hput, ?_⟩⟩
  have hk : ¬ (kd ≠ 1 ∨ body.length ≠ 13) := by
    rintro (h | h)
    · exact h (hkd.2 heq1)
    · omega
  rw [hcondG, if_neg hk, if_pos hm]
  rfl
theorem rtake_any (r k : Nat) (l : List UInt8) (no : Bool) (w : World) (hk : isSz k = true) (h : RReaderAt w r l no) (hkl : no = false ∧ k ≤ l.length) :
    CallsR prog K.carrackref01_Reader_Take #[.pointer (some ⟨r, 0, none⟩), .int .i64 k] w fun v w' => Upd (· = r) w w' ∧ v = .tuple #[.int .u64 (fromLE (l.take k)), .int .i64 0] ∧ RReaderAt w' r (l.drop k) false := by
  refine (carrackref01_Reader_Take_spec r k l no w hk h).mono ?_
  rintro v w' ⟨hu, hv⟩
  rw [if_neg (by rw [hkl.1]; simp; omega)] at hv
  exact ⟨hu, hv⟩
theorem carrackref04_GetHead_spec {a : Option Addr} {b : List UInt8} {c : Nat} {w : World} (h : BytesAt w a b) (hc : b.length ≤ c) :
    CallsR prog K.carrackref04_GetHead #[.slice a b.length c] w fun v w' => Ext w w' ∧ v = .tuple #[headV (getHead b).1, .int .i64 ((getHead b).2 : Nat)] := by
  apply carrackref04_GetHead.sh
  intro B w₁ hn
  have hB : B = w.heap.size := hn.num
  rw [head_zero] at hn
  have hcB := hn.get
  refine (carrackref02_Get_spec (h.ext hn.upd) hc).mono ?_
  rintro _ w₂ ⟨he2, a1, c1, rfl, hb2, hc2⟩
  have e2 : Ext w w₂ := hn.upd.trans he2
  have hcB2 := Ext.get he2 hcB
  have fin : ∀ {u u' : World} {h' : Head}, Ext w u → Put u B (.cells h'.vals.toArray T.api_Head (0, 0)) u' → Ext w u' := fun hu hp => Put.upd hu hp (.inl (by omega))
  refine ⟨_, _, _, _, _, rfl, br_ne (fun hne => ?_) fun heq => ?_⟩
  · refine head_put (h := Head.none) hcB2 rfl fun w₃ hput => ⟨_, _, _, head_cells hput.get, fin e2 hput, ?_⟩
    unfold getHead
    rw [if_pos (by omega)]
  have he0 : (getPage b).2.2 = 0 := by omega
  generalize hG : getPage b = G at *
  obtain ⟨kd, body, er⟩ := G
  simp only [] at *
  have hcond : ¬ er ≠ 0 := by omega
  have hkd : kd = 1 ↔ (kd.toNat : Int) = 1 := by
    constructor
    · rintro rfl; rfl
    · intro h; exact UInt8.toNat_inj.1 (by show kd.toNat = 1; omega)
  refine br_ne (fun hne => ?_) fun heq1 => ?_
  · refine head_put (h := Head.none) hcB2 rfl fun w₃ hput => ⟨_, _, _, head_cells hput.get, fin e2 hput, ?_⟩
    unfold getHead
    rw [hG]
    simp only []
    rw [if_neg hcond, if_pos (.inl (fun h => hne (hkd.1 h)))]
    rfl
  refine br_ne (fun hne => ?_) fun heq2 => ?_
  · refine head_put (h := Head.none) hcB2 rfl fun w₃ hput => ⟨_, _, _, head_cells hput.get, fin e2 hput, ?_⟩
    unfold getHead
    rw [hG]
    simp only []
    rw [if_neg hcond, if_pos (.inr (by omega))]
    rfl
  have hbl : body.length = 13 := by omega
  intro r w₆ hn6
  have hs0 := hn.size
  have hs1 := he2.size
  have hr : r = w₂.heap.size := hn6.num
  have hra : RReaderAt w₆ r body false := by
    refine ⟨a1, c1, hn6.get, hb2.ext hn6.upd, hc2, fun p hp => ?_⟩
    obtain ⟨b', o', hab, hlt⟩ := RowAt.blk hb2 (List.ne_nil_of_length_pos (by simp [hbl]))
    rw [hp] at hab
    cases hab
    show b' ≠ r
    omega
  refine (rtake_any r 1 body false w₆ rfl hra ⟨rfl, by omega⟩).mono ?_
  rintro _ w₇ ⟨hu7, rfl, hr7⟩
  refine ⟨_, _, rfl, ?_⟩
  refine (rtake_any r 4 _ false w₇ rfl hr7 ⟨rfl, by simp; omega⟩).mono ?_
  rintro _ w₈ ⟨hu8, rfl, hr8⟩
  refine ⟨_, _, rfl, ?_⟩
  refine (rtake_any r 8 _ false w₈ rfl hr8 ⟨rfl, by simp; omega⟩).mono ?_
  rintro _ w₉ ⟨hu9, rfl, hr9⟩
  refine ⟨_, _, rfl, fun B2 w₁₀ hn10 => ?_⟩
  have hu69 : Upd (· = r) w₆ w₉ := (hu7.trans hu8).trans hu9
  have e6 := e2.trans hn6.upd
  have hs2 := e2.size
  have e9 : Ext w w₉ := Upd.beyond e6 hu69 (fun x hx => by omega)
  have hcB9 : w₉.heap[B]? = _ := hu69.get (Ext.get hn6.upd hcB2) (by omega)
  have hx1 : fromLE (body.take 1) < 256 := by rw [fromLE_take1]; exact (body.getD 0 0).toNat_lt
  rw [wrap8 hx1, wrap32 (fromLE_lt4 _)]
  have hH1 : UInt8.ofNat (fromLE (body.take 1)) = body.getD 0 0 := by rw [fromLE_take1]; simp
  rw [hH1, List.drop_drop]
  rw [head_zero] at hn10
  have hcondG : getHead b = if (Head.mk (body.getD 0 0) (fromLE ((body.drop 1).take 4)) (fromLE ((body.drop 5).take 8))).may then (⟨body.getD 0 0, fromLE ((body.drop 1).take 4), fromLE ((body.drop 5).take 8)⟩, 0) else (Head.none, 5) := by
    unfold getHead
    rw [hG]
    simp only []
    rw [if_neg hcond, if_neg (fun h => h.elim (fun h => h (hkd.2 heq1)) (fun h => h hbl))]
  generalize hH : Head.mk (body.getD 0 0) (fromLE ((body.drop 1).take 4)) (fromLE ((body.drop 5).take 8)) = H at *
  have q1 : bv (body.getD 0 0) = bv H.kind := by rw [← hH]
  have q2 : (fromLE ((body.drop 1).take 4) : Int) = H.era := by rw [← hH]
  have q3 : (fromLE ((body.drop (4 + 1)).take 8) : Int) = H.seq := by rw [← hH]
  have q3' : (fromLE ((body.drop (1 + 4)).take 8) : Int) = H.seq := by rw [← hH]
  have hB2 : B2 = w₉.heap.size := hn10.num
  have hs69 := hu69.size
  have hs6 := hn6.size
  have main : storeP w₁₀ ⟨B2, 0, none⟩ [bv H.kind, .int .u32 H.era, .int .u64 H.seq] fun w11 =>
      ∃ x18 : Int, ∃ x19 : Int, ∃ x20 : Int, cellsAt w11 ⟨B2, 0, none⟩ [Value.int .u8 x18, Value.int .u32 x19, Value.int .u64 x20] 0 ∧
      CallsR prog K.carrackref04_MayHead #[Value.agg #[Value.int .u8 x18, Value.int .u32 x19, Value.int .u64 x20]] w11 fun v5 w12 =>
      ∃ b1 : Bool, v5 = Value.bool b1 ∧
      br (!b1) (
        storeP w12 ⟨B, 0, none⟩ [Value.int .u8 0, Value.int .u32 0, Value.int .u64 0] fun w13 =>
        ∃ x21 : Int, ∃ x22 : Int, ∃ x23 : Int, cellsAt w13 ⟨B, 0, none⟩ [Value.int .u8 x21, Value.int .u32 x22, Value.int .u64 x23] 0 ∧ (Ext w w13 ∧ Value.tuple #[Value.agg #[Value.int .u8 x21, Value.int .u32 x22, Value.int .u64 x23], Value.int .i64 5] = .tuple #[headV (getHead b).1, .int .i64 ((getHead b).2 : Nat)])) (
        ∃ x24 : Int, ∃ x25 : Int, ∃ x26 : Int, cellsAt w12 ⟨B2, 0, none⟩ [Value.int .u8 x24, Value.int .u32 x25, Value.int .u64 x26] 0 ∧
        storeP w12 ⟨B, 0, none⟩ [Value.int .u8 x24, Value.int .u32 x25, Value.int .u64 x26] fun w14 =>
        ∃ x27 : Int, ∃ x28 : Int, ∃ x29 : Int, cellsAt w14 ⟨B, 0, none⟩ [Value.int .u8 x27, Value.int .u32 x28, Value.int .u64 x29] 0 ∧ (Ext w w14 ∧ Value.tuple #[Value.agg #[Value.int .u8 x27, Value.int .u32 x28, Value.int .u64 x29], Value.int .i64 0] = .tuple #[headV (getHead b).1, .int .i64 ((getHead b).2 : Nat)])) := by
    refine head_put (h := H) hn10.get rfl fun w₁₁ hput11 => ⟨_, _, _, head_cells hput11.get, ?_⟩
    have e11 : Ext w w₁₁ := Put.upd (e9.trans hn10.upd) hput11 (.inl (by have := e9.size; omega))
    have hcB11 : w₁₁.heap[B]? = _ := hput11.upd1.get (Ext.get hn10.upd hcB9) (by omega)
    refine (carrackref04_MayHead_spec H w₁₁).mono ?_
    rintro _ w₁₂ ⟨rfl, he12⟩
    have e12 := e11.trans he12
    have hcB12 := Ext.get he12 hcB11
    refine ⟨_, rfl, ?_⟩
    cases hm : H.may with
    | false =>
      simp only [Bool.not_false, br_true]
      refine head_put (h := Head.none) hcB12 rfl fun w₃ hput => ⟨_, _, _, head_cells hput.get, fin e12 hput, ?_⟩
      rw [hcondG, hm]
      rfl
    | true =>
      simp only [Bool.not_true, br_false]
      have hc12 := Ext.get he12 hput11.get
      refine ⟨_, _, _, head_cells hc12, head_put hcB12 rfl fun w₁₁ hput => ⟨_, _, _, head_cells hput.get, fin e12 hput, ?_⟩⟩
      rw [hcondG, hm]
      rfl
  rw [← q1, ← q2, ← q3] at main
  exact main
end Go.Den
end
section
set_option linter.unusedSimpArgs false
set_option linter.unusedVariables false
namespace Go.Den
theorem meas {n i : Nat} (h : i < n) : ((n : Int) - ((i + 1 : Nat) : Int)).toNat < ((n : Int) - (i : Int)).toNat := by omega
variable {α : Type} {f : α → List Value} {k : Nat}
theorem flat_len (hf : ∀ x, (f x).length = k) (l : List α) : (l.flatMap f).length = l.length * k := by
  induction l with
  | nil => simp
  | cons x l ih => simp [hf, ih, Nat.succ_mul, Nat.add_comm]
theorem flat_drop (hf : ∀ x, (f x).length = k) (l : List α) (i : Nat) : (l.flatMap f).drop (i * k) = (l.drop i).flatMap f := by
  induction i generalizing l with
  | zero => simp
  | succ i ih =>
    cases l with
    | nil => simp
    | cons x l =>
      rw [List.flatMap_cons, List.drop_succ_cons, ← ih, Nat.succ_mul, Nat.add_comm, ← List.drop_drop]
      congr 1
      rw [← hf x]; simp
theorem flat_take (hf : ∀ x, (f x).length = k) (l : List α) (i : Nat) : (l.flatMap f).take (i * k) = (l.take i).flatMap f := by
  induction i generalizing l with
  | zero => simp
  | succ i ih =>
    cases l with
    | nil => simp
    | cons x l =>
      rw [List.flatMap_cons, List.take_succ_cons, List.flatMap_cons, ← ih, Nat.succ_mul, Nat.add_comm, List.take_append, hf x]
      rw [List.take_of_length_le (by rw [hf]; omega)]
      congr 2
      omega
theorem flat_set (hf : ∀ x, (f x).length = k) (l : List α) {i : Nat} (hi : i < l.length) (x : α) : (l.flatMap f).take (i * k) ++ f x ++ (l.flatMap f).drop (i * k + k) = (l.set i x).flatMap f := by
  have e : i * k + k = (i + 1) * k := by rw [Nat.succ_mul]
  rw [e, flat_drop hf, flat_take hf, List.set_eq_take_append_cons_drop, if_pos hi]
  simp
theorem flat_get (hf : ∀ x, (f x).length = k) (l : List α) {i : Nat} (hi : i < l.length) : ((l.flatMap f).drop (i * k)).take k = f l[i] := by
  rw [flat_drop hf, List.drop_eq_getElem_cons hi, List.flatMap_cons, ← hf l[i]]
  simp
/-- an element is pointed at -/
theorem idx_flat (hf : ∀ x, (f x).length = k) (hk : 1 ≤ k) {w : World} {a : Option Addr} {l : List α} {n i : Nat} (hr : RowAt w a (l.flatMap f)) (hn : n = l.length) (hi : i < l.length) {K : Addr → Prop}
    (h : ∀ b o, a = some ⟨b, o, none⟩ → RowAt w (some ⟨b, o + i * k, none⟩) (f l[i]) → K ⟨b, o + i * k, none⟩) : idxP a n (i : Int) k K := by
  subst hn
  refine ⟨by omega, by omega, ?_⟩
  have hne : l.flatMap f ≠ [] := List.ne_nil_of_length_pos (by rw [flat_len hf]; exact Nat.mul_pos (by omega) (by omega))
  obtain ⟨b, o, rfl, _⟩ := RowAt.blk hr hne
  simp only [nilC_some', add_lit, Int.toNat_natCast]
  refine h b o rfl ?_
  rw [← flat_get hf l hi]
  exact RowAt.take (RowAt.drop hr (i * k)) k
/-- append of an element out of a block of its own -/
theorem append_flat (hf : ∀ x, (f x).length = k) {w₀ w₁ : World} {a : Option Addr} {l : List α} {cap n bytes : Nat} {e : TypeId} {z : List Value} (h : OwnAt w₁ a l.length cap e k (l.flatMap f)) {B : Nat} {x : α} {cs : Array Value} (hcs : cs.toList = f x) (hn : New w₀ (.cells cs e) B w₁) (hnl : n = l.length)
    (h1 : ∀ v ∈ f x, v.oneCell' = true) (hz : z.length = k) (hb : l.length ≤ 1000000000) (hby : bytes ≤ 10000) {K : Option Addr → Nat → Nat → World → Prop}
    (hk : ∀ a' c' w', Upd (fun b => a = some ⟨b, 0, none⟩) w₁ w' → OwnAt w' a' (l ++ [x]).length c' e k ((l ++ [x]).flatMap f) → (a' = a ∨ ∃ b, a' = some ⟨b, 0, none⟩ ∧ w₁.heap.size ≤ b) → K a' (l ++ [x]).length c' w') :
    appendP e k bytes z a n cap (.slice (some ⟨B, 0, none⟩) 1 1) w₁ K := by
  subst hnl
  have hrow : RowAt w₁ (some ⟨B, 0, none⟩) (f x) := RowAt.of hn.get fun j v hj => by rw [← hcs] at hj; simpa using hj
  refine append_own h rfl (read_row hrow (by rw [hf]; omega)) (by rw [hf]; omega) h1 hz ?_ (by omega) fun a' c' w' hu ho hf' => ?_
  · have : (2 * (l.length + 1) + 192) * bytes ≤ (2 * (1000000000 + 1) + 192) * 10000 := Nat.mul_le_mul (by omega) hby
    omega
  · have := hk a' c' w' hu (by simpa using ho) hf'
    simpa using this
/-- append of elements that lie elsewhere -/
theorem append_rows (hf : ∀ x, (f x).length = k) {w₁ : World} {a ax : Option Addr} {l xs : List α} {cap cx n m bytes : Nat} {e : TypeId} {z : List Value} (h : OwnAt w₁ a l.length cap e k (l.flatMap f)) (hx : RowAt w₁ ax (xs.flatMap f)) (hnl : n = l.length) (hm : m = xs.length)
    (h1 : ∀ x ∈ xs, ∀ v ∈ f x, v.oneCell' = true) (hz : z.length = k) (hb : l.length + xs.length ≤ 1000000000) (hby : bytes ≤ 10000) {K : Option Addr → Nat → Nat → World → Prop}
    (hk : ∀ a' c' w', Upd (fun b => a = some ⟨b, 0, none⟩) w₁ w' → OwnAt w' a' (l ++ xs).length c' e k ((l ++ xs).flatMap f) → (a' = a ∨ ∃ b, a' = some ⟨b, 0, none⟩ ∧ w₁.heap.size ≤ b) → K a' (l ++ xs).length c' w') :
    appendP e k bytes z a n cap (.slice ax m cx) w₁ K := by
  subst hnl; subst hm
  refine append_own h rfl (read_row hx (by rw [flat_len hf])) (by rw [flat_len hf]) (fun v hv => ?_) hz ?_ (by omega) fun a' c' w' hu ho hf' => ?_
  · obtain ⟨x, hx, hv⟩ := List.mem_flatMap.1 hv
    exact h1 x hx v hv
  · have : (2 * (l.length + xs.length) + 192) * bytes ≤ (2 * 1000000000 + 192) * 10000 := Nat.mul_le_mul (by omega) hby
    omega
  · have := hk a' c' w' hu (by simpa using ho) hf'
    simpa using this
/-- s[:k] -/
theorem slice_to {size : Nat} {a : Option Addr} {len cap : Nat} {j : Int} {K : Option Addr → Nat → Nat → Prop} (h0 : 0 ≤ j) (h1 : j ≤ len) (h2 : len ≤ cap) (hk : K a j.toNat cap) : sliceP size a len cap none (some j) none K := by
  refine ⟨by simp, by simp, by simpa using h0, by simp; omega, by simp, by simpa using h0, by simp, ?_⟩
  have e2 : (if (Option.getD none (cap : Int)).toNat = (Option.getD none (0 : Int)).toNat then a else Option.map (fun x => Addr.add x ((Option.getD none (0 : Int)).toNat * size)) a) = a := by
    cases a <;> simp [add_zero]
  rw [e2]
  simpa using hk
/-- what s[k:] reads as -/
theorem row_from {w : World} {a : Option Addr} {vs : List Value} {len cap size j : Nat} (h : RowAt w a vs) (hl : vs.length = len * size) (hc : len ≤ cap) : RowAt w (if cap = j then a else a.map (·.add (j * size))) (vs.drop (j * size)) := by
  split
  · rename_i e
    have : vs.drop (j * size) = [] := List.drop_of_length_le (by rw [hl]; exact Nat.mul_le_mul_right _ (by omega))
    rw [this]; exact RowAt.nil _ _
  · by_cases hv : vs = []
    · subst hv
      simp only [List.drop_nil]
      exact RowAt.nil _ _
    · obtain ⟨b, o, rfl, _⟩ := RowAt.blk h hv
      simp only [Option.map_some, add_lit]
      exact RowAt.drop h _
end Go.Den
end
section
set_option linter.unusedVariables false
namespace Go.Den
structure Blk where
  what : Nat
  head : Head
namespace Blk
def vals (b : Blk) : List Value := [.int .i64 b.what, bv b.head.kind, .int .u32 b.head.era, .int .u64 b.head.seq]
def zero : Blk := ⟨0, Head.none⟩
end Blk
structure Pool where
  blocks : List Blk
  last : Nat
  turn : Nat
structure Taken where
  block : Nat
  head : Head
  bad : Bool
  deriving DecidableEq
namespace Taken
def vals (t : Taken) : List Value := [.int .i64 t.block, bv t.head.kind, .int .u32 t.head.era, .int .u64 t.head.seq, .bool t.bad]
end Taken
/-- what is read of a block -/
def lookAt (c : Chip) (i : Nat) (old : Blk) : Blk :=
  if c.dead then old
  else if (getHead (c.page i 0)).2 = 0 then ⟨2, (getHead (c.page i 0)).1⟩
  else if isBlank (c.blk i) then ⟨0, Head.none⟩ else ⟨1, Head.none⟩
namespace Pool
def blk (P : Pool) (i : Nat) : Blk := P.blocks.getD i Blk.zero
def setBlk (P : Pool) (i : Nat) (b : Blk) : Pool := { P with blocks := P.blocks.set i b }
/-- a block's own look -/
def relook (P : Pool) (c : Chip) (i : Nat) : Pool := P.setBlk i (lookAt c i (P.blk i))
end Pool
/-- insertion from the right, in a row that is turned round -/
def sink {α : Type} (lt : α → α → Bool) (x : α) : List α → List α
  | [] => [x]
  | y :: ys => if lt x y then y :: sink lt x ys else x :: y :: ys
def takenLt (a b : Taken) : Bool := decide (a.head.seq < b.head.seq) || (decide (a.head.seq = b.head.seq) && decide (a.block < b.block))
def isort {α : Type} (lt : α → α → Bool) (l : List α) : List α := (l.foldl (fun acc x => sink lt x acc) []).reverse
/-- the taken blocks, in their own order -/
def takenRaw (P : Pool) (c : Chip) (n : Nat) : List Taken := (List.range n).filterMap fun i => if (P.blk i).what = 2 then some ⟨i, (P.blk i).head, c.isBad i⟩ else none
def takenPool (P : Pool) (c : Chip) : List Taken := isort takenLt (takenRaw P c c.nb)
/-- what Scan makes of block after block -/
def scanGo (c : Chip) : Nat → Pool
  | 0 => ⟨List.replicate c.nb Blk.zero, 0, 0⟩
  | i + 1 =>
    if (((scanGo c i).relook c i).blk i).head.seq > (scanGo c i).last ∨ ((((scanGo c i).relook c i).blk i).head.seq = (scanGo c i).last ∧ (((scanGo c i).relook c i).blk i).head.seq > 0) then
      { (scanGo c i).relook c i with last := (((scanGo c i).relook c i).blk i).head.seq, turn := i + 1 }
    else (scanGo c i).relook c i
def scanPool (c : Chip) : Pool := scanGo c c.nb
/-! ### Geometry stays -/
def Chip.SameGeo (c d : Chip) : Prop := d.nb = c.nb ∧ d.np = c.np ∧ d.sz = c.sz ∧ d.sp = c.sp
theorem Chip.SameGeo.refl (c : Chip) : c.SameGeo c := ⟨rfl, rfl, rfl, rfl⟩
theorem Chip.SameGeo.trans {a b c : Chip} (h : a.SameGeo b) (k : b.SameGeo c) : a.SameGeo c := ⟨k.1.trans h.1, k.2.1.trans h.2.1, k.2.2.1.trans h.2.2.1, k.2.2.2.trans h.2.2.2⟩
theorem Chip.strike_geo (c : Chip) : c.SameGeo c.strike.1 := by
  unfold Chip.strike
  split
  · exact ⟨rfl, rfl, rfl, rfl⟩
  · split <;> exact ⟨rfl, rfl, rfl, rfl⟩
theorem Chip.finish_geo (c : Chip) (b : Nat) (h : Option Hit) : c.SameGeo (c.finish b h).1 := by
  unfold Chip.finish
  split
  · exact ⟨rfl, rfl, rfl, rfl⟩
  · split <;> exact ⟨rfl, rfl, rfl, rfl⟩
theorem Chip.done_geo (c : Chip) (b off n : Nat) (new : List UInt8) : c.SameGeo (c.done b off n new).1 := by
  unfold Chip.done
  refine (c.strike_geo).trans (Chip.SameGeo.trans ?_ (Chip.finish_geo _ _ _))
  exact ⟨rfl, rfl, rfl, rfl⟩
theorem Chip.program_geo (c : Chip) (b p : Int) (x : List UInt8) : c.SameGeo (c.program b p x).1 := by
  unfold Chip.program
  split
  · exact .refl _
  · split
    · exact .refl _
    · split
      · exact .refl _
      · split
        · exact .refl _
        · exact c.done_geo _ _ _ _
end Go.Den
end
section
set_option linter.unusedVariables false
set_option linter.unusedSimpArgs false
namespace Go.Den
theorem Blk.vals_length (b : Blk) : b.vals.length = 4 := rfl
theorem Taken.vals_length (b : Taken) : b.vals.length = 5 := rfl
/-- where a pool and its chip lie -/
structure PLoc where
  q : Nat
  pb : Nat
  cap : Nat
  p : Nat
abbrev poolCells (P : Pool) (c : Chip) (M : PLoc) : Array Value := #[.pointer (some ⟨M.p, 0, none⟩), .slice (some ⟨M.pb, 0, none⟩) c.nb M.cap, .int .u64 P.last, .int .i64 P.turn]
structure PC (w : World) (M : PLoc) (P : Pool) (c : Chip) (L : Loc) (G : Nat → Prop) : Prop where
  chip : ChipRep w M.p c L G
  head : w.heap[M.q]? = some (.cells (poolCells P c M) T.pool_Pool (0, 0))
  own : OwnAt w (some ⟨M.pb, 0, none⟩) c.nb M.cap T.pool_block 4 (P.blocks.flatMap Blk.vals)
  turn : P.turn ≤ c.nb
  apart : ∀ x, x = M.q ∨ x = M.pb → x ∉ M.p :: L.bb :: L.locs ∧ ¬ G x
  ne : M.q ≠ M.pb
/-- the blocks that a pool's deeds write -/
def PF (M : PLoc) (L : Loc) : Nat → Prop := fun x => x = M.q ∨ x = M.pb ∨ x ∈ M.p :: L.bb :: L.locs
theorem PF.same {M : PLoc} {L L' : Loc} (h : SameLoc L L') : PF M L' = PF M L := by
  unfold PF
  rw [h.1, h.2.2.2.2]
theorem PC.len {w : World} {M : PLoc} {P : Pool} {c : Chip} {L : Loc} {G : Nat → Prop} (h : PC w M P c L G) : P.blocks.length = c.nb := by
  have := h.own.1
  rw [flat_len Blk.vals_length] at this
  exact Nat.eq_of_mul_eq_mul_right (by omega) this
theorem PC.upd {F : Nat → Prop} {w w' : World} {M : PLoc} {P : Pool} {c : Chip} {L : Loc} {G : Nat → Prop} (h : PC w M P c L G) (k : Upd F w w') (hf : ∀ x, PF M L x → ¬ F x) (hg : ∀ x, G x → ¬ F x) : PC w' M P c L G :=
  ⟨h.chip.upd k (fun x hx => hf x (.inr (.inr hx))) hg, k.get h.head (hf _ (.inl rfl)), OwnAt.upd h.own k (fun b hb => by cases hb; exact hf _ (.inr (.inl rfl))), h.turn, h.apart, h.ne⟩
theorem PC.ext {w w' : World} {M : PLoc} {P : Pool} {c : Chip} {L : Loc} {G : Nat → Prop} (h : PC w M P c L G) (k : Ext w w') : PC w' M P c L G := h.upd k (fun _ _ hf => hf) (fun _ _ hf => hf)
/-- last and turn become others -/
theorem PC.rehead {w w' : World} {M : PLoc} {P : Pool} {c : Chip} {L : Loc} {G : Nat → Prop} (h : PC w M P c L G) (k : Upd (· = M.q) w w') {last turn : Nat} (ht : turn ≤ c.nb)
    (hd : w'.heap[M.q]? = some (.cells (poolCells { P with last := last, turn := turn } c M) T.pool_Pool (0, 0))) : PC w' M { P with last := last, turn := turn } c L G := by
  have ha := h.apart _ (.inl rfl)
  exact ⟨h.chip.upd k (fun x hx e => ha.1 (e ▸ hx)) (fun x hx e => ha.2 (e ▸ hx)), hd, OwnAt.upd h.own k (fun b hb => by cases hb; exact fun e => h.ne e.symm), ht, h.apart, h.ne⟩
/-- a block is known anew -/
theorem PC.reblk {w w' : World} {M : PLoc} {P : Pool} {c : Chip} {L : Loc} {G : Nat → Prop} (h : PC w M P c L G) (k : Upd (· = M.pb) w w') {i : Nat} {b : Blk}
    (ho : OwnAt w' (some ⟨M.pb, 0, none⟩) c.nb M.cap T.pool_block 4 ((P.setBlk i b).blocks.flatMap Blk.vals)) : PC w' M (P.setBlk i b) c L G := by
  have ha := h.apart _ (.inr rfl)
  exact ⟨h.chip.upd k (fun x hx e => ha.1 (e ▸ hx)) (fun x hx e => ha.2 (e ▸ hx)), k.get h.head h.ne, ho, h.turn, h.apart, h.ne⟩
theorem PC.blk {w : World} {M : PLoc} {P : Pool} {c : Chip} {L : Loc} {G : Nat → Prop} (h : PC w M P c L G) {i : Nat} (hi : i < c.nb) : ∃ hl : i < P.blocks.length, P.blk i = P.blocks[i] := by
  have hl : i < P.blocks.length := by rw [h.len]; exact hi
  exact ⟨hl, by simp [Pool.blk, List.getD, hl]⟩
/-- a block's cells are pointed at -/
theorem PC.idx {w : World} {M : PLoc} {P : Pool} {c : Chip} {L : Loc} {G : Nat → Prop} (h : PC w M P c L G) {i : Nat} (hi : i < c.nb) {K : Addr → Prop}
    (hk : RowAt w (some ⟨M.pb, i * 4, none⟩) (P.blk i).vals → K ⟨M.pb, i * 4, none⟩) : idxP (some ⟨M.pb, 0, none⟩) c.nb (i : Int) 4 K := by
  obtain ⟨hl, e⟩ := h.blk hi
  refine idx_flat (f := Blk.vals) Blk.vals_length (by omega) h.own.row h.len.symm hl fun b o ha hr => ?_
  cases ha
  rw [Nat.zero_add] at hr ⊢
  rw [← e] at hr
  exact hk hr
/-- a block is written -/
theorem PC.store {w : World} {M : PLoc} {P : Pool} {c : Chip} {L : Loc} {G : Nat → Prop} (h : PC w M P c L G) {i : Nat} (hi : i < c.nb) (b : Blk) {K : World → Prop}
    (hk : ∀ w', Upd (· = M.pb) w w' → PC w' M (P.setBlk i b) c L G → K w') : storeP w ⟨M.pb, i * 4, none⟩ b.vals K := by
  obtain ⟨hl, _⟩ := h.blk hi
  refine own_store h.own (by rw [flat_len Blk.vals_length, Blk.vals_length]; omega) fun w' hu ho => hk w' hu (h.reblk hu ?_)
  have := flat_set Blk.vals_length P.blocks hl b
  rw [Blk.vals_length] at ho
  rw [this] at ho
  exact ho
end Go.Den
end
section
set_option linter.unusedVariables false
set_option linter.unusedSimpArgs false
set_option maxRecDepth 8000
namespace Go.Den
theorem ask_ok {c : Chip} {i k : Nat} (hd : c.dead = false) (hi : i < c.nb) (hk : k < c.np) : c.ask i k = 0 := by
  unfold Chip.ask
  rw [if_neg (by rw [hd]; simp), if_neg (by omega)]
theorem ask_dead {c : Chip} {i k : Int} (hd : c.dead = true) : c.ask i k = 10 := by unfold Chip.ask; rw [if_pos hd]
theorem ask00 {c : Chip} (h : c.Ok) : c.ask 0 0 = if c.dead then 10 else 0 := by
  cases hd : c.dead with
  | true => rw [ask_dead hd]; rfl
  | false =>
    have := h.nb1
    have := h.np1
    exact ask_ok (i := 0) (k := 0) hd (by omega) (by omega)
theorem pool_off_spec {w : World} {M : PLoc} {P : Pool} {c : Chip} {L : Loc} {G : Nat → Prop} (h : PC w M P c L G) :
    CallsR prog K.pool_Pool_off #[.pointer (some ⟨M.q, 0, none⟩)] w fun v w' => v = .bool false ∧ w' = w := by
  apply pool_Pool_off.sh
  simp only [pool_Pool_off.body, Option.isNone_some, br_false, nilC_some', add_lit]
  exact ⟨_, _, _, cell_of h.head rfl, rfl, by trivial⟩
theorem setBlk_self (P : Pool) (i : Nat) (hi : i < P.blocks.length) : P.setBlk i (P.blk i) = P := by
  have : P.blk i = P.blocks[i] := by simp [Pool.blk, List.getD, hi]
  unfold Pool.setBlk
  rw [this, List.set_getElem_self]
theorem isBlank_append (l m : List UInt8) : isBlank (l ++ m) = (isBlank l && isBlank m) := by simp [isBlank]
theorem page_take (c : Chip) (i k : Nat) : (c.blk i).take ((k + 1) * c.sz) = (c.blk i).take (k * c.sz) ++ c.page i k := by
  rw [Nat.succ_mul, List.take_add]; rfl
theorem page_len {c : Chip} (h : c.Ok) {i k : Nat} (hi : i < c.nb) (hk : k < c.np) : (c.page i k).length = c.sz := by
  have h1 := h.blk_len hi
  have h2 := page_in hk
  simp [Chip.page, h1]
  omega
theorem pool_look_spec {w : World} {M : PLoc} {P : Pool} {c : Chip} {L : Loc} {G : Nat → Prop} (h : PC w M P c L G) {i : Nat} (hi : i < c.nb) :
    CallsR prog K.pool_Pool_look #[.pointer (some ⟨M.q, 0, none⟩), .int .i64 i] w fun v w' => v = .tuple #[] ∧ Upd (· = M.pb) w w' ∧ PC w' M (P.relook c i) c L G := by
  have hok := h.chip.ok
  have hnp1 := hok.np1
  have hnp2 := hok.np2
  have hnb2 := hok.nb2
  have hsz1 := hok.sz1
  have hsz2 := hok.sz2
  have hblen := hok.blk_len hi
  obtain ⟨hil, _⟩ := h.blk hi
  apply pool_Pool_look.sh
  intro B w₁ hn
  have hB : B = w.heap.size := hn.num
  refine store_of hn.get (by simp) fun w₂ hput => ?_
  have e2 : Ext w w₂ := Put.upd hn.upd hput (.inl (by omega))
  have hgB := hput.get
  rw [splice_all _ _ (by simp)] at hgB
  have h2 := h.ext e2
  simp only [nilC_some', add_lit]
  refine ⟨_, cell_of h2.head rfl, ?_⟩
  refine (nand_Geo_spec h2.chip).mono ?_
  rintro _ w₃ ⟨rfl, he3⟩
  have e3 := e2.trans he3
  have hgB3 := Ext.get he3 hgB
  refine ⟨_, _, _, _, rfl, ?_⟩
  refine ⟨fun x u => ∃ k : Nat, x = k ∧ k ≤ c.np ∧ Ext w u ∧ u.heap[B]? = some (.cells #[.int .i64 (if isBlank ((c.blk i).take (k * c.sz)) then 0 else 1), .int .u8 0, .int .u32 0, .int .u64 0] T.pool_block (0, 0)) ∧ (0 < k → c.dead = false ∧ (getHead (c.page i 0)).2 ≠ 0),
    fun x _ => (c.np - x).toNat, ⟨0, rfl, by omega, e3, by simpa [isBlank] using hgB3, fun h => by omega⟩, ?_⟩
  rintro x u ⟨k, rfl, hk, heu, hgu, hpos⟩
  have hu := h.ext heu
  have hsu := heu.size
  refine br_dec (fun hlt => ?_) fun hge => ?_
  · have hk' : k < c.np := by omega
    refine ⟨_, cell_of hu.head rfl, ?_⟩
    refine (nand_Read_spec hu.chip i k).mono ?_
    rintro v w₅ ⟨he5, hv⟩
    have e5 := heu.trans he5
    rcases Bool.eq_false_or_eq_true c.dead with hd | hd
    · rw [if_neg (by rw [ask_dead hd]; omega), ask_dead hd] at hv
      subst hv
      refine ⟨_, _, _, _, rfl, ?_⟩
      refine br_ne (fun _ => ⟨by trivial, Upd.ext e5, ?_⟩) fun h => by omega
      have : P.relook c i = P := by unfold Pool.relook lookAt; rw [if_pos hd]; exact setBlk_self P i hil
      rw [this]
      exact h.ext e5
    rw [if_pos (ask_ok hd hi hk')] at hv
    obtain ⟨a, cp, rfl, hba, hcp, hfa⟩ := hv
    simp only [Int.toNat_natCast] at hba
    have hpl := page_len hok hi hk'
    refine ⟨_, _, _, _, rfl, br_ne (fun h => by omega) fun _ => ?_⟩
    have hgh := pool_GetHead_spec (c := cp) hba (by omega)
    rw [hpl] at hgh
    refine hgh.mono ?_
    rintro _ w₆ ⟨he6, rfl⟩
    have e6 := e5.trans he6
    refine ⟨_, _, _, _, rfl, fun B2 w₇ hn7 => ?_⟩
    have hB2 : B2 = w₆.heap.size := hn7.num
    have hs6 := e6.size
    have hs56 := (he5.trans he6).size
    rw [head_zero] at hn7
    refine head_put (h := (getHead (c.page i k)).1) hn7.get rfl fun w₈ hput8 => ?_
    have e8 : Ext w w₈ := Put.upd (e6.trans hn7.upd) hput8 (.inl (by omega))
    have hBs : B < u.heap.size := (Array.getElem?_eq_some_iff.1 hgu).1
    have hg8 : w₈.heap[B]? = _ := hput8.upd1.get (Ext.get ((he5.trans he6).trans hn7.upd) hgu) (by omega)
    -- the page is no head: the next one
    have hblank : ∀ {X : Prop}, (0 < k ∨ (getHead (c.page i 0)).2 ≠ 0) → (∀ u', Ext w u' → u'.heap[B]? = some (.cells #[.int .i64 (if isBlank ((c.blk i).take ((k + 1) * c.sz)) then 0 else 1), .int .u8 0, .int .u32 0, .int .u64 0] T.pool_block (0, 0)) →
        (∃ k' : Nat, IntKind.i64.wrap ((k : Int) + 1) = k' ∧ k' ≤ c.np ∧ Ext w u' ∧ u'.heap[B]? = some (.cells #[.int .i64 (if isBlank ((c.blk i).take (k' * c.sz)) then 0 else 1), .int .u8 0, .int .u32 0, .int .u64 0] T.pool_block (0, 0)) ∧ (0 < k' → c.dead = false ∧ (getHead (c.page i 0)).2 ≠ 0)) ∧
          ((c.np : Int) - IntKind.i64.wrap ((k : Int) + 1)).toNat < ((c.np : Int) - (k : Int)).toNat) := by
      intro _ hno u' hu' hg'
      have e1 : IntKind.i64.wrap ((k : Int) + 1) = ((k + 1 : Nat) : Int) := w64 (by omega) (by omega)
      rw [e1]
      refine ⟨⟨k + 1, rfl, hk', hu', hg', fun _ => ⟨hd, ?_⟩⟩, by omega⟩
      rcases hno with hno | hno
      · exact (hpos hno).2
      · exact hno
    have hstep : (0 < k ∨ (getHead (c.page i 0)).2 ≠ 0) → CallsR prog K.seal_Blank #[Value.slice a c.sz cp] w₈ fun v4 w11 =>
        ∃ b1 : Bool, v4 = Value.bool b1 ∧
        br (!b1) (
          storeP w11 ⟨B, 0, none⟩ [Value.int .i64 1] fun w12 => (∃ k' : Nat, IntKind.i64.wrap ((k : Int) + 1) = k' ∧ k' ≤ c.np ∧ Ext w w12 ∧ w12.heap[B]? = some (.cells #[.int .i64 (if isBlank ((c.blk i).take (k' * c.sz)) then 0 else 1), .int .u8 0, .int .u32 0, .int .u64 0] T.pool_block (0, 0)) ∧ (0 < k' → c.dead = false ∧ (getHead (c.page i 0)).2 ≠ 0)) ∧
            ((c.np : Int) - IntKind.i64.wrap ((k : Int) + 1)).toNat < ((c.np : Int) - (k : Int)).toNat)
          ((∃ k' : Nat, IntKind.i64.wrap ((k : Int) + 1) = k' ∧ k' ≤ c.np ∧ Ext w w11 ∧ w11.heap[B]? = some (.cells #[.int .i64 (if isBlank ((c.blk i).take (k' * c.sz)) then 0 else 1), .int .u8 0, .int .u32 0, .int .u64 0] T.pool_block (0, 0)) ∧ (0 < k' → c.dead = false ∧ (getHead (c.page i 0)).2 ≠ 0)) ∧
            ((c.np : Int) - IntKind.i64.wrap ((k : Int) + 1)).toNat < ((c.np : Int) - (k : Int)).toNat) := by
      intro hno
      have hba8 : BytesAt w₈ a (c.page i k) := RowAt.upd (RowAt.ext (RowAt.ext hba he6) hn7.upd) hput8.upd1 (fun p hp e => by
        obtain ⟨b', o', hab, hlt⟩ := RowAt.blk hba (List.ne_nil_of_length_pos (by simp [hpl]; omega))
        rw [hp] at hab
        cases hab
        have : b' = B2 := e
        have := he6.size
        omega)
      have hsb := seal_Blank_spec (c := cp) hba8 (by omega)
      rw [hpl] at hsb
      refine hsb.mono ?_
      rintro _ _ ⟨rfl, rfl⟩
      rename_i w₈
      refine ⟨_, rfl, ?_⟩
      have hpt := page_take c i k
      cases hbp : isBlank (c.page i k) with
      | false =>
        simp only [Bool.not_false, br_true]
        refine store_of hg8 (by simp) fun w₁₂ hput12 => ?_
        refine hblank (X := True) hno w₁₂ (Put.upd e8 hput12 (.inl (by omega))) ?_
        have := hput12.get
        rw [this, hpt, isBlank_append, hbp, Bool.and_false]
        rfl
      | true =>
        simp only [Bool.not_true, br_false]
        refine hblank (X := True) hno w₈ e8 ?_
        rw [hg8, hpt, isBlank_append, hbp, Bool.and_true]
    refine br_eq (fun hk0 => ?_) fun hk0 => hstep (.inl (by omega))
    have hk0' : k = 0 := by omega
    subst hk0'
    refine br_eq (fun hz => ?_) fun hz => hstep (.inr (by omega))
    intro w₉ hd9
    have e9 := e8.trans hd9.upd
    have h9 := h.ext e9
    refine ⟨fun u => u = w₉, rfl, _, _, _, fun u hu => hu ▸ cell_of h9.head rfl, _, _, _, fun u hu => hu ▸ head_cells (Ext.get hd9.upd hput8.get), ?_⟩
    refine h9.idx hi fun _ => ?_
    refine h9.store hi ⟨2, (getHead (c.page i 0)).1⟩ fun w' hu' hp' => ⟨by trivial, (Upd.ext e9).trans hu', ?_⟩
    have : P.relook c i = P.setBlk i ⟨2, (getHead (c.page i 0)).1⟩ := by
      unfold Pool.relook lookAt
      rw [if_neg (by rw [hd]; simp), if_pos (by omega)]
    rw [this]
    exact hp'
  · have hk' : k = c.np := by omega
    subst hk'
    obtain ⟨hd, hno⟩ := hpos (by omega)
    rw [List.take_of_length_le (by omega)] at hgu
    intro w₁₅ hd15
    have e15 := heu.trans hd15.upd
    have h15 := h.ext e15
    refine ⟨fun u => u = w₁₅, rfl, _, _, _, fun u hu => hu ▸ cell_of h15.head rfl, (if isBlank (c.blk i) then 0 else 1), 0, 0, 0, fun u hu => hu ▸ cellsAt_of (o := 0) (Ext.get hd15.upd hgu) (fun j v hj => by simpa using hj), ?_⟩
    refine h15.idx hi fun _ => ?_
    have hv : (if isBlank (c.blk i) = true then (0 : Int) else 1) = (((if isBlank (c.blk i) = true then 0 else 1) : Nat) : Int) := by split <;> rfl
    have hval : [Value.int .i64 (if isBlank (c.blk i) = true then (0 : Int) else 1), Value.int .u8 0, Value.int .u32 0, Value.int .u64 0] = Blk.vals ⟨if isBlank (c.blk i) = true then 0 else 1, Head.none⟩ := by rw [hv]; rfl
    rw [hval]
    refine h15.store hi _ fun w' hu' hp' => ⟨by trivial, (Upd.ext e15).trans hu', ?_⟩
    have : P.relook c i = P.setBlk i ⟨if isBlank (c.blk i) = true then 0 else 1, Head.none⟩ := by
      unfold Pool.relook lookAt
      rw [if_neg (by rw [hd]; simp), if_neg hno]
      split <;> rfl
    rw [this]
    exact hp'
end Go.Den
end
section
set_option linter.unusedVariables false
set_option linter.unusedSimpArgs false
set_option maxRecDepth 8000
namespace Go.Den
theorem ChipRep.lt {w : World} {p : Nat} {c : Chip} {L : Loc} {G : Nat → Prop} (h : ChipRep w p c L G) : ∀ x, x ∈ p :: L.bb :: L.locs → x < w.heap.size := by
  intro x hx
  simp only [List.mem_cons] at hx
  rcases hx with rfl | rfl | hx
  · exact (Array.getElem?_eq_some_iff.1 h.head).1
  · exact OwnAt.blk h.bad rfl
  · obtain ⟨j, hj, e⟩ := List.getElem_of_mem hx
    obtain ⟨vs0, _, hv0⟩ := h.rows
    obtain ⟨l, cap, hl, _, hbi⟩ := hv0 j (by rw [← h.len]; exact hj)
    rw [List.getElem?_eq_getElem hj, e] at hl
    cases hl
    exact OwnAt.blk hbi rfl
theorem SameLoc.symm {A B : Loc} (h : SameLoc A B) : SameLoc B A := by
  obtain ⟨a, b, c, d, e⟩ := h
  exact ⟨a.symm, b.symm, c.symm, d.symm, e.symm⟩
end Go.Den
end
section
set_option linter.unusedVariables false
set_option linter.unusedSimpArgs false
set_option maxRecDepth 8000
namespace Go.Den
theorem zerosL_flat {α : Type} (f : α → List Value) (b : α) (n : Nat) : zerosL (f b) n = (List.replicate n b).flatMap f := by
  induction n with
  | zero => rfl
  | succ n ih => simp [zerosL, List.replicate_succ] at ih ⊢; try exact ih
theorem pool_Scan_spec {w : World} {p : Nat} {c : Chip} {L : Loc} {G : Nat → Prop} (h : ChipRep w p c L G) (hG : ∀ x, G x → x < w.heap.size) :
    CallsR prog K.pool_Scan #[.pointer (some ⟨p, 0, none⟩)] w fun v w' => Ext w w' ∧
      if c.dead then v = .tuple #[.pointer none, .int .i64 10]
      else ∃ q pb, v = .tuple #[.pointer (some ⟨q, 0, none⟩), .int .i64 0] ∧ w.heap.size ≤ q ∧ w.heap.size ≤ pb ∧ q < w'.heap.size ∧ pb < w'.heap.size ∧ PC w' ⟨q, pb, c.nb, p⟩ (scanPool c) c L G := by
  have hok := h.ok
  have hnb1 := hok.nb1
  have hnb2 := hok.nb2
  apply pool_Scan.sh
  refine ⟨fun u => Ext w u, ?_, ?_⟩
  · simp only [Option.isNone_some, br_false]
    refine (nand_Geo_spec h).mono ?_
    rintro _ w₁ ⟨rfl, he1⟩
    exact ⟨_, _, _, _, rfl, br_eq (fun h => by omega) fun _ => he1⟩
  intro w₂ he2
  have h2 := h.ext he2
  refine (nand_Read_spec h2 0 0).mono ?_
  rintro v w₃ ⟨he3, hv⟩
  have e3 := he2.trans he3
  rw [ask00 hok] at hv
  rcases Bool.eq_false_or_eq_true c.dead with hd | hd
  · rw [hd] at hv
    simp only [if_true, if_neg (show ¬ (10 = 0) by omega)] at hv
    subst hv
    refine ⟨_, _, _, _, rfl, br_ne (fun _ => ⟨e3, ?_⟩) fun h => by omega⟩
    rw [if_pos hd]
    rfl
  rw [hd] at hv
  simp only [Bool.false_eq_true, if_false, if_true] at hv
  obtain ⟨a, cp, rfl, _⟩ := hv
  refine ⟨_, _, _, _, rfl, br_ne (fun h => by omega) fun _ => ?_⟩
  have h3 := h.ext e3
  refine (nand_Geo_spec h3).mono ?_
  rintro _ w₄ ⟨rfl, he4⟩
  have e4 := e3.trans he4
  refine ⟨_, _, _, _, rfl, ?_⟩
  refine ⟨by omega, by omega, by omega, by omega, rfl, fun pb w₅ hn5 q w₆ hn6 => ?_⟩
  have e6 := (e4.trans hn5.upd).trans hn6.upd
  have h6 := h.ext e6
  have hpb : pb = w₄.heap.size := hn5.num
  have hq : q = w₅.heap.size := hn6.num
  have hs4 := e4.size
  have hs5 := hn5.size
  have hs6 := hn6.size
  simp only [Int.toNat_natCast] at hn5 hn6 ⊢
  have hz : zerosL [Value.int .i64 0, Value.int .u8 0, Value.int .u32 0, Value.int .u64 0] c.nb = (List.replicate c.nb Blk.zero).flatMap Blk.vals := zerosL_flat Blk.vals Blk.zero c.nb
  rw [hz] at hn5
  have hpc6 : PC w₆ ⟨q, pb, c.nb, p⟩ (scanGo c 0) c L G := by
    refine ⟨h6, hn6.get, ?_, Nat.zero_le _, fun x hx => ?_, by show q ≠ pb; omega⟩
    · have := OwnAt.new (n := c.nb) (size := 4) hn5 (by simp [Blk.vals])
      exact OwnAt.ext this hn6.upd
    · have hxw : w.heap.size ≤ x := by
        rcases hx with hx | hx
        · have : x = q := hx
          omega
        · have : x = pb := hx
          omega
      exact ⟨fun hm => by have := h.lt x hm; omega, fun hg => by have := hG x hg; omega⟩
  simp only [add_lit]
  refine ⟨_, _, _, cell_of hn6.get rfl, ?_⟩
  refine ⟨fun x u => ∃ i : Nat, x = i ∧ i ≤ c.nb ∧ Upd (fun x => x = q ∨ x = pb) w₆ u ∧ PC u ⟨q, pb, c.nb, p⟩ (scanGo c i) c L G, fun x _ => (c.nb - x).toNat, ⟨0, rfl, by omega, Upd.refl _ _, hpc6⟩, ?_⟩
  rintro x u ⟨i, rfl, hi, hu, hp⟩
  have hfin : ∀ {u' : World}, Upd (fun x => x = q ∨ x = pb) w₆ u' → Ext w u' := fun hu' => Upd.beyond e6 hu' (fun x hx => by rcases hx with rfl | rfl <;> omega)
  refine br_dec (fun hlt => ?_) fun hge => ?_
  · have hi' : i < c.nb := by omega
    have e1 : IntKind.i64.wrap ((i : Int) + 1) = ((i + 1 : Nat) : Int) := w64 (by omega) (by omega)
    refine (pool_look_spec hp hi').mono ?_
    rintro _ w₈ ⟨rfl, hu8, hp8⟩
    have hu08 : Upd (fun x => x = q ∨ x = pb) w₆ w₈ := hu.trans (hu8.mono fun x _ hx => .inr hx)
    refine ⟨rfl, _, _, _, cell_of hp8.head rfl, hp8.idx hi' fun hr => ?_⟩
    simp only [add_lit]
    generalize hP8 : (scanGo c i).relook c i = P8 at *
    have hc1 := RowAt.cells (RowAt.drop hr 1)
    refine ⟨(P8.blk i).head.kind.toNat, (P8.blk i).head.era, (P8.blk i).head.seq, hc1, fun B w₉ hn9 => ?_⟩
    rw [head_zero] at hn9
    refine head_put (h := (P8.blk i).head) hn9.get rfl fun w₁₀ hput10 => ?_
    have hB : B = w₈.heap.size := hn9.num
    have hs8 := hu08.size
    have hu10 : Upd (fun x => x = q ∨ x = pb) w₆ w₁₀ := Put.upd (hu08.then hn9.upd) hput10 (.inl (by omega))
    intro w₁₁ hd11
    have hu11 := hu10.then hd11.upd
    have e811 : Ext w₈ w₁₁ := (Put.upd hn9.upd hput10 (.inl (by omega))).trans hd11.upd
    have hp11 := hp8.ext e811
    have hg11 := Ext.get hd11.upd hput10.get
    have hgo : scanGo c (i + 1) = if (P8.blk i).head.seq > (scanGo c i).last ∨ ((P8.blk i).head.seq = (scanGo c i).last ∧ (P8.blk i).head.seq > 0) then { P8 with last := (P8.blk i).head.seq, turn := i + 1 } else P8 := by
      rw [scanGo, hP8]
    have hl8 : P8.last = (scanGo c i).last := by rw [← hP8]; rfl
    have hset : ((P8.blk i).head.seq > (scanGo c i).last ∨ ((P8.blk i).head.seq = (scanGo c i).last ∧ (P8.blk i).head.seq > 0)) →
        storeP w₁₁ ⟨q, 0 + 2, none⟩ [Value.int .u64 ((P8.blk i).head.seq : Nat)] fun w12 =>
        storeP w12 ⟨q, 0 + 3, none⟩ [Value.int .i64 (IntKind.i64.wrap ((i : Int) + 1))] fun w13 =>
          (∃ i' : Nat, IntKind.i64.wrap ((i : Int) + 1) = i' ∧ i' ≤ c.nb ∧ Upd (fun x => x = q ∨ x = pb) w₆ w13 ∧ PC w13 ⟨q, pb, c.nb, p⟩ (scanGo c i') c L G) ∧ ((c.nb : Int) - IntKind.i64.wrap ((i : Int) + 1)).toNat < ((c.nb : Int) - (i : Int)).toNat := by
      intro hcnd
      refine store_of hp11.head (by simp) fun w₁₂ hput12 => ?_
      refine store_of hput12.get (by simp [splice]) fun w₁₃ hput13 => ?_
      rw [e1]
      have hq2 := (Put.upd1 hput12).trans (Put.upd1 hput13)
      refine ⟨⟨i + 1, rfl, hi', hu11.trans (hq2.mono fun x _ hx => .inl hx), ?_⟩, meas hi'⟩
      rw [hgo, if_pos hcnd]
      refine hp11.rehead hq2 (last := (P8.blk i).head.seq) (turn := i + 1) hi' ?_
      have := hput13.get
      rw [this, e1]; rfl
    have hkeep : ¬ ((P8.blk i).head.seq > (scanGo c i).last ∨ ((P8.blk i).head.seq = (scanGo c i).last ∧ (P8.blk i).head.seq > 0)) →
        (∃ i' : Nat, IntKind.i64.wrap ((i : Int) + 1) = i' ∧ i' ≤ c.nb ∧ Upd (fun x => x = q ∨ x = pb) w₆ w₁₁ ∧ PC w₁₁ ⟨q, pb, c.nb, p⟩ (scanGo c i') c L G) ∧ ((c.nb : Int) - IntKind.i64.wrap ((i : Int) + 1)).toNat < ((c.nb : Int) - (i : Int)).toNat := by
      intro hcnd
      rw [e1]
      refine ⟨⟨i + 1, rfl, hi', hu11, ?_⟩, meas hi'⟩
      rw [hgo, if_neg hcnd]
      exact hp11
    have hcq : World.cell? w₁₁ ⟨q, 0 + 2, none⟩ = some (.int .u64 ((scanGo c i).last : Nat)) := by rw [← hl8]; exact cell_of hp11.head rfl
    refine ⟨fun v => v = w₁₁, rfl, _, fun v hv => hv ▸ cell_of hg11 rfl, _, fun v hv => hv ▸ hcq, br_dec (fun h1 => ?_) fun h1 => ?_⟩
    · exact ⟨_, cell_of hg11 rfl, hset (.inl (by omega))⟩
    refine ⟨_, fun v hv => hv ▸ cell_of hg11 rfl, _, fun v hv => hv ▸ hcq, br_eq (fun h2 => ?_) fun h2 => hkeep (by omega)⟩
    refine ⟨_, fun v hv => hv ▸ cell_of hg11 rfl, br_dec (fun h3 => ?_) fun h3 => hkeep (by omega)⟩
    exact ⟨_, cell_of hg11 rfl, hset (.inr (by omega))⟩
  · have : i = c.nb := by omega
    subst this
    have hsu := hu.size
    refine ⟨hfin hu, ?_⟩
    rw [if_neg (by rw [hd]; simp)]
    exact ⟨q, pb, rfl, by omega, by omega, by omega, by omega, hp⟩
end Go.Den
end
section
set_option linter.unusedVariables false
set_option linter.unusedSimpArgs false
set_option maxRecDepth 8000
namespace Go.Den
/-! ### Sorting -/
def pref {α : Type} (lt : α → α → Bool) (l : List α) (i : Nat) : List α := (l.take i).foldl (fun acc x => sink lt x acc) []
theorem sink_length {α : Type} (lt : α → α → Bool) (x : α) (l : List α) : (sink lt x l).length = l.length + 1 := by
  induction l with
  | nil => rfl
  | cons y l ih => unfold sink; split <;> simp [ih]
theorem pref_succ {α : Type} (lt : α → α → Bool) (l : List α) (i : Nat) (hi : i < l.length) : pref lt l (i + 1) = sink lt l[i] (pref lt l i) := by
  unfold pref
  rw [List.take_succ_eq_append_getElem hi, List.foldl_append]
  rfl
theorem pref_length {α : Type} (lt : α → α → Bool) (l : List α) (i : Nat) (hi : i ≤ l.length) : (pref lt l i).length = i := by
  induction i with
  | zero => simp [pref]
  | succ i ih => rw [pref_succ lt l i hi, sink_length, ih (by omega)]
theorem pref_all {α : Type} (lt : α → α → Bool) (l : List α) : (pref lt l l.length).reverse = isort lt l := by simp [pref, isort]
theorem sink_mem {α : Type} (lt : α → α → Bool) (x y : α) (l : List α) : y ∈ sink lt x l ↔ y = x ∨ y ∈ l := by
  induction l with
  | nil => simp [sink]
  | cons z l ih =>
    unfold sink
    split
    · simp [ih]; constructor
      · rintro (h | h | h)
        · exact .inr (.inl h)
        · exact .inl h
        · exact .inr (.inr h)
      · rintro (h | h | h)
        · exact .inr (.inl h)
        · exact .inl h
        · exact .inr (.inr h)
    · simp
theorem isort_mem {α : Type} (lt : α → α → Bool) (y : α) (l : List α) : y ∈ isort lt l ↔ y ∈ l := by
  unfold isort
  rw [List.mem_reverse]
  have : ∀ (acc : List α), y ∈ l.foldl (fun acc x => sink lt x acc) acc ↔ y ∈ acc ∨ y ∈ l := by
    induction l with
    | nil => intro acc; simp
    | cons x l ih =>
      intro acc
      rw [List.foldl_cons, ih, sink_mem]
      simp only [List.mem_cons]
      constructor
      · rintro ((h | h) | h)
        · exact .inr (.inl h)
        · exact .inl h
        · exact .inr (.inr h)
      · rintro (h | h | h)
        · exact .inl (.inr h)
        · exact .inl (.inl h)
        · exact .inr h
  rw [this]; simp
theorem isort_length {α : Type} (lt : α → α → Bool) (l : List α) : (isort lt l).length = l.length := by
  rw [← pref_all, List.length_reverse, pref_length lt l _ (Nat.le_refl _)]
abbrev takenV (t : Taken) : Value := .agg #[.int .i64 t.block, bv t.head.kind, .int .u32 t.head.era, .int .u64 t.head.seq, .bool t.bad]
theorem pool_Taken_1_spec (a b : Taken) (ha : a.block < 1000000) (hb : b.block < 1000000) (w : World) :
    CallsR prog K.pool_Pool_Taken_1 #[takenV a, takenV b] w fun v w' => ∃ x : Int, v = .int .i64 x ∧ decide (x < 0) = takenLt a b ∧ Ext w w' := by
  apply pool_Pool_Taken_1.sh
  intro B₁ w₁ hn1 B₂ w₂ hn2
  have e2 := hn1.upd.trans hn2.upd
  have h1 := Ext.get hn2.upd hn1.get
  have h2 := hn2.get
  simp only [add_lit]
  refine ⟨_, cell_of h1 rfl, _, cell_of h2 rfl, br_dec (fun hlt => ⟨_, rfl, ?_, e2⟩) fun hge => ⟨_, cell_of h1 rfl, _, cell_of h2 rfl, br_dec (fun hgt => ⟨_, rfl, ?_, e2⟩) fun hle => ⟨_, cell_of h1 rfl, _, cell_of h2 rfl, _, rfl, ?_, e2⟩⟩⟩
  · have q : decide (a.head.seq < b.head.seq) = true := decide_eq_true (by omega)
    simp [takenLt, q]
  · have q : decide (a.head.seq < b.head.seq) = false := decide_eq_false (by omega)
    have q2 : decide (a.head.seq = b.head.seq) = false := decide_eq_false (by omega)
    simp [takenLt, q, q2]
  · have q : decide (a.head.seq < b.head.seq) = false := decide_eq_false (by omega)
    have q2 : decide (a.head.seq = b.head.seq) = true := decide_eq_true (by omega)
    rw [w64 (by omega) (by omega)]
    simp only [takenLt, q, q2, Bool.false_or, Bool.true_and]
    exact decide_eq_decide.2 (by omega)
theorem swap_list {α : Type} (A R : List α) (x y : α) : ((A ++ y :: x :: R).set (A.length + 1) y).set A.length x = A ++ x :: y :: R := by
  rw [List.set_append_right _ _ (by omega), List.set_append_right _ _ (by omega)]
  simp
/-- an element of a row of the call's own is written -/
theorem own_set {α : Type} {f : α → List Value} {k : Nat} (hf : ∀ x, (f x).length = k) {w : World} {b cap : Nat} {e : TypeId} {l : List α} (h : OwnAt w (some ⟨b, 0, none⟩) l.length cap e k (l.flatMap f)) {i : Nat} (hi : i < l.length) (x : α) {K : World → Prop}
    (hk : ∀ w', Upd (· = b) w w' → OwnAt w' (some ⟨b, 0, none⟩) (l.set i x).length cap e k ((l.set i x).flatMap f) → K w') : storeP w ⟨b, i * k, none⟩ (f x) K := by
  refine own_store h (by rw [flat_len hf, hf, ← Nat.succ_mul]; exact Nat.mul_le_mul_right _ hi) fun w' hu ho => hk w' hu ?_
  rw [hf, flat_set hf l hi x] at ho
  rw [List.length_set]
  exact ho
theorem insertionSort_spec {w : World} {a : Option Addr} {l : List Taken} {cap cp : Nat} (h : OwnAt w a l.length cap T.api_Taken 5 (l.flatMap Taken.vals)) (hb : ∀ t ∈ l, t.block < 1000000) (hl : l.length < 1000) :
    CallsR prog K.slices_insertionSortCmpFunc_api_Taken #[.slice a l.length cp, .int .i64 0, .int .i64 l.length, .func (.func K.pool_Pool_Taken_1) #[] #[]] w fun v w' => v = .tuple #[] ∧ Upd (fun b => a = some ⟨b, 0, none⟩) w w' ∧ OwnAt w' a (isort takenLt l).length cap T.api_Taken 5 ((isort takenLt l).flatMap Taken.vals) := by
  apply slices_insertionSortCmpFunc_api_Taken.sh
  have e01 : IntKind.i64.wrap ((0 : Int) + 1) = ((1 : Nat) : Int) := by decide
  unfold slices_insertionSortCmpFunc_api_Taken.body
  rw [e01]
  refine ⟨fun x u => ∃ i : Nat, x = i ∧ 1 ≤ i ∧ (i ≤ l.length ∨ i = 1) ∧ Upd (fun b => a = some ⟨b, 0, none⟩) w u ∧ OwnAt u a ((pref takenLt l i).reverse ++ l.drop i).length cap T.api_Taken 5 (((pref takenLt l i).reverse ++ l.drop i).flatMap Taken.vals),
    fun x _ => (l.length - x).toNat, ⟨1, rfl, by omega, .inr rfl, Upd.refl _ _, ?_⟩, ?_⟩
  · have : (pref takenLt l 1).reverse ++ l.drop 1 = l := by
      cases l with
      | nil => rfl
      | cons x l => rfl
    rw [this]; exact h
  rintro x u ⟨i, rfl, hi1, hi, hu, ho⟩
  refine br_dec (fun hlt => ?_) fun hge => ?_
  · have hil : i < l.length := by omega
    have hpl := pref_length takenLt l i (by omega)
    have hdrop : l.drop i = l[i] :: l.drop (i + 1) := List.drop_eq_getElem_cons hil
    have hblk : ∀ t, t ∈ pref takenLt l i → t.block < 1000000 := by
      intro t ht
      have : t ∈ isort takenLt (l.take i) := by unfold isort; exact List.mem_reverse.2 ht
      rw [isort_mem] at this
      exact hb t (List.mem_of_mem_take this)
    have hbi : l[i].block < 1000000 := hb _ (List.getElem_mem hil)
    rw [hdrop] at ho
    obtain ⟨B, rfl⟩ : ∃ B, a = some ⟨B, 0, none⟩ := by
      obtain ⟨_, _, hx⟩ := h
      rcases hx with ⟨_, hx, _⟩ | ⟨b, cur, hx, _⟩
      · omega
      · exact ⟨b, hx⟩
    have hF : ∀ {u u' : World}, Upd (· = B) u u' → Upd (fun b => (some ⟨B, 0, none⟩ : Option Addr) = some ⟨b, 0, none⟩) u u' := fun k => k.mono fun x _ hx => by rw [hx]
    have e1 : IntKind.i64.wrap ((i : Int) + 1) = ((i + 1 : Nat) : Int) := w64 (by omega) (by omega)
    -- the element's way
    refine ⟨fun x v => ∃ A D : List Taken, x = (A.length : Int) ∧ pref takenLt l i = D ++ A ∧ sink takenLt l[i] (pref takenLt l i) = D ++ sink takenLt l[i] A ∧ Upd (fun b => (some ⟨B, 0, none⟩ : Option Addr) = some ⟨b, 0, none⟩) w v ∧
        OwnAt v (some ⟨B, 0, none⟩) (A.reverse ++ l[i] :: (D.reverse ++ l.drop (i + 1))).length cap T.api_Taken 5 ((A.reverse ++ l[i] :: (D.reverse ++ l.drop (i + 1))).flatMap Taken.vals), fun x _ => x.toNat, ⟨pref takenLt l i, [], by rw [hpl], rfl, rfl, hu, ho⟩, ?_⟩
    rintro y v ⟨A, D, rfl, hAD, hsk, huv, hov⟩ w₃ hd3
    have hlen : ∀ X : Taken, (A.reverse ++ X :: (D.reverse ++ l.drop (i + 1))).length = l.length := by
      intro X
      have : D.length + A.length = i := by rw [← hpl, hAD, List.length_append]
      simp; omega
    -- the end of the way
    have hend : ∀ {v' : World}, sink takenLt l[i] A = l[i] :: A → Upd (fun b => (some ⟨B, 0, none⟩ : Option Addr) = some ⟨b, 0, none⟩) w v' →
        OwnAt v' (some ⟨B, 0, none⟩) (A.reverse ++ l[i] :: (D.reverse ++ l.drop (i + 1))).length cap T.api_Taken 5 ((A.reverse ++ l[i] :: (D.reverse ++ l.drop (i + 1))).flatMap Taken.vals) →
        (∃ i' : Nat, IntKind.i64.wrap ((i : Int) + 1) = i' ∧ 1 ≤ i' ∧ (i' ≤ l.length ∨ i' = 1) ∧ Upd (fun b => (some ⟨B, 0, none⟩ : Option Addr) = some ⟨b, 0, none⟩) w v' ∧ OwnAt v' (some ⟨B, 0, none⟩) ((pref takenLt l i').reverse ++ l.drop i').length cap T.api_Taken 5 (((pref takenLt l i').reverse ++ l.drop i').flatMap Taken.vals)) ∧
          ((l.length : Int) - IntKind.i64.wrap ((i : Int) + 1)).toNat < ((l.length : Int) - (i : Int)).toNat := by
      intro v' hs hu' ho'
      rw [e1]
      refine ⟨⟨i + 1, rfl, by omega, .inl hil, hu', ?_⟩, meas hil⟩
      have : (pref takenLt l (i + 1)).reverse ++ l.drop (i + 1) = A.reverse ++ l[i] :: (D.reverse ++ l.drop (i + 1)) := by
        rw [pref_succ takenLt l i hil, hsk, hs]
        simp
      rw [this]; exact ho'
    have hov3 := OwnAt.ext hov hd3.upd
    have huv3 := huv.then hd3.upd
    refine ⟨fun z => z = w₃, rfl, br_dec (fun hpos => ?_) fun hzero => ?_⟩
    · obtain ⟨y, A', rfl⟩ : ∃ y A', A = y :: A' := by
        cases A with
        | nil => simp at hpos
        | cons y A' => exact ⟨y, A', rfl⟩
      have hly := hlen l[i]
      simp only [List.reverse_cons, List.append_assoc, List.singleton_append, List.length_cons] at hov3 hpos hly ⊢
      generalize hR : D.reverse ++ l.drop (i + 1) = R at *
      have hA : A'.reverse.length = A'.length := List.length_reverse
      have hlx : A'.length + 1 < (A'.reverse ++ y :: l[i] :: R).length := by simp
      have hgx : (A'.reverse ++ y :: l[i] :: R)[A'.length + 1] = l[i] := by rw [List.getElem_append_right (by omega)]; simp
      have hgy : (A'.reverse ++ y :: l[i] :: R)[A'.length] = y := by rw [List.getElem_append_right (by omega)]; simp
      have em : IntKind.i64.wrap (((A'.length + 1 : Nat) : Int) - 1) = ((A'.length : Nat) : Int) := by rw [w64 (by omega) (by omega)]; omega
      rw [em]
      refine idx_flat (f := Taken.vals) (l := A'.reverse ++ y :: l[i] :: R) Taken.vals_length (by omega) hov3.row (by omega) hlx fun b o hab hr => ?_
      cases hab
      rw [hgx] at hr
      refine ⟨l[i].block, l[i].head.kind.toNat, l[i].head.era, l[i].head.seq, l[i].bad, fun z hz => hz ▸ RowAt.cells hr, ?_⟩
      refine idx_flat (f := Taken.vals) (l := A'.reverse ++ y :: l[i] :: R) Taken.vals_length (by omega) hov3.row (by omega) (by omega) fun b o hab hr => ?_
      cases hab
      rw [hgy] at hr
      refine ⟨y.block, y.head.kind.toNat, y.head.era, y.head.seq, y.bad, fun z hz => hz ▸ RowAt.cells hr, ?_⟩
      have hby : y.block < 1000000 := hblk y (by rw [hAD]; simp)
      refine ⟨rfl, ?_⟩
      refine (pool_Taken_1_spec l[i] y hbi hby w₃).mono ?_
      rintro _ w₄ ⟨x11, rfl, hx11, he4⟩
      have hov4 := OwnAt.ext hov3 he4
      have huv4 := huv3.then he4
      refine ⟨_, rfl, ?_⟩
      rw [hx11]
      refine br_intro (fun ht => ?_) fun hf => ?_
      · intro w₅ hd5
        have hov5 := OwnAt.ext hov4 hd5.upd
        have huv5 := huv4.then hd5.upd
        refine ⟨fun z => z = w₅, rfl, ?_⟩
        refine idx_flat (f := Taken.vals) (l := A'.reverse ++ y :: l[i] :: R) Taken.vals_length (by omega) hov5.row (by omega) (by omega) fun b o hab hr => ?_
        cases hab
        rw [hgy] at hr
        refine ⟨y.block, y.head.kind.toNat, y.head.era, y.head.seq, y.bad, fun z hz => hz ▸ RowAt.cells hr, ?_⟩
        refine idx_flat (f := Taken.vals) (l := A'.reverse ++ y :: l[i] :: R) Taken.vals_length (by omega) hov5.row (by omega) hlx fun b o hab hr => ?_
        cases hab
        rw [hgx] at hr
        refine ⟨l[i].block, l[i].head.kind.toNat, l[i].head.era, l[i].head.seq, l[i].bad, fun z hz => hz ▸ RowAt.cells hr, ?_⟩
        refine idx_flat (f := Taken.vals) (l := A'.reverse ++ y :: l[i] :: R) Taken.vals_length (by omega) hov5.row (by omega) hlx fun b o hab _ => ?_
        cases hab
        rw [Nat.zero_add]
        refine own_set Taken.vals_length hov5 hlx y fun w₆ hu6 ho6 => ?_
        refine idx_flat (f := Taken.vals) Taken.vals_length (by omega) ho6.row (by rw [List.length_set]; omega) (by rw [List.length_set]; omega) fun b o hab _ => ?_
        cases hab
        rw [Nat.zero_add]
        refine own_set Taken.vals_length ho6 (by rw [List.length_set]; omega) l[i] fun w₇ hu7 ho7 => ?_
        have hsw : ((A'.reverse ++ y :: l[i] :: R).set (A'.length + 1) y).set A'.length l[i] = A'.reverse ++ l[i] :: y :: R := by
          have := swap_list A'.reverse R l[i] y
          rw [hA] at this
          exact this
        rw [hsw] at ho7
        refine ⟨⟨A', D ++ [y], rfl, by rw [hAD]; simp, ?_, (huv5.trans (hF hu6)).trans (hF hu7), ?_⟩, by omega⟩
        · rw [hsk]
          have : sink takenLt l[i] (y :: A') = y :: sink takenLt l[i] A' := by rw [sink, if_pos ht]
          rw [this]; simp
        · have : A'.reverse ++ l[i] :: ((D ++ [y]).reverse ++ l.drop (i + 1)) = A'.reverse ++ l[i] :: y :: R := by rw [← hR]; simp
          rw [this]; exact ho7
      · refine hend ?_ huv4 ?_
        · rw [sink, if_neg (by rw [hf]; simp)]
        · simp only [List.reverse_cons, List.append_assoc, List.singleton_append]
          exact hov4
    · have : A = [] := List.eq_nil_of_length_eq_zero (by omega)
      subst this
      exact hend rfl huv3 hov3
  · refine ⟨by trivial, hu, ?_⟩
    rcases hi with hi | hi
    · have : i = l.length := by omega
      subst this
      rw [pref_all, List.drop_length, List.append_nil] at ho
      exact ho
    · subst hi
      have : (pref takenLt l 1).reverse ++ l.drop 1 = isort takenLt l := by
        match l, hge with
        | [], _ => rfl
        | [x], _ => rfl
        | x :: y :: l, hge => simp at hge; omega
      rw [this] at ho
      exact ho
theorem sortStable_spec {w : World} {a : Option Addr} {l : List Taken} {cap cp : Nat} (h : OwnAt w a l.length cap T.api_Taken 5 (l.flatMap Taken.vals)) (hb : ∀ t ∈ l, t.block < 1000000) (hl : l.length < 20) :
    CallsR prog K.slices_SortStableFunc_api_Taken #[.slice a l.length cp, .func (.func K.pool_Pool_Taken_1) #[] #[]] w fun v w' => v = .tuple #[] ∧ Upd (fun b => a = some ⟨b, 0, none⟩) w w' ∧ OwnAt w' a (isort takenLt l).length cap T.api_Taken 5 ((isort takenLt l).flatMap Taken.vals) := by
  apply slices_SortStableFunc_api_Taken.sh
  have key : CallsR prog K.slices_stableCmpFunc_api_Taken #[.slice a l.length cp, .int .i64 l.length, .func (.func K.pool_Pool_Taken_1) #[] #[]] w fun v w' => v = .tuple #[] ∧ Upd (fun b => a = some ⟨b, 0, none⟩) w w' ∧ OwnAt w' a (isort takenLt l).length cap T.api_Taken 5 ((isort takenLt l).flatMap Taken.vals) := by
    apply slices_stableCmpFunc_api_Taken.sh
    refine ⟨fun x y u => x = 0 ∧ y = 20 ∧ u = w, fun _ _ _ => 0, ⟨rfl, rfl, rfl⟩, ?_⟩
    rintro x y u ⟨rfl, rfl, rfl⟩
    refine br_dec (fun h => by omega) fun _ => ?_
    refine (insertionSort_spec (cp := cp) h hb (by omega)).mono ?_
    rintro _ w₃ ⟨rfl, hu, ho⟩
    refine ⟨rfl, fun x u => x = 20 ∧ u = w₃, fun _ _ => 0, ⟨rfl, rfl⟩, ?_⟩
    rintro x v ⟨rfl, rfl⟩
    exact br_dec (fun h => by omega) fun _ => ⟨by trivial, hu, ho⟩
  refine key.mono ?_
  rintro _ w' ⟨rfl, hr⟩
  exact ⟨rfl, by trivial, hr⟩
theorem takenRaw_length (P : Pool) (c : Chip) (n : Nat) : (takenRaw P c n).length ≤ n := by
  unfold takenRaw
  exact Nat.le_trans (List.length_filterMap_le _ _) (by simp)
theorem takenRaw_succ (P : Pool) (c : Chip) (n : Nat) : takenRaw P c (n + 1) = takenRaw P c n ++ if (P.blk n).what = 2 then [⟨n, (P.blk n).head, c.isBad n⟩] else [] := by
  unfold takenRaw
  rw [List.range_succ, List.filterMap_append]
  congr 1
  simp only [List.filterMap_cons, List.filterMap_nil]
  split <;> simp_all
theorem takenRaw_block {P : Pool} {c : Chip} {n : Nat} {t : Taken} (h : t ∈ takenRaw P c n) : t.block < n := by
  unfold takenRaw at h
  rw [List.mem_filterMap] at h
  obtain ⟨i, hi, h⟩ := h
  split at h
  · simp at h hi
    rw [← h]; exact hi
  · cases h
theorem pool_Taken_spec {w : World} {M : PLoc} {P : Pool} {c : Chip} {L : Loc} {G : Nat → Prop} (h : PC w M P c L G) (hnb : c.nb < 20) :
    CallsR prog K.pool_Pool_Taken #[.pointer (some ⟨M.q, 0, none⟩)] w fun v w' => Ext w w' ∧ ∃ a cap, v = .slice a (takenPool P c).length cap ∧ OwnAt w' a (takenPool P c).length cap T.api_Taken 5 ((takenPool P c).flatMap Taken.vals) ∧ Fresh w a := by
  apply pool_Pool_Taken.sh
  unfold pool_Pool_Taken.body
  refine (pool_off_spec h).mono ?_
  rintro _ _ ⟨rfl, rfl⟩
  rename_i w
  refine ⟨_, rfl, ?_⟩
  simp only [br_false, nilC_some', add_lit]
  refine ⟨_, _, _, cell_of h.head rfl, ?_⟩
  refine ⟨fun a l cap x u => ∃ i : Nat, x = i ∧ i ≤ c.nb ∧ l = (takenRaw P c i).length ∧ Ext w u ∧ OwnAt u a (takenRaw P c i).length cap T.api_Taken 5 ((takenRaw P c i).flatMap Taken.vals) ∧ Fresh w a, fun _ _ _ x _ => (c.nb - x).toNat,
    ⟨0, rfl, by omega, rfl, Upd.refl _ _, OwnAt.nil _ _ _, Fresh.none _⟩, ?_⟩
  rintro a l cap x u ⟨i, rfl, hi, rfl, hu, ho, hf⟩
  have hpu := h.ext hu
  refine br_dec (fun hlt => ?_) fun hge => ?_
  · have hi' : i < c.nb := by omega
    have e1 : IntKind.i64.wrap ((i : Int) + 1) = ((i + 1 : Nat) : Int) := w64 (by omega) (by omega)
    have hlen := takenRaw_length P c i
    have hsucc := takenRaw_succ P c i
    refine hpu.idx hi' fun hr => ?_
    refine ⟨(P.blk i).what, (P.blk i).head.kind.toNat, (P.blk i).head.era, (P.blk i).head.seq, RowAt.cells hr, fun B w₃ hn3 => ?_⟩
    refine store_of hn3.get (by simp) fun w₄ hput4 => ?_
    have hB : B = u.heap.size := hn3.num
    have hsu := hu.size
    have e34 : Ext u w₄ := Put.upd hn3.upd hput4 (.inl (by omega))
    have e4 := hu.trans e34
    have hg4 := hput4.get
    rw [splice_all _ _ (by simp)] at hg4
    have hp4 := h.ext e4
    refine ⟨(P.blk i).what, cell_of hg4 rfl, br_eq (fun h2 => ?_) fun h2 => ?_⟩
    · rw [if_pos (by omega)] at hsucc
      intro w₅ hd5
      have e5 := e4.trans hd5.upd
      have hp5 := h.ext e5
      have hg5 := Ext.get hd5.upd hg4
      have hs3 := hn3.size
      have hs4 := hput4.size
      have hown : ∀ b, a = some ⟨b, 0, none⟩ → w.heap.size ≤ b ∧ b < u.heap.size := fun b hb => ⟨hf _ hb, OwnAt.blk ho hb⟩
      have hqw : M.q < w.heap.size := (Array.getElem?_eq_some_iff.1 h.head).1
      refine ⟨fun v => Upd (fun b => a = some ⟨b, 0, none⟩) w₅ v, Upd.refl _ _, (P.blk i).head.kind.toNat, (P.blk i).head.era, (P.blk i).head.seq, fun v hv => ?_, _, fun v hv => cell_of (hv.get hp5.head (fun e => by have := hown _ e; omega)) rfl, ?_⟩
      · have := hv.get hg5 (fun e => by have := hown _ e; omega)
        exact cellsAt_of (o := 1) this (fun j v hj => by
          match j, hj with
          | 0, hj => simpa using hj
          | 1, hj => simpa using hj
          | 2, hj => simpa using hj
          | j + 3, hj => simp at hj)
      refine (nand_Bad_spec hp5.chip _).mono ?_
      rintro _ _ ⟨rfl, rfl⟩
      rename_i w₅
      have hd0 : decide ((0 : Int) ≤ ((i : Nat) : Int)) = true := decide_eq_true (by omega)
      refine ⟨_, rfl, Upd.refl _ _, ?_⟩
      rw [hd0, Bool.true_and, Int.toNat_natCast]
      intro B2 w₇ hn7
      refine ⟨Upd.ext hn7.upd, ?_⟩
      have ho7 : OwnAt w₇ a (takenRaw P c i).length cap T.api_Taken 5 ((takenRaw P c i).flatMap Taken.vals) := OwnAt.ext ho ((e34.trans hd5.upd).trans hn7.upd)
      refine append_flat (f := Taken.vals) Taken.vals_length (x := ⟨i, (P.blk i).head, c.isBad i⟩) ho7 (by simp [Taken.vals]) hn7 rfl (by intro v hv; simp [Taken.vals] at hv; rcases hv with rfl | rfl | rfl | rfl | rfl <;> rfl) rfl (by omega) (by omega) fun a' c' w₈ hu8 ho8 hf8 => ?_
      rw [← hsucc] at ho8 ⊢
      have e7 := e5.trans hn7.upd
      refine ⟨(Upd.ext hn7.upd).trans hu8, ⟨i + 1, e1, hi', rfl, Upd.beyond e7 hu8 (fun x hx => (hown x hx).1), ho8, ?_⟩, by rw [e1]; exact meas hi'⟩
      rcases hf8 with rfl | ⟨b, rfl, hb⟩
      · exact hf
      · exact Fresh.some (by have := e7.size; omega)
    · rw [if_neg (by omega), List.append_nil] at hsucc
      refine ⟨⟨i + 1, e1, hi', by rw [hsucc], e4, by rw [hsucc]; exact OwnAt.ext ho e34, hf⟩, by rw [e1]; exact meas hi'⟩
  · have : i = c.nb := by omega
    subst this
    have hlen := takenRaw_length P c c.nb
    refine (sortStable_spec (cp := cap) ho (fun t ht => by have := takenRaw_block ht; omega) (by omega)).mono ?_
    rintro _ w₉ ⟨rfl, hu9, ho9⟩
    have e9 : Ext w w₉ := Upd.beyond hu hu9 (fun x hx => hf _ hx)
    refine ⟨rfl, e9, a, cap, ?_, ho9, hf⟩
    unfold takenPool
    rw [isort_length]
end Go.Den
end
section
set_option linter.unusedVariables false
set_option linter.unusedSimpArgs false
set_option maxRecDepth 8000
namespace Go.Den
/-! ### The plain reference -/
def refHead (c : Chip) (i : Int) : Head × Bool := if c.ask i 0 ≠ 0 then (Head.none, false) else ((getHead (c.page i.toNat 0)).1, decide ((getHead (c.page i.toNat 0)).2 = 0))
/-- behind all of its Seq -/
def posOf (t : Taken) (l : List Taken) : Nat := (l.takeWhile fun x => decide (x.head.seq ≤ t.head.seq)).length
def insAt (t : Taken) (l : List Taken) : List Taken := l.take (posOf t l) ++ [t] ++ l.drop (posOf t l)
def refGo (c : Chip) : Nat → List Taken
  | 0 => []
  | i + 1 => if (refHead c i).2 then insAt ⟨i, (refHead c i).1, c.isBad i⟩ (refGo c i) else refGo c i
def refTaken (c : Chip) : List Taken := refGo c c.nb
theorem insAt_length (t : Taken) (l : List Taken) : (insAt t l).length = l.length + 1 := by
  unfold insAt
  simp
  omega
theorem refGo_length (c : Chip) (i : Nat) : (refGo c i).length ≤ i := by
  induction i with
  | zero => simp [refGo]
  | succ i ih => 
    unfold refGo
    split
    · rw [insAt_length]; omega
    · omega
theorem takeWhile_at {α : Type} (p : α → Bool) : ∀ (l : List α) (k : Nat) (hk : k ≤ l.length), (∀ x ∈ l.take k, p x = true) → (∀ (h : k < l.length), p l[k] = false) → (l.takeWhile p).length = k
  | [], k, hk, _, _ => by simp at hk; simp [hk]
  | x :: l, 0, _, _, h => by
    have := h (by simp)
    have : p x = false := this
    simp [List.takeWhile_cons, this]
  | x :: l, k + 1, hk, ha, h => by
    have hx : p x = true := ha x (by simp)
    rw [List.takeWhile_cons, if_pos hx, List.length_cons]
    congr 1
    refine takeWhile_at p l k (by simpa using hk) (fun y hy => ha y (by simp [hy])) (fun hlt => ?_)
    have := h (by simpa using hlt)
    simpa using this
theorem carrackref04_Head_spec {w : World} {p : Nat} {c : Chip} {L : Loc} {G : Nat → Prop} (h : ChipRep w p c L G) (i : Int) :
    CallsR prog K.carrackref04_Head #[.pointer (some ⟨p, 0, none⟩), .int .i64 i] w fun v w' => Ext w w' ∧ v = .tuple #[headV (refHead c i).1, .bool (refHead c i).2] := by
  apply carrackref04_Head.sh
  intro B w₁ hn
  have hB : B = w.heap.size := hn.num
  rw [head_zero] at hn
  have h1 := h.ext hn.upd
  refine (nand_Read_spec h1 i 0).mono ?_
  rintro v w₂ ⟨he2, hv⟩
  have e2 := hn.upd.trans he2
  have hg2 := Ext.get he2 hn.get
  split at hv
  · rename_i h0
    obtain ⟨a, cp, rfl, hba, hcp, hfa⟩ := hv
    refine ⟨_, _, _, _, rfl, br_ne (fun h => by omega) fun _ => ?_⟩
    obtain ⟨hd, hb0, hb1, _, hp1⟩ := ask_zero h0
    have hpl : (c.page i.toNat 0).length = c.sz := page_len h.ok hb1 (by have := h.ok.np1; omega)
    simp only [tn0] at hba
    have hgh := carrackref04_GetHead_spec (c := cp) hba (by omega)
    rw [hpl] at hgh
    refine hgh.mono ?_
    rintro _ w₄ ⟨he4, rfl⟩
    have e4 := e2.trans he4
    refine ⟨_, _, _, _, rfl, fun B2 w₅ hn5 => ?_⟩
    have hB2 : B2 = w₄.heap.size := hn5.num
    rw [head_zero] at hn5
    have hs4 := e4.size
    have hs12 := hn.size
    have hs1 := he2.size
    have hs3 := he4.size
    refine head_put (h := (getHead (c.page i.toNat 0)).1) hn5.get rfl fun w₆ hput6 => ?_
    have hg6 : w₆.heap[B]? = _ := hput6.upd1.get (Ext.get hn5.upd (Ext.get he4 hg2)) (by omega)
    have e6 : Ext w w₆ := Put.upd (e4.trans hn5.upd) hput6 (.inl (by omega))
    refine ⟨_, _, _, head_cells hput6.get, head_put hg6 rfl fun w₇ hput7 => ⟨_, _, _, head_cells hput7.get, Put.upd e6 hput7 (.inl (by omega)), ?_⟩⟩
    unfold refHead
    rw [if_neg (by omega)]
    simp only [Value.tuple.injEq]
    congr 4
    rw [Bool.eq_iff_iff]
    simp
  · rename_i h0
    subst hv
    refine ⟨_, _, _, _, rfl, br_ne (fun _ => ?_) fun h => by omega⟩
    refine head_put (h := Head.none) hg2 rfl fun w₃ hput => ⟨_, _, _, head_cells hput.get, Put.upd e2 hput (.inl (by omega)), ?_⟩
    unfold refHead
    rw [if_pos h0]
theorem oneCell_taken (t : Taken) : ∀ v ∈ t.vals, v.oneCell' = true := by
  intro v hv
  simp [Taken.vals] at hv
  rcases hv with rfl | rfl | rfl | rfl | rfl <;> rfl
/-- an element comes between others -/
theorem insert_tail {w : World} {p : Nat} {c : Chip} {L : Loc} {G : Nat → Prop} (h : ChipRep w p c L G) {a : Option Addr} {out : List Taken} {cap i j B : Nat} {hd : Head} (ho : OwnAt w a out.length cap T.api_Taken 5 (out.flatMap Taken.vals)) (hl : out.length ≤ 1000) (hj : j ≤ out.length)
    (hB : w.heap[B]? = some (.cells hd.vals.toArray T.api_Head (0, 0))) {Q : Option Addr → Nat → Nat → World → Prop}
    (hk : ∀ a' c' w', Ext w w' → OwnAt w' a' (out.take j ++ [Taken.mk i hd (c.isBad i)] ++ out.drop j).length c' T.api_Taken 5 ((out.take j ++ [Taken.mk i hd (c.isBad i)] ++ out.drop j).flatMap Taken.vals) → Fresh w a' → Q a' (out.take j ++ [Taken.mk i hd (c.isBad i)] ++ out.drop j).length c' w') :
    sliceP 5 a out.length cap none (some (j : Int)) none fun a2 l2 c2 =>
        appendP T.api_Taken 5 32 [Value.int .i64 0, Value.int .u8 0, Value.int .u32 0, Value.int .u64 0, Value.bool false] none 0 0 (Value.slice a2 l2 c2) w fun a3 l3 c3 w8 =>
        ∀ w9 : World, Drew w8 w9 →
        ∃ S2 : World → Prop, S2 w9 ∧
        ∃ x12 : Int, ∃ x13 : Int, ∃ x14 : Int, (∀ u3, S2 u3 → cellsAt u3 ⟨B, 0, none⟩ [Value.int .u8 x12, Value.int .u32 x13, Value.int .u64 x14] 0) ∧
        CallsR prog K.nand_Chip_Bad #[Value.pointer (some ⟨p, 0, none⟩), Value.int .i64 (i : Int)] w9 fun v3 w10 =>
        ∃ b2 : Bool, v3 = Value.bool b2 ∧ S2 w10 ∧
        ∀ (B2 : Nat) (w11 : World), New w10 (.cells #[Value.int .i64 (i : Int), Value.int .u8 x12, Value.int .u32 x13, Value.int .u64 x14, Value.bool b2] T.api_Taken) B2 w11 → S2 w11 ∧
        appendP T.api_Taken 5 32 [Value.int .i64 0, Value.int .u8 0, Value.int .u32 0, Value.int .u64 0, Value.bool false] a3 l3 c3 (Value.slice (some ⟨B2, 0, none⟩) 1 1) w11 fun a4 l4 c4 w12 => S2 w12 ∧
        sliceP 5 a out.length cap (some (j : Int)) none none fun a5 l5 c5 =>
        appendP T.api_Taken 5 32 [Value.int .i64 0, Value.int .u8 0, Value.int .u32 0, Value.int .u64 0, Value.bool false] a4 l4 c4 (Value.slice a5 l5 c5) w12 fun a6 l6 c6 w13 => Q a6 l6 c6 w13 := by
  have hcap := ho.2.1
  refine slice_to (by omega) (by omega) hcap ?_
  rw [Int.toNat_natCast]
  have hr1 : RowAt w a ((out.take j).flatMap Taken.vals) := by rw [← flat_take Taken.vals_length]; exact RowAt.take ho.row _
  refine append_rows (f := Taken.vals) Taken.vals_length (l := []) (xs := out.take j) (OwnAt.nil _ _ _) hr1 rfl (by simp; omega) (fun x _ => oneCell_taken x) rfl (by simp; omega) (by omega) fun a3 c3 w₈ hu8 ho8 hf8 => ?_
  have e8 : Ext w w₈ := hu8.mono (fun x _ hx => by cases hx)
  have hf8' : Fresh w a3 := by
    rcases hf8 with rfl | ⟨b, rfl, hb⟩
    · exact Fresh.none _
    · exact Fresh.some hb
  intro w₉ hd9
  have e9 := e8.trans hd9.upd
  have h9 := h.ext e9
  have hg9 := Ext.get e9 hB
  have hBw : B < w.heap.size := (Array.getElem?_eq_some_iff.1 hB).1
  refine ⟨fun u => u.heap[B]? = some (.cells hd.vals.toArray T.api_Head (0, 0)), hg9, hd.kind.toNat, hd.era, hd.seq, fun u hu => head_cells hu, ?_⟩
  refine (nand_Bad_spec h9 _).mono ?_
  rintro _ _ ⟨rfl, rfl⟩
  rename_i w₉
  have hd0 : decide ((0 : Int) ≤ ((i : Nat) : Int)) = true := decide_eq_true (by omega)
  refine ⟨_, rfl, hg9, ?_⟩
  rw [hd0, Bool.true_and, Int.toNat_natCast]
  intro B2 w₁₁ hn11
  have hg11 := Ext.get hn11.upd hg9
  refine ⟨hg11, ?_⟩
  have ho11 := OwnAt.ext (OwnAt.ext ho8 hd9.upd) hn11.upd
  refine append_flat (f := Taken.vals) Taken.vals_length (x := ⟨i, hd, c.isBad i⟩) ho11 (by simp [Taken.vals]) hn11 rfl (oneCell_taken _) rfl (by simp; omega) (by omega) fun a4 c4 w₁₂ hu12 ho12 hf12 => ?_
  have e11 := e9.trans hn11.upd
  have e12 : Ext w w₁₂ := Upd.beyond e11 hu12 (fun x hx => hf8' _ hx)
  have hf12' : Fresh w a4 := by
    rcases hf12 with rfl | ⟨b, rfl, hb⟩
    · exact hf8'
    · exact Fresh.some (by have := e11.size; omega)
  refine ⟨Ext.get e12 hB, ?_⟩
  refine slice_from (by omega) (by omega) hcap ?_
  rw [Int.toNat_natCast]
  have hr2 : RowAt w₁₂ (if cap = j then a else a.map (·.add (j * 5))) ((out.drop j).flatMap Taken.vals) := by
    rw [← flat_drop Taken.vals_length]; exact row_from (RowAt.ext ho.row e12) (by rw [flat_len Taken.vals_length]) hcap
  refine append_rows (f := Taken.vals) Taken.vals_length (xs := out.drop j) ho12 hr2 rfl (by simp) (fun x _ => oneCell_taken x) rfl (by simp; omega) (by omega) fun a6 c6 w₁₃ hu13 ho13 hf13 => ?_
  have e13 : Ext w w₁₃ := Upd.beyond e12 hu13 (fun x hx => hf12' _ hx)
  simp only [List.nil_append] at ho13 ⊢
  refine hk a6 c6 w₁₃ e13 ho13 ?_
  rcases hf13 with rfl | ⟨b, rfl, hb⟩
  · exact hf12'
  · exact Fresh.some (by have := e12.size; omega)
theorem carrackref04_Taken_spec {w : World} {p : Nat} {c : Chip} {L : Loc} {G : Nat → Prop} (h : ChipRep w p c L G) :
    CallsR prog K.carrackref04_Taken #[.pointer (some ⟨p, 0, none⟩)] w fun v w' => Ext w w' ∧ ∃ a cap, v = .slice a (refTaken c).length cap ∧ OwnAt w' a (refTaken c).length cap T.api_Taken 5 ((refTaken c).flatMap Taken.vals) ∧ Fresh w a := by
  apply carrackref04_Taken.sh
  have hnb := h.ok.nb2
  refine ⟨fun a l cap x u => ∃ i : Nat, x = i ∧ i ≤ c.nb ∧ l = (refGo c i).length ∧ Ext w u ∧ OwnAt u a (refGo c i).length cap T.api_Taken 5 ((refGo c i).flatMap Taken.vals) ∧ Fresh w a, fun _ _ _ x _ => (c.nb - x).toNat,
    ⟨0, rfl, by omega, rfl, Upd.refl _ _, OwnAt.nil _ _ _, Fresh.none _⟩, ?_⟩
  rintro a l cap x u ⟨i, rfl, hi, rfl, hu, ho, hf⟩
  have hlen := refGo_length c i
  refine (nand_Geo_spec (h.ext hu)).mono ?_
  rintro _ w₂ ⟨rfl, he2⟩
  have e2 := hu.trans he2
  refine ⟨_, _, _, _, rfl, br_dec (fun hlt => ?_) fun hge => ?_⟩
  · have hi' : i < c.nb := by omega
    have e1 : IntKind.i64.wrap ((i : Int) + 1) = ((i + 1 : Nat) : Int) := w64 (by omega) (by omega)
    refine (carrackref04_Head_spec (h.ext e2) (i : Int)).mono ?_
    rintro _ w₃ ⟨he3, rfl⟩
    have e3 := e2.trans he3
    refine ⟨_, _, _, _, rfl, fun B w₄ hn4 => ?_⟩
    rw [head_zero] at hn4
    refine head_put (h := (refHead c i).1) hn4.get rfl fun w₅ hput5 => ?_
    have hB : B = w₃.heap.size := hn4.num
    have hs3 := e3.size
    have e5 : Ext w w₅ := Put.upd (e3.trans hn4.upd) hput5 (.inl (by omega))
    have eu3 : Ext u w₃ := he2.trans he3
    have hsu3 := eu3.size
    have eu5 : Ext u w₅ := Put.upd (eu3.trans hn4.upd) hput5 (.inl (by omega))
    have hgo : refGo c (i + 1) = if (refHead c i).2 then insAt ⟨i, (refHead c i).1, c.isBad i⟩ (refGo c i) else refGo c i := by rw [refGo]
    cases hh : (refHead c i).2 with
    | false =>
      simp only [Bool.not_false, br_true]
      rw [hh] at hgo
      simp only [Bool.false_eq_true, if_false] at hgo
      exact ⟨⟨i + 1, e1, hi', by rw [hgo], e5, by rw [hgo]; exact OwnAt.ext ho eu5, hf⟩, by rw [e1]; exact meas hi'⟩
    | true =>
      simp only [Bool.not_true, br_false]
      rw [hh] at hgo
      simp only [if_true] at hgo
      refine ⟨fun y v => ∃ j : Nat, y = j ∧ j ≤ (refGo c i).length ∧ Ext w₅ v ∧ ∀ t ∈ (refGo c i).take j, t.head.seq ≤ (refHead c i).1.seq, fun y _ => ((refGo c i).length - y).toNat, ⟨0, rfl, by omega, Upd.refl _ _, fun t ht => by simp at ht⟩, ?_⟩
      rintro y v ⟨j, rfl, hj, hv5, hall⟩ w₇ hd7
      have e57 := hv5.trans hd7.upd
      have e7 := e5.trans e57
      have ho7 := OwnAt.ext (OwnAt.ext ho eu5) e57
      have hg7 := Ext.get e57 hput5.get
      have hins : (∀ (hlt : j < (refGo c i).length), decide ((refGo c i)[j].head.seq ≤ (refHead c i).1.seq) = false) → (refGo c i).take j ++ [⟨i, (refHead c i).1, c.isBad i⟩] ++ (refGo c i).drop j = refGo c (i + 1) := by
        intro hstop
        have hpos : posOf ⟨i, (refHead c i).1, c.isBad i⟩ (refGo c i) = j := takeWhile_at _ _ j hj (fun t ht => decide_eq_true (hall t ht)) hstop
        rw [hgo]
        unfold insAt
        rw [hpos]
      refine ⟨fun z => z = w₇, rfl, br_dec (fun hlt => ?_) fun hge => ?_⟩
      · have hj' : j < (refGo c i).length := by omega
        refine idx_flat (f := Taken.vals) Taken.vals_length (by omega) ho7.row rfl hj' fun b o hab hr => ?_
        simp only [add_lit]
        obtain ⟨b', o', hab', hc⟩ := RowAt.cell hr (i := 3) (v := .int .u64 (refGo c i)[j].head.seq) rfl
        cases hab'
        refine ⟨_, fun z hz => hz ▸ hc, _, fun z hz => hz ▸ cell_of hg7 rfl, br_dec (fun hle => ?_) fun hgt => ?_⟩
        · have e2 : IntKind.i64.wrap ((j : Int) + 1) = ((j + 1 : Nat) : Int) := w64 (by omega) (by omega)
          rw [e2]
          refine ⟨⟨j + 1, rfl, hj', e57, fun t ht => ?_⟩, meas hj'⟩
          rw [List.take_succ_eq_append_getElem hj'] at ht
          rcases List.mem_append.1 ht with ht | ht
          · exact hall t ht
          · simp at ht
            subst ht
            omega
        · have hin := hins (fun _ => decide_eq_false (by omega))
          refine insert_tail (i := i) (h.ext e7) ho7 (by omega) hj hg7 fun a6 c6 w₁₃ he13 ho13 hf13 => ?_
          rw [hin] at ho13 ⊢
          exact ⟨⟨i + 1, e1, hi', rfl, e7.trans he13, ho13, Fresh.mono hf13 e7.size⟩, by rw [e1]; exact meas hi'⟩
      · have hin := hins (fun h => by omega)
        refine insert_tail (i := i) (h.ext e7) ho7 (by omega) hj hg7 fun a6 c6 w₁₃ he13 ho13 hf13 => ?_
        rw [hin] at ho13 ⊢
        exact ⟨⟨i + 1, e1, hi', rfl, e7.trans he13, ho13, Fresh.mono hf13 e7.size⟩, by rw [e1]; exact meas hi'⟩
  · have : i = c.nb := by omega
    subst this
    exact ⟨e2, a, cap, rfl, OwnAt.ext ho he2, hf⟩
end Go.Den
end
section
set_option linter.unusedVariables false
set_option maxRecDepth 100000
namespace Go.Den
def newChip (nb np sz sp : Nat) : Chip := ⟨nb, np, sz, sp, List.replicate nb (List.replicate (np * sz) 255), List.replicate nb false, [], 0, false, 0⟩
end Go.Den
end
section
set_option linter.unusedVariables false
set_option linter.unusedSimpArgs false
set_option maxRecDepth 8000
namespace Go.Den
/-- a chip whose parts lie in F; what it reads alone lies beyond A -/
def CIn (F : Nat → Prop) (A : Nat) (w : World) (p : Nat) (c : Chip) : Prop := ∃ L G, ChipRep w p c L G ∧ (∀ x, x ∈ p :: L.bb :: L.locs → F x) ∧ ∀ x, G x → A ≤ x ∧ x < w.heap.size
def PIn (F : Nat → Prop) (A : Nat) (w : World) (M : PLoc) (P : Pool) (c : Chip) : Prop := ∃ L G, PC w M P c L G ∧ (∀ x, PF M L x → F x) ∧ ∀ x, G x → A ≤ x ∧ x < w.heap.size
abbrev Bet (A S : Nat) : Nat → Prop := fun x => A ≤ x ∧ x < S
/-- a chip whose parts lie between A and S -/
abbrev CAt (A S : Nat) (w : World) (p : Nat) (c : Chip) : Prop := CIn (Bet A S) A w p c
/-- a pool beyond A -/
abbrev PAt (A S : Nat) (w : World) (M : PLoc) (P : Pool) (c : Chip) : Prop := PIn (Bet A S) A w M P c
theorem CIn.ext {F : Nat → Prop} {A : Nat} {w w' : World} {p : Nat} {c : Chip} (h : CIn F A w p c) (k : Ext w w') : CIn F A w' p c := by
  obtain ⟨L, G, hr, hF, hG⟩ := h
  exact ⟨L, G, hr.ext k, hF, fun x hx => ⟨(hG x hx).1, Nat.lt_of_lt_of_le (hG x hx).2 k.size⟩⟩
theorem PIn.ext {F : Nat → Prop} {A : Nat} {w w' : World} {M : PLoc} {P : Pool} {c : Chip} (h : PIn F A w M P c) (k : Ext w w') : PIn F A w' M P c := by
  obtain ⟨L, G, hr, hF, hG⟩ := h
  exact ⟨L, G, hr.ext k, hF, fun x hx => ⟨(hG x hx).1, Nat.lt_of_lt_of_le (hG x hx).2 k.size⟩⟩
theorem PIn.chip {F : Nat → Prop} {A : Nat} {w : World} {M : PLoc} {P : Pool} {c : Chip} (h : PIn F A w M P c) : CIn F A w M.p c := by
  obtain ⟨L, G, hr, hF, hG⟩ := h
  exact ⟨L, G, hr.chip, fun x hx => hF x (.inr (.inr hx)), hG⟩
theorem CIn.ok {F : Nat → Prop} {A : Nat} {w : World} {p : Nat} {c : Chip} (h : CIn F A w p c) : c.Ok := by
  obtain ⟨L, G, hr, hF, hG⟩ := h
  exact hr.ok
theorem CIn.mono {F F' : Nat → Prop} {A : Nat} {w : World} {p : Nat} {c : Chip} (h : CIn F A w p c) (hf : ∀ x, F x → F' x) : CIn F' A w p c := by
  obtain ⟨L, G, hr, hF, hG⟩ := h
  exact ⟨L, G, hr, fun x hx => hf x (hF x hx), hG⟩
theorem PIn.mono {F F' : Nat → Prop} {A : Nat} {w : World} {M : PLoc} {P : Pool} {c : Chip} (h : PIn F A w M P c) (hf : ∀ x, F x → F' x) : PIn F' A w M P c := by
  obtain ⟨L, G, hr, hF, hG⟩ := h
  exact ⟨L, G, hr, fun x hx => hf x (hF x hx), hG⟩
theorem CAt.ext {A S : Nat} {w w' : World} {p : Nat} {c : Chip} (h : CAt A S w p c) (k : Ext w w') : CAt A S w' p c := by
  obtain ⟨L, G, hr, hF, hG⟩ := h
  exact ⟨L, G, hr.ext k, hF, fun x hx => ⟨(hG x hx).1, Nat.lt_of_lt_of_le (hG x hx).2 k.size⟩⟩
theorem PAt.ext {A S : Nat} {w w' : World} {M : PLoc} {P : Pool} {c : Chip} (h : PAt A S w M P c) (k : Ext w w') : PAt A S w' M P c := by
  obtain ⟨L, G, hr, hF, hG⟩ := h
  exact ⟨L, G, hr.ext k, hF, fun x hx => ⟨(hG x hx).1, Nat.lt_of_lt_of_le (hG x hx).2 k.size⟩⟩
theorem PAt.chip {A S : Nat} {w : World} {M : PLoc} {P : Pool} {c : Chip} (h : PAt A S w M P c) : CAt A S w M.p c := by
  obtain ⟨L, G, hr, hF, hG⟩ := h
  exact ⟨L, G, hr.chip, fun x hx => hF x (.inr (.inr hx)), hG⟩
theorem CAt.ok {A S : Nat} {w : World} {p : Nat} {c : Chip} (h : CAt A S w p c) : c.Ok := by
  obtain ⟨L, G, hr, hF, hG⟩ := h
  exact hr.ok
theorem PAt.size {A S : Nat} {w : World} {M : PLoc} {P : Pool} {c : Chip} (h : PAt A S w M P c) : M.q < w.heap.size := by
  obtain ⟨L, G, hr, hF, hG⟩ := h
  exact (Array.getElem?_eq_some_iff.1 hr.head).1
theorem CAt.of {w w' : World} {p : Nat} {c : Chip} {A : Nat} (h : ChipAt w' p c (fun x => w.heap.size ≤ x ∧ x < w'.heap.size)) (hA : A ≤ w.heap.size) : CAt A w'.heap.size w' p c := by
  obtain ⟨L, G, hr, hF, hG, _⟩ := h
  exact ⟨L, G, hr, fun x hx => ⟨Nat.le_trans hA (hF x hx).1, (hF x hx).2⟩, fun x hx => ⟨Nat.le_trans hA (hG x hx).1, (hG x hx).2⟩⟩
theorem cNew (w : World) {A nb np sz sp : Nat} (hA : A ≤ w.heap.size) (nb1 : 8 ≤ nb) (nb2 : nb ≤ 64) (np1 : 4 ≤ np) (np2 : np ≤ 32) (sz1 : 128 ≤ sz) (sz2 : sz ≤ 256) (sp2 : sp ≤ 4) :
    CallsR prog K.nand_New #[.agg #[.int .i64 nb, .int .i64 np, .int .i64 sz, .int .i64 sp]] w fun v w' => Ext w w' ∧ ∃ p, v = .tuple #[.pointer (some ⟨p, 0, none⟩), .int .i64 0] ∧ CAt A w'.heap.size w' p (newChip nb np sz sp) := by
  refine (nand_New_spec w nb1 nb2 np1 np2 sz1 sz2 sp2).mono ?_
  rintro v w' ⟨he, p, rfl, hc⟩
  exact ⟨he, p, rfl, CAt.of hc hA⟩
theorem cScanF {F : Nat → Prop} {A : Nat} {w : World} {p : Nat} {c : Chip} (h : CIn F A w p c) :
    CallsR prog K.pool_Scan #[.pointer (some ⟨p, 0, none⟩)] w fun v w' => Ext w w' ∧
      if c.dead then v = .tuple #[.pointer none, .int .i64 10]
      else ∃ M : PLoc, M.p = p ∧ v = .tuple #[.pointer (some ⟨M.q, 0, none⟩), .int .i64 0] ∧ PIn (fun x => F x ∨ (w.heap.size ≤ x ∧ x < w'.heap.size)) A w' M (scanPool c) c := by
  obtain ⟨L, G, hr, hF, hG⟩ := h
  refine (pool_Scan_spec hr (fun x hx => (hG x hx).2)).mono ?_
  rintro v w' ⟨he, hv⟩
  refine ⟨he, ?_⟩
  split at hv
  · rename_i hd
    rw [if_pos hd]; exact hv
  · rename_i hd
    rw [if_neg hd]
    obtain ⟨q, pb, rfl, hq, hpb, hq', hpb', hp⟩ := hv
    refine ⟨⟨q, pb, c.nb, p⟩, rfl, rfl, L, G, hp, fun x hx => ?_, fun x hx => ⟨(hG x hx).1, Nat.lt_of_lt_of_le (hG x hx).2 he.size⟩⟩
    rcases hx with hx | hx | hx
    · have : x = q := hx
      exact .inr (by omega)
    · have : x = pb := hx
      exact .inr (by omega)
    · exact .inl (hF x hx)
/-- a row of taken blocks, of new memory -/
def TakenAt (w w' : World) (v : Value) (l : List Taken) : Prop := ∃ a cap, v = .slice a l.length cap ∧ OwnAt w' a l.length cap T.api_Taken 5 (l.flatMap Taken.vals) ∧ Fresh w a
theorem pTaken {F : Nat → Prop} {A : Nat} {w : World} {M : PLoc} {P : Pool} {c : Chip} (h : PIn F A w M P c) (hnb : c.nb < 20) {l : List Taken} (hl : takenPool P c = l) :
    CallsR prog K.pool_Pool_Taken #[.pointer (some ⟨M.q, 0, none⟩)] w fun v w' => Ext w w' ∧ TakenAt w w' v l := by
  subst hl
  obtain ⟨L, G, hr, hF, hG⟩ := h
  exact pool_Taken_spec hr hnb
theorem rTaken {F : Nat → Prop} {A : Nat} {w : World} {p : Nat} {c : Chip} (h : CIn F A w p c) :
    CallsR prog K.carrackref04_Taken #[.pointer (some ⟨p, 0, none⟩)] w fun v w' => Ext w w' ∧ TakenAt w w' v (refTaken c) := by
  obtain ⟨L, G, hr, hF, hG⟩ := h
  exact carrackref04_Taken_spec hr
end Go.Den
end
section
set_option linter.unusedVariables false
set_option linter.unusedSimpArgs false
namespace Go.Den
theorem new_put {w : World} {cs : Array Value} {T : TypeId} {vs : List Value} {K : Nat → World → Prop} (hl : vs.length = cs.size)
    (hk : ∀ B w2, B = w.heap.size → w2.heap.size = w.heap.size + 1 → Ext w w2 → w2.heap[B]? = some (.cells vs.toArray T (0, 0)) → K B w2) :
    ∀ (B : Nat) (w1 : World), New w (.cells cs T) B w1 → storeP w1 ⟨B, 0, none⟩ vs (fun w2 => K B w2) := by
  intro B w1 hn
  refine store_of hn.get (by simp [hl]) fun w2 hp => ?_
  have hB : B = w.heap.size := hn.num
  refine hk B w2 hB (by rw [hp.size, hn.size]) (Put.upd hn.upd hp (.inl (by omega))) ?_
  have := hp.get
  rwa [splice_all _ _ hl.symm] at this
theorem cells_all {w : World} {B : Nat} {vs : List Value} {T : TypeId} {fr : Nat × Nat} (h : w.heap[B]? = some (.cells vs.toArray T fr)) : cellsAt w ⟨B, 0, none⟩ vs 0 :=
  cellsAt_of (o := 0) h fun j v hj => by simpa using hj
/-- all cells of a block become others -/
theorem put_all {w : World} {B : Nat} {cs : Array Value} {vs : List Value} {T : TypeId} {K : World → Prop} (h : w.heap[B]? = some (.cells cs T (0, 0))) (hl : vs.length = cs.size)
    (hk : ∀ w2, Upd (· = B) w w2 → w2.heap.size = w.heap.size → w2.heap[B]? = some (.cells vs.toArray T (0, 0)) → K w2) : storeP w ⟨B, 0, none⟩ vs K := by
  refine store_of h (by simp [hl]) fun w2 hp => hk w2 hp.upd1 hp.size ?_
  have := hp.get
  rwa [splice_all _ _ hl.symm] at this
theorem u8b (x y : UInt8) : ((x.toNat : Int) == (y.toNat : Int)) = (x == y) := by
  rw [Bool.eq_iff_iff]
  simp only [beq_iff_eq, Int.natCast_inj, UInt8.toNat_inj]
end Go.Den
end
section
set_option linter.unusedSimpArgs false
set_option linter.unusedVariables false
namespace Go.Den
/-- how an element lies in cells; what it reads besides lies in blocks of G -/
structure ERep (α : Type) where
  k : Nat
  R : World → (Nat → Prop) → List Value → α → Prop
  pos : 1 ≤ k
  len : ∀ {w G vs x}, R w G vs x → vs.length = k
  one : ∀ {w G vs x}, R w G vs x → ∀ v ∈ vs, v.oneCell' = true
  upd : ∀ {w w' F G vs x}, R w G vs x → Upd F w w' → (∀ b, G b → ¬ F b) → R w' G vs x
  mono : ∀ {w G G' vs x}, R w G vs x → (∀ b, G b → G' b) → R w G' vs x
  cells : ∀ {w w' G vs x}, R w G vs x → CellsLe w w' → R w' G vs x
section
variable {α : Type} (r : ERep α)
theorem ERep.ext {r : ERep α} {w w' : World} {G : Nat → Prop} {vs : List Value} {x : α} (h : r.R w G vs x) (k : Ext w w') : r.R w' G vs x := r.upd h k fun _ _ hf => hf
def Rows (w : World) (G : Nat → Prop) : List Value → List α → Prop
  | vs, [] => vs = []
  | vs, x :: l => ∃ u t, vs = u ++ t ∧ r.R w G u x ∧ Rows w G t l
variable {r}
theorem Rows.len {w : World} {G : Nat → Prop} : ∀ {l : List α} {vs : List Value}, Rows r w G vs l → vs.length = l.length * r.k
  | [], vs, h => by cases h; simp
  | x :: l, vs, ⟨u, t, e, hu, ht⟩ => by rw [e, List.length_append, r.len hu, Rows.len ht, List.length_cons, Nat.succ_mul]; omega
theorem Rows.one {w : World} {G : Nat → Prop} : ∀ {l : List α} {vs : List Value}, Rows r w G vs l → ∀ v ∈ vs, v.oneCell' = true
  | [], vs, h => by cases h; simp
  | x :: l, vs, ⟨u, t, e, hu, ht⟩ => by
    intro v hv
    rw [e, List.mem_append] at hv
    rcases hv with hv | hv
    · exact r.one hu v hv
    · exact Rows.one ht v hv
theorem Rows.upd {w w' : World} {F G : Nat → Prop} (k : Upd F w w') (hf : ∀ b, G b → ¬ F b) : ∀ {l : List α} {vs : List Value}, Rows r w G vs l → Rows r w' G vs l
  | [], vs, h => h
  | x :: l, vs, ⟨u, t, e, hu, ht⟩ => ⟨u, t, e, r.upd hu k hf, Rows.upd k hf ht⟩
theorem Rows.ext {w w' : World} {G : Nat → Prop} {l : List α} {vs : List Value} (h : Rows r w G vs l) (k : Ext w w') : Rows r w' G vs l := Rows.upd k (fun _ _ hf => hf) h
theorem Rows.mono {w : World} {G G' : Nat → Prop} (hg : ∀ b, G b → G' b) : ∀ {l : List α} {vs : List Value}, Rows r w G vs l → Rows r w G' vs l
  | [], vs, h => h
  | x :: l, vs, ⟨u, t, e, hu, ht⟩ => ⟨u, t, e, r.mono hu hg, Rows.mono hg ht⟩
theorem Rows.cellsLe {w w' : World} {G : Nat → Prop} (k : CellsLe w w') : ∀ {l : List α} {vs : List Value}, Rows r w G vs l → Rows r w' G vs l
  | [], vs, h => h
  | x :: l, vs, ⟨u, t, e, hu, ht⟩ => ⟨u, t, e, r.cells hu k, Rows.cellsLe k ht⟩
theorem Rows.append {w : World} {G : Nat → Prop} : ∀ {l m : List α} {vs us : List Value}, Rows r w G vs l → Rows r w G us m → Rows r w G (vs ++ us) (l ++ m)
  | [], m, vs, us, h, h2 => by cases h; simpa using h2
  | x :: l, m, vs, us, ⟨u, t, e, hu, ht⟩, h2 => ⟨u, t ++ us, by rw [e, List.append_assoc], hu, Rows.append ht h2⟩
theorem Rows.single {w : World} {G : Nat → Prop} {vs : List Value} {x : α} (h : r.R w G vs x) : Rows r w G vs [x] := ⟨vs, [], by simp, h, rfl⟩
theorem Rows.drop {w : World} {G : Nat → Prop} : ∀ {l : List α} {vs : List Value} (i : Nat), Rows r w G vs l → Rows r w G (vs.drop (i * r.k)) (l.drop i)
  | l, vs, 0, h => by simpa using h
  | [], vs, i + 1, h => by cases h; simp; rfl
  | x :: l, vs, i + 1, ⟨u, t, e, hu, ht⟩ => by
    have hl := r.len hu
    rw [e, List.drop_succ_cons, Nat.succ_mul, Nat.add_comm, ← List.drop_drop]
    have : (u ++ t).drop r.k = t := by rw [← hl]; simp
    rw [this]
    exact Rows.drop i ht
theorem Rows.take {w : World} {G : Nat → Prop} : ∀ {l : List α} {vs : List Value} (i : Nat), Rows r w G vs l → Rows r w G (vs.take (i * r.k)) (l.take i)
  | l, vs, 0, h => by simp; rfl
  | [], vs, i + 1, h => by cases h; simp; rfl
  | x :: l, vs, i + 1, ⟨u, t, e, hu, ht⟩ => by
    have hl := r.len hu
    rw [e, List.take_succ_cons, Nat.succ_mul, Nat.add_comm, List.take_append, hl]
    rw [List.take_of_length_le (by omega)]
    exact ⟨u, _, rfl, hu, by rw [Nat.add_sub_cancel_left]; exact Rows.take i ht⟩
theorem Rows.get {w : World} {G : Nat → Prop} {l : List α} {vs : List Value} (h : Rows r w G vs l) {i : Nat} (hi : i < l.length) : r.R w G ((vs.drop (i * r.k)).take r.k) l[i] := by
  have h1 := Rows.drop i h
  rw [List.drop_eq_getElem_cons hi] at h1
  obtain ⟨u, t, e, hu, ht⟩ := h1
  have hl := r.len hu
  rw [e, ← hl]
  simpa using hu
theorem Rows.set {w : World} {G : Nat → Prop} {l : List α} {vs us : List Value} (h : Rows r w G vs l) {i : Nat} (hi : i < l.length) {x : α} (hx : r.R w G us x) : Rows r w G (vs.take (i * r.k) ++ us ++ vs.drop (i * r.k + r.k)) (l.set i x) := by
  rw [List.set_eq_take_append_cons_drop, if_pos hi]
  have e : l.take i ++ x :: l.drop (i + 1) = (l.take i ++ [x]) ++ l.drop (i + 1) := by simp
  rw [e, ← Nat.succ_mul]
  exact ((Rows.take i h).append (Rows.single hx)).append (Rows.drop (i + 1) h)
variable (r)
/-- a slice of such elements, at a -/
def SliceAt (w : World) (G : Nat → Prop) (a : Option Addr) (l : List α) : Prop := ∃ vs, RowAt w a vs ∧ Rows r w G vs l ∧ (l ≠ [] → ∀ p, a = some p → G p.block)
/-- one that the call has made itself: its cells are the call's own -/
def OwnS (w : World) (G : Nat → Prop) (a : Option Addr) (cap : Nat) (e : TypeId) (l : List α) : Prop := ∃ vs, OwnAt w a l.length cap e r.k vs ∧ Rows r w G vs l
variable {r}
theorem SliceAt.nil (w : World) (G : Nat → Prop) (a : Option Addr) : SliceAt r w G a [] := ⟨[], RowAt.nil _ _, rfl, fun h => (h rfl).elim⟩
theorem SliceAt.upd {w w' : World} {F G : Nat → Prop} {a : Option Addr} {l : List α} (h : SliceAt r w G a l) (k : Upd F w w') (hf : ∀ b, G b → ¬ F b) : SliceAt r w' G a l := by
  obtain ⟨vs, h1, h2, h3⟩ := h
  cases l with
  | nil => exact SliceAt.nil _ _ _
  | cons x l => exact ⟨vs, RowAt.upd h1 k (fun p hp => hf _ (h3 (by simp) p hp)), Rows.upd k hf h2, h3⟩
theorem SliceAt.ext {w w' : World} {G : Nat → Prop} {a : Option Addr} {l : List α} (h : SliceAt r w G a l) (k : Ext w w') : SliceAt r w' G a l := SliceAt.upd h k fun _ _ hf => hf
theorem SliceAt.cellsLe {w w' : World} {G : Nat → Prop} {a : Option Addr} {l : List α} (h : SliceAt r w G a l) (k : CellsLe w w') : SliceAt r w' G a l := by
  obtain ⟨vs, h1, h2, h3⟩ := h
  exact ⟨vs, RowAt.cellsLe h1 k, Rows.cellsLe k h2, h3⟩
theorem SliceAt.mono {w : World} {G G' : Nat → Prop} {a : Option Addr} {l : List α} (h : SliceAt r w G a l) (hg : ∀ b, G b → G' b) : SliceAt r w G' a l := by
  obtain ⟨vs, h1, h2, h3⟩ := h
  exact ⟨vs, h1, Rows.mono hg h2, fun hn p hp => hg _ (h3 hn p hp)⟩
theorem SliceAt.take {w : World} {G : Nat → Prop} {a : Option Addr} {l : List α} (h : SliceAt r w G a l) (i : Nat) : SliceAt r w G a (l.take i) := by
  obtain ⟨vs, h1, h2, h3⟩ := h
  exact ⟨_, RowAt.take h1 (i * r.k), Rows.take i h2, fun hn => h3 (fun e => hn (by rw [e]; simp))⟩
theorem SliceAt.drop {w : World} {G : Nat → Prop} {b o : Nat} {l : List α} (h : SliceAt r w G (some ⟨b, o, none⟩) l) (i : Nat) : SliceAt r w G (some ⟨b, o + i * r.k, none⟩) (l.drop i) := by
  obtain ⟨vs, h1, h2, h3⟩ := h
  refine ⟨_, RowAt.drop h1 (i * r.k), Rows.drop i h2, fun hn p hp => ?_⟩
  cases hp
  exact h3 (fun e => hn (by rw [e]; simp)) ⟨b, o, none⟩ rfl
/-- where it lies -/
theorem SliceAt.blk {w : World} {G : Nat → Prop} {a : Option Addr} {l : List α} (h : SliceAt r w G a l) (hn : l ≠ []) : ∃ b o, a = some ⟨b, o, none⟩ ∧ b < w.heap.size ∧ G b := by
  obtain ⟨vs, h1, h2, h3⟩ := h
  have hl := Rows.len h2
  have : vs ≠ [] := List.ne_nil_of_length_pos (by rw [hl]; exact Nat.mul_pos (List.length_pos_iff.2 hn) r.pos)
  obtain ⟨b, o, e, hb⟩ := RowAt.blk h1 this
  exact ⟨b, o, e, hb, h3 hn _ e⟩
/-- an element is pointed at -/
theorem SliceAt.idx {w : World} {G : Nat → Prop} {a : Option Addr} {l : List α} (h : SliceAt r w G a l) {n i : Nat} (hn : n = l.length) (hi : i < l.length) {K : Addr → Prop}
    (hk : ∀ b o vs, a = some ⟨b, o, none⟩ → RowAt w (some ⟨b, o + i * r.k, none⟩) vs → r.R w G vs l[i] → G b → K ⟨b, o + i * r.k, none⟩) : idxP a n (i : Int) r.k K := by
  subst hn
  refine ⟨by omega, by omega, ?_⟩
  obtain ⟨b, o, rfl, hb, hG⟩ := h.blk (List.ne_nil_of_length_pos (by omega))
  obtain ⟨vs, h1, h2, h3⟩ := h
  simp only [nilC_some', add_lit, Int.toNat_natCast]
  exact hk b o _ rfl (RowAt.take (RowAt.drop h1 (i * r.k)) r.k) (h2.get hi) hG
theorem OwnS.nil (w : World) (G : Nat → Prop) (e : TypeId) : OwnS r w G none 0 e [] := ⟨[], OwnAt.nil _ _ _, rfl⟩
theorem OwnS.upd {w w' : World} {F G : Nat → Prop} {a : Option Addr} {cap : Nat} {e : TypeId} {l : List α} (h : OwnS r w G a cap e l) (k : Upd F w w') (hf : ∀ b, G b → ¬ F b) (ha : ∀ b, a = some ⟨b, 0, none⟩ → ¬ F b) : OwnS r w' G a cap e l := by
  obtain ⟨vs, h1, h2⟩ := h
  exact ⟨vs, OwnAt.upd h1 k ha, Rows.upd k hf h2⟩
theorem OwnS.ext {w w' : World} {G : Nat → Prop} {a : Option Addr} {cap : Nat} {e : TypeId} {l : List α} (h : OwnS r w G a cap e l) (k : Ext w w') : OwnS r w' G a cap e l := OwnS.upd h k (fun _ _ hf => hf) (fun _ _ hf => hf)
theorem OwnS.cellsLe {w w' : World} {G : Nat → Prop} {a : Option Addr} {cap : Nat} {e : TypeId} {l : List α} (h : OwnS r w G a cap e l) (k : CellsLe w w') : OwnS r w' G a cap e l := by
  obtain ⟨vs, h1, h2⟩ := h
  exact ⟨vs, h1.cellsLe k, Rows.cellsLe k h2⟩
theorem OwnS.mono {w : World} {G G' : Nat → Prop} {a : Option Addr} {cap : Nat} {e : TypeId} {l : List α} (h : OwnS r w G a cap e l) (hg : ∀ b, G b → G' b) : OwnS r w G' a cap e l := by
  obtain ⟨vs, h1, h2⟩ := h
  exact ⟨vs, h1, Rows.mono hg h2⟩
theorem OwnS.at_ {w : World} {G : Nat → Prop} {a : Option Addr} {cap : Nat} {e : TypeId} {l : List α} (h : OwnS r w G a cap e l) (hg : ∀ p, a = some p → G p.block) : SliceAt r w G a l := by
  obtain ⟨vs, h1, h2⟩ := h
  exact ⟨vs, h1.row, h2, fun _ => hg⟩
theorem OwnS.cap {w : World} {G : Nat → Prop} {a : Option Addr} {cap : Nat} {e : TypeId} {l : List α} (h : OwnS r w G a cap e l) : l.length ≤ cap := by
  obtain ⟨vs, h1, h2⟩ := h
  exact h1.2.1
theorem OwnS.blk {w : World} {G : Nat → Prop} {a : Option Addr} {cap : Nat} {e : TypeId} {l : List α} (h : OwnS r w G a cap e l) {q : Addr} (hq : a = some q) : ∃ b, a = some ⟨b, 0, none⟩ ∧ b < w.heap.size ∧ q = ⟨b, 0, none⟩ := by
  obtain ⟨vs, ⟨_, _, hx⟩, h2⟩ := h
  rcases hx with ⟨hx, _⟩ | ⟨b, cur, hx, hb, _⟩
  · rw [hx] at hq; cases hq
  · rw [hx] at hq; cases hq; exact ⟨b, hx, (Array.getElem?_eq_some_iff.1 hb).1, rfl⟩
/-- append of an element out of a block of its own -/
theorem OwnS.push {w₀ w₁ : World} {G : Nat → Prop} {a : Option Addr} {cap n bytes : Nat} {e : TypeId} {l : List α} {z : List Value} (h : OwnS r w₁ G a cap e l) {B : Nat} {x : α} {cs : Array Value} (hx : r.R w₁ G cs.toList x) (hn : New w₀ (.cells cs e) B w₁) (hnl : n = l.length)
    (hz : z.length = r.k) (hb : l.length ≤ 1000000000) (hby : bytes ≤ 10000) (hG : ∀ b, a = some ⟨b, 0, none⟩ → ¬ G b) {K : Option Addr → Nat → Nat → World → Prop}
    (hk : ∀ a' c' w', Upd (fun b => a = some ⟨b, 0, none⟩) w₁ w' → OwnS r w' G a' c' e (l ++ [x]) → (a' = a ∨ ∃ b, a' = some ⟨b, 0, none⟩ ∧ w₁.heap.size ≤ b) → K a' (l ++ [x]).length c' w') :
    appendP e r.k bytes z a n cap (.slice (some ⟨B, 0, none⟩) 1 1) w₁ K := by
  subst hnl
  obtain ⟨vs, ho, hr⟩ := h
  have hl := r.len hx
  have hrow : RowAt w₁ (some ⟨B, 0, none⟩) cs.toList := RowAt.of hn.get fun j v hj => by simpa using hj
  refine append_own ho rfl (read_row hrow (by rw [hl]; omega)) (by rw [hl]; omega) (r.one hx) hz ?_ (by omega) fun a' c' w' hu ho' hf' => ?_
  · have : (2 * (l.length + 1) + 192) * bytes ≤ (2 * (1000000000 + 1) + 192) * 10000 := Nat.mul_le_mul (by omega) hby
    omega
  · have := hk a' c' w' hu ⟨_, by simpa using ho', Rows.upd hu (fun b hb hb' => hG b hb' hb) (hr.append (Rows.single hx))⟩ hf'
    simpa using this
/-- append of elements that lie elsewhere -/
theorem OwnS.concat {w₁ : World} {G : Nat → Prop} {a ax : Option Addr} {cap cx n m bytes : Nat} {e : TypeId} {l xs : List α} {z : List Value} (h : OwnS r w₁ G a cap e l) (hx : SliceAt r w₁ G ax xs) (hnl : n = l.length) (hm : m = xs.length)
    (hz : z.length = r.k) (hb : l.length + xs.length ≤ 1000000000) (hby : bytes ≤ 10000) (hG : ∀ b, a = some ⟨b, 0, none⟩ → ¬ G b) {K : Option Addr → Nat → Nat → World → Prop}
    (hk : ∀ a' c' w', Upd (fun b => a = some ⟨b, 0, none⟩) w₁ w' → OwnS r w' G a' c' e (l ++ xs) → (a' = a ∨ ∃ b, a' = some ⟨b, 0, none⟩ ∧ w₁.heap.size ≤ b) → K a' (l ++ xs).length c' w') :
    appendP e r.k bytes z a n cap (.slice ax m cx) w₁ K := by
  subst hnl; subst hm
  obtain ⟨vs, ho, hr⟩ := h
  obtain ⟨us, hu1, hu2, hu3⟩ := hx
  refine append_own ho rfl (read_row hu1 (by rw [Rows.len hu2])) (by rw [Rows.len hu2]) (Rows.one hu2) hz ?_ (by omega) fun a' c' w' hu ho' hf' => ?_
  · have : (2 * (l.length + xs.length) + 192) * bytes ≤ (2 * 1000000000 + 192) * 10000 := Nat.mul_le_mul (by omega) hby
    omega
  · have := hk a' c' w' hu ⟨_, by simpa using ho', Rows.upd hu (fun b hb hb' => hG b hb' hb) (hr.append hu2)⟩ hf'
    simpa using this
/-- an element is stored -/
theorem OwnS.store {w : World} {G : Nat → Prop} {b cap : Nat} {e : TypeId} {l : List α} (h : OwnS r w G (some ⟨b, 0, none⟩) cap e l) (hG : ¬ G b) {i : Nat} (hi : i < l.length) {us : List Value} {x : α} (hx : r.R w G us x) {K : World → Prop}
    (hk : ∀ w', Upd (· = b) w w' → OwnS r w' G (some ⟨b, 0, none⟩) cap e (l.set i x) → K w') : storeP w ⟨b, i * r.k, none⟩ us K := by
  obtain ⟨vs, ho, hr⟩ := h
  have hl := r.len hx
  have hvl := Rows.len hr
  have hin : i * r.k + r.k ≤ l.length * r.k := by
    have := Nat.mul_le_mul_right r.k (show i + 1 ≤ l.length from hi)
    rwa [Nat.succ_mul] at this
  refine own_store ho (by omega) fun w' hu ho' => hk w' hu ⟨vs.take (i * r.k) ++ us ++ vs.drop (i * r.k + us.length), ?_, ?_⟩
  · rw [List.length_set]; exact ho'
  · have := Rows.upd hu (fun b' hb hb' => hG (by subst hb'; exact hb)) (hr.set hi hx)
    rw [hl]; exact this
end
/-! ### Ways to lie -/
/-- cells alone -/
def flatR {α : Type} (f : α → List Value) (k : Nat) (hk : 1 ≤ k) (hl : ∀ x, (f x).length = k) (h1 : ∀ x, ∀ v ∈ f x, v.oneCell' = true) : ERep α where
  k := k
  R := fun _ _ vs x => vs = f x
  pos := hk
  len := fun h => by rw [h, hl]
  one := fun h => by rw [h]; exact h1 _
  upd := fun h _ _ => h
  mono := fun h _ => h
  cells := fun h _ => h
/-- two parts -/
def ERep.pair {α β γ : Type} (r : ERep β) (s : ERep γ) (f : α → β) (g : α → γ) : ERep α where
  k := r.k + s.k
  R := fun w G vs x => ∃ u v, vs = u ++ v ∧ r.R w G u (f x) ∧ s.R w G v (g x)
  pos := Nat.le_trans r.pos (Nat.le_add_right _ _)
  len := fun ⟨u, v, e, hu, hv⟩ => by rw [e, List.length_append, r.len hu, s.len hv]
  one := fun ⟨u, v, e, hu, hv⟩ => by
    rw [e]
    intro z hz
    rcases List.mem_append.1 hz with hz | hz
    · exact r.one hu z hz
    · exact s.one hv z hz
  upd := fun ⟨u, v, e, hu, hv⟩ k hf => ⟨u, v, e, r.upd hu k hf, s.upd hv k hf⟩
  mono := fun ⟨u, v, e, hu, hv⟩ hg => ⟨u, v, e, r.mono hu hg, s.mono hv hg⟩
  cells := fun ⟨u, v, e, hu, hv⟩ k => ⟨u, v, e, r.cells hu k, s.cells hv k⟩
/-- a slice -/
def sliceR {β : Type} (r : ERep β) : ERep (List β) where
  k := 1
  R := fun w G vs x => ∃ a c, vs = [.slice a x.length c] ∧ x.length ≤ c ∧ SliceAt r w G a x
  pos := Nat.le_refl _
  len := fun ⟨a, c, e, _⟩ => by rw [e]; rfl
  one := fun ⟨a, c, e, _⟩ => by
    rw [e]
    intro v hv
    simp at hv
    rw [hv]; rfl
  upd := fun ⟨a, c, e, hc, h⟩ k hf => ⟨a, c, e, hc, h.upd k hf⟩
  mono := fun ⟨a, c, e, hc, h⟩ hg => ⟨a, c, e, hc, h.mono hg⟩
  cells := fun ⟨a, c, e, hc, h⟩ k => ⟨a, c, e, hc, h.cellsLe k⟩
/-- bytes -/
def bytesR : ERep (List UInt8) where
  k := 1
  R := fun w G vs x => ∃ a c, vs = [.slice a x.length c] ∧ x.length ≤ c ∧ BytesAt w a x ∧ (x ≠ [] → ∀ p, a = some p → G p.block)
  pos := Nat.le_refl _
  len := fun ⟨a, c, e, _⟩ => by rw [e]; rfl
  one := fun ⟨a, c, e, _⟩ => by
    rw [e]
    intro v hv
    simp at hv
    rw [hv]; rfl
  upd := fun {w w' F G vs x} ⟨a, c, e, hc, hb, hg⟩ k hf => ⟨a, c, e, hc, BytesAt.updM hb k hg hf, hg⟩
  mono := fun ⟨a, c, e, hc, hb, hg⟩ hh => ⟨a, c, e, hc, hb, fun hn p hp => hh _ (hg hn p hp)⟩
  cells := fun ⟨a, c, e, hc, hb, hg⟩ k => ⟨a, c, e, hc, RowAt.cellsLe hb k, hg⟩
end Go.Den
end
section
set_option linter.unusedSimpArgs false
set_option linter.unusedVariables false
namespace Go.Den
section
variable {α : Type}
/-- a list whose cells a call owns, at S or behind; what its elements read lies there too, or in Q -/
def ListAt (r : ERep α) (Q : Nat → Prop) (S : Nat) (w : World) (a : Option Addr) (cap : Nat) (e : TypeId) (l : List α) : Prop :=
  ∃ G, OwnS r w G a cap e l ∧ (∀ x, G x → (S ≤ x ∨ Q x) ∧ x < w.heap.size) ∧ ∀ b, a = some ⟨b, 0, none⟩ → S ≤ b ∧ ¬ G b
variable {r : ERep α} {Q : Nat → Prop} {S : Nat}
theorem ListAt.nil (w : World) (e : TypeId) : ListAt r Q S w none 0 e [] := ⟨NoB, OwnS.nil _ _ _, fun _ h => h.elim, fun _ h => by cases h⟩
theorem ListAt.ext {w w' : World} {a : Option Addr} {cap : Nat} {e : TypeId} {l : List α} (h : ListAt r Q S w a cap e l) (k : Ext w w') : ListAt r Q S w' a cap e l := by
  obtain ⟨G, h1, h2, h3⟩ := h
  exact ⟨G, h1.ext k, fun x hx => ⟨(h2 x hx).1, Nat.lt_of_lt_of_le (h2 x hx).2 k.size⟩, h3⟩
theorem ListAt.cellsLe {w w' : World} {a : Option Addr} {cap : Nat} {e : TypeId} {l : List α} (h : ListAt r Q S w a cap e l) (k : CellsLe w w') : ListAt r Q S w' a cap e l := by
  obtain ⟨G, h1, h2, h3⟩ := h
  exact ⟨G, h1.cellsLe k, fun x hx => ⟨(h2 x hx).1, Nat.lt_of_lt_of_le (h2 x hx).2 k.size⟩, h3⟩
theorem ListAt.upd {w w' : World} {F : Nat → Prop} {a : Option Addr} {cap : Nat} {e : TypeId} {l : List α} (h : ListAt r Q S w a cap e l) (k : Upd F w w') (hF : ∀ x, F x → x < S ∧ ¬ Q x) : ListAt r Q S w' a cap e l := by
  obtain ⟨G, h1, h2, h3⟩ := h
  refine ⟨G, h1.upd k (fun b hb hf => ?_) (fun b hb hf => ?_), fun x hx => ⟨(h2 x hx).1, Nat.lt_of_lt_of_le (h2 x hx).2 k.size⟩, h3⟩
  · have hf' := hF b hf
    rcases (h2 b hb).1 with hq | hq
    · omega
    · exact hf'.2 hq
  · have hf' := hF b hf
    have := (h3 b hb).1
    omega
theorem ListAt.lt {w : World} {a : Option Addr} {cap : Nat} {e : TypeId} {l : List α} (h : ListAt r Q S w a cap e l) {b : Nat} (hb : a = some ⟨b, 0, none⟩) : b < w.heap.size := by
  obtain ⟨G, h1, _⟩ := h
  obtain ⟨b', h2, h3, h4⟩ := h1.blk hb
  cases h4
  exact h3
theorem ListAt.cap {w : World} {a : Option Addr} {cap : Nat} {e : TypeId} {l : List α} (h : ListAt r Q S w a cap e l) : l.length ≤ cap := by
  obtain ⟨G, h1, _⟩ := h
  exact h1.cap
theorem ListAt.slice {w : World} {a : Option Addr} {cap : Nat} {e : TypeId} {l : List α} (h : ListAt r Q S w a cap e l) : ∃ G, SliceAt r w G a l ∧ ∀ x, G x → (S ≤ x ∨ Q x) ∧ x < w.heap.size := by
  obtain ⟨G, h1, h2, h3⟩ := h
  refine ⟨fun x => G x ∨ a = some ⟨x, 0, none⟩, (h1.mono fun _ hb => .inl hb).at_ fun p hp => ?_, fun x hx => ?_⟩
  · obtain ⟨b, hb, _, rfl⟩ := h1.blk hp
    exact .inr hb
  · rcases hx with hx | hx
    · exact h2 x hx
    · obtain ⟨b, hb, hlt, e⟩ := h1.blk hx
      cases e
      exact ⟨.inl (h3 _ hx).1, hlt⟩
theorem ListAt.weak {w : World} {Q' : Nat → Prop} {S' : Nat} {a : Option Addr} {cap : Nat} {e : TypeId} {l : List α} (h : ListAt r Q S w a cap e l) (hS : S' ≤ S) (hQ : ∀ x, Q x → S' ≤ x ∨ Q' x) : ListAt r Q' S' w a cap e l := by
  obtain ⟨G, h1, h2, h3⟩ := h
  refine ⟨G, h1, fun x hx => ⟨?_, (h2 x hx).2⟩, fun b hb => ⟨Nat.le_trans hS (h3 b hb).1, (h3 b hb).2⟩⟩
  rcases (h2 x hx).1 with h | h
  · exact .inl (Nat.le_trans hS h)
  · exact hQ x h
/-- one more -/
theorem ListAt.push {w₀ w₁ : World} {H : Nat → Prop} {a : Option Addr} {cap n bytes : Nat} {e : TypeId} {l : List α} {z : List Value} (h : ListAt r Q S w₁ a cap e l) {B : Nat} {x : α} {cs : Array Value} (hx : r.R w₁ H cs.toList x) (hH : ∀ b, H b → (S ≤ b ∨ Q b) ∧ b < w₁.heap.size ∧ a ≠ some ⟨b, 0, none⟩) (hn : New w₀ (.cells cs e) B w₁) (hnl : n = l.length)
    (hz : z.length = r.k) (hb : l.length ≤ 1000000000) (hby : bytes ≤ 10000) (hS : S ≤ w₁.heap.size) {K : Option Addr → Nat → Nat → World → Prop}
    (hk : ∀ a' c' w', Upd (fun b => S ≤ b) w₁ w' → ListAt r Q S w' a' c' e (l ++ [x]) → K a' (l ++ [x]).length c' w') :
    appendP e r.k bytes z a n cap (.slice (some ⟨B, 0, none⟩) 1 1) w₁ K := by
  obtain ⟨G, h1, h2, h3⟩ := h
  have hG : ∀ b, G b ∨ H b → (S ≤ b ∨ Q b) ∧ b < w₁.heap.size := fun b hb => by
    rcases hb with hb | hb
    · exact h2 b hb
    · exact ⟨(hH b hb).1, (hH b hb).2.1⟩
  have hno : ∀ b, a = some ⟨b, 0, none⟩ → ¬ (G b ∨ H b) := fun b hb hb' => by
    rcases hb' with hb' | hb'
    · exact (h3 b hb).2 hb'
    · exact (hH b hb').2.2 hb
  refine OwnS.push (G := fun b => G b ∨ H b) (h1.mono fun _ hb => .inl hb) (r.mono hx fun _ hb => .inr hb) hn hnl hz hb hby hno fun a' c' w' hu ho hf => ?_
  refine hk a' c' w' (hu.mono fun b _ hb => (h3 b hb).1) ⟨_, ho, fun b hb => ⟨(hG b hb).1, Nat.lt_of_lt_of_le (hG b hb).2 hu.size⟩, fun b hb => ?_⟩
  rcases hf with hf | ⟨b', hb', hl⟩
  · subst hf; exact ⟨(h3 b hb).1, hno b hb⟩
  · rw [hb'] at hb
    cases hb
    exact ⟨Nat.le_trans hS hl, fun hb => absurd (hG _ hb).2 (by omega)⟩
/-- more behind it -/
theorem ListAt.concat {w₁ : World} {H : Nat → Prop} {a ax : Option Addr} {cap cx n m bytes : Nat} {e : TypeId} {l xs : List α} {z : List Value} (h : ListAt r Q S w₁ a cap e l) (hx : SliceAt r w₁ H ax xs) (hH : ∀ b, H b → (S ≤ b ∨ Q b) ∧ b < w₁.heap.size ∧ a ≠ some ⟨b, 0, none⟩) (hnl : n = l.length) (hm : m = xs.length)
    (hz : z.length = r.k) (hb : l.length + xs.length ≤ 1000000000) (hby : bytes ≤ 10000) (hS : S ≤ w₁.heap.size) {K : Option Addr → Nat → Nat → World → Prop}
    (hk : ∀ a' c' w', Upd (fun b => S ≤ b) w₁ w' → ListAt r Q S w' a' c' e (l ++ xs) → K a' (l ++ xs).length c' w') :
    appendP e r.k bytes z a n cap (.slice ax m cx) w₁ K := by
  obtain ⟨G, h1, h2, h3⟩ := h
  have hG : ∀ b, G b ∨ H b → (S ≤ b ∨ Q b) ∧ b < w₁.heap.size := fun b hb => by
    rcases hb with hb | hb
    · exact h2 b hb
    · exact ⟨(hH b hb).1, (hH b hb).2.1⟩
  have hno : ∀ b, a = some ⟨b, 0, none⟩ → ¬ (G b ∨ H b) := fun b hb hb' => by
    rcases hb' with hb' | hb'
    · exact (h3 b hb).2 hb'
    · exact (hH b hb').2.2 hb
  refine OwnS.concat (G := fun b => G b ∨ H b) (h1.mono fun _ hb => .inl hb) (hx.mono fun _ hb => .inr hb) hnl hm hz hb hby hno fun a' c' w' hu ho hf => ?_
  refine hk a' c' w' (hu.mono fun b _ hb => (h3 b hb).1) ⟨_, ho, fun b hb => ⟨(hG b hb).1, Nat.lt_of_lt_of_le (hG b hb).2 hu.size⟩, fun b hb => ?_⟩
  rcases hf with hf | ⟨b', hb', hl⟩
  · subst hf; exact ⟨(h3 b hb).1, hno b hb⟩
  · rw [hb'] at hb
    cases hb
    exact ⟨Nat.le_trans hS hl, fun hb => absurd (hG _ hb).2 (by omega)⟩
end
/-! ### Numbers that are summed up in a new order: a world behind changes of new blocks -/
theorem Ext.new {w w' : World} {S : Nat} (h : Upd (fun b => S ≤ b) w w') (hS : w.heap.size ≤ S) : Ext w w' := h.mono fun x hx hs => absurd hx (by omega)
theorem Ext.own {w w₁ w' : World} {S : Nat} (h : Ext w w₁) (k : Upd (fun b => S ≤ b) w₁ w') (hS : w.heap.size ≤ S) : Ext w w' := h.beyond k fun x hx => Nat.le_trans hS hx
end Go.Den
end
section
set_option linter.unusedVariables false
set_option linter.unusedSimpArgs false
set_option maxRecDepth 8000
namespace Go.Den
/-- what is left of a reader; none: it refused -/
abbrev St := Option (List UInt8)
def takeS (k : Nat) : St → Nat × Nat × St
  | some l => if l.length < k then (0, 4, none) else (fromLE (l.take k), 0, some (l.drop k))
  | none => (0, 4, none)
def cutS (k : Nat) : St → List UInt8 × Nat × St
  | some l => if l.length < k then ([], 4, none) else (l.take k, 0, some (l.drop k))
  | none => ([], 4, none)
def rowS (s : St) : List UInt8 × Nat × St := if (takeS 1 s).2.1 = 0 then cutS (takeS 1 s).1 (takeS 1 s).2.2 else ([], 4, none)
def leftS : St → Nat
  | some l => l.length
  | none => 0
theorem takeS_cases (k : Nat) (s : St) : takeS k s = (0, 4, none) ∨ ∃ l, s = some l ∧ k ≤ l.length ∧ takeS k s = (fromLE (l.take k), 0, some (l.drop k)) := by
  cases s with
  | none => exact .inl rfl
  | some l =>
    by_cases h : l.length < k
    · exact .inl (by simp [takeS, h])
    · exact .inr ⟨l, rfl, by omega, by simp [takeS, h]⟩
theorem takeS_lt (k : Nat) (s : St) : (takeS k s).1 < 256 ^ k := by
  rcases takeS_cases k s with h | ⟨l, _, hk, h⟩
  · rw [h]; exact Nat.pow_pos (by omega)
  · rw [h]
    have := fromLE_lt (l.take k)
    simpa [Nat.min_eq_left hk] using this
theorem takeS_err {k : Nat} {s : St} (h : (takeS k s).2.1 ≠ 0) : takeS k s = (0, 4, none) := by
  rcases takeS_cases k s with h' | ⟨l, _, hk, h'⟩
  · exact h'
  · rw [h'] at h; exact absurd rfl h
theorem cutS_cases (k : Nat) (s : St) : cutS k s = ([], 4, none) ∨ ∃ l, s = some l ∧ k ≤ l.length ∧ cutS k s = (l.take k, 0, some (l.drop k)) := by
  cases s with
  | none => exact .inl rfl
  | some l =>
    by_cases h : l.length < k
    · exact .inl (by simp [cutS, h])
    · exact .inr ⟨l, rfl, by omega, by simp [cutS, h]⟩
theorem rowS_err {s : St} (h : (rowS s).2.1 ≠ 0) : rowS s = ([], 4, none) := by
  unfold rowS at h ⊢
  split
  · rename_i h0
    rw [if_pos h0] at h
    rcases cutS_cases (takeS 1 s).1 (takeS 1 s).2.2 with h' | ⟨l, _, _, h'⟩
    · exact h'
    · rw [h'] at h; exact absurd rfl h
  · rfl
theorem rowS_len (s : St) : (rowS s).1.length < 256 := by
  unfold rowS
  split
  · have hlt := takeS_lt 1 s
    rcases cutS_cases (takeS 1 s).1 (takeS 1 s).2.2 with h' | ⟨l, _, _, h'⟩
    · rw [h']; decide
    · rw [h']
      simp only [List.length_take]
      omega
  · decide
/-! ### The reader of ends -/
def RdIn (G : Nat → Prop) (w : World) (r : Nat) : St → Prop
  | some l => ReaderIn G w r l false
  | none => ∃ l, ReaderIn G w r l true
theorem ReaderIn.updG {F G : Nat → Prop} {w w' : World} {r : Nat} {l : List UInt8} {no : Bool} (h : ReaderIn G w r l no) (k : Upd F w w') (hr : ¬ F r) (hG : ∀ x, G x → ¬ F x) : ReaderIn G w' r l no := by
  obtain ⟨a, c, h1, h2, h3, h4⟩ := h.at_
  exact ⟨a, c, Upd.get k h1 hr, RowAt.upd h2 k fun p hp => hG _ (h4 p hp), h3, h4⟩
theorem RdIn.upd {F G : Nat → Prop} {w w' : World} {r : Nat} : ∀ {s : St}, RdIn G w r s → Upd F w w' → ¬ F r → (∀ x, G x → ¬ F x) → RdIn G w' r s
  | some l, h, k, hr, hG => ReaderIn.updG h k hr hG
  | none, ⟨l, h⟩, k, hr, hG => ⟨l, h.updG k hr hG⟩
theorem RdIn.ext {G : Nat → Prop} {w w' : World} {r : Nat} {s : St} (h : RdIn G w r s) (k : Ext w w') : RdIn G w' r s := h.upd k (fun h => h) fun _ _ h => h
theorem rdTake {G : Nat → Prop} {w : World} {r k : Nat} {s : St} (hk : isSz k = true) (hG : ¬ G r) (h : RdIn G w r s) :
    CallsR prog K.ends_Reader_Take #[.pointer (some ⟨r, 0, none⟩), .int .i64 k] w fun v w' => Upd (· = r) w w' ∧ v = .tuple #[.int .u64 ((takeS k s).1 : Nat), .int .i64 ((takeS k s).2.1 : Nat)] ∧ RdIn G w' r (takeS k s).2.2 := by
  cases s with
  | none =>
    obtain ⟨l, h⟩ := h
    refine (ends_Reader_Take_in r k l true w hk hG h).mono ?_
    rintro v w' ⟨hu, hv⟩
    rw [if_pos (.inl rfl)] at hv
    exact ⟨hu, hv.1, l, hv.2⟩
  | some l =>
    refine (ends_Reader_Take_in r k l false w hk hG h).mono ?_
    rintro v w' ⟨hu, hv⟩
    refine ⟨hu, ?_⟩
    unfold takeS
    by_cases hl : l.length < k
    · rw [if_pos (.inr hl)] at hv
      simp only [if_pos hl]
      exact ⟨hv.1, l, hv.2⟩
    · rw [if_neg (by rintro (h | h); cases h; exact hl h)] at hv
      simp only [if_neg hl]
      exact hv
theorem rdCut {G : Nat → Prop} {w : World} {r k : Nat} {s : St} (hG : ¬ G r) (h : RdIn G w r s) :
    CallsR prog K.ends_Reader_cut #[.pointer (some ⟨r, 0, none⟩), .int .i64 k] w fun v w' => Upd (· = r) w w' ∧ (∃ a c, v = .tuple #[.slice a (cutS k s).1.length c, .int .i64 ((cutS k s).2.1 : Nat)] ∧ BytesAt w' a (cutS k s).1) ∧ RdIn G w' r (cutS k s).2.2 := by
  cases s with
  | none =>
    obtain ⟨l, h⟩ := h
    refine (ends_Reader_cut_in r k l true w hG h).mono ?_
    rintro v w' ⟨hu, hv⟩
    rw [if_pos (.inl rfl)] at hv
    exact ⟨hu, ⟨none, 0, hv.1, BytesAt.nil _ _⟩, l, hv.2⟩
  | some l =>
    refine (ends_Reader_cut_in r k l false w hG h).mono ?_
    rintro v w' ⟨hu, hv⟩
    refine ⟨hu, ?_⟩
    unfold cutS
    by_cases hl : l.length < k
    · rw [if_pos (.inr hl)] at hv
      simp only [if_pos hl]
      exact ⟨⟨none, 0, hv.1, BytesAt.nil _ _⟩, l, hv.2⟩
    · rw [if_neg (by rintro (h | h); cases h; exact hl h)] at hv
      simp only [if_neg hl]
      obtain ⟨a, c, h1, h2, h3⟩ := hv
      have : (l.take k).length = k := by simp; omega
      exact ⟨⟨a, c, by rw [this]; exact h1, h2⟩, h3⟩
theorem rdRow {G : Nat → Prop} {w : World} {r : Nat} {s : St} (hG : ¬ G r) (h : RdIn G w r s) :
    CallsR prog K.ends_Reader_Row #[.pointer (some ⟨r, 0, none⟩)] w fun v w' => Upd (· = r) w w' ∧ (∃ a c, v = .tuple #[.slice a (rowS s).1.length c, .int .i64 ((rowS s).2.1 : Nat)] ∧ BytesAt w' a (rowS s).1 ∧ (rowS s).1.length ≤ c ∧ ∀ p, a = some p → w.heap.size ≤ p.block ∧ p.block < w'.heap.size) ∧ RdIn G w' r (rowS s).2.2 := by
  apply ends_Reader_Row.sh
  unfold ends_Reader_Row.body
  refine (rdTake (k := 1) (by decide) hG h).mono ?_
  rintro _ w₁ ⟨hu, rfl, hr⟩
  refine ⟨_, _, rfl, br_ne (fun he => ?_) fun he => ?_⟩
  · have he' := takeS_err (k := 1) (s := s) (by omega)
    have hrow : rowS s = ([], 4, none) := by unfold rowS; rw [he']; rfl
    rw [he'] at hr ⊢
    rw [hrow]
    exact ⟨hu, ⟨none, 0, rfl, BytesAt.nil _ _, Nat.le_refl _, fun _ h => by cases h⟩, hr⟩
  · have he0 : (takeS 1 s).2.1 = 0 := by omega
    have hrow : rowS s = cutS (takeS 1 s).1 (takeS 1 s).2.2 := by unfold rowS; rw [if_pos he0]
    have hlt := takeS_lt 1 s
    rw [w64n (by omega)]
    refine (rdCut hG hr).mono ?_
    rintro _ w₂ ⟨hu2, ⟨a, c, rfl, hb⟩, hr2⟩
    rw [← hrow] at hb hr2 ⊢
    have hlen := rowS_len s
    refine ⟨_, _, _, _, rfl, append_copy hb (by omega) fun a' c' w₃ he hb' hc hf hn => ?_⟩
    refine ⟨(hu.trans hu2).trans he.ext, ⟨a', c', rfl, hb', hc, fun p hp => ⟨?_, ?_⟩⟩, hr2.ext he⟩
    · exact Nat.le_trans (Nat.le_trans hu.size hu2.size) (hf p hp)
    · by_cases hl : (rowS s).1 = []
      · rw [hn hl] at hp; cases hp
      · obtain ⟨b, o, hab, hlt⟩ := RowAt.blk hb' (by simpa using hl)
        rw [hab] at hp; cases hp; exact hlt
theorem rdLeft {G : Nat → Prop} {w : World} {r : Nat} {s : St} (h : RdIn G w r s) :
    CallsR prog K.ends_Reader_Left #[.pointer (some ⟨r, 0, none⟩)] w fun v w' => v = .int .i64 (leftS s : Nat) ∧ w' = w := by
  apply ends_Reader_Left.sh
  unfold ends_Reader_Left.body
  cases s with
  | none =>
    obtain ⟨l, h⟩ := h
    refine (ends_Reader_off_spec r l true w h).mono ?_
    rintro _ _ ⟨rfl, rfl⟩
    obtain ⟨a, c, hr, _⟩ := h.at_
    refine ⟨_, rfl, ?_⟩
    simp only [br_false, nilC_some', add_lit, Nat.zero_add]
    exact ⟨true, cell_of hr rfl, by simp [leftS]⟩
  | some l =>
    refine (ends_Reader_off_spec r l false w h).mono ?_
    rintro _ _ ⟨rfl, rfl⟩
    obtain ⟨a, c, hr, _⟩ := ReaderIn.at_ h
    refine ⟨_, rfl, ?_⟩
    simp only [br_false, nilC_some', add_lit, Nat.zero_add]
    exact ⟨false, cell_of hr rfl, a, l.length, c, cell_of hr rfl, by simp [leftS]⟩
/-! ### That of the reference -/
def RRdIn (G : Nat → Prop) (w : World) (r : Nat) : St → Prop
  | some l => RReaderIn G w r l false ∧ l.length ≤ 1000000000000
  | none => ∃ l, RReaderIn G w r l true
theorem RReaderIn.updG {F G : Nat → Prop} {w w' : World} {r : Nat} {l : List UInt8} {no : Bool} (h : RReaderIn G w r l no) (k : Upd F w w') (hr : ¬ F r) (hG : ∀ x, G x → ¬ F x) : RReaderIn G w' r l no := by
  obtain ⟨a, c, h1, h2, h3, h4⟩ := h.at_
  exact ⟨a, c, Upd.get k h1 hr, RowAt.upd h2 k fun p hp => hG _ (h4 p hp), h3, h4⟩
theorem RRdIn.upd {F G : Nat → Prop} {w w' : World} {r : Nat} : ∀ {s : St}, RRdIn G w r s → Upd F w w' → ¬ F r → (∀ x, G x → ¬ F x) → RRdIn G w' r s
  | some l, h, k, hr, hG => ⟨RReaderIn.updG h.1 k hr hG, h.2⟩
  | none, ⟨l, h⟩, k, hr, hG => ⟨l, h.updG k hr hG⟩
theorem RRdIn.ext {G : Nat → Prop} {w w' : World} {r : Nat} {s : St} (h : RRdIn G w r s) (k : Ext w w') : RRdIn G w' r s := h.upd k (fun h => h) fun _ _ h => h
theorem rrdTake {G : Nat → Prop} {w : World} {r k : Nat} {s : St} (hk : isSz k = true) (hG : ¬ G r) (h : RRdIn G w r s) :
    CallsR prog K.carrackref01_Reader_Take #[.pointer (some ⟨r, 0, none⟩), .int .i64 k] w fun v w' => Upd (· = r) w w' ∧ v = .tuple #[.int .u64 ((takeS k s).1 : Nat), .int .i64 ((takeS k s).2.1 : Nat)] ∧ RRdIn G w' r (takeS k s).2.2 := by
  cases s with
  | none =>
    obtain ⟨l, h⟩ := h
    refine (carrackref01_Reader_Take_in r k l true w hk hG h).mono ?_
    rintro v w' ⟨hu, hv⟩
    rw [if_pos (.inl rfl)] at hv
    exact ⟨hu, hv.1, l, hv.2⟩
  | some l =>
    refine (carrackref01_Reader_Take_in r k l false w hk hG h.1).mono ?_
    rintro v w' ⟨hu, hv⟩
    refine ⟨hu, ?_⟩
    unfold takeS
    by_cases hl : l.length < k
    · rw [if_pos (.inr hl)] at hv
      simp only [if_pos hl]
      exact ⟨hv.1, l, hv.2⟩
    · rw [if_neg (by rintro (h | h); cases h; exact hl h)] at hv
      simp only [if_neg hl]
      exact ⟨hv.1, hv.2, by have := h.2; rw [List.length_drop]; omega⟩
theorem rrdLeft {G : Nat → Prop} {w : World} {r : Nat} {s : St} (h : RRdIn G w r s) :
    CallsR prog K.carrackref01_Reader_Left #[.pointer (some ⟨r, 0, none⟩)] w fun v w' => v = .int .i64 (leftS s : Nat) ∧ w' = w := by
  apply carrackref01_Reader_Left.sh
  unfold carrackref01_Reader_Left.body
  simp only [nilC_some', add_lit, Nat.zero_add]
  cases s with
  | none =>
    obtain ⟨l, h⟩ := h
    obtain ⟨a, c, hr, _⟩ := h.at_
    exact ⟨true, cell_of hr rfl, by simp [leftS]⟩
  | some l =>
    obtain ⟨a, c, hr, _⟩ := h.1.at_
    exact ⟨false, cell_of hr rfl, a, l.length, c, cell_of hr rfl, by simp [leftS]⟩
theorem rowS_some {l : List UInt8} (h1 : 1 ≤ l.length) : rowS (some l) = cutS (l.getD 0 0).toNat (some (l.drop 1)) := by
  have e1 : fromLE (l.take 1) = (l.getD 0 0).toNat := by cases l <;> simp [fromLE]
  have e2 : takeS 1 (some l) = ((l.getD 0 0).toNat, 0, some (l.drop 1)) := by simp [takeS, Nat.not_lt.2 h1, e1]
  unfold rowS
  rw [e2]; rfl
theorem rrdRow {G : Nat → Prop} {w : World} {r : Nat} {s : St} (hG : ¬ G r) (h : RRdIn G w r s) :
    CallsR prog K.carrackref01_Reader_Row #[.pointer (some ⟨r, 0, none⟩)] w fun v w' => Upd (· = r) w w' ∧ (∃ a c, v = .tuple #[.slice a (rowS s).1.length c, .int .i64 ((rowS s).2.1 : Nat)] ∧ BytesAt w' a (rowS s).1 ∧ (rowS s).1.length ≤ c ∧ ∀ p, a = some p → w.heap.size ≤ p.block ∧ p.block < w'.heap.size) ∧ RRdIn G w' r (rowS s).2.2 := by
  apply carrackref01_Reader_Row.sh
  unfold carrackref01_Reader_Row.body
  simp only [nilC_some', add_lit, Nat.zero_add]
  have bad : ∀ {u : World} {l : List UInt8} {no : Bool}, RReaderIn G u r l no → Ext w u → rowS s = ([], 4, none) → storeP u ⟨r, 1, none⟩ [.bool true] fun w' => Upd (· = r) w w' ∧ (∃ a c, Value.tuple #[.slice none 0 0, .int .i64 4] = .tuple #[.slice a (rowS s).1.length c, .int .i64 ((rowS s).2.1 : Nat)] ∧ BytesAt w' a (rowS s).1 ∧ (rowS s).1.length ≤ c ∧ ∀ p, a = some p → w.heap.size ≤ p.block ∧ p.block < w'.heap.size) ∧ RRdIn G w' r (rowS s).2.2 := by
    intro u l no hr he hrow
    obtain ⟨a, c, h1, h2, h3, h4⟩ := hr.at_
    rw [hrow]
    refine store_of h1 (by simp) fun w' hput => ⟨Upd.trans he.ext hput.upd1, ⟨none, 0, rfl, BytesAt.nil _ _, Nat.le_refl _, fun _ h => by cases h⟩, l, ⟨a, c, hput.get, ?_, h3, h4⟩⟩
    exact RowAt.upd h2 hput.upd1 fun p hp e => hG (e ▸ h4 p hp)
  cases s with
  | none =>
    obtain ⟨l, h⟩ := h
    refine ⟨fun _ => False, fun w₁ hd => ?_, fun _ h => h.elim⟩
    have hr := h.updG hd.upd (fun h => h) (fun _ _ h => h)
    obtain ⟨a, c, h1, _⟩ := hr.at_
    refine ⟨(· = w₁), rfl, true, ?_, ?_⟩
    · rintro u rfl; exact cell_of h1 rfl
    · exact bad hr hd.upd rfl
  | some l =>
    obtain ⟨hrd, hsz⟩ := h
    refine ⟨fun u => RReaderIn G u r l false ∧ Ext w u ∧ 1 ≤ l.length ∧ (l.getD 0 0).toNat ≤ l.length - 1, fun w₁ hd => ?_, ?_⟩
    · have hr := hrd.updG hd.upd (fun h => h) (fun _ _ h => h)
      obtain ⟨a, c, h1, h2, h3, h4⟩ := hr.at_
      refine ⟨(· = w₁), rfl, false, ?_, ?_⟩
      · rintro u rfl; exact cell_of h1 rfl
      · refine ⟨a, l.length, c, ?_, br_dec (fun hl => ?_) fun hl => ?_⟩
        · rintro u rfl; exact cell_of h1 rfl
        · refine bad hr hd.upd ?_
          have : takeS 1 (some l) = (0, 4, none) := by simp only [takeS]; rw [if_pos (by omega)]
          unfold rowS; rw [this]; rfl
        · have hl1 : 1 ≤ l.length := by omega
          refine ⟨a, l.length, c, ?_, a, l.length, c, ?_, ?_⟩
          · rintro u rfl; exact cell_of h1 rfl
          · rintro u rfl; exact cell_of h1 rfl
          refine idx_byteS (S := (· = w₁)) (l := l) (i := 0) (a := a) (by rintro u rfl; exact h2) ⟨_, rfl⟩ (by omega) (by omega) ?_
          have hbx := (l.getD 0 0).toNat_lt
          have q1 : IntKind.i64.wrap ((l.length : Int) - 1) = (l.length : Int) - 1 := w64 (by omega) (by omega)
          have q2 : IntKind.i64.wrap ((l.getD (Int.toNat 0) 0).toNat : Int) = ((l.getD 0 0).toNat : Int) := w64 (by simp only [Int.toNat_zero]; omega) (by simp only [Int.toNat_zero]; omega)
          simp only [q1, q2]
          refine br_dec (fun hlt => ?_) fun hge => ?_
          · refine bad hr hd.upd ?_
            rw [rowS_some hl1]
            unfold cutS
            simp only []
            rw [if_pos (by rw [List.length_drop]; omega)]
          · exact ⟨hr, hd.upd, hl1, by omega⟩
    · rintro w₅ ⟨hr, he, hl1, hle⟩
      obtain ⟨a, c, h1, h2, h3, h4⟩ := hr.at_
      have hbx := (l.getD 0 0).toNat_lt
      have hrow : rowS (some l) = ((l.drop 1).take (l.getD 0 0).toNat, 0, some (l.drop (1 + (l.getD 0 0).toNat))) := by
        rw [rowS_some hl1]
        unfold cutS
        simp only []
        rw [if_neg (by rw [List.length_drop]; omega), List.drop_drop]
      refine ⟨a, l.length, c, cell_of h1 rfl, idx_byte h2 (by omega) (by omega) ?_⟩
      have q2 : IntKind.i64.wrap ((l.getD (Int.toNat 0) 0).toNat : Int) = ((l.getD 0 0).toNat : Int) := w64 (by simp only [Int.toNat_zero]; omega) (by simp only [Int.toNat_zero]; omega)
      have q3 : IntKind.i64.wrap ((1 : Int) + ((l.getD 0 0).toNat : Int)) = 1 + ((l.getD 0 0).toNat : Int) := w64 (by omega) (by omega)
      simp only [q2, q3]
      have q4 : ((1 : Int) + ((l.getD 0 0).toNat : Int)).toNat = 1 + (l.getD 0 0).toNat := by omega
      refine ⟨a, l.length, c, cell_of h1 rfl, slice_bytes_mid h2 (by omega) (by omega) (by omega) h3 (.inl rfl) fun a6 c6 hb6 hc6 => ?_⟩
      have em : (l.take ((1 : Int) + ((l.getD 0 0).toNat : Int)).toNat).drop (Int.toNat 1) = (rowS (some l)).1 := by
        rw [hrow, q4]
        show (l.take (1 + (l.getD 0 0).toNat)).drop 1 = (l.drop 1).take (l.getD 0 0).toNat
        rw [List.drop_take, Nat.add_sub_cancel_left]
      have hlen := rowS_len (some l)
      rw [em] at hb6 hc6 ⊢
      refine append_copy hb6 (by omega) fun a7 c7 w₆ he6 hb7 hc7 hf7 hn7 => ?_
      have g1 := Ext.get he6 h1
      refine ⟨a, l.length, c, cell_of g1 rfl, slice_bytes_from (h2.ext he6) (by omega) (by omega) h3 fun a9 c9 hb9 hc9 ha9 _ _ => ?_⟩
      rw [q4] at hb9 hc9 ⊢
      refine store_of g1 (by simp) fun w₇ hput => ⟨(he.trans he6).ext.trans hput.upd1, ⟨a7, c7, ?_, RowAt.upd hb7 hput.upd1 fun p hp e => ?_, hc7, fun p hp => ⟨Nat.le_trans he.size (hf7 p hp), ?_⟩⟩, ?_⟩
      · rw [hrow]; rfl
      · have := hf7 p hp
        have hr5 : r < w₅.heap.size := (Array.getElem?_eq_some_iff.1 h1).1
        omega
      · by_cases hl : (rowS (some l)).1 = []
        · rw [hn7 hl] at hp; cases hp
        · obtain ⟨b, o, hab, hlt⟩ := RowAt.blk hb7 (by simpa using hl)
          rw [hab] at hp; cases hp; rw [hput.size]; exact hlt
      · rw [hrow]
        have hne : ∀ p, a9 = some p → G p.block := by
          intro p hp
          rcases ha9 with ha9 | ha9
          · exact h4 p (ha9 ▸ hp)
          · rw [ha9] at hp
            cases a with
            | none => simp at hp
            | some q =>
              simp at hp
              have := h4 q rfl
              rw [← hp]
              unfold Addr.add
              split <;> exact this
        exact ⟨⟨a9, c9, hput.get, RowAt.upd hb9 hput.upd1 fun p hp e => hG (e ▸ hne p hp), hc9, hne⟩, by rw [List.length_drop]; omega⟩
end Go.Den
end
section
set_option linter.unusedVariables false
set_option linter.unusedSimpArgs false
namespace Go.Den
def mayByte (c : UInt8) : Bool := (decide (97 ≤ c.toNat) && decide (c.toNat ≤ 122)) || (decide (48 ≤ c.toNat) && decide (c.toNat ≤ 57)) || decide (c.toNat = 46) || decide (c.toNat = 45)
def isName (s : List UInt8) : Bool := s.all mayByte && decide (1 ≤ s.length) && decide (s.length ≤ 12) && !(s == [46]) && !(s == [46, 46])
structure Key where
  ino : Int
  what : UInt8
  name : ByteArray
  chunk : Int
  deriving DecidableEq
namespace Key
def zero : Key := ⟨0, 0, ByteArray.empty, 0⟩
def bytes (k : Key) : List UInt8 := k.name.data.toList
def vals (k : Key) : List Value := [.int .i64 k.ino, bv k.what, .string k.name, .int .i64 k.chunk]
def may (k : Key) : Bool := decide (1 ≤ k.ino) && decide (k.ino ≤ 65535) &&
  ((decide (k.what.toNat = 1) && decide (k.bytes = []) && decide (k.chunk = 0)) || (decide (k.what.toNat = 2) && isName k.bytes && decide (k.chunk = 0)) || (decide (k.what.toNat = 3) && decide (k.bytes = []) && decide (0 ≤ k.chunk) && decide (k.chunk < 8)))
/-- a key's numbers, in the order in which they count -/
def code (k : Key) : List Int := k.ino :: (k.what.toNat : Int) :: (k.bytes.map (fun b => (b.toNat : Int) + 1) ++ [0, k.chunk])
end Key
abbrev keyV (k : Key) : Value := .agg #[.int .i64 k.ino, bv k.what, .string k.name, .int .i64 k.chunk]
def listLt : List Int → List Int → Bool
  | [], [] => false
  | [], _ :: _ => true
  | _ :: _, [] => false
  | x :: xs, y :: ys => decide (x < y) || (decide (x = y) && listLt xs ys)
theorem listLt_irrefl : ∀ l, listLt l l = false
  | [] => rfl
  | x :: l => by simp [listLt, listLt_irrefl l]
theorem listLt_trans : ∀ {a b c}, listLt a b = true → listLt b c = true → listLt a c = true
  | [], [], _, h, _ => by cases h
  | [], _ :: _, [], _, h => by cases h
  | [], _ :: _, _ :: _, _, _ => rfl
  | _ :: _, [], _, h, _ => by cases h
  | _ :: _, _ :: _, [], _, h => by cases h
  | x :: xs, y :: ys, z :: zs, h, k => by
    simp only [listLt, Bool.or_eq_true, Bool.and_eq_true, decide_eq_true_eq] at h k ⊢
    rcases h with h | ⟨h1, h2⟩
    · rcases k with k | ⟨k1, k2⟩
      · exact .inl (by omega)
      · exact .inl (by omega)
    · rcases k with k | ⟨k1, k2⟩
      · exact .inl (by omega)
      · exact .inr ⟨by omega, listLt_trans h2 k2⟩
theorem listLt_total : ∀ {a b}, listLt a b = false → listLt b a = false → a = b
  | [], [], _, _ => rfl
  | [], _ :: _, h, _ => by cases h
  | _ :: _, [], _, h => by cases h
  | x :: xs, y :: ys, h, k => by
    simp only [listLt, Bool.or_eq_false_iff, Bool.and_eq_false_iff, decide_eq_false_iff_not] at h k
    have e : x = y := by omega
    subst e
    have h2 : listLt xs ys = false := by rcases h.2 with h | h; exact absurd rfl h; exact h
    have k2 : listLt ys xs = false := by rcases k.2 with h | h; exact absurd rfl h; exact h
    rw [listLt_total h2 k2]
theorem map_append_inj {f : UInt8 → Int} (hf : ∀ x y, f x = f y → x = y) (h0 : ∀ x, f x ≠ 0) : ∀ {a b : List UInt8} {x y : Int}, a.map f ++ [0, x] = b.map f ++ [0, y] → a = b ∧ x = y
  | [], [], _, _, h => by simpa using h
  | [], b :: bs, _, _, h => by simp at h; exact absurd h.1.symm (h0 b)
  | a :: l, [], _, _, h => by simp at h; exact absurd h.1 (h0 a)
  | a :: l, b :: bs, _, _, h => by
    simp only [List.map_cons, List.cons_append, List.cons.injEq] at h
    obtain ⟨e1, e2⟩ := map_append_inj hf h0 h.2
    exact ⟨by rw [hf _ _ h.1, e1], e2⟩
theorem Key.code_inj {a b : Key} (h : a.code = b.code) : a = b := by
  obtain ⟨a1, a2, a3, a4⟩ := a
  obtain ⟨b1, b2, b3, b4⟩ := b
  simp only [Key.code, Key.bytes, List.cons.injEq] at h
  obtain ⟨h1, h2, h3⟩ := h
  obtain ⟨e1, e2⟩ := map_append_inj (f := fun b : UInt8 => (b.toNat : Int) + 1) (fun x y h => UInt8.toNat_inj.1 (by have h' : (x.toNat : Int) + 1 = (y.toNat : Int) + 1 := h; omega)) (fun x => by show (x.toNat : Int) + 1 ≠ 0; omega) h3
  have e3 : a3 = b3 := by
    obtain ⟨⟨a3⟩⟩ := a3
    obtain ⟨⟨b3⟩⟩ := b3
    simp only at e1
    rw [e1]
  rw [h1, UInt8.toNat_inj.1 (by omega : a2.toNat = b2.toNat), e3, e2]
def before (a b : Key) : Bool := listLt a.code b.code
theorem before_irrefl (a : Key) : before a a = false := listLt_irrefl _
theorem before_trans {a b c : Key} (h : before a b = true) (k : before b c = true) : before a c = true := listLt_trans h k
theorem before_total {a b : Key} (h : before a b = false) (k : before b a = false) : a = b := Key.code_inj (listLt_total h k)
theorem before_asymm {a b : Key} (h : before a b = true) : before b a = false := by
  cases hb : before b a with
  | false => rfl
  | true =>
    have := before_trans h hb
    rw [before_irrefl] at this
    cases this
structure Fact where
  key : Key
  val : List UInt8
  deriving DecidableEq
structure Change where
  key : Key
  val : List UInt8
  gone : Bool
  deriving DecidableEq
def ordered : List Fact → Bool
  | [] => true
  | [_] => true
  | x :: y :: l => before x.key y.key && ordered (y :: l)
def Sorted (l : List Fact) : Prop := l.Pairwise fun a b => before a.key b.key = true
theorem ordered_sorted : ∀ {l : List Fact}, ordered l = true ↔ Sorted l
  | [] => by simp [ordered, Sorted]
  | [x] => by simp [ordered, Sorted]
  | x :: y :: l => by
    unfold ordered
    rw [Bool.and_eq_true, ordered_sorted (l := y :: l)]
    unfold Sorted
    rw [List.pairwise_cons (a := x)]
    constructor
    · rintro ⟨h1, h2⟩
      refine ⟨fun z hz => ?_, h2⟩
      rcases List.mem_cons.1 hz with rfl | hz
      · exact h1
      · exact before_trans h1 ((List.pairwise_cons.1 h2).1 z hz)
    · rintro ⟨h1, h2⟩
      exact ⟨h1 y (by simp), h2⟩
/-- a change is done -/
def putF (c : Change) : List Fact → List Fact
  | [] => if c.gone then [] else [⟨c.key, c.val⟩]
  | x :: l => if x.key = c.key then (if c.gone then l else ⟨c.key, c.val⟩ :: l) else if before c.key x.key then (if c.gone then x :: l else ⟨c.key, c.val⟩ :: x :: l) else x :: putF c l
def applyL (l : List Fact) (cs : List Change) : List Fact := cs.foldl (fun l c => putF c l) l
def applyF (l : List Fact) (cs : List Change) : List Fact := if ordered l then applyL l cs else []
theorem putF_mem {c : Change} {y : Fact} : ∀ {l : List Fact}, y ∈ putF c l → y ∈ l ∨ (c.gone = false ∧ y = ⟨c.key, c.val⟩)
  | [], h => by
    unfold putF at h
    split at h
    · cases h
    · rename_i hg
      exact .inr ⟨by simpa using hg, by simpa using h⟩
  | x :: l, h => by
    unfold putF at h
    split at h
    · split at h
      · exact .inl (by simp [h])
      · rename_i hg
        rcases List.mem_cons.1 h with h | h
        · exact .inr ⟨by simpa using hg, h⟩
        · exact .inl (by simp [h])
    · split at h
      · split at h
        · exact .inl h
        · rename_i hg
          rcases List.mem_cons.1 h with h | h
          · exact .inr ⟨by simpa using hg, h⟩
          · exact .inl h
      · rcases List.mem_cons.1 h with h | h
        · exact .inl (by simp [h])
        · rcases putF_mem h with h | h
          · exact .inl (by simp [h])
          · exact .inr h
theorem putF_sorted {c : Change} : ∀ {l : List Fact}, Sorted l → Sorted (putF c l)
  | [], h => by
    unfold putF
    split
    · exact List.Pairwise.nil
    · exact List.pairwise_singleton _ _
  | x :: l, h => by
    obtain ⟨h1, h2⟩ := List.pairwise_cons.1 h
    unfold putF
    split
    · rename_i he
      split
      · exact h2
      · refine List.pairwise_cons.2 ⟨fun y hy => ?_, h2⟩
        have := h1 y hy
        rw [he] at this
        exact this
    · rename_i he
      split
      · rename_i hb
        split
        · exact h
        · refine List.pairwise_cons.2 ⟨fun y hy => ?_, h⟩
          rcases List.mem_cons.1 hy with rfl | hy
          · exact hb
          · exact before_trans hb (h1 y hy)
      · rename_i hb
        refine List.pairwise_cons.2 ⟨fun y hy => ?_, putF_sorted h2⟩
        rcases putF_mem hy with hy | ⟨_, rfl⟩
        · exact h1 y hy
        · cases hx : before x.key c.key with
          | true => rfl
          | false => exact absurd (before_total hx (by simpa using hb)) he
theorem applyL_sorted : ∀ {cs : List Change} {l : List Fact}, Sorted l → Sorted (applyL l cs)
  | [], l, h => h
  | c :: cs, l, h => applyL_sorted (cs := cs) (putF_sorted h)
theorem putF_length (c : Change) : ∀ (l : List Fact), (putF c l).length ≤ l.length + 1
  | [] => by unfold putF; split <;> simp
  | x :: l => by
    have := putF_length c l
    unfold putF
    split
    · split <;> simp <;> omega
    · split
      · split <;> simp <;> omega
      · simp; omega
/-! ### The place of a key -/
/-- how many stand ahead of it -/
def placeF (l : List Fact) (k : Key) : Nat := (l.takeWhile fun f => before f.key k).length
theorem placeF_le (l : List Fact) (k : Key) : placeF l k ≤ l.length := by
  unfold placeF
  induction l with
  | nil => simp
  | cons x l ih =>
    rw [List.takeWhile_cons]
    split
    · simp; exact ih
    · simp
theorem placeF_cons (x : Fact) (l : List Fact) (k : Key) : placeF (x :: l) k = if before x.key k then placeF l k + 1 else 0 := by
  unfold placeF
  rw [List.takeWhile_cons]
  split <;> simp
/-- of facts in order: those ahead of the place stand ahead of the key, the others do not -/
theorem placeF_at : ∀ {l : List Fact} {k : Key}, Sorted l → ∀ (i : Nat) (hi : i < l.length), (before l[i].key k = true ↔ i < placeF l k)
  | x :: l, k, h, i, hi => by
    obtain ⟨h1, h2⟩ := List.pairwise_cons.1 h
    rw [placeF_cons]
    cases i with
    | zero =>
      simp only [List.getElem_cons_zero]
      split
      · rename_i hb; simp [hb]
      · rename_i hb; simp [hb]
    | succ i =>
      simp only [List.getElem_cons_succ]
      have := placeF_at h2 i (by simpa using hi) (k := k)
      split
      · rw [this]; omega
      · rename_i hb
        constructor
        · intro hx
          have := before_trans (h1 _ (List.getElem_mem _)) hx
          rw [this] at hb
          exact absurd rfl hb
        · intro hx; omega
/-- a change, by the place of its key -/
theorem putF_place {c : Change} : ∀ {l : List Fact}, Sorted l → putF c l = (if hp : placeF l c.key < l.length ∧ (∀ h : placeF l c.key < l.length, l[placeF l c.key].key = c.key) then
      (if c.gone then l.take (placeF l c.key) ++ l.drop (placeF l c.key + 1) else l.set (placeF l c.key) ⟨c.key, c.val⟩)
    else if c.gone then l else l.take (placeF l c.key) ++ [⟨c.key, c.val⟩] ++ l.drop (placeF l c.key))
  | [], h => by
    unfold putF
    rw [dif_neg (by simp)]
    simp
  | x :: l, h => by
    obtain ⟨h1, h2⟩ := List.pairwise_cons.1 h
    have hpc := placeF_cons x l c.key
    unfold putF
    by_cases he : x.key = c.key
    · have hp0 : placeF (x :: l) c.key = 0 := by rw [hpc, if_neg (by rw [he, before_irrefl]; simp)]
      rw [if_pos he, dif_pos (by rw [hp0]; exact ⟨by simp, fun _ => by simpa using he⟩), hp0]
      simp
    · rw [if_neg he]
      by_cases hb : before c.key x.key = true
      · have hp0 : placeF (x :: l) c.key = 0 := by rw [hpc, if_neg (by rw [before_asymm hb]; simp)]
        rw [if_pos hb, dif_neg (by rw [hp0]; rintro ⟨_, hx⟩; exact he (hx (by simp))), hp0]
        simp
      · rw [if_neg hb]
        have hbx : before x.key c.key = true := by
          cases hx : before x.key c.key with
          | true => rfl
          | false => exact absurd (before_total hx (by simpa using hb)) he
        have hp1 : placeF (x :: l) c.key = placeF l c.key + 1 := by rw [hpc, if_pos hbx]
        rw [putF_place h2]
        by_cases hcond : placeF l c.key < l.length ∧ (∀ h : placeF l c.key < l.length, l[placeF l c.key].key = c.key)
        · rw [dif_pos hcond, dif_pos (by rw [hp1]; exact ⟨by simpa using hcond.1, fun _ => by simpa using hcond.2 hcond.1⟩), hp1]
          split <;> simp
        · rw [dif_neg hcond, dif_neg (by
            rw [hp1]
            rintro ⟨k1, k2⟩
            exact hcond ⟨by simpa using k1, fun _ => by simpa using k2 k1⟩), hp1]
          split <;> simp
end Go.Den
end
section
set_option linter.unusedVariables false
set_option linter.unusedSimpArgs false
set_option maxRecDepth 8000
namespace Go.Den
theorem str_beq (a b : ByteArray) : (a.toList == b.toList) = (a.data.toList == b.data.toList) := by
  rw [ByteArray.toList_eq, ByteArray.toList_eq]
theorem path_may_spec (c : UInt8) (w : World) : CallsR prog K.path_may #[bv c] w fun v w' => v = .bool (mayByte c) ∧ w' = w := by
  apply path_may.sh
  unfold path_may.body
  have fin : ∀ {b : Bool}, mayByte c = b → (fun v w' => v = Value.bool (mayByte c) ∧ w' = w) (Value.bool b) w := fun h => ⟨by rw [h], rfl⟩
  have e : ∀ {b : Bool}, (mayByte c = true ↔ b = true) → mayByte c = b := fun h => by rw [Bool.eq_iff_iff]; exact h
  have hm : mayByte c = true ↔ (97 ≤ c.toNat ∧ c.toNat ≤ 122) ∨ (48 ≤ c.toNat ∧ c.toNat ≤ 57) ∨ c.toNat = 46 ∨ c.toNat = 45 := by
    unfold mayByte
    simp only [Bool.or_eq_true, Bool.and_eq_true, decide_eq_true_eq]
    constructor
    · rintro (((h | h) | h) | h)
      · exact .inl h
      · exact .inr (.inl h)
      · exact .inr (.inr (.inl h))
      · exact .inr (.inr (.inr h))
    · rintro (h | h | h | h)
      · exact .inl (.inl (.inl h))
      · exact .inl (.inl (.inr h))
      · exact .inl (.inr h)
      · exact .inr h
  have yes : (97 ≤ c.toNat ∧ c.toNat ≤ 122) ∨ (48 ≤ c.toNat ∧ c.toNat ≤ 57) ∨ c.toNat = 46 ∨ c.toNat = 45 → (fun v w' => v = Value.bool (mayByte c) ∧ w' = w) (Value.bool true) w := fun h => fin (hm.2 h)
  have no : ¬ ((97 ≤ c.toNat ∧ c.toNat ≤ 122) ∨ (48 ≤ c.toNat ∧ c.toNat ≤ 57) ∨ c.toNat = 46 ∨ c.toNat = 45) → (fun v w' => v = Value.bool (mayByte c) ∧ w' = w) (Value.bool false) w := fun h => fin (by
    cases hb : mayByte c with
    | false => rfl
    | true => exact absurd (hm.1 hb) h)
  have dots : ¬ (97 ≤ c.toNat ∧ c.toNat ≤ 122) → ¬ (48 ≤ c.toNat ∧ c.toNat ≤ 57) → br ((c.toNat : Int) == 46) (br ((c.toNat : Int) == 46) ((fun v w' => v = Value.bool (mayByte c) ∧ w' = w) (Value.bool true) w) ((fun v w' => v = Value.bool (mayByte c) ∧ w' = w) (Value.bool false) w))
      (br ((c.toNat : Int) == 45) ((fun v w' => v = Value.bool (mayByte c) ∧ w' = w) (Value.bool true) w) ((fun v w' => v = Value.bool (mayByte c) ∧ w' = w) (Value.bool false) w)) := fun h1 h2 =>
    br_eq (fun h => br_eq (fun _ => yes (by omega)) fun h' => absurd h h') fun h => br_eq (fun h' => yes (by omega)) fun h' => no (by omega)
  refine br_dec (fun h1 => br_dec (fun h2 => br_dec (fun _ => yes (by omega)) fun h => absurd h2 h) fun h2 => br_dec (fun h3 => br_dec (fun h4 => by omega) fun h4 => dots (by omega) (by omega)) fun h3 => by omega) fun h1 => ?_
  exact br_dec (fun h3 => br_dec (fun h4 => br_dec (fun _ => yes (by omega)) fun h => absurd h4 h) fun h4 => dots (by omega) (by omega)) fun h3 => dots (by omega) (by omega)
theorem all_take_succ {α : Type} {l : List α} {i : Nat} (hi : i < l.length) (p : α → Bool) : (l.take (i + 1)).all p = ((l.take i).all p && p l[i]) := by
  rw [List.take_succ_eq_append_getElem hi, List.all_append]
  simp
theorem size_data (s : ByteArray) : s.size = s.data.toList.length := by rw [Array.length_toList]; rfl
/-- what the end of Name comes to -/
theorem name_tail {s : ByteArray} (hall : s.data.toList.all mayByte = true) {w w' : World} {R : Value → World → Prop} (hR : R (.bool (isName s.data.toList)) w') {p : Prop} [Decidable p] (hp : p ↔ 1 ≤ s.data.toList.length) :
    br (decide p) (br (decide (((s.size : Nat) : Int) ≤ 12)) (br (!(s.toList == (⟨#[46]⟩ : ByteArray).toList)) (R (Value.bool (!(s.toList == (⟨#[46, 46]⟩ : ByteArray).toList))) w') (R (Value.bool false) w')) (R (Value.bool false) w')) (R (Value.bool false) w') := by
  have hn : isName s.data.toList = (decide (1 ≤ s.data.toList.length) && decide (s.data.toList.length ≤ 12) && !(s.data.toList == [46]) && !(s.data.toList == [46, 46])) := by
    unfold isName
    rw [hall]; rfl
  rw [hn] at hR
  have hsz := size_data s
  rw [str_beq, str_beq]
  refine br_dec (fun h1 => br_dec (fun h2 => br_intro (fun h3 => ?_) fun h3 => ?_) fun h2 => ?_) fun h1 => ?_
  · have h3' : (!(s.data.toList == [46])) = true := h3
    rw [decide_eq_true (hp.1 h1), decide_eq_true (by omega : s.data.toList.length ≤ 12), h3'] at hR
    exact hR
  · have h3' : (!(s.data.toList == [46])) = false := h3
    rw [h3'] at hR
    simpa using hR
  · rw [decide_eq_false (p := s.data.toList.length ≤ 12) (by omega)] at hR
    simpa using hR
  · rw [decide_eq_false (p := 1 ≤ s.data.toList.length) (fun h => h1 (hp.2 h))] at hR
    simpa using hR
theorem isName_false {s : List UInt8} (h : s.all mayByte = false) : isName s = false := by
  unfold isName
  rw [h]; rfl
theorem all_false {l : List UInt8} {i : Nat} (hi : i < l.length) (h : mayByte l[i] = false) : l.all mayByte = false := by
  rw [List.all_eq_false]
  exact ⟨l[i], List.getElem_mem hi, by rw [h]; simp⟩
theorem path_Name_spec (s : ByteArray) (hs : s.size < 9223372036854775807) (w : World) : CallsR prog K.path_Name #[.string s] w fun v w' => v = .bool (isName s.data.toList) ∧ w' = w := by
  apply path_Name.sh
  unfold path_Name.body
  have hsz := size_data s
  refine ⟨fun x u => ∃ i : Nat, x = i ∧ i ≤ s.data.toList.length ∧ u = w ∧ (s.data.toList.take i).all mayByte = true, fun x _ => (s.data.toList.length - x).toNat, ⟨0, rfl, by omega, rfl, by simp⟩, ?_⟩
  rintro x u ⟨i, rfl, hi, rfl, ha⟩
  refine br_dec (fun hlt => ⟨by omega, ?_⟩) fun hge => ?_
  · have hi' : i < s.data.toList.length := by omega
    refine ⟨s.data.toList[i], by simp [hi'], ?_⟩
    refine (path_may_spec _ _).mono ?_
    rintro _ _ ⟨rfl, rfl⟩
    refine ⟨_, rfl, br_intro (fun hb => ⟨?_, rfl⟩) fun hb => ?_⟩
    · rw [isName_false (all_false hi' (by simpa using hb))]
    · have e1 : IntKind.i64.wrap ((i : Int) + 1) = ((i + 1 : Nat) : Int) := w64 (by omega) (by omega)
      rw [e1]
      exact ⟨⟨i + 1, rfl, hi', rfl, by rw [all_take_succ hi', ha]; simpa using hb⟩, meas hi'⟩
  · have : i = s.data.toList.length := by omega
    subst this
    rw [List.take_length] at ha
    exact name_tail (w := u) ha (R := fun v w' => v = .bool (isName s.data.toList) ∧ w' = u) ⟨rfl, rfl⟩ (by omega)
theorem carrackref05_Name_spec (s : ByteArray) (hs : s.size < 9223372036854775807) (w : World) : CallsR prog K.carrackref05_Name #[.string s] w fun v w' => v = .bool (isName s.data.toList) ∧ w' = w := by
  apply carrackref05_Name.sh
  unfold carrackref05_Name.body
  have hsz := size_data s
  refine ⟨fun x u => ∃ i : Nat, x = i ∧ i ≤ s.data.toList.length ∧ u = w ∧ (s.data.toList.take i).all mayByte = true, fun x _ => (s.data.toList.length - x).toNat, ⟨0, rfl, by omega, rfl, by simp⟩, ?_⟩
  rintro x u ⟨i, rfl, hi, rfl, ha⟩
  refine br_dec (fun hlt => ⟨by omega, ?_⟩) fun hge => ?_
  · have hi' : i < s.data.toList.length := by omega
    refine ⟨s.data.toList[i], by simp [hi'], ?_⟩
    have e1 : IntKind.i64.wrap ((i : Int) + 1) = ((i + 1 : Nat) : Int) := w64 (by omega) (by omega)
    rw [e1]
    generalize hc : s.data.toList[i] = c
    have hm : mayByte c = true ↔ (97 ≤ c.toNat ∧ c.toNat ≤ 122) ∨ (48 ≤ c.toNat ∧ c.toNat ≤ 57) ∨ c.toNat = 46 ∨ c.toNat = 45 := by
      unfold mayByte
      simp only [Bool.or_eq_true, Bool.and_eq_true, decide_eq_true_eq]
      constructor
      · rintro (((h | h) | h) | h)
        · exact .inl h
        · exact .inr (.inl h)
        · exact .inr (.inr (.inl h))
        · exact .inr (.inr (.inr h))
      · rintro (h | h | h | h)
        · exact .inl (.inl (.inl h))
        · exact .inl (.inl (.inr h))
        · exact .inl (.inr h)
        · exact .inr h
    have yes : (97 ≤ c.toNat ∧ c.toNat ≤ 122) ∨ (48 ≤ c.toNat ∧ c.toNat ≤ 57) ∨ c.toNat = 46 ∨ c.toNat = 45 → (∃ k : Nat, ((i + 1 : Nat) : Int) = k ∧ k ≤ s.data.toList.length ∧ u = u ∧ (s.data.toList.take k).all mayByte = true) ∧ ((s.data.toList.length : Int) - ((i + 1 : Nat) : Int)).toNat < ((s.data.toList.length : Int) - (i : Int)).toNat := fun h =>
      ⟨⟨i + 1, rfl, hi', rfl, by rw [all_take_succ hi', ha, hc, hm.2 h]; rfl⟩, meas hi'⟩
    have no : ¬ ((97 ≤ c.toNat ∧ c.toNat ≤ 122) ∨ (48 ≤ c.toNat ∧ c.toNat ≤ 57) ∨ c.toNat = 46 ∨ c.toNat = 45) → (fun v w' => v = Value.bool (isName s.data.toList) ∧ w' = u) (Value.bool false) u := fun h => ⟨by
      rw [isName_false (all_false hi' (by
        rw [hc]
        cases hb : mayByte c with
        | false => rfl
        | true => exact absurd (hm.1 hb) h))], rfl⟩
    have dots : ¬ (97 ≤ c.toNat ∧ c.toNat ≤ 122) → ¬ (48 ≤ c.toNat ∧ c.toNat ≤ 57) → br ((c.toNat : Int) == 46) ((∃ k : Nat, ((i + 1 : Nat) : Int) = k ∧ k ≤ s.data.toList.length ∧ u = u ∧ (s.data.toList.take k).all mayByte = true) ∧ ((s.data.toList.length : Int) - ((i + 1 : Nat) : Int)).toNat < ((s.data.toList.length : Int) - (i : Int)).toNat)
        (br (!((c.toNat : Int) == 45)) ((fun v w' => v = Value.bool (isName s.data.toList) ∧ w' = u) (Value.bool false) u) ((∃ k : Nat, ((i + 1 : Nat) : Int) = k ∧ k ≤ s.data.toList.length ∧ u = u ∧ (s.data.toList.take k).all mayByte = true) ∧ ((s.data.toList.length : Int) - ((i + 1 : Nat) : Int)).toNat < ((s.data.toList.length : Int) - (i : Int)).toNat)) := fun h1 h2 =>
      br_eq (fun h => yes (by omega)) fun h => br_intro (fun h' => no (by have h0 : (c.toNat : Int) ≠ 45 := (by simpa using h'); omega)) fun h' => yes (by have h0 : (c.toNat : Int) = 45 := (by simpa using h'); omega)
    exact br_dec (fun h1 => br_dec (fun h2 => yes (by omega)) fun h2 => br_dec (fun h3 => br_dec (fun h4 => by omega) fun h4 => dots (by omega) (by omega)) fun h3 => by omega) fun h1 =>
      br_dec (fun h3 => br_dec (fun h4 => yes (by omega)) fun h4 => dots (by omega) (by omega)) fun h3 => dots (by omega) (by omega)
  · have : i = s.data.toList.length := by omega
    subst this
    rw [List.take_length] at ha
    exact name_tail (w := u) ha (R := fun v w' => v = .bool (isName s.data.toList) ∧ w' = u) ⟨rfl, rfl⟩ (by omega)
theorem Key.may_ino {k : Key} (h : ¬ (1 ≤ k.ino ∧ k.ino ≤ 65535)) : k.may = false := by
  unfold Key.may
  by_cases h1 : 1 ≤ k.ino
  · rw [decide_eq_false (p := k.ino ≤ 65535) (fun h2 => h ⟨h1, h2⟩)]; simp
  · rw [decide_eq_false h1]; simp
theorem Key.may_in {k : Key} (h : 1 ≤ k.ino ∧ k.ino ≤ 65535) : k.may = ((decide (k.what.toNat = 1) && decide (k.bytes = []) && decide (k.chunk = 0)) || (decide (k.what.toNat = 2) && isName k.bytes && decide (k.chunk = 0)) || (decide (k.what.toNat = 3) && decide (k.bytes = []) && decide (0 ≤ k.chunk) && decide (k.chunk < 8))) := by
  unfold Key.may
  rw [decide_eq_true h.1, decide_eq_true h.2]; rfl
theorem empty_beq (k : Key) : (k.name.toList == (⟨#[]⟩ : ByteArray).toList) = decide (k.bytes = []) := by
  rw [str_beq, Bool.eq_iff_iff]
  unfold Key.bytes
  simp
theorem fact_MayKey_spec (k : Key) (hn : k.name.size < 9223372036854775807) (w : World) : CallsR prog K.fact_MayKey #[keyV k] w fun v w' => v = .bool k.may ∧ Ext w w' := by
  apply fact_MayKey.sh
  unfold fact_MayKey.body
  simp only [add_lit, Nat.zero_add]
  intro B1 w1 hn1
  have g := hn1.get
  have hE := hn1.upd
  refine ⟨_, cell_of g rfl, br_dec (fun h => ⟨by rw [Key.may_ino (by omega)], hE⟩) fun h1 => ⟨_, cell_of g rfl, br_dec (fun h => ⟨by rw [Key.may_ino (by omega)], hE⟩) fun h2 => ?_⟩⟩
  rw [Key.may_in ⟨by omega, by omega⟩]
  refine ⟨_, cell_of g rfl, br_eq (fun hw => ?_) fun hw1 => br_eq (fun hw => ?_) fun hw2 => br_eq (fun hw => ?_) fun hw3 => ?_⟩
  · refine ⟨_, _, _, _, cellsAt_of (o := 0) g (fun j v hj => by simpa using hj), _, cell_of g rfl, _, cell_of g rfl, ?_, hE⟩
    have e1 : k.what.toNat = 1 := by omega
    rw [e1, empty_beq]
    simp only [beq_self_eq_true, Bool.true_and, Bool.and_true]
    congr 1
    rw [Bool.eq_iff_iff]
    simp
  · refine ⟨_, cell_of g rfl, ?_⟩
    refine (path_Name_spec k.name hn w1).mono ?_
    rintro _ _ ⟨rfl, rfl⟩
    rename_i w1
    have e2 : k.what.toNat = 2 := by omega
    rw [e2]
    have hb : isName k.bytes = isName k.name.data.toList := rfl
    rw [hb]
    refine ⟨_, rfl, br_intro (fun h => ⟨_, cell_of g rfl, ?_, hE⟩) fun h => ⟨?_, hE⟩⟩
    · rw [h]
      congr 1
      rw [Bool.eq_iff_iff]
      simp
    · rw [h]; simp
  · have e3 : k.what.toNat = 3 := by omega
    rw [e3]
    refine ⟨_, cell_of g rfl, ?_⟩
    rw [empty_beq]
    refine br_dec (fun h => ⟨_, cell_of g rfl, br_dec (fun h' => ⟨_, cell_of g rfl, ?_, hE⟩) fun h' => ⟨?_, hE⟩⟩) fun h => ⟨?_, hE⟩
    · rw [decide_eq_true h, decide_eq_true (by omega : 0 ≤ k.chunk)]; simp
    · rw [decide_eq_false (p := 0 ≤ k.chunk) (by omega)]; simp
    · rw [decide_eq_false h]; simp
  · refine ⟨?_, hE⟩
    rw [decide_eq_false (p := k.what.toNat = 1) (by omega), decide_eq_false (p := k.what.toNat = 2) (by omega), decide_eq_false (p := k.what.toNat = 3) (by omega)]
    simp
theorem carrackref06_MayKey_spec (k : Key) (hn : k.name.size < 9223372036854775807) (w : World) : CallsR prog K.carrackref06_MayKey #[keyV k] w fun v w' => v = .bool k.may ∧ Ext w w' := by
  apply carrackref06_MayKey.sh
  unfold carrackref06_MayKey.body
  simp only [add_lit, Nat.zero_add]
  intro B1 w1 hn1
  have g := hn1.get
  have hE := hn1.upd
  refine ⟨_, cell_of g rfl, br_dec (fun h => ⟨by rw [Key.may_ino (by omega)], hE⟩) fun h1 => ⟨_, cell_of g rfl, br_dec (fun h => ⟨by rw [Key.may_ino (by omega)], hE⟩) fun h2 => ?_⟩⟩
  rw [Key.may_in ⟨by omega, by omega⟩]
  refine ⟨_, cell_of g rfl, br_eq (fun hw => ?_) fun hw1 => br_eq (fun hw => ?_) fun hw2 => br_eq (fun hw => ?_) fun hw3 => ?_⟩
  · have e1 : k.what.toNat = 1 := by omega
    rw [e1]
    refine ⟨_, cell_of g rfl, ?_⟩
    rw [empty_beq]
    refine br_dec (fun h => ⟨_, cell_of g rfl, ?_, hE⟩) fun h => ⟨?_, hE⟩
    · rw [decide_eq_true h]
      congr 1
      rw [Bool.eq_iff_iff]
      simp
    · rw [decide_eq_false h]; simp
  · refine ⟨_, cell_of g rfl, ?_⟩
    refine (carrackref05_Name_spec k.name hn w1).mono ?_
    rintro _ _ ⟨rfl, rfl⟩
    rename_i w1
    have e2 : k.what.toNat = 2 := by omega
    rw [e2]
    have hb : isName k.bytes = isName k.name.data.toList := rfl
    rw [hb]
    refine ⟨_, rfl, br_intro (fun h => ⟨_, cell_of g rfl, ?_, hE⟩) fun h => ⟨?_, hE⟩⟩
    · rw [h]
      congr 1
      rw [Bool.eq_iff_iff]
      simp
    · rw [h]; simp
  · have e3 : k.what.toNat = 3 := by omega
    rw [e3]
    refine ⟨_, cell_of g rfl, ?_⟩
    rw [empty_beq]
    refine br_dec (fun h => ⟨_, cell_of g rfl, br_dec (fun h' => ⟨_, cell_of g rfl, ?_, hE⟩) fun h' => ⟨?_, hE⟩⟩) fun h => ⟨?_, hE⟩
    · rw [decide_eq_true h, decide_eq_true (by omega : 0 ≤ k.chunk)]; simp
    · rw [decide_eq_false (p := 0 ≤ k.chunk) (by omega)]; simp
    · rw [decide_eq_false h]; simp
  · refine ⟨?_, hE⟩
    rw [decide_eq_false (p := k.what.toNat = 1) (by omega), decide_eq_false (p := k.what.toNat = 2) (by omega), decide_eq_false (p := k.what.toNat = 3) (by omega)]
    simp
end Go.Den
end
section
set_option linter.unusedVariables false
set_option linter.unusedSimpArgs false
set_option maxRecDepth 8000
namespace Go.Den
def finKey (k : Key) (s : St) : Key × Nat × St := if k.may then (k, 0, s) else (Key.zero, 5, s)
def keyS (s : St) : Key × Nat × St :=
  let a := takeS 2 s
  let b := takeS 1 a.2.2
  if b.2.1 ≠ 0 then (Key.zero, 4, none)
  else if b.1 = 2 then
    let c := rowS b.2.2
    if c.2.1 ≠ 0 then (Key.zero, 4, none) else finKey ⟨a.1, UInt8.ofNat b.1, ⟨c.1.toArray⟩, 0⟩ c.2.2
  else if b.1 = 3 then
    let c := takeS 1 b.2.2
    if c.2.1 ≠ 0 then (Key.zero, 4, none) else finKey ⟨a.1, UInt8.ofNat b.1, ByteArray.empty, c.1⟩ c.2.2
  else finKey ⟨a.1, UInt8.ofNat b.1, ByteArray.empty, 0⟩ b.2.2
/-- a string out of bytes -/
theorem str_of {w : World} {a : Option Addr} {l : List UInt8} (h : BytesAt w a l) {K : ByteArray → Prop} (hk : K ⟨l.toArray⟩) : strOfP w a l.length K := by
  cases a with
  | none =>
    cases l with
    | nil => exact hk
    | cons x l =>
      obtain ⟨b, o, e, _⟩ := RowAt.blk h (by simp)
      cases e
  | some q =>
    refine ⟨l, rfl, ?_, hk⟩
    cases l with
    | nil => trivial
    | cons x l =>
      obtain ⟨b, o, e, _⟩ := RowAt.blk h (by simp)
      cases e
      exact h.cells
theorem wu8n {x : Nat} (h : x < 256) : Value.int .u8 (IntKind.u8.wrap (x : Int)) = bv (UInt8.ofNat x) := by rw [bv_mod, Nat.mod_eq_of_lt h]
abbrev KeyAt (u : World) (B : Nat) (k : Key) : Prop := u.heap[B]? = some (.cells k.vals.toArray T.api_Key (0, 0))
theorem key_put {w : World} {B : Nat} {cs : Array Value} {k : Key} {K : World → Prop} (hc : w.heap[B]? = some (.cells cs T.api_Key (0, 0))) (hs : cs.size = 4) (hk : ∀ w', Upd (· = B) w w' → w'.heap.size = w.heap.size → KeyAt w' B k → K w') :
    storeP w ⟨B, 0, none⟩ [.int .i64 k.ino, bv k.what, .string k.name, .int .i64 k.chunk] K := put_all hc (by rw [hs]; rfl) hk
theorem key_cells {w : World} {B : Nat} {k : Key} (hc : KeyAt w B k) : cellsAt w ⟨B, 0, none⟩ [.int .i64 k.ino, bv k.what, .string k.name, .int .i64 k.chunk] 0 := cells_all hc
theorem key_name {w : World} {B : Nat} {k : Key} {n : ByteArray} {K : World → Prop} (hc : KeyAt w B k) (hk : ∀ w', Upd (· = B) w w' → KeyAt w' B { k with name := n } → K w') : storeP w ⟨B, 2, none⟩ [.string n] K :=
  store_of hc (by simp [Key.vals]) fun w' hp => hk w' hp.upd1 hp.get
theorem key_chunk {w : World} {B : Nat} {k : Key} {n : Int} {K : World → Prop} (hc : KeyAt w B k) (hk : ∀ w', Upd (· = B) w w' → KeyAt w' B { k with chunk := n } → K w') : storeP w ⟨B, 3, none⟩ [.int .i64 n] K :=
  store_of hc (by simp [Key.vals]) fun w' hp => hk w' hp.upd1 hp.get
theorem key_out {u : World} {B : Nat} {k k0 : Key} {e : Int} {R : Value → World → Prop} (g : KeyAt u B k0) (hR : ∀ u', Upd (· = B) u u' → R (.tuple #[keyV k, .int .i64 e]) u') :
    storeP u ⟨B, 0, none⟩ [.int .i64 k.ino, bv k.what, .string k.name, .int .i64 k.chunk] fun w' => ∃ x y : Int, ∃ n : ByteArray, ∃ z : Int, cellsAt w' ⟨B, 0, none⟩ [.int .i64 x, .int .u8 y, .string n, .int .i64 z] 0 ∧ R (.tuple #[.agg #[.int .i64 x, .int .u8 y, .string n, .int .i64 z], .int .i64 e]) w' :=
  key_put g rfl fun w' hu _ hg => ⟨_, _, _, _, key_cells hg, hR w' hu⟩
theorem key_fin {f : FuncId} {u : World} {B1 B2 : Nat} {k k0 : Key} {R : Value → World → Prop} (hB : B1 ≠ B2) (g1 : KeyAt u B1 k0) (g2 : KeyAt u B2 k) (hm : CallsR prog f #[keyV k] u fun v w' => v = .bool k.may ∧ Ext u w')
    (hR : ∀ u', Upd (· = B1) u u' → R (.tuple #[keyV (if k.may then k else Key.zero), .int .i64 (if k.may then 0 else 5)]) u') :
    ∃ x y : Int, ∃ n : ByteArray, ∃ z : Int, cellsAt u ⟨B2, 0, none⟩ [.int .i64 x, .int .u8 y, .string n, .int .i64 z] 0 ∧ CallsR prog f #[.agg #[.int .i64 x, .int .u8 y, .string n, .int .i64 z]] u fun v w' => ∃ b : Bool, v = .bool b ∧ br (!b)
      (storeP w' ⟨B1, 0, none⟩ [.int .i64 Key.zero.ino, bv Key.zero.what, .string Key.zero.name, .int .i64 Key.zero.chunk] fun w' => ∃ x y : Int, ∃ n : ByteArray, ∃ z : Int, cellsAt w' ⟨B1, 0, none⟩ [.int .i64 x, .int .u8 y, .string n, .int .i64 z] 0 ∧ R (.tuple #[.agg #[.int .i64 x, .int .u8 y, .string n, .int .i64 z], .int .i64 5]) w')
      (∃ x y : Int, ∃ n : ByteArray, ∃ z : Int, cellsAt w' ⟨B2, 0, none⟩ [.int .i64 x, .int .u8 y, .string n, .int .i64 z] 0 ∧ storeP w' ⟨B1, 0, none⟩ [.int .i64 x, .int .u8 y, .string n, .int .i64 z] fun w' => ∃ x y : Int, ∃ n : ByteArray, ∃ z : Int, cellsAt w' ⟨B1, 0, none⟩ [.int .i64 x, .int .u8 y, .string n, .int .i64 z] 0 ∧ R (.tuple #[.agg #[.int .i64 x, .int .u8 y, .string n, .int .i64 z], .int .i64 0]) w') := by
  refine ⟨_, _, _, _, key_cells g2, hm.mono ?_⟩
  rintro _ w' ⟨rfl, he⟩
  refine ⟨_, rfl, br_intro (fun hb => ?_) fun hb => ?_⟩
  · have hb' : k.may = false := by simpa using hb
    rw [hb'] at hR
    exact key_out (Ext.get he g1) fun u' hu => hR u' ((Upd.ext he).trans hu)
  · have hb' : k.may = true := by simpa using hb
    rw [hb'] at hR
    exact ⟨_, _, _, _, key_cells (Ext.get he g2), key_out (Ext.get he g1) fun u' hu => hR u' ((Upd.ext he).trans hu)⟩
theorem empty_small : ByteArray.empty.size < 9223372036854775807 := by decide
theorem finKey_is (k : Key) (s : St) : finKey k s = (if k.may then k else Key.zero, if k.may then 0 else 5, s) := by unfold finKey; split <;> rfl
theorem finErr (b : Bool) : (((if b = true then 0 else 5 : Nat) : Nat) : Int) = if b = true then 0 else 5 := by cases b <;> rfl
theorem fact_GetKey_spec {G : Nat → Prop} {w : World} {r : Nat} {s : St} (hG : ¬ G r) (hGs : ∀ x, G x → x < w.heap.size) (hrs : r < w.heap.size) (h : RdIn G w r s) :
    CallsR prog K.fact_GetKey #[.pointer (some ⟨r, 0, none⟩)] w fun v w' => v = .tuple #[keyV (keyS s).1, .int .i64 ((keyS s).2.1 : Nat)] ∧ Upd (· = r) w w' ∧ RdIn G w' r (keyS s).2.2 := by
  apply fact_GetKey.sh
  suffices H : ∀ R : Value → World → Prop, (∀ v w', v = .tuple #[keyV (keyS s).1, .int .i64 ((keyS s).2.1 : Nat)] ∧ Upd (· = r) w w' ∧ RdIn G w' r (keyS s).2.2 → R v w') → fact_GetKey.body (some ⟨r, 0, none⟩) w R from H _ fun _ _ h => h
  intro R hR
  unfold fact_GetKey.body
  simp only [add_lit, Nat.zero_add]
  intro B1 w₁ hn1
  have hb1 : B1 = w.heap.size := hn1.num
  have g1 : KeyAt w₁ B1 Key.zero := hn1.get
  have done : ∀ {u u' : World} {B : Nat} {s' : St}, Upd (· = r) w u → RdIn G u r s' → B1 ≤ B → Upd (· = B) u u' → Upd (· = r) w u' ∧ RdIn G u' r s' := fun {u u' B s'} h1 h2 hB h3 =>
    ⟨Upd.mono (F := fun x => x = r ∨ x = B) ((h1.mono fun _ _ h => .inl h).trans (h3.mono fun _ _ h => .inr h)) fun x hx hor => by
      rcases hor with h | h
      · exact h
      · omega,
     h2.upd h3 (by omega) fun x hx e => by have := hGs x hx; omega⟩
  refine (rdTake (k := 2) (by decide) hG (h.ext hn1.upd)).mono ?_
  rintro _ w₂ ⟨hu2, rfl, hr2⟩
  have u2 : Upd (· = r) w w₂ := (Upd.ext hn1.upd).trans hu2
  have g2 : KeyAt w₂ B1 Key.zero := hu2.get g1 (by omega)
  have hs2 : B1 < w₂.heap.size := (Array.getElem?_eq_some_iff.1 g2).1
  have a2 := takeS_lt 2 s
  have h256 : (256 : Nat) ^ 2 = 65536 := by decide
  refine ⟨_, _, rfl, br_eq (fun he => ?_) fun _ => ?_⟩
  · exfalso
    rcases takeS_cases 2 s with e | ⟨l, _, _, e⟩
    · rw [e] at he; exact absurd he (by decide)
    · rw [e] at he; simp at he
  refine (rdTake (k := 1) (by decide) hG hr2).mono ?_
  rintro _ w₄ ⟨hu4, rfl, hr4⟩
  have u4 := u2.trans hu4
  have g4 : KeyAt w₄ B1 Key.zero := hu4.get g2 (by omega)
  have hs4 := hu4.size
  have a4 := takeS_lt 1 (takeS 2 s).2.2
  have hk : keyS s = keyS s := rfl
  generalize ha : takeS 2 s = A at *
  generalize hb : takeS 1 A.2.2 = B at *
  have hkey : keyS s = if B.2.1 ≠ 0 then (Key.zero, 4, none)
      else if B.1 = 2 then (if (rowS B.2.2).2.1 ≠ 0 then (Key.zero, 4, none) else finKey ⟨A.1, UInt8.ofNat B.1, ⟨(rowS B.2.2).1.toArray⟩, 0⟩ (rowS B.2.2).2.2)
      else if B.1 = 3 then (if (takeS 1 B.2.2).2.1 ≠ 0 then (Key.zero, 4, none) else finKey ⟨A.1, UInt8.ofNat B.1, ByteArray.empty, (takeS 1 B.2.2).1⟩ (takeS 1 B.2.2).2.2)
      else finKey ⟨A.1, UInt8.ofNat B.1, ByteArray.empty, 0⟩ B.2.2 := by
    unfold keyS
    simp only [ha, hb]
  refine ⟨_, _, rfl, ?_⟩
  rw [wu8n (by omega), w64n (by omega)]
  refine new_put (vs := Key.vals ⟨A.1, UInt8.ofNat B.1, ByteArray.empty, 0⟩) rfl fun B2 w₆ hb2 hs6 he6 g6 => ?_
  have u6 := u4.then he6
  have r6 := hr4.ext he6
  have g16 : KeyAt w₆ B1 Key.zero := Ext.get he6 g4
  refine br_ne (fun hne => ?_) fun he => ?_
  · refine br_ne (fun _ => ?_) fun h => absurd h hne
    have hB : B = (0, 4, none) := by rw [← hb]; exact takeS_err (by rw [hb]; omega)
    rw [if_pos (by omega)] at hkey; rw [hkey] at hR
    rw [hB] at r6 ⊢
    exact key_out (k := Key.zero) g16 fun u' hu => hR _ _ ⟨rfl, done u6 r6 (Nat.le_refl _) hu⟩
  · rw [if_neg (by omega)] at hkey
    refine br_eq (fun h2 => ?_) fun h2 => ?_
    · rw [if_pos (by omega)] at hkey
      refine (rdRow hG r6).mono ?_
      rintro _ w₁₁ ⟨hu11, ⟨a, c, rfl, hby, hc, hf⟩, hr11⟩
      have u11 := u6.trans hu11
      have hs11 := hu11.size
      have g11 : KeyAt w₁₁ B1 Key.zero := hu11.get g16 (by omega)
      have g12 : KeyAt w₁₁ B2 ⟨A.1, UInt8.ofNat B.1, ByteArray.empty, 0⟩ := hu11.get g6 (by omega)
      refine ⟨_, _, _, _, rfl, str_of hby (key_name g12 fun w₁₂ hu12 g22 => ?_)⟩
      have g21 : KeyAt w₁₂ B1 Key.zero := hu12.get g11 (by omega)
      obtain ⟨u12, r12⟩ := done u11 hr11 (by omega) hu12
      have hlen := rowS_len B.2.2
      refine br_ne (fun hne => ?_) fun he3 => ?_
      · have hrow : rowS B.2.2 = ([], 4, none) := rowS_err (by omega)
        rw [if_pos (by omega)] at hkey; rw [hkey] at hR
        rw [hrow] at r12 ⊢
        exact key_out (k := Key.zero) g21 fun u' hu => hR _ _ ⟨rfl, done u12 r12 (Nat.le_refl _) hu⟩
      · rw [if_neg (by omega), finKey_is] at hkey; rw [hkey] at hR; simp only [finErr] at hR
        exact key_fin (by omega) g21 g22 (fact_MayKey_spec _ (by simp [ByteArray.size]; omega) _) fun u' hu => hR _ _ ⟨rfl, done u12 r12 (Nat.le_refl _) hu⟩
    · rw [if_neg (by omega)] at hkey
      refine br_eq (fun h3 => ?_) fun h3 => ?_
      · rw [if_pos (by omega)] at hkey
        refine (rdTake (k := 1) (by decide) hG r6).mono ?_
        rintro _ w₁₁ ⟨hu11, rfl, hr11⟩
        have a11 := takeS_lt 1 B.2.2
        have u11 := u6.trans hu11
        have hs11 := hu11.size
        have g11 : KeyAt w₁₁ B1 Key.zero := hu11.get g16 (by omega)
        have g12 : KeyAt w₁₁ B2 ⟨A.1, UInt8.ofNat B.1, ByteArray.empty, 0⟩ := hu11.get g6 (by omega)
        refine ⟨_, _, rfl, ?_⟩
        rw [w64n (by omega)]
        refine key_chunk g12 fun w₁₂ hu12 g22 => ?_
        have g21 : KeyAt w₁₂ B1 Key.zero := hu12.get g11 (by omega)
        obtain ⟨u12, r12⟩ := done u11 hr11 (by omega) hu12
        refine br_ne (fun hne => ?_) fun he3 => ?_
        · have hrow : takeS 1 B.2.2 = (0, 4, none) := takeS_err (by omega)
          rw [if_pos (by omega)] at hkey; rw [hkey] at hR
          rw [hrow] at r12 ⊢
          exact key_out (k := Key.zero) g21 fun u' hu => hR _ _ ⟨rfl, done u12 r12 (Nat.le_refl _) hu⟩
        · rw [if_neg (by omega), finKey_is] at hkey; rw [hkey] at hR; simp only [finErr] at hR
          exact key_fin (by omega) g21 g22 (fact_MayKey_spec _ empty_small _) fun u' hu => hR _ _ ⟨rfl, done u12 r12 (Nat.le_refl _) hu⟩
      · rw [if_neg (by omega)] at hkey
        refine br_ne (fun hne => absurd he hne) fun _ => ?_
        rw [finKey_is] at hkey; rw [hkey] at hR; simp only [finErr] at hR
        exact key_fin (by omega) g16 g6 (fact_MayKey_spec _ empty_small _) fun u' hu => hR _ _ ⟨rfl, done u6 r6 (Nat.le_refl _) hu⟩
theorem carrackref06_GetKey_spec {G : Nat → Prop} {w : World} {r : Nat} {s : St} (hG : ¬ G r) (hGs : ∀ x, G x → x < w.heap.size) (hrs : r < w.heap.size) (h : RRdIn G w r s) :
    CallsR prog K.carrackref06_GetKey #[.pointer (some ⟨r, 0, none⟩)] w fun v w' => v = .tuple #[keyV (keyS s).1, .int .i64 ((keyS s).2.1 : Nat)] ∧ Upd (· = r) w w' ∧ RRdIn G w' r (keyS s).2.2 := by
  apply carrackref06_GetKey.sh
  suffices H : ∀ R : Value → World → Prop, (∀ v w', v = .tuple #[keyV (keyS s).1, .int .i64 ((keyS s).2.1 : Nat)] ∧ Upd (· = r) w w' ∧ RRdIn G w' r (keyS s).2.2 → R v w') → carrackref06_GetKey.body (some ⟨r, 0, none⟩) w R from H _ fun _ _ h => h
  intro R hR
  unfold carrackref06_GetKey.body
  simp only [add_lit, Nat.zero_add]
  intro B1 w₁ hn1
  have hb1 : B1 = w.heap.size := hn1.num
  have g1 : KeyAt w₁ B1 Key.zero := hn1.get
  have done : ∀ {u u' : World} {B : Nat} {s' : St}, Upd (· = r) w u → RRdIn G u r s' → B1 ≤ B → Upd (· = B) u u' → Upd (· = r) w u' ∧ RRdIn G u' r s' := fun {u u' B s'} h1 h2 hB h3 =>
    ⟨Upd.mono (F := fun x => x = r ∨ x = B) ((h1.mono fun _ _ h => .inl h).trans (h3.mono fun _ _ h => .inr h)) fun x hx hor => by
      rcases hor with h | h
      · exact h
      · omega,
     h2.upd h3 (by omega) fun x hx e => by have := hGs x hx; omega⟩
  refine (rrdTake (k := 2) (by decide) hG (h.ext hn1.upd)).mono ?_
  rintro _ w₂ ⟨hu2, rfl, hr2⟩
  have u2 : Upd (· = r) w w₂ := (Upd.ext hn1.upd).trans hu2
  have g2 : KeyAt w₂ B1 Key.zero := hu2.get g1 (by omega)
  have hs2 : B1 < w₂.heap.size := (Array.getElem?_eq_some_iff.1 g2).1
  have a2 := takeS_lt 2 s
  have h256 : (256 : Nat) ^ 2 = 65536 := by decide
  have hnone : keyS none = (Key.zero, 4, none) := rfl
  refine ⟨_, _, rfl, br_ne (fun hne => ?_) fun _ => ?_⟩
  · have hA : takeS 2 s = (0, 4, none) := takeS_err (by omega)
    have hkey : keyS s = (Key.zero, 4, none) := by unfold keyS; simp only [hA]; rfl
    rw [hkey] at hR
    rw [hA] at hr2 ⊢
    exact key_out (k := Key.zero) g2 fun u' hu => hR _ _ ⟨rfl, done u2 hr2 (Nat.le_refl _) hu⟩
  refine (rrdTake (k := 1) (by decide) hG hr2).mono ?_
  rintro _ w₄ ⟨hu4, rfl, hr4⟩
  have u4 := u2.trans hu4
  have g4 : KeyAt w₄ B1 Key.zero := hu4.get g2 (by omega)
  have hs4 := hu4.size
  have a4 := takeS_lt 1 (takeS 2 s).2.2
  generalize ha : takeS 2 s = A at *
  generalize hb : takeS 1 A.2.2 = B at *
  have hkey : keyS s = if B.2.1 ≠ 0 then (Key.zero, 4, none)
      else if B.1 = 2 then (if (rowS B.2.2).2.1 ≠ 0 then (Key.zero, 4, none) else finKey ⟨A.1, UInt8.ofNat B.1, ⟨(rowS B.2.2).1.toArray⟩, 0⟩ (rowS B.2.2).2.2)
      else if B.1 = 3 then (if (takeS 1 B.2.2).2.1 ≠ 0 then (Key.zero, 4, none) else finKey ⟨A.1, UInt8.ofNat B.1, ByteArray.empty, (takeS 1 B.2.2).1⟩ (takeS 1 B.2.2).2.2)
      else finKey ⟨A.1, UInt8.ofNat B.1, ByteArray.empty, 0⟩ B.2.2 := by
    unfold keyS
    simp only [ha, hb]
  refine ⟨_, _, rfl, br_ne (fun hne => ?_) fun he => ?_⟩
  · have hB : B = (0, 4, none) := by rw [← hb]; exact takeS_err (by rw [hb]; omega)
    rw [if_pos (by omega)] at hkey; rw [hkey] at hR
    rw [hB] at hr4 ⊢
    exact key_out (k := Key.zero) g4 fun u' hu => hR _ _ ⟨rfl, done u4 hr4 (Nat.le_refl _) hu⟩
  rw [if_neg (by omega)] at hkey
  rw [wu8n (by omega), w64n (by omega)]
  refine new_put (vs := Key.vals ⟨A.1, UInt8.ofNat B.1, ByteArray.empty, 0⟩) rfl fun B2 w₆ hb2 hs6 he6 g6 => ?_
  have u6 := u4.then he6
  have r6 := hr4.ext he6
  have g16 : KeyAt w₆ B1 Key.zero := Ext.get he6 g4
  refine br_eq (fun h2 => ?_) fun h2 => ?_
  · rw [if_pos (by omega)] at hkey
    refine (rrdRow hG r6).mono ?_
    rintro _ w₁₁ ⟨hu11, ⟨a, c, rfl, hby, hc, hf⟩, hr11⟩
    have u11 := u6.trans hu11
    have hs11 := hu11.size
    have g11 : KeyAt w₁₁ B1 Key.zero := hu11.get g16 (by omega)
    have g12 : KeyAt w₁₁ B2 ⟨A.1, UInt8.ofNat B.1, ByteArray.empty, 0⟩ := hu11.get g6 (by omega)
    have hlen := rowS_len B.2.2
    refine ⟨_, _, _, _, rfl, br_ne (fun hne => ?_) fun he3 => ?_⟩
    · have hrow : rowS B.2.2 = ([], 4, none) := rowS_err (by omega)
      rw [if_pos (by omega)] at hkey; rw [hkey] at hR
      rw [hrow] at hr11 ⊢
      exact key_out (k := Key.zero) g11 fun u' hu => hR _ _ ⟨rfl, done u11 hr11 (Nat.le_refl _) hu⟩
    · refine str_of hby (key_name g12 fun w₁₂ hu12 g22 => ?_)
      have g21 : KeyAt w₁₂ B1 Key.zero := hu12.get g11 (by omega)
      obtain ⟨u12, r12⟩ := done u11 hr11 (by omega) hu12
      rw [if_neg (by omega), finKey_is] at hkey; rw [hkey] at hR; simp only [finErr] at hR
      exact key_fin (by omega) g21 g22 (carrackref06_MayKey_spec _ (by simp [ByteArray.size]; omega) _) fun u' hu => hR _ _ ⟨rfl, done u12 r12 (Nat.le_refl _) hu⟩
  · rw [if_neg (by omega)] at hkey
    refine br_eq (fun h3 => ?_) fun h3 => ?_
    · rw [if_pos (by omega)] at hkey
      refine (rrdTake (k := 1) (by decide) hG r6).mono ?_
      rintro _ w₁₁ ⟨hu11, rfl, hr11⟩
      have a11 := takeS_lt 1 B.2.2
      have u11 := u6.trans hu11
      have hs11 := hu11.size
      have g11 : KeyAt w₁₁ B1 Key.zero := hu11.get g16 (by omega)
      have g12 : KeyAt w₁₁ B2 ⟨A.1, UInt8.ofNat B.1, ByteArray.empty, 0⟩ := hu11.get g6 (by omega)
      refine ⟨_, _, rfl, br_ne (fun hne => ?_) fun he3 => ?_⟩
      · have hrow : takeS 1 B.2.2 = (0, 4, none) := takeS_err (by omega)
        rw [if_pos (by omega)] at hkey; rw [hkey] at hR
        rw [hrow] at hr11 ⊢
        exact key_out (k := Key.zero) g11 fun u' hu => hR _ _ ⟨rfl, done u11 hr11 (Nat.le_refl _) hu⟩
      · rw [w64n (by omega)]
        refine key_chunk g12 fun w₁₂ hu12 g22 => ?_
        have g21 : KeyAt w₁₂ B1 Key.zero := hu12.get g11 (by omega)
        obtain ⟨u12, r12⟩ := done u11 hr11 (by omega) hu12
        rw [if_neg (by omega), finKey_is] at hkey; rw [hkey] at hR; simp only [finErr] at hR
        exact key_fin (by omega) g21 g22 (carrackref06_MayKey_spec _ empty_small _) fun u' hu => hR _ _ ⟨rfl, done u12 r12 (Nat.le_refl _) hu⟩
    · rw [if_neg (by omega)] at hkey
      rw [finKey_is] at hkey; rw [hkey] at hR; simp only [finErr] at hR
      exact key_fin (by omega) g16 g6 (carrackref06_MayKey_spec _ empty_small _) fun u' hu => hR _ _ ⟨rfl, done u6 r6 (Nat.le_refl _) hu⟩
end Go.Den
end
