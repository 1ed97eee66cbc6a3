/- Contracts of layer 2 (seal) and of its reference: pages that are known to be whole. -/
import Derived.Test.YtljaocdmeoheaaaSEnds2
import Derived.Test.YtljaocdmeoheaaaRep2
set_option linter.unusedVariables false
set_option linter.unusedSimpArgs false
namespace Go.Den

/-! ### The plain model -/
/-- how many bits of a byte are 0 -/
def zeros8 (b : UInt8) : Nat := ((List.range 8).filter fun k => b.toNat / 2 ^ k % 2 == 0).length
def noughts (l : List UInt8) : Nat := (l.map zeros8).sum
def isBlank (l : List UInt8) : Bool := l.all (· == 255)
def isSize (n : Int) : Bool := decide (n ≥ 128) && decide (n ≤ 256)
def pageRest (size : Nat) (kind : UInt8) (body : List UInt8) : List UInt8 := kind :: (leB body.length 2 ++ body ++ List.replicate (size - 5 - body.length) 255)
def pageOf (size : Nat) (kind : UInt8) (body : List UInt8) : List UInt8 := leB (noughts (pageRest size kind body)) 2 ++ pageRest size kind body
/-- kind, body, error of bytes -/
def getPage (b : List UInt8) : UInt8 × List UInt8 × Nat :=
  if isSize b.length = false then (0, [], 2)
  else if isBlank b = true then (0, [], 6)
  else if fromLE (b.take 2) ≠ noughts (b.drop 2) then (0, [], 7)
  else if b.getD 2 0 < 1 ∨ b.getD 2 0 > 7 ∨ fromLE ((b.drop 3).take 2) > b.length - 5 ∨ isBlank (b.drop (5 + fromLE ((b.drop 3).take 2))) = false then (0, [], 5)
  else (b.getD 2 0, (b.take (5 + fromLE ((b.drop 3).take 2))).drop 5, 0)

theorem zeros8_le (b : UInt8) : zeros8 b ≤ 8 := by
  unfold zeros8
  exact Nat.le_trans (List.length_filter_le _ _) (by simp)
theorem noughts_append (l m : List UInt8) : noughts (l ++ m) = noughts l + noughts m := by simp [noughts]
theorem noughts_le (l : List UInt8) : noughts l ≤ 8 * l.length := by
  induction l with
  | nil => simp [noughts]
  | cons b l ih =>
    have := zeros8_le b
    simp only [noughts, List.map_cons, List.sum_cons, List.length_cons] at ih ⊢
    omega
theorem noughts_take_succ (l : List UInt8) (i : Nat) (h : i < l.length) : noughts (l.take (i + 1)) = noughts (l.take i) + zeros8 (l.getD i 0) := by
  rw [List.take_succ_eq_append_getElem h, noughts_append]
  simp [noughts, List.getD, h]
theorem zeros8_ff : ∀ b : UInt8, zeros8 b = 0 ↔ b = 255 := by
  have key : ∀ x : Fin 256, zeros8 (UInt8.ofNat x.val) = 0 ↔ UInt8.ofNat x.val = 255 := by decide +kernel
  intro b
  have := key ⟨b.toNat, b.toNat_lt⟩
  simpa using this
theorem noughts_zero (l : List UInt8) : noughts l = 0 ↔ isBlank l = true := by
  induction l with
  | nil => simp [noughts, isBlank]
  | cons b l ih =>
    have h1 : noughts (b :: l) = zeros8 b + noughts l := by simp [noughts]
    have h2 : isBlank (b :: l) = ((b == 255) && isBlank l) := by simp [isBlank]
    rw [h1, h2, Nat.add_eq_zero_iff, ih, zeros8_ff]
    simp
theorem pageRest_length (size : Nat) (kind : UInt8) (body : List UInt8) (h : body.length + 5 ≤ size) : (pageRest size kind body).length = size - 2 := by
  simp [pageRest, leB_length]; omega
theorem pageOf_length (size : Nat) (kind : UInt8) (body : List UInt8) (h : body.length + 5 ≤ size) : (pageOf size kind body).length = size := by
  simp only [pageOf, List.length_append, leB_length, pageRest_length size kind body h]; omega

/-! ### Counting -/
theorem ones_tbl : ∀ x : UInt8, (⟨(List.toArray (List.append (List.append [0, 1, 1, 2, 1, 2, 2, 3, 1, 2, 2, 3, 2, 3, 3, 4, 1, 2, 2, 3, 2, 3, 3, 4, 2, 3, 3, 4, 3, 4, 4, 5, 1, 2, 2, 3, 2, 3, 3, 4, 2, 3, 3, 4, 3, 4, 4, 5, 2, 3, 3, 4, 3, 4, 4, 5, 3, 4, 4, 5, 4, 5, 5, 6] [1, 2, 2, 3, 2, 3, 3, 4, 2, 3, 3, 4, 3, 4, 4, 5, 2, 3, 3, 4, 3, 4, 4, 5, 3, 4, 4, 5, 4, 5, 5, 6, 2, 3, 3, 4, 3, 4, 4, 5, 3, 4, 4, 5, 4, 5, 5, 6, 3, 4, 4, 5, 4, 5, 5, 6, 4, 5, 5, 6, 5, 6, 6, 7]) (List.append [1, 2, 2, 3, 2, 3, 3, 4, 2, 3, 3, 4, 3, 4, 4, 5, 2, 3, 3, 4, 3, 4, 4, 5, 3, 4, 4, 5, 4, 5, 5, 6, 2, 3, 3, 4, 3, 4, 4, 5, 3, 4, 4, 5, 4, 5, 5, 6, 3, 4, 4, 5, 4, 5, 5, 6, 4, 5, 5, 6, 5, 6, 6, 7] [2, 3, 3, 4, 3, 4, 4, 5, 3, 4, 4, 5, 4, 5, 5, 6, 3, 4, 4, 5, 4, 5, 5, 6, 4, 5, 5, 6, 5, 6, 6, 7, 3, 4, 4, 5, 4, 5, 5, 6, 4, 5, 5, 6, 5, 6, 6, 7, 4, 5, 5, 6, 5, 6, 6, 7, 5, 6, 6, 7, 6, 7, 7, 8])))⟩ : ByteArray).data.toList[x.toNat]? = some (UInt8.ofNat (zeros8 (~~~ x))) := by
  have key : ∀ x : Fin 256, (⟨(List.toArray (List.append (List.append [0, 1, 1, 2, 1, 2, 2, 3, 1, 2, 2, 3, 2, 3, 3, 4, 1, 2, 2, 3, 2, 3, 3, 4, 2, 3, 3, 4, 3, 4, 4, 5, 1, 2, 2, 3, 2, 3, 3, 4, 2, 3, 3, 4, 3, 4, 4, 5, 2, 3, 3, 4, 3, 4, 4, 5, 3, 4, 4, 5, 4, 5, 5, 6] [1, 2, 2, 3, 2, 3, 3, 4, 2, 3, 3, 4, 3, 4, 4, 5, 2, 3, 3, 4, 3, 4, 4, 5, 3, 4, 4, 5, 4, 5, 5, 6, 2, 3, 3, 4, 3, 4, 4, 5, 3, 4, 4, 5, 4, 5, 5, 6, 3, 4, 4, 5, 4, 5, 5, 6, 4, 5, 5, 6, 5, 6, 6, 7]) (List.append [1, 2, 2, 3, 2, 3, 3, 4, 2, 3, 3, 4, 3, 4, 4, 5, 2, 3, 3, 4, 3, 4, 4, 5, 3, 4, 4, 5, 4, 5, 5, 6, 2, 3, 3, 4, 3, 4, 4, 5, 3, 4, 4, 5, 4, 5, 5, 6, 3, 4, 4, 5, 4, 5, 5, 6, 4, 5, 5, 6, 5, 6, 6, 7] [2, 3, 3, 4, 3, 4, 4, 5, 3, 4, 4, 5, 4, 5, 5, 6, 3, 4, 4, 5, 4, 5, 5, 6, 4, 5, 5, 6, 5, 6, 6, 7, 3, 4, 4, 5, 4, 5, 5, 6, 4, 5, 5, 6, 5, 6, 6, 7, 4, 5, 5, 6, 5, 6, 6, 7, 5, 6, 6, 7, 6, 7, 7, 8])))⟩ : ByteArray).data.toList[(UInt8.ofNat x.val).toNat]? = some (UInt8.ofNat (zeros8 (~~~ (UInt8.ofNat x.val)))) := by decide +kernel
  intro x
  have := key ⟨x.toNat, x.toNat_lt⟩
  simpa only [UInt8.ofNat_toNat] using this

theorem bits_OnesCount8_spec (x : UInt8) (w : World) : CallsR prog K.bits_OnesCount8 #[.int .u8 (x.toNat : Int)] w fun v w' => v = .int .i64 (zeros8 (~~~ x) : Nat) ∧ w' = w := by
  apply bits_OnesCount8.sh
  unfold bits_OnesCount8.body
  refine ⟨by omega, UInt8.ofNat (zeros8 (~~~ x)), ?_, ?_⟩
  · rw [Int.toNat_natCast]; exact ones_tbl x
  · have h := zeros8_le (~~~ x)
    refine ⟨?_, rfl⟩
    have : (UInt8.ofNat (zeros8 (~~~ x))).toNat = zeros8 (~~~ x) := by
      rw [UInt8.toNat_ofNat']; omega
    rw [this, w64 (by omega) (by omega)]

theorem ofInt_byte (x : UInt8) : BitVec.ofInt 8 (x.toNat : Int) = x.toBitVec := by
  apply BitVec.eq_of_toNat_eq
  rw [BitVec.ofInt_natCast, BitVec.toNat_ofNat]
  exact Nat.mod_eq_of_lt x.toNat_lt
theorem byte_not (x : UInt8) : IntKind.u8.wrap (((BitVec.ofInt (IntKind.bits .u8) (if IntKind.signed .u8 then -1 else IntKind.max .u8) ^^^ BitVec.ofInt (IntKind.bits .u8) (x.toNat : Int)).toNat : Nat) : Int) = ((~~~ x).toNat : Int) := by
  show IntKind.u8.wrap (((BitVec.ofInt 8 255 ^^^ BitVec.ofInt 8 (x.toNat : Int)).toNat : Nat) : Int) = _
  rw [ofInt_byte]
  have e : BitVec.ofInt 8 255 ^^^ x.toBitVec = (~~~ x).toBitVec := by
    rw [UInt8.toBitVec_not, show BitVec.ofInt 8 255 = BitVec.allOnes 8 from rfl, BitVec.allOnes_xor]
  rw [e, wu8 (Int.natCast_nonneg _) (by have := (~~~ x).toNat_lt; show ((~~~ x).toNat : Int) < 256; omega)]
  rfl

theorem seal_Noughts_spec {a : Option Addr} {l : List UInt8} {c : Nat} {w : World} (h : BytesAt w a l) (hn : l.length ≤ 100000) :
    CallsR prog K.seal_Noughts #[.slice a l.length c] w fun v w' => v = .int .i64 (noughts l : Nat) ∧ w' = w := by
  apply seal_Noughts.sh
  refine ⟨fun x y u => ∃ i : Nat, y = i ∧ i ≤ l.length ∧ x = (noughts (l.take i) : Nat) ∧ u = w, fun _ y _ => ((l.length : Int) - y).toNat, ⟨0, rfl, by omega, by simp [noughts], rfl⟩, ?_⟩
  rintro x y u ⟨i, rfl, hi, rfl, rfl⟩
  refine br_dec (fun hlt => ?_) fun hge => ?_
  · refine idx_byte h (by omega) (by omega) ?_
    rw [byte_not]
    refine (bits_OnesCount8_spec _ _).mono ?_
    rintro _ _ ⟨rfl, rfl⟩
    refine ⟨_, rfl, ?_⟩
    have h1 := noughts_le (l.take i)
    have h2 : (l.take i).length ≤ i := by simp; omega
    have h3 : ∀ x : UInt8, ~~~ (~~~ x) = x := fun x => by simp
    rw [h3]
    have h4 := zeros8_le (l.getD i 0)
    simp only [Int.toNat_natCast]
    rw [w64 (by omega) (by omega), w64 (by omega) (by omega)]
    exact ⟨⟨i + 1, by omega, by omega, by rw [noughts_take_succ l i (by omega)]; omega, by trivial⟩, by omega⟩
  · have : i = l.length := by omega
    subst this
    rw [List.take_length]
    exact ⟨rfl, by trivial⟩

theorem isBlank_take_succ (l : List UInt8) (i : Nat) (h : i < l.length) : isBlank (l.take (i + 1)) = (isBlank (l.take i) && l.getD i 0 == 255) := by
  rw [List.take_succ_eq_append_getElem h]
  simp only [isBlank, List.all_append, List.getD, List.getElem?_eq_getElem h, Option.getD_some]
  simp
theorem isBlank_get {l : List UInt8} (h : isBlank l = true) {i : Nat} (hi : i < l.length) : l.getD i 0 = 255 := by
  simp [isBlank] at h
  simp [List.getD, hi]
  exact h _ (List.getElem_mem hi)

theorem seal_Blank_spec {a : Option Addr} {l : List UInt8} {c : Nat} {w : World} (h : BytesAt w a l) (hn : l.length ≤ 100000) :
    CallsR prog K.seal_Blank #[.slice a l.length c] w fun v w' => v = .bool (isBlank l) ∧ w' = w := by
  apply seal_Blank.sh
  refine ⟨fun y u => ∃ i : Nat, y = i ∧ i ≤ l.length ∧ isBlank (l.take i) = true ∧ u = w, fun y _ => ((l.length : Int) - y).toNat, ⟨0, rfl, by omega, by simp [isBlank], rfl⟩, ?_⟩
  rintro y u ⟨i, rfl, hi, hb, rfl⟩
  refine br_dec (fun hlt => ?_) fun hge => ?_
  · refine idx_byte h (by omega) (by omega) ?_
    simp only [Int.toNat_natCast]
    have hi' : i < l.length := by omega
    refine br_ne (fun hne => ?_) fun heq => ?_
    · refine ⟨?_, by trivial⟩
      have : isBlank l = false := by
        cases hbl : isBlank l with
        | false => rfl
        | true => exfalso; apply hne; rw [isBlank_get hbl hi']; rfl
      rw [this]
    · have : l.getD i 0 = 255 := by
        apply UInt8.toNat_inj.1
        show _ = 255
        omega
      rw [w64 (by omega) (by omega)]
      exact ⟨⟨i + 1, by omega, by omega, by rw [isBlank_take_succ l i hi', hb, this]; rfl, by trivial⟩, by omega⟩
  · have : i = l.length := by omega
    subst this
    rw [List.take_length] at hb
    exact ⟨by rw [hb], by trivial⟩

theorem seal_isSize_spec (n : Int) (w : World) : CallsR prog K.seal_isSize #[.int .i64 n] w fun v w' => v = .bool (isSize n) ∧ w' = w := by
  apply seal_isSize.sh
  unfold seal_isSize.body isSize
  refine br_dec (fun h => ?_) fun h => ?_ <;> simp [h]
theorem carrackref02_Size_spec (n : Int) (w : World) : CallsR prog K.carrackref02_Size #[.int .i64 n] w fun v w' => v = .bool (isSize n) ∧ w' = w := by
  apply carrackref02_Size.sh
  unfold carrackref02_Size.body isSize
  refine br_dec (fun h => ?_) fun h => ?_ <;> simp [h]
theorem seal_Body_spec (n : Int) (w : World) : CallsR prog K.seal_Body #[.int .i64 n] w fun v w' => v = .int .i64 (if isSize n = true then n - 5 else 0) ∧ w' = w := by
  apply seal_Body.sh
  unfold seal_Body.body
  refine (seal_isSize_spec n w).mono ?_
  rintro _ _ ⟨rfl, rfl⟩
  refine ⟨_, rfl, ?_⟩
  cases h : isSize n with
  | false => simp
  | true =>
    simp [isSize] at h
    simp only [Bool.not_true, br_false]
    rw [w64 (by omega) (by omega)]
    simp

/-! ### The page that is made -/
theorem copy_into {w : World} {b : Nat} {cur : Array Value} {o n : Nat} {ax : Option Addr} {xs : List UInt8} {cx : Nat} (hb : w.heap[b]? = some (.cells cur T.uint8 (0, 0))) (hx : BytesAt w ax xs) (hn : xs.length ≤ n) (hl : o + xs.length ≤ cur.size)
    {K : Int → World → Prop} (hk : ∀ w', Put w b (.cells (splice cur o (xs.map bv)) T.uint8 (0, 0)) w' → K xs.length w') : copyP 1 (some ⟨b, o, none⟩) n (.slice ax xs.length cx) w K := by
  refine ⟨xs.length, rfl, xs.map bv, ?_, oneCell_bytes, ?_⟩
  · have := read_row (cap := cx) (size := 1) hx (len := xs.length) (by simp)
    rw [show min xs.length n = xs.length by omega]
    exact this
  · rw [show min xs.length n = xs.length by omega]
    exact store_of hb (by simpa using hl) fun w' hput => hk w' hput

theorem splice_bytes (l : List UInt8) (o : Nat) (xs : List UInt8) : splice ((l.map bv).toArray) o (xs.map bv) = ((l.take o ++ xs ++ l.drop (o + xs.length)).map bv).toArray := by
  simp [splice]

theorem fill_ff {w : World} {b n : Nat} {K : World → Prop} : True := trivial

theorem seal_Put_spec (size k : Int) (kind : UInt8) (hk : k = (kind.toNat : Int)) {a : Option Addr} {body : List UInt8} {c : Nat} {w : World} (h : BytesAt w a body) (hn : body.length ≤ 281474976710656) :
    CallsR prog K.seal_Put #[.int .i64 size, .int .u8 k, .slice a body.length c] w fun v w' => Ext w w' ∧
      if isSize size = false ∨ kind < 1 ∨ kind > 7 then v = .tuple #[.slice none 0 0, .int .i64 2]
      else if (body.length : Int) > size - 5 then v = .tuple #[.slice none 0 0, .int .i64 3]
      else ∃ a c, v = .tuple #[.slice a size.toNat c, .int .i64 0] ∧ BytesAt w' a (pageOf size.toNat kind body) ∧ Fresh w a ∧ size.toNat ≤ c := by
  subst hk
  have hklt := kind.toNat_lt
  apply seal_Put.sh
  unfold seal_Put.body
  have e1 : kind < 1 ↔ (kind.toNat : Int) < 1 := by rw [UInt8.lt_iff_toNat_lt]; show kind.toNat < 1 ↔ _; omega
  have e7 : kind > 7 ↔ (kind.toNat : Int) > 7 := by show (7 : UInt8) < kind ↔ _; rw [UInt8.lt_iff_toNat_lt]; show 7 < kind.toNat ↔ _; omega
  refine ⟨fun u => u = w ∧ isSize size = true ∧ ¬ kind < 1 ∧ ¬ kind > 7 ∧ ¬ (body.length : Int) > size - 5, ?_, ?_⟩
  · refine (seal_isSize_spec _ w).mono ?_
    rintro _ _ ⟨rfl, rfl⟩
    refine ⟨_, rfl, ?_⟩
    cases hs : isSize size with
    | false => simp only [Bool.not_false, br_true, true_or, if_true]; exact ⟨Upd.refl _ _, trivial⟩
    | true =>
      simp only [Bool.not_true, br_false]
      refine br_dec (fun h1 => ⟨Upd.refl _ _, ?_⟩) fun h1 => br_dec (fun h7 => ⟨Upd.refl _ _, ?_⟩) fun h7 => ?_
      · rw [if_pos (.inr (.inl (e1.2 h1)))]; trivial
      · rw [if_pos (.inr (.inr (e7.2 h7)))]; trivial
      · refine (seal_Body_spec _ _).mono ?_
        rintro _ u ⟨rfl, rfl⟩
        refine ⟨_, rfl, ?_⟩
        rw [hs]
        simp only [if_true]
        have hcond : ¬ (true = false ∨ kind < 1 ∨ kind > 7) := by rw [e1, e7]; simp; omega
        refine br_dec (fun hl => ⟨Upd.refl _ _, ?_⟩) fun hl => ⟨by trivial, by trivial, fun h => h1 (e1.1 h), fun h => h7 (e7.1 h), hl⟩
        rw [if_neg hcond, if_pos hl]; trivial
  · rintro w' ⟨rfl, hs, hk1, hk7, hbl⟩
    have hs' := hs
    simp [isSize] at hs'
    obtain ⟨m, hm⟩ : ∃ m : Nat, size = (m + 5 : Nat) := ⟨(size - 5).toNat, by omega⟩
    subst hm
    have hbl' : body.length ≤ m := by omega
    refine ⟨by omega, by omega, by omega, by omega, rfl, fun b w₁ hnew => ?_⟩
    rw [zeros_bytes, Int.toNat_natCast] at hnew
    refine ⟨fun x w₂ => ∃ i : Nat, x = i ∧ i ≤ m + 5 ∧ Ext w' w₂ ∧ w₂.heap[b]? = some (.cells ((List.replicate (m + 5) (bv 255)).take i ++ (List.replicate (m + 5) (Value.int .u8 0)).drop i).toArray T.uint8 (0, 0)), fun x _ => ((m + 5 : Nat) - x).toNat,
      ⟨0, rfl, by omega, hnew.upd, by simpa using hnew.get⟩, ?_⟩
    rintro x w₂ ⟨i, rfl, hi, hext, hb⟩
    have hbn : w'.heap.size ≤ b := by rw [hnew.num]; exact Nat.le_refl _
    refine br_dec (fun hlt => ?_) fun hge => ?_
    · simp only [Int.toNat_natCast] at hlt
      have hl : i < (List.replicate (m + 5) (bv 255)).length := by simp; omega
      refine ⟨by omega, by simp; omega, ?_⟩
      simp only [nilC_some', add_lit, Nat.mul_one, Nat.zero_add, Int.toNat_natCast]
      refine store_of hb (by simp; omega) fun w₃ hput => ?_
      have hval : Value.int .u8 255 = (List.replicate (m + 5) (bv 255))[i] := by simp
      rw [hval, fill_step _ _ _ hl (by simp)] at hput
      rw [w64 (by omega) (by omega)]
      exact ⟨⟨i + 1, by omega, by omega, Put.upd hext hput (.inl hbn), hput.get⟩, by omega⟩
    · simp only [Int.toNat_natCast] at hge
      have : i = m + 5 := by omega
      subst this
      have hb0 : w₂.heap[b]? = some (.cells ((List.replicate (m + 5) (255 : UInt8)).map bv).toArray T.uint8 (0, 0)) := by
        rw [hb]; simp
      clear hb
      have hbs := (Array.getElem?_eq_some_iff.1 hb0).1
      rw [wu64 (by omega) (by omega)]
      have hp1 := ends_Put_spec body.length 2 w₂ (by rfl) (by have : (256 : Nat) ^ 2 = 65536 := by decide
                                                              omega)
      refine hp1.mono ?_
      rintro _ w₃ ⟨a₂, c₂, rfl, hb2, hf2, he3⟩
      refine ⟨_, _, _, _, rfl, ?_⟩
      refine ⟨by omega, by simp; omega, ?_⟩
      simp only [nilC_some', add_lit, Nat.mul_one, Nat.zero_add, Int.toNat_natCast, tn2]
      have hb3 := Ext.get he3 hb0
      refine store_of hb3 (by simp) fun w₄ hput4 => ?_
      have hne2 : ∀ p, a₂ = some p → ¬ p.block = b := fun p hp e => by have := hf2 p hp; omega
      have hb2' := RowAt.upd hb2 hput4.upd1 hne2
      have s1 := splice_bytes (List.replicate (m + 5) (255 : UInt8)) 2 [kind]
      simp only [List.map_cons, List.map_nil] at s1
      rw [s1] at hput4
      refine slice_from (by omega) (by omega) (by omega) ?_
      rw [if_neg (by omega)]
      simp only [Option.map_some, add_lit, Nat.mul_one, Nat.zero_add, tn2, tn3, tn5, Int.toNat_natCast]
      have hlen2 := leB_length 2 body.length
      have hrw : (2 : Nat) = (leB body.length 2).length := hlen2.symm
      have hcp1 : ∀ {K : Int → World → Prop}, (∀ u, Put w₄ b (.cells (splice ((((List.replicate (m + 5) (255 : UInt8)).take 2 ++ [kind] ++ (List.replicate (m + 5) (255 : UInt8)).drop (2 + [kind].length)).map bv).toArray) 3 ((leB body.length 2).map bv)) T.uint8 (0, 0)) u → K (leB body.length 2).length u) →
          copyP 1 (some ⟨b, 3, none⟩) (m + 5 - 3) (.slice a₂ 2 c₂) w₄ K := by
        intro K hK
        have := copy_into (n := m + 5 - 3) (cx := c₂) (o := 3) hput4.get hb2' (by rw [hlen2]; omega) (by simp [hlen2]) hK
        rwa [hlen2] at this
      refine hcp1 fun w₅ hput5 => ?_
      rw [splice_bytes] at hput5
      refine slice_from (by omega) (by omega) (by omega) ?_
      rw [if_neg (by omega)]
      simp only [Option.map_some, add_lit, Nat.mul_one, Nat.zero_add, tn2, tn3, tn5, Int.toNat_natCast]
      have hE5 : Ext w' w₅ := Put.upd (Put.upd (hext.trans he3) hput4 (.inl hbn)) hput5 (.inl hbn)
      refine copy_into hput5.get (h.ext hE5) (by simp; omega) (by simp [hlen2]; omega) fun w₆ hput6 => ?_
      rw [splice_bytes] at hput6
      have hE6 : Ext w' w₆ := Put.upd hE5 hput6 (.inl hbn)
      have hL : ∃ b0 b1, leB body.length 2 = [b0, b1] := by
        match hq : leB body.length 2, hlen2 with
        | [b0, b1], _ => exact ⟨b0, b1, rfl⟩
      obtain ⟨b0, b1, hL⟩ := hL
      have hrest : (((List.replicate (m + 5) (255 : UInt8)).take 2 ++ [kind] ++ (List.replicate (m + 5) (255 : UInt8)).drop (2 + [kind].length)).take 3 ++ leB body.length 2 ++ ((List.replicate (m + 5) (255 : UInt8)).take 2 ++ [kind] ++ (List.replicate (m + 5) (255 : UInt8)).drop (2 + [kind].length)).drop (3 + (leB body.length 2).length)).take 5 ++ body ++
          (((List.replicate (m + 5) (255 : UInt8)).take 2 ++ [kind] ++ (List.replicate (m + 5) (255 : UInt8)).drop (2 + [kind].length)).take 3 ++ leB body.length 2 ++ ((List.replicate (m + 5) (255 : UInt8)).take 2 ++ [kind] ++ (List.replicate (m + 5) (255 : UInt8)).drop (2 + [kind].length)).drop (3 + (leB body.length 2).length)).drop (5 + body.length) = [255, 255] ++ pageRest (m + 5) kind body := by
        simp only [hL, pageRest]
        have r5 : List.replicate (m + 5) (255 : UInt8) = 255 :: 255 :: 255 :: 255 :: 255 :: List.replicate m 255 := rfl
        simp only [r5]
        simp
        rw [show 5 + body.length = body.length + 5 by omega]
        simp
      rw [hrest] at hput6
      have hP6 := hput6.get
      refine slice_from (by omega) (by omega) (by omega) ?_
      rw [if_neg (by omega)]
      simp only [Option.map_some, add_lit, Nat.mul_one, Nat.zero_add, tn2, tn3, tn5, Int.toNat_natCast]
      have hPR := pageRest_length (m + 5) kind body (by omega)
      have hbp : BytesAt w₆ (some ⟨b, 2, none⟩) (pageRest (m + 5) kind body) := RowAt.of hP6 fun j v hj => by
        simp only [List.map_append, List.getElem?_toArray]
        rw [List.getElem?_append_right (by simp)]
        simpa using hj
      have hlen6 : (m + 5 - 2) = (pageRest (m + 5) kind body).length := by rw [hPR]
      rw [hlen6]
      refine (seal_Noughts_spec hbp (by rw [hPR]; omega)).mono ?_
      rintro _ _ ⟨rfl, rfl⟩
      refine ⟨_, rfl, ?_⟩
      have hnl := noughts_le (pageRest (m + 5) kind body)
      rw [hPR] at hnl
      rw [wu64 (by omega) (by omega)]
      rename_i w₇
      refine (ends_Put_spec (noughts (pageRest (m + 5) kind body)) 2 w₇ (by rfl) (by have : (256 : Nat) ^ 2 = 65536 := by decide
                                                                                     omega)).mono ?_
      rintro _ w₈ ⟨a₃, c₃, rfl, hb3', hf3, he8⟩
      refine ⟨_, _, _, _, rfl, ?_⟩
      have hlen3 := leB_length 2 (noughts (pageRest (m + 5) kind body))
      have hP8 := Ext.get he8 hP6
      have hcp2 : ∀ {K : Int → World → Prop}, (∀ u, Put w₈ b (.cells (splice ((([255, 255] ++ pageRest (m + 5) kind body).map bv).toArray) 0 ((leB (noughts (pageRest (m + 5) kind body)) 2).map bv)) T.uint8 (0, 0)) u → K (leB (noughts (pageRest (m + 5) kind body)) 2).length u) →
          copyP 1 (some ⟨b, 0, none⟩) (m + 5) (.slice a₃ 2 c₃) w₈ K := by
        intro K hK
        have := copy_into (n := m + 5) (cx := c₃) (o := 0) hP8 hb3' (by rw [hlen3]; simp) (by simp [hlen3]) hK
        rwa [hlen3] at this
      refine hcp2 fun w₉ hput9 => ?_
      rw [splice_bytes] at hput9
      have hE9 : Ext w' w₉ := Put.upd (hE6.trans he8) hput9 (.inl hbn)
      refine ⟨hE9, ?_⟩
      have hcond : ¬ (isSize ((m + 5 : Nat) : Int) = false ∨ kind < 1 ∨ kind > 7) := by rw [hs]; simp only [Bool.true_eq_false, false_or]; exact fun h => h.elim hk1 hk7
      rw [if_neg hcond, if_neg hbl]
      refine ⟨_, _, rfl, RowAt.of hput9.get fun j v hj => ?_, Fresh.some hbn, Nat.le_refl _⟩
      have hfin : (([255, 255] ++ pageRest (m + 5) kind body).take 0 ++ leB (noughts (pageRest (m + 5) kind body)) 2 ++ ([255, 255] ++ pageRest (m + 5) kind body).drop (0 + (leB (noughts (pageRest (m + 5) kind body)) 2).length)) = pageOf (m + 5) kind body := by
        rw [hlen3]; simp [pageOf]
      rw [hfin]
      simpa using hj

end Go.Den
