/- Contracts of layer 4 (pool) and its reference: heads of pages. -/
import Derived.Test.YtljaocdmeoheaaaSRef2
set_option linter.unusedVariables false
set_option linter.unusedSimpArgs false
set_option maxRecDepth 4000
namespace Go.Den

structure Head where
  kind : UInt8
  era : Nat
  seq : Nat
  deriving DecidableEq
namespace Head
def Ok (h : Head) : Prop := h.era < 4294967296 ∧ h.seq < 18446744073709551616
def may (h : Head) : Bool := decide (1 ≤ h.kind.toNat) && decide (h.kind.toNat ≤ 3) && decide (1 ≤ h.era) && decide (1 ≤ h.seq)
def body (h : Head) : List UInt8 := h.kind :: (leB h.era 4 ++ leB h.seq 8)
def none : Head := ⟨0, 0, 0⟩
def vals (h : Head) : List Value := [bv h.kind, .int .u32 h.era, .int .u64 h.seq]
end Head
abbrev headV (h : Head) : Value := .agg #[bv h.kind, .int .u32 h.era, .int .u64 h.seq]
/-- a head's page, or an error -/
def putHead (size : Int) (h : Head) : List UInt8 × Nat :=
  if h.may = false ∨ isSize size = false then ([], 2) else (pageOf size.toNat 1 h.body, 0)
/-- the head of a page, or an error -/
def getHead (b : List UInt8) : Head × Nat :=
  if (getPage b).2.2 ≠ 0 then (Head.none, (getPage b).2.2)
  else if (getPage b).1 ≠ 1 ∨ (getPage b).2.1.length ≠ 13 then (Head.none, 5)
  else if (Head.mk ((getPage b).2.1.getD 0 0) (fromLE (((getPage b).2.1.drop 1).take 4)) (fromLE (((getPage b).2.1.drop 5).take 8))).may then
    (⟨(getPage b).2.1.getD 0 0, fromLE (((getPage b).2.1.drop 1).take 4), fromLE (((getPage b).2.1.drop 5).take 8)⟩, 0) else (Head.none, 5)

theorem Head.body_length (h : Head) : h.body.length = 13 := by simp [Head.body, leB_length]
theorem fromLE_lt4 (l : List UInt8) : fromLE (l.take 4) < 4294967296 := by
  have h := fromLE_lt (l.take 4)
  have h2 : (l.take 4).length ≤ 4 := by simp; omega
  have h3 := Nat.pow_le_pow_right (n := 256) (by omega) h2
  have e : (256 : Nat) ^ 4 = 4294967296 := by decide
  omega
theorem fromLE_lt8 (l : List UInt8) : fromLE (l.take 8) < 18446744073709551616 := by
  have h := fromLE_lt (l.take 8)
  have h2 : (l.take 8).length ≤ 8 := by simp; omega
  have h3 := Nat.pow_le_pow_right (n := 256) (by omega) h2
  have e : (256 : Nat) ^ 8 = 18446744073709551616 := by decide
  omega
theorem fromLE_take1 (l : List UInt8) : fromLE (l.take 1) = (l.getD 0 0).toNat := by
  cases l <;> simp [fromLE]
theorem getHead_ok (b : List UInt8) : (getHead b).1.Ok := by
  unfold getHead
  split
  · exact ⟨by show 0 < _; omega, by show 0 < _; omega⟩
  · split
    · exact ⟨by show 0 < _; omega, by show 0 < _; omega⟩
    · split
      · exact ⟨fromLE_lt4 _, fromLE_lt8 _⟩
      · exact ⟨by show 0 < _; omega, by show 0 < _; omega⟩

/-- bytes, and an error -/
def PutIs (w w' : World) (v : Value) (r : List UInt8 × Nat) : Prop :=
  ∃ a c, v = .tuple #[.slice a r.1.length c, .int .i64 (r.2 : Nat)] ∧ BytesAt w' a r.1 ∧ Fresh w a ∧ r.1.length ≤ c

theorem carrackref04_MayHead_spec (h : Head) (w : World) :
    CallsR prog K.carrackref04_MayHead #[headV h] w fun v w' => v = .bool h.may ∧ Ext w w' := by
  apply carrackref04_MayHead.sh
  intro B w₁ hn
  have hc := hn.get
  simp only [add_lit]
  refine ⟨_, cell_of hc rfl, br_dec (fun h1 => ⟨_, cell_of hc rfl, br_dec (fun h2 => ⟨_, cell_of hc rfl, br_dec (fun h3 => ⟨_, cell_of hc rfl, ?_, hn.upd⟩) fun h3 => ⟨?_, hn.upd⟩⟩) fun h2 => ⟨?_, hn.upd⟩⟩) fun h1 => ⟨?_, hn.upd⟩⟩
  · have a1 : decide (1 ≤ h.kind.toNat) = true := decide_eq_true (by omega)
    have a2 : decide (h.kind.toNat ≤ 3) = true := decide_eq_true (by omega)
    have a3 : decide (1 ≤ h.era) = true := decide_eq_true (by omega)
    simp only [Head.may, a1, a2, a3, Bool.true_and]
    congr 1
    exact decide_eq_decide.2 (by omega)
  · have a3 : decide (1 ≤ h.era) = false := decide_eq_false (by omega)
    simp [Head.may, a3]
  · have a3 : decide (h.kind.toNat ≤ 3) = false := decide_eq_false (by omega)
    simp [Head.may, a3]
  · have a3 : decide (1 ≤ h.kind.toNat) = false := decide_eq_false (by omega)
    simp [Head.may, a3]

theorem putHead_size {size : Int} (h : isSize size = true) : (13 : Int) ≤ size - 5 := by simp [isSize] at h; omega

theorem seal_put_head {size : Int} {h : Head} (hm : h.may = true) {w w₀ w' : World} {v : Value} (hf : w₀.heap.size ≤ w.heap.size)
    (hv : if isSize size = false ∨ (1 : UInt8) < 1 ∨ (1 : UInt8) > 7 then v = .tuple #[.slice none 0 0, .int .i64 2]
      else if (h.body.length : Int) > size - 5 then v = .tuple #[.slice none 0 0, .int .i64 3]
      else ∃ a c, v = .tuple #[.slice a size.toNat c, .int .i64 0] ∧ BytesAt w' a (pageOf size.toNat 1 h.body) ∧ Fresh w a ∧ size.toNat ≤ c) :
    PutIs w₀ w' v (putHead size h) ∧ ∃ (a4 : Option Addr) (l4 c4 : Nat) (x10 : Int), v = Value.tuple #[Value.slice a4 l4 c4, Value.int .i64 x10] := by
  have hk : ¬ ((1 : UInt8) < 1 ∨ (1 : UInt8) > 7) := by decide
  have hbl := h.body_length
  unfold putHead
  cases hs : isSize size with
  | false =>
    rw [if_pos (.inl hs)] at hv
    rw [if_pos (.inr rfl), hv]
    exact ⟨⟨none, 0, rfl, BytesAt.nil _ _, Fresh.none _, Nat.le_refl _⟩, _, _, _, _, rfl⟩
  | true =>
    have hsz := putHead_size hs
    rw [if_neg (by rw [hs]; simp only [Bool.true_eq_false, false_or]; exact hk), if_neg (by omega)] at hv
    rw [if_neg (by rw [hm]; simp)]
    obtain ⟨a, c, rfl, hb, hfr, hcp⟩ := hv
    have hl : (pageOf size.toNat 1 h.body).length = size.toNat := pageOf_length _ _ _ (by omega)
    refine ⟨⟨a, c, ?_, hb, Fresh.mono hfr hf, by rw [← hl] at hcp; exact hcp⟩, _, _, _, _, rfl⟩
    simp only [hl]
    rfl

theorem carrackref04_PutHead_spec (size : Int) (h : Head) (ho : h.Ok) (w : World) (hsz : size < 9223372036854775808) (hsz0 : -9223372036854775808 ≤ size) :
    CallsR prog K.carrackref04_PutHead #[.int .i64 size, headV h] w fun v w' => Ext w w' ∧ PutIs w w' v (putHead size h) := by
  apply carrackref04_PutHead.sh
  intro B w₁ hn
  have hc := hn.get
  simp only [add_lit]
  refine ⟨_, _, _, cellsAt_of (o := 0) (vs := h.vals) hc (fun j v hj => by simpa [Head.vals] using hj), ?_⟩
  refine (carrackref04_MayHead_spec h w₁).mono ?_
  rintro _ w₂ ⟨rfl, he2⟩
  have e2 : Ext w w₂ := hn.upd.trans he2
  refine ⟨_, rfl, ?_⟩
  cases hm : h.may with
  | false =>
    simp only [Bool.not_false, br_true]
    refine ⟨e2, ?_⟩
    unfold putHead
    rw [if_pos (.inl hm)]
    exact ⟨none, 0, rfl, BytesAt.nil _ _, Fresh.none _, Nat.le_refl _⟩
  | true =>
  simp only [Bool.not_true, br_false]
  have hc2 := Ext.get he2 hc
  refine ⟨_, cell_of hc2 rfl, fun B2 w₃ hn3 => ?_⟩
  have e3 := e2.trans hn3.upd
  have hc3 := Ext.get hn3.upd hc2
  refine ⟨_, cell_of hc3 rfl, ?_⟩
  have q : IntKind.u64.wrap (h.era : Int) = (h.era : Int) := wu64n (by have := ho.1; omega)
  rw [q]
  refine (carrackref01_Put_spec h.era 4 w₃ (by rfl) (by have : (256 : Nat) ^ 4 = 4294967296 := by decide
                                                        have := ho.1; omega)).mono ?_
  rintro _ w₄ ⟨a1, c1, rfl, ho1, hf1, he4⟩
  refine ⟨_, _, _, _, rfl, _, cell_of (Ext.get he4 hc3) rfl, ?_⟩
  refine (carrackref01_Put_spec h.seq 8 w₄ (by rfl) (by have : (256 : Nat) ^ 8 = 18446744073709551616 := by decide
                                                        have := ho.2; omega)).mono ?_
  rintro _ w₅ ⟨a2, c2, rfl, ho2, hf2, he5⟩
  refine ⟨_, _, _, _, rfl, ?_⟩
  have hB2 : B2 = w₂.heap.size := hn3.num
  have hs2 := hn3.size
  have ob : OwnAt w₅ (some ⟨B2, 0, none⟩) [h.kind].length 1 T.uint8 1 ([h.kind].map bv) := OwnAt.ext (OwnAt.ext (OwnAt.new (n := 1) (size := 1) hn3 (by simp)) he4) he5
  have hs4 := he4.size
  have hs5 := he5.size
  have b1 : BytesAt w₅ a1 (leB h.era 4) := RowAt.ext ho1.row he5
  refine append_bytes' (l := [h.kind]) (xs := leB h.era 4) rfl (by rw [leB_length]) ob b1 (by simp [leB_length]) fun a3 c3 w₆ hu6 ho6 hf6 => ?_
  have b2 : BytesAt w₆ a2 (leB h.seq 8) := RowAt.upd ho2.row hu6 (fun p hp e => by cases e; have := hf2 _ hp; omega)
  refine append_bytes' (l := [h.kind] ++ leB h.era 4) (xs := leB h.seq 8) rfl (by rw [leB_length]) ho6 b2 (by simp [leB_length]) fun a4 c4 w₇ hu7 ho7 hf7 => ?_
  have e5 : Ext w w₅ := (e3.trans he4).trans he5
  have hsw := e2.size
  have hf6' : Fresh w a3 := by
    rcases hf6 with rfl | ⟨b, rfl, hb⟩
    · exact Fresh.some (by omega)
    · exact Fresh.some (by omega)
  have e6 : Ext w w₆ := Upd.beyond e5 hu6 (fun x hx => by cases hx; omega)
  have e7 : Ext w w₇ := Upd.beyond e6 hu7 (fun x hx => hf6' _ hx)
  have hbody : [h.kind] ++ leB h.era 4 ++ leB h.seq 8 = h.body := by simp [Head.body]
  rw [hbody] at ho7 ⊢
  refine (carrackref02_Put_spec size 1 1 rfl ho7.row (by rw [h.body_length]; omega) hsz hsz0).mono ?_
  rintro v w₈ ⟨he8, hv⟩
  obtain ⟨hput, a, l, c, x, rfl⟩ := seal_put_head hm e7.size hv
  exact ⟨_, _, _, _, rfl, e7.trans he8, hput⟩

theorem pool_PutHead_spec (size : Int) (h : Head) (ho : h.Ok) (w : World) :
    CallsR prog K.pool_PutHead #[.int .i64 size, headV h] w fun v w' => Ext w w' ∧ PutIs w w' v (putHead size h) := by
  apply pool_PutHead.sh
  intro B w₁ hn
  have hc := hn.get
  simp only [add_lit]
  have hno : h.may = false → ∀ u, Ext w u → Ext w u ∧ PutIs w u (Value.tuple #[Value.slice none 0 0, Value.int .i64 2]) (putHead size h) := by
    intro hm u hu
    refine ⟨hu, ?_⟩
    unfold putHead
    rw [if_pos (.inl hm)]
    exact ⟨none, 0, rfl, BytesAt.nil _ _, Fresh.none _, Nat.le_refl _⟩
  refine ⟨fun u => u = w₁ ∧ h.may = true, ?_, ?_⟩
  · refine ⟨_, cell_of hc rfl, br_dec (fun h1 => hno ?_ _ hn.upd) fun h1 => ⟨_, cell_of hc rfl, br_dec (fun h2 => hno ?_ _ hn.upd) fun h2 => ⟨_, cell_of hc rfl, br_dec (fun h3 => hno ?_ _ hn.upd) fun h3 => ⟨_, cell_of hc rfl, br_dec (fun h4 => hno ?_ _ hn.upd) fun h4 => ⟨by trivial, ?_⟩⟩⟩⟩⟩
    · have a3 : decide (1 ≤ h.kind.toNat) = false := decide_eq_false (by omega)
      simp [Head.may, a3]
    · have a3 : decide (h.kind.toNat ≤ 3) = false := decide_eq_false (by omega)
      simp [Head.may, a3]
    · have a3 : decide (1 ≤ h.era) = false := decide_eq_false (by omega)
      simp [Head.may, a3]
    · have a3 : decide (1 ≤ h.seq) = false := decide_eq_false (by omega)
      simp [Head.may, a3]
    · simp [Head.may]
      omega
  rintro w₂ ⟨rfl, hm⟩
  refine ⟨_, cell_of hc rfl, ?_⟩
  have q : IntKind.u64.wrap (h.era : Int) = (h.era : Int) := wu64n (by have := ho.1; omega)
  rw [q]
  refine (ends_Put_spec h.era 4 w₂ (by rfl) (by have : (256 : Nat) ^ 4 = 4294967296 := by decide
                                                have := ho.1; omega)).mono ?_
  rintro _ w₃ ⟨a1, c1, rfl, hb1, hf1, he3⟩
  refine ⟨_, _, _, _, rfl, _, cell_of (Ext.get he3 hc) rfl, ?_⟩
  refine (ends_Put_spec h.seq 8 w₃ (by rfl) (by have : (256 : Nat) ^ 8 = 18446744073709551616 := by decide
                                                have := ho.2; omega)).mono ?_
  rintro _ w₄ ⟨a2, c2, rfl, hb2, hf2, he4⟩
  refine ⟨_, _, _, _, rfl, _, cell_of (Ext.get he4 (Ext.get he3 hc)) rfl, fun B2 w₅ hn5 B3 w₆ hn6 => ?_⟩
  have e4 := (hn.upd.trans he3).trans he4
  have e6 := (e4.trans hn5.upd).trans hn6.upd
  have hs : SlicesAt w₆ (some ⟨B3, 0, none⟩) [[h.kind], leB h.era 4, leB h.seq 8] := by
    refine ⟨_, RowAt.of hn6.get (vs := [Value.slice (some ⟨B2, 0, none⟩) 1 1, Value.slice a1 4 c1, Value.slice a2 8 c2]) (fun j v hj => by simpa using hj), rfl, fun i hi => ?_⟩
    match i, hi with
    | 0, _ => exact ⟨_, _, rfl, RowAt.ext (RowAt.of hn5.get fun j v hj => by simpa using hj) hn6.upd⟩
    | 1, _ => exact ⟨a1, c1, by simp [leB_length], RowAt.ext (RowAt.ext (RowAt.ext hb1 he4) hn5.upd) hn6.upd⟩
    | 2, _ => exact ⟨a2, c2, by simp [leB_length], RowAt.ext (RowAt.ext hb2 hn5.upd) hn6.upd⟩
  have hfl : ([[h.kind], leB h.era 4, leB h.seq 8] : List (List UInt8)).flatten = h.body := by simp [Head.body]
  have hcat := slices_Concat_spec (cp := 3) hs (by simp) (by rw [hfl, h.body_length]; omega)
  rw [hfl] at hcat
  refine hcat.mono ?_
  rintro _ w₇ ⟨he7, a3, c3, rfl, ho3, hf3⟩
  refine ⟨_, _, _, rfl, ?_⟩
  refine (seal_Put_spec size 1 1 rfl ho3.row (by rw [h.body_length]; omega)).mono ?_
  rintro v w₈ ⟨he8, hv⟩
  obtain ⟨hput, a, l, c, x, rfl⟩ := seal_put_head hm (e6.trans he7).size hv
  exact ⟨_, _, _, _, rfl, (e6.trans he7).trans he8, hput⟩

end Go.Den
