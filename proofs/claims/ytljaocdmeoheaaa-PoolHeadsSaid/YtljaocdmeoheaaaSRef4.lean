/- Contracts of the reference of layer 4 (pool), on a chip. -/
import Derived.Test.YtljaocdmeoheaaaSPool4
set_option linter.unusedVariables false
set_option linter.unusedSimpArgs false
set_option maxRecDepth 4000
namespace Go.Den

/-! ### The plain reference -/
def refHead (c : Chip) (i : Int) : Head × Bool := if c.ask i 0 ≠ 0 then (Head.none, false) else ((getHead (c.page i.toNat 0)).1, decide ((getHead (c.page i.toNat 0)).2 = 0))
/-- behind all of its Seq -/
def posOf (t : Taken) (l : List Taken) : Nat := (l.takeWhile fun x => decide (x.head.seq ≤ t.head.seq)).length
def insAt (t : Taken) (l : List Taken) : List Taken := l.take (posOf t l) ++ [t] ++ l.drop (posOf t l)
def refGo (c : Chip) : Nat → List Taken
  | 0 => []
  | i + 1 => if (refHead c i).2 then insAt ⟨i, (refHead c i).1, c.isBad i⟩ (refGo c i) else refGo c i
def refTaken (c : Chip) : List Taken := refGo c c.nb
def refBlanks (c : Chip) : Nat := ((List.range c.nb).filter fun i : Nat => !(refHead c i).2 && !c.isBad i).length
def refLast (c : Chip) : Nat := (refTaken c).foldl (fun n t => max n t.head.seq) 0

theorem insAt_length (t : Taken) (l : List Taken) : (insAt t l).length = l.length + 1 := by
  unfold insAt
  simp
  omega
theorem refGo_length (c : Chip) (i : Nat) : (refGo c i).length ≤ i := by
  induction i with
  | zero => simp [refGo]
  | succ i ih => 
    unfold refGo
    split
    · rw [insAt_length]; omega
    · omega
theorem takeWhile_le {α : Type} (p : α → Bool) (l : List α) : (l.takeWhile p).length ≤ l.length := by
  induction l with
  | nil => simp
  | cons x l ih => rw [List.takeWhile_cons]; split <;> simp <;> omega
theorem takeWhile_at {α : Type} (p : α → Bool) : ∀ (l : List α) (k : Nat) (hk : k ≤ l.length), (∀ x ∈ l.take k, p x = true) → (∀ (h : k < l.length), p l[k] = false) → (l.takeWhile p).length = k
  | [], k, hk, _, _ => by simp at hk; simp [hk]
  | x :: l, 0, _, _, h => by
    have := h (by simp)
    have : p x = false := this
    simp [List.takeWhile_cons, this]
  | x :: l, k + 1, hk, ha, h => by
    have hx : p x = true := ha x (by simp)
    rw [List.takeWhile_cons, if_pos hx, List.length_cons]
    congr 1
    refine takeWhile_at p l k (by simpa using hk) (fun y hy => ha y (by simp [hy])) (fun hlt => ?_)
    have := h (by simpa using hlt)
    simpa using this

theorem carrackref04_Head_spec {w : World} {p : Nat} {c : Chip} {L : Loc} {G : Nat → Prop} (h : ChipRep w p c L G) (i : Int) :
    CallsR prog K.carrackref04_Head #[.pointer (some ⟨p, 0, none⟩), .int .i64 i] w fun v w' => Ext w w' ∧ v = .tuple #[headV (refHead c i).1, .bool (refHead c i).2] := by
  apply carrackref04_Head.sh
  intro B w₁ hn
  have hB : B = w.heap.size := hn.num
  rw [head_zero] at hn
  have h1 := h.ext hn.upd
  refine (nand_Read_spec h1 i 0).mono ?_
  rintro v w₂ ⟨he2, hv⟩
  have e2 := hn.upd.trans he2
  have hg2 := Ext.get he2 hn.get
  split at hv
  · rename_i h0
    obtain ⟨a, cp, rfl, hba, hcp, hfa⟩ := hv
    refine ⟨_, _, _, _, rfl, br_ne (fun h => by omega) fun _ => ?_⟩
    obtain ⟨hd, hb0, hb1, _, hp1⟩ := ask_zero h0
    have hpl : (c.page i.toNat 0).length = c.sz := page_len h.ok hb1 (by have := h.ok.np1; omega)
    simp only [tn0] at hba
    have hgh := carrackref04_GetHead_spec (c := cp) hba (by omega)
    rw [hpl] at hgh
    refine hgh.mono ?_
    rintro _ w₄ ⟨he4, rfl⟩
    have e4 := e2.trans he4
    refine ⟨_, _, _, _, rfl, fun B2 w₅ hn5 => ?_⟩
    have hB2 : B2 = w₄.heap.size := hn5.num
    rw [head_zero] at hn5
    have hs4 := e4.size
    have hs12 := hn.size
    have hs1 := he2.size
    have hs3 := he4.size
    refine head_put (h := (getHead (c.page i.toNat 0)).1) hn5.get rfl fun w₆ hput6 => ?_
    have hg6 : w₆.heap[B]? = _ := hput6.upd1.get (Ext.get hn5.upd (Ext.get he4 hg2)) (by omega)
    have e6 : Ext w w₆ := Put.upd (e4.trans hn5.upd) hput6 (.inl (by omega))
    refine ⟨_, _, _, head_cells hput6.get, head_put hg6 rfl fun w₇ hput7 => ⟨_, _, _, head_cells hput7.get, Put.upd e6 hput7 (.inl (by omega)), ?_⟩⟩
    unfold refHead
    rw [if_neg (by omega)]
    simp only [Value.tuple.injEq]
    congr 4
    rw [Bool.eq_iff_iff]
    simp
  · rename_i h0
    subst hv
    refine ⟨_, _, _, _, rfl, br_ne (fun _ => ?_) fun h => by omega⟩
    refine head_put (h := Head.none) hg2 rfl fun w₃ hput => ⟨_, _, _, head_cells hput.get, Put.upd e2 hput (.inl (by omega)), ?_⟩
    unfold refHead
    rw [if_pos h0]

theorem oneCell_taken (t : Taken) : ∀ v ∈ t.vals, v.oneCell' = true := by
  intro v hv
  simp [Taken.vals] at hv
  rcases hv with rfl | rfl | rfl | rfl | rfl <;> rfl

/-- an element comes between others -/
theorem insert_tail {w : World} {p : Nat} {c : Chip} {L : Loc} {G : Nat → Prop} (h : ChipRep w p c L G) {a : Option Addr} {out : List Taken} {cap i j B : Nat} {hd : Head} (ho : OwnAt w a out.length cap T.api_Taken 5 (out.flatMap Taken.vals)) (hl : out.length ≤ 1000) (hj : j ≤ out.length)
    (hB : w.heap[B]? = some (.cells hd.vals.toArray T.api_Head (0, 0))) {Q : Option Addr → Nat → Nat → World → Prop}
    (hk : ∀ a' c' w', Ext w w' → OwnAt w' a' (out.take j ++ [Taken.mk i hd (c.isBad i)] ++ out.drop j).length c' T.api_Taken 5 ((out.take j ++ [Taken.mk i hd (c.isBad i)] ++ out.drop j).flatMap Taken.vals) → Fresh w a' → Q a' (out.take j ++ [Taken.mk i hd (c.isBad i)] ++ out.drop j).length c' w') :
    sliceP 5 a out.length cap none (some (j : Int)) none fun a2 l2 c2 =>
        appendP T.api_Taken 5 32 [Value.int .i64 0, Value.int .u8 0, Value.int .u32 0, Value.int .u64 0, Value.bool false] none 0 0 (Value.slice a2 l2 c2) w fun a3 l3 c3 w8 =>
        ∀ w9 : World, Drew w8 w9 →
        ∃ S2 : World → Prop, S2 w9 ∧
        ∃ x12 : Int, ∃ x13 : Int, ∃ x14 : Int, (∀ u3, S2 u3 → cellsAt u3 ⟨B, 0, none⟩ [Value.int .u8 x12, Value.int .u32 x13, Value.int .u64 x14] 0) ∧
        CallsR prog K.nand_Chip_Bad #[Value.pointer (some ⟨p, 0, none⟩), Value.int .i64 (i : Int)] w9 fun v3 w10 =>
        ∃ b2 : Bool, v3 = Value.bool b2 ∧ S2 w10 ∧
        ∀ (B2 : Nat) (w11 : World), New w10 (.cells #[Value.int .i64 (i : Int), Value.int .u8 x12, Value.int .u32 x13, Value.int .u64 x14, Value.bool b2] T.api_Taken) B2 w11 → S2 w11 ∧
        appendP T.api_Taken 5 32 [Value.int .i64 0, Value.int .u8 0, Value.int .u32 0, Value.int .u64 0, Value.bool false] a3 l3 c3 (Value.slice (some ⟨B2, 0, none⟩) 1 1) w11 fun a4 l4 c4 w12 => S2 w12 ∧
        sliceP 5 a out.length cap (some (j : Int)) none none fun a5 l5 c5 =>
        appendP T.api_Taken 5 32 [Value.int .i64 0, Value.int .u8 0, Value.int .u32 0, Value.int .u64 0, Value.bool false] a4 l4 c4 (Value.slice a5 l5 c5) w12 fun a6 l6 c6 w13 => Q a6 l6 c6 w13 := by
  have hcap := ho.2.1
  refine slice_to (by omega) (by omega) hcap ?_
  rw [Int.toNat_natCast]
  have hr1 : RowAt w a ((out.take j).flatMap Taken.vals) := by rw [← flat_take Taken.vals_length]; exact RowAt.take ho.row _
  refine append_rows (f := Taken.vals) Taken.vals_length (l := []) (xs := out.take j) (OwnAt.nil _ _ _) hr1 rfl (by simp; omega) (fun x _ => oneCell_taken x) rfl (by simp; omega) (by omega) fun a3 c3 w₈ hu8 ho8 hf8 => ?_
  have e8 : Ext w w₈ := hu8.mono (fun x _ hx => by cases hx)
  have hf8' : Fresh w a3 := by
    rcases hf8 with rfl | ⟨b, rfl, hb⟩
    · exact Fresh.none _
    · exact Fresh.some hb
  intro w₉ hd9
  have e9 := e8.trans hd9.upd
  have h9 := h.ext e9
  have hg9 := Ext.get e9 hB
  have hBw : B < w.heap.size := (Array.getElem?_eq_some_iff.1 hB).1
  refine ⟨fun u => u.heap[B]? = some (.cells hd.vals.toArray T.api_Head (0, 0)), hg9, hd.kind.toNat, hd.era, hd.seq, fun u hu => head_cells hu, ?_⟩
  refine (nand_Bad_spec h9 _).mono ?_
  rintro _ _ ⟨rfl, rfl⟩
  rename_i w₉
  have hd0 : decide ((0 : Int) ≤ ((i : Nat) : Int)) = true := decide_eq_true (by omega)
  refine ⟨_, rfl, hg9, ?_⟩
  rw [hd0, Bool.true_and, Int.toNat_natCast]
  intro B2 w₁₁ hn11
  have hg11 := Ext.get hn11.upd hg9
  refine ⟨hg11, ?_⟩
  have ho11 := OwnAt.ext (OwnAt.ext ho8 hd9.upd) hn11.upd
  refine append_flat (f := Taken.vals) Taken.vals_length (x := ⟨i, hd, c.isBad i⟩) ho11 (by simp [Taken.vals]) hn11 rfl (oneCell_taken _) rfl (by simp; omega) (by omega) fun a4 c4 w₁₂ hu12 ho12 hf12 => ?_
  have e11 := e9.trans hn11.upd
  have e12 : Ext w w₁₂ := Upd.beyond e11 hu12 (fun x hx => hf8' _ hx)
  have hf12' : Fresh w a4 := by
    rcases hf12 with rfl | ⟨b, rfl, hb⟩
    · exact hf8'
    · exact Fresh.some (by have := e11.size; omega)
  refine ⟨Ext.get e12 hB, ?_⟩
  refine slice_from (by omega) (by omega) hcap ?_
  rw [Int.toNat_natCast]
  have hr2 : RowAt w₁₂ (if cap = j then a else a.map (·.add (j * 5))) ((out.drop j).flatMap Taken.vals) := by
    rw [← flat_drop Taken.vals_length]; exact row_from (RowAt.ext ho.row e12) (by rw [flat_len Taken.vals_length]) hcap
  refine append_rows (f := Taken.vals) Taken.vals_length (xs := out.drop j) ho12 hr2 rfl (by simp) (fun x _ => oneCell_taken x) rfl (by simp; omega) (by omega) fun a6 c6 w₁₃ hu13 ho13 hf13 => ?_
  have e13 : Ext w w₁₃ := Upd.beyond e12 hu13 (fun x hx => hf12' _ hx)
  simp only [List.nil_append] at ho13 ⊢
  refine hk a6 c6 w₁₃ e13 ho13 ?_
  rcases hf13 with rfl | ⟨b, rfl, hb⟩
  · exact hf12'
  · exact Fresh.some (by have := e12.size; omega)

theorem carrackref04_Taken_spec {w : World} {p : Nat} {c : Chip} {L : Loc} {G : Nat → Prop} (h : ChipRep w p c L G) :
    CallsR prog K.carrackref04_Taken #[.pointer (some ⟨p, 0, none⟩)] w fun v w' => Ext w w' ∧ ∃ a cap, v = .slice a (refTaken c).length cap ∧ OwnAt w' a (refTaken c).length cap T.api_Taken 5 ((refTaken c).flatMap Taken.vals) ∧ Fresh w a := by
  apply carrackref04_Taken.sh
  have hnb := h.ok.nb2
  refine ⟨fun a l cap x u => ∃ i : Nat, x = i ∧ i ≤ c.nb ∧ l = (refGo c i).length ∧ Ext w u ∧ OwnAt u a (refGo c i).length cap T.api_Taken 5 ((refGo c i).flatMap Taken.vals) ∧ Fresh w a, fun _ _ _ x _ => (c.nb - x).toNat,
    ⟨0, rfl, by omega, rfl, Upd.refl _ _, OwnAt.nil _ _ _, Fresh.none _⟩, ?_⟩
  rintro a l cap x u ⟨i, rfl, hi, rfl, hu, ho, hf⟩
  have hlen := refGo_length c i
  refine (nand_Geo_spec (h.ext hu)).mono ?_
  rintro _ w₂ ⟨rfl, he2⟩
  have e2 := hu.trans he2
  refine ⟨_, _, _, _, rfl, br_dec (fun hlt => ?_) fun hge => ?_⟩
  · have hi' : i < c.nb := by omega
    have e1 : IntKind.i64.wrap ((i : Int) + 1) = ((i + 1 : Nat) : Int) := w64 (by omega) (by omega)
    refine (carrackref04_Head_spec (h.ext e2) (i : Int)).mono ?_
    rintro _ w₃ ⟨he3, rfl⟩
    have e3 := e2.trans he3
    refine ⟨_, _, _, _, rfl, fun B w₄ hn4 => ?_⟩
    rw [head_zero] at hn4
    refine head_put (h := (refHead c i).1) hn4.get rfl fun w₅ hput5 => ?_
    have hB : B = w₃.heap.size := hn4.num
    have hs3 := e3.size
    have e5 : Ext w w₅ := Put.upd (e3.trans hn4.upd) hput5 (.inl (by omega))
    have eu3 : Ext u w₃ := he2.trans he3
    have hsu3 := eu3.size
    have eu5 : Ext u w₅ := Put.upd (eu3.trans hn4.upd) hput5 (.inl (by omega))
    have hgo : refGo c (i + 1) = if (refHead c i).2 then insAt ⟨i, (refHead c i).1, c.isBad i⟩ (refGo c i) else refGo c i := by rw [refGo]
    cases hh : (refHead c i).2 with
    | false =>
      simp only [Bool.not_false, br_true]
      rw [hh] at hgo
      simp only [Bool.false_eq_true, if_false] at hgo
      exact ⟨⟨i + 1, e1, hi', by rw [hgo], e5, by rw [hgo]; exact OwnAt.ext ho eu5, hf⟩, by rw [e1]; exact meas hi'⟩
    | true =>
      simp only [Bool.not_true, br_false]
      rw [hh] at hgo
      simp only [if_true] at hgo
      refine ⟨fun y v => ∃ j : Nat, y = j ∧ j ≤ (refGo c i).length ∧ Ext w₅ v ∧ ∀ t ∈ (refGo c i).take j, t.head.seq ≤ (refHead c i).1.seq, fun y _ => ((refGo c i).length - y).toNat, ⟨0, rfl, by omega, Upd.refl _ _, fun t ht => by simp at ht⟩, ?_⟩
      rintro y v ⟨j, rfl, hj, hv5, hall⟩ w₇ hd7
      have e57 := hv5.trans hd7.upd
      have e7 := e5.trans e57
      have ho7 := OwnAt.ext (OwnAt.ext ho eu5) e57
      have hg7 := Ext.get e57 hput5.get
      have hins : (∀ (hlt : j < (refGo c i).length), decide ((refGo c i)[j].head.seq ≤ (refHead c i).1.seq) = false) → (refGo c i).take j ++ [⟨i, (refHead c i).1, c.isBad i⟩] ++ (refGo c i).drop j = refGo c (i + 1) := by
        intro hstop
        have hpos : posOf ⟨i, (refHead c i).1, c.isBad i⟩ (refGo c i) = j := takeWhile_at _ _ j hj (fun t ht => decide_eq_true (hall t ht)) hstop
        rw [hgo]
        unfold insAt
        rw [hpos]
      refine ⟨fun z => z = w₇, rfl, br_dec (fun hlt => ?_) fun hge => ?_⟩
      · have hj' : j < (refGo c i).length := by omega
        refine idx_flat (f := Taken.vals) Taken.vals_length (by omega) ho7.row rfl hj' fun b o hab hr => ?_
        simp only [add_lit]
        obtain ⟨b', o', hab', hc⟩ := RowAt.cell hr (i := 3) (v := .int .u64 (refGo c i)[j].head.seq) rfl
        cases hab'
        refine ⟨_, fun z hz => hz ▸ hc, _, fun z hz => hz ▸ cell_of hg7 rfl, br_dec (fun hle => ?_) fun hgt => ?_⟩
        · have e2 : IntKind.i64.wrap ((j : Int) + 1) = ((j + 1 : Nat) : Int) := w64 (by omega) (by omega)
          rw [e2]
          refine ⟨⟨j + 1, rfl, hj', e57, fun t ht => ?_⟩, meas hj'⟩
          rw [List.take_succ_eq_append_getElem hj'] at ht
          rcases List.mem_append.1 ht with ht | ht
          · exact hall t ht
          · simp at ht
            subst ht
            omega
        · have hin := hins (fun _ => decide_eq_false (by omega))
          refine insert_tail (i := i) (h.ext e7) ho7 (by omega) hj hg7 fun a6 c6 w₁₃ he13 ho13 hf13 => ?_
          rw [hin] at ho13 ⊢
          exact ⟨⟨i + 1, e1, hi', rfl, e7.trans he13, ho13, Fresh.mono hf13 e7.size⟩, by rw [e1]; exact meas hi'⟩
      · have hin := hins (fun h => by omega)
        refine insert_tail (i := i) (h.ext e7) ho7 (by omega) hj hg7 fun a6 c6 w₁₃ he13 ho13 hf13 => ?_
        rw [hin] at ho13 ⊢
        exact ⟨⟨i + 1, e1, hi', rfl, e7.trans he13, ho13, Fresh.mono hf13 e7.size⟩, by rw [e1]; exact meas hi'⟩
  · have : i = c.nb := by omega
    subst this
    exact ⟨e2, a, cap, rfl, OwnAt.ext ho he2, hf⟩

theorem carrackref04_Blanks_spec {w : World} {p : Nat} {c : Chip} {L : Loc} {G : Nat → Prop} (h : ChipRep w p c L G) :
    CallsR prog K.carrackref04_Blanks #[.pointer (some ⟨p, 0, none⟩)] w fun v w' => v = .int .i64 (refBlanks c : Nat) ∧ Ext w w' := by
  apply carrackref04_Blanks.sh
  have hnb := h.ok.nb2
  refine ⟨fun x y u => ∃ i : Nat, y = i ∧ i ≤ c.nb ∧ Ext w u ∧ x = (((List.range i).filter fun i : Nat => !(refHead c i).2 && !c.isBad i).length : Nat), fun _ y _ => (c.nb - y).toNat, ⟨0, rfl, by omega, Upd.refl _ _, rfl⟩, ?_⟩
  rintro x y u ⟨i, rfl, hi, hu, rfl⟩
  have hle : ((List.range i).filter fun i : Nat => !(refHead c i).2 && !c.isBad i).length ≤ i := Nat.le_trans (List.length_filter_le _ _) (by simp)
  refine (nand_Geo_spec (h.ext hu)).mono ?_
  rintro _ w₂ ⟨rfl, he2⟩
  have e2 := hu.trans he2
  refine ⟨_, _, _, _, rfl, br_dec (fun hlt => ?_) fun hge => ?_⟩
  · have hi' : i < c.nb := by omega
    have e1 : IntKind.i64.wrap ((i : Int) + 1) = ((i + 1 : Nat) : Int) := w64 (by omega) (by omega)
    refine (carrackref04_Head_spec (h.ext e2) (i : Int)).mono ?_
    rintro _ w₃ ⟨he3, rfl⟩
    have e3 := e2.trans he3
    refine ⟨_, _, _, _, rfl, fun B w₄ hn4 => ?_⟩
    rw [head_zero] at hn4
    refine head_put (h := (refHead c i).1) hn4.get rfl fun w₅ hput5 => ?_
    have hB : B = w₃.heap.size := hn4.num
    have hs3 := e3.size
    have e5 : Ext w w₅ := Put.upd (e3.trans hn4.upd) hput5 (.inl (by omega))
    have hrs : ∀ b : Bool, (!(refHead c i).2 && !c.isBad i) = b → (((List.range (i + 1)).filter fun i : Nat => !(refHead c i).2 && !c.isBad i).length : Nat) = ((List.range i).filter fun i : Nat => !(refHead c i).2 && !c.isBad i).length + if b then 1 else 0 := by
      intro b hb
      rw [List.range_succ, List.filter_append, List.length_append]
      simp only [List.filter_cons, hb, List.filter_nil]
      cases b <;> rfl
    cases hh : (refHead c i).2 with
    | false =>
      simp only [Bool.not_false, br_true]
      refine (nand_Bad_spec (h.ext e5) _).mono ?_
      rintro _ _ ⟨rfl, rfl⟩
      rename_i w₅
      have hd0 : decide ((0 : Int) ≤ ((i : Nat) : Int)) = true := decide_eq_true (by omega)
      refine ⟨_, rfl, ?_⟩
      rw [hd0, Bool.true_and, Int.toNat_natCast, e1]
      cases hb : c.isBad i with
      | false =>
        have := hrs true (by rw [hh, hb]; rfl)
        refine ⟨⟨i + 1, rfl, hi', e5, ?_⟩, meas hi'⟩
        rw [this, w64 (by omega) (by omega)]
        simp
      | true =>
        have := hrs false (by rw [hh, hb]; rfl)
        refine ⟨⟨i + 1, rfl, hi', e5, ?_⟩, meas hi'⟩
        rw [this]
        simp
    | true =>
      simp only [Bool.not_true, br_false]
      have := hrs false (by rw [hh]; rfl)
      rw [e1]
      refine ⟨⟨i + 1, rfl, hi', e5, ?_⟩, meas hi'⟩
      rw [this]
      simp
  · have : i = c.nb := by omega
    subst this
    exact ⟨by trivial, e2⟩

theorem refLast_take (c : Chip) (i : Nat) (hi : i < (refTaken c).length) : ((refTaken c).take (i + 1)).foldl (fun n t => max n t.head.seq) 0 = max (((refTaken c).take i).foldl (fun n t => max n t.head.seq) 0) (refTaken c)[i].head.seq := by
  rw [List.take_succ_eq_append_getElem hi, List.foldl_append]
  rfl

theorem carrackref04_Last_spec {w : World} {p : Nat} {c : Chip} {L : Loc} {G : Nat → Prop} (h : ChipRep w p c L G) :
    CallsR prog K.carrackref04_Last #[.pointer (some ⟨p, 0, none⟩)] w fun v w' => v = .int .u64 (refLast c : Nat) ∧ Ext w w' := by
  apply carrackref04_Last.sh
  have hnb := h.ok.nb2
  unfold carrackref04_Last.body
  refine (carrackref04_Taken_spec h).mono ?_
  rintro _ w₁ ⟨he1, a, cap, rfl, ho, hf⟩
  have hlen : (refTaken c).length ≤ c.nb := refGo_length c c.nb
  refine ⟨_, _, _, rfl, fun x y u => ∃ i : Nat, y = i ∧ i ≤ (refTaken c).length ∧ u = w₁ ∧ x = (((refTaken c).take i).foldl (fun n t => max n t.head.seq) 0 : Nat), fun _ y _ => ((refTaken c).length - y).toNat, ⟨0, rfl, by omega, rfl, rfl⟩, ?_⟩
  rintro x y u ⟨i, rfl, hi, rfl, rfl⟩
  refine br_dec (fun hlt => ?_) fun hge => ?_
  · have hi' : i < (refTaken c).length := by omega
    have e1 : IntKind.i64.wrap ((i : Int) + 1) = ((i + 1 : Nat) : Int) := w64 (by omega) (by omega)
    refine idx_flat (f := Taken.vals) Taken.vals_length (by omega) ho.row rfl hi' fun b o hab hr => ?_
    obtain ⟨b', o', hab', hc⟩ := RowAt.cell hr (i := 3) (v := .int .u64 (refTaken c)[i].head.seq) rfl
    cases hab'
    simp only [add_lit]
    refine ⟨_, hc, ?_⟩
    rw [e1]
    refine ⟨⟨i + 1, rfl, hi', by trivial, ?_⟩, meas hi'⟩
    rw [refLast_take c i hi']
    generalize ((refTaken c).take i).foldl (fun n t => max n t.head.seq) 0 = m
    split <;> omega
  · have : i = (refTaken c).length := by omega
    subst this
    refine ⟨?_, he1⟩
    rw [List.take_length]
    rfl

end Go.Den
