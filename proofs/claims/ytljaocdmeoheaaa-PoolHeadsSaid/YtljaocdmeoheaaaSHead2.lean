/- Contracts of layer 4 (pool) and its reference: the head of a page. -/
import Derived.Test.YtljaocdmeoheaaaSHead
set_option linter.unusedVariables false
set_option linter.unusedSimpArgs false
set_option maxRecDepth 4000
namespace Go.Den

theorem take_any (r k : Nat) (l : List UInt8) (no : Bool) (w : World) (hk : isSz k = true) (h : ReaderAt w r l no) :
    CallsR prog K.ends_Reader_Take #[.pointer (some ⟨r, 0, none⟩), .int .i64 k] w fun v w' => Upd (· = r) w w' ∧ ∃ (x e : Nat) (l' : List UInt8) (no' : Bool), v = .tuple #[.int .u64 x, .int .i64 e] ∧ ReaderAt w' r l' no' ∧ x < 256 ^ k ∧
      (no = false → k ≤ l.length → x = fromLE (l.take k) ∧ l' = l.drop k ∧ no' = false) := by
  refine (ends_Reader_Take_spec r k l no w hk h).mono ?_
  rintro v w' ⟨hu, hv⟩
  refine ⟨hu, ?_⟩
  split at hv
  · rename_i hc
    refine ⟨0, 4, l, true, hv.1, hv.2, Nat.pow_pos (by omega), fun h1 h2 => ?_⟩
    rcases hc with hc | hc
    · rw [h1] at hc; cases hc
    · omega
  · rename_i hc
    have hkl : k ≤ l.length := by
      rcases Nat.lt_or_ge l.length k with h' | h'
      · exact absurd (.inr h') hc
      · exact h'
    refine ⟨fromLE (l.take k), 0, l.drop k, false, hv.1, hv.2, ?_, fun h1 h2 => ⟨rfl, rfl, rfl⟩⟩
    have := fromLE_lt (l.take k)
    simpa [Nat.min_eq_left hkl] using this

theorem wrap8 {x : Nat} (h : x < 256) : Value.int .u8 (IntKind.u8.wrap (x : Int)) = bv (UInt8.ofNat x) := by
  rw [bv_mod, Nat.mod_eq_of_lt h]
theorem wrap32 {x : Nat} (h : x < 4294967296) : IntKind.u32.wrap (x : Int) = (x : Int) := wu32 (by omega) (by omega)

/-- a head is written over another, and read -/
theorem head_put {w : World} {B : Nat} {cs : Array Value} {h : Head} {K : World → Prop} (hc : w.heap[B]? = some (.cells cs T.api_Head (0, 0))) (hs : cs.size = 3) (hk : ∀ w', Put w B (.cells h.vals.toArray T.api_Head (0, 0)) w' → K w') :
    storeP w ⟨B, 0, none⟩ [bv h.kind, .int .u32 h.era, .int .u64 h.seq] K := by
  refine store_of hc (by simp [hs]) fun w' hput => ?_
  rw [splice_all _ _ (by simp [hs])] at hput
  exact hk w' hput
theorem head_cells {w : World} {B : Nat} {h : Head} (hc : w.heap[B]? = some (.cells h.vals.toArray T.api_Head (0, 0))) : cellsAt w ⟨B, 0, none⟩ [bv h.kind, .int .u32 h.era, .int .u64 h.seq] 0 :=
  cellsAt_of (o := 0) hc (fun j v hj => by simpa [Head.vals] using hj)
theorem head_zero : (#[Value.int .u8 0, Value.int .u32 0, Value.int .u64 0] : Array Value) = Head.none.vals.toArray := rfl

theorem pool_GetHead_spec {a : Option Addr} {b : List UInt8} {c : Nat} {w : World} (h : BytesAt w a b) (hc : b.length ≤ c) :
    CallsR prog K.pool_GetHead #[.slice a b.length c] w fun v w' => Ext w w' ∧ v = .tuple #[headV (getHead b).1, .int .i64 ((getHead b).2 : Nat)] := by
  apply pool_GetHead.sh
  intro B w₁ hn
  have hB : B = w.heap.size := hn.num
  rw [head_zero] at hn
  have hcB := hn.get
  refine (seal_Get_spec (h.ext hn.upd) hc).mono ?_
  rintro _ w₂ ⟨he2, a1, c1, rfl, hb2, hc2⟩
  have e2 : Ext w w₂ := hn.upd.trans he2
  have hcB2 := Ext.get he2 hcB
  have fin : ∀ {u u' : World} {h' : Head}, Ext w u → Put u B (.cells h'.vals.toArray T.api_Head (0, 0)) u' → Ext w u' := fun hu hp => Put.upd hu hp (.inl (by omega))
  refine ⟨_, _, _, _, _, rfl, br_ne (fun hne => ?_) fun heq => ?_⟩
  · refine head_put (h := Head.none) hcB2 rfl fun w₃ hput => ⟨_, _, _, head_cells hput.get, fin e2 hput, ?_⟩
    unfold getHead
    rw [if_pos (by omega)]
  have he0 : (getPage b).2.2 = 0 := by omega
  have hgb : isSize b.length = true := by
    cases hs : isSize b.length with
    | true => rfl
    | false =>
      have : (getPage b).2.2 = 2 := by unfold getPage; rw [if_pos hs]
      omega
  have hbb := hgb
  simp [isSize] at hbb
  have hbl : (getPage b).2.1.length ≤ 1000 := by
    unfold getPage
    split
    · simp
    · split
      · simp
      · split
        · simp
        · split
          · simp
          · simp; omega
  generalize hG : getPage b = G at *
  obtain ⟨kd, body, er⟩ := G
  simp only [] at *
  refine (ends_New_spec a1 body c1 w₂ hb2 (by omega)).mono ?_
  rintro _ w₄ ⟨r, rfl, hr, hra, he4⟩
  refine ⟨_, rfl, ?_⟩
  refine (take_any r 1 body false w₄ rfl hra).mono ?_
  rintro _ w₅ ⟨hu5, x6, x7, l5, no5, rfl, hr5, hx6, hg5⟩
  refine ⟨_, _, rfl, ?_⟩
  refine (take_any r 4 l5 no5 w₅ rfl hr5).mono ?_
  rintro _ w₆ ⟨hu6, x8, x9, l6, no6, rfl, hr6, hx8, hg6⟩
  refine ⟨_, _, rfl, ?_⟩
  refine (take_any r 8 l6 no6 w₆ rfl hr6).mono ?_
  rintro _ w₇ ⟨hu7, x10, x11, l7, no7, rfl, hr7, hx10, hg7⟩
  refine ⟨_, _, rfl, fun B2 w₈ hn8 => ?_⟩
  have e4 : Ext w w₄ := e2.trans he4
  have hs2 := e2.size
  have hu57 : Upd (· = r) w₄ w₇ := (hu5.trans hu6).trans hu7
  have e7 : Ext w w₇ := Upd.beyond e4 hu57 (fun x hx => by omega)
  have hs0 := hn.size
  have hs1 := he2.size
  have hcB7 : w₇.heap[B]? = _ := hu57.get (Ext.get he4 hcB2) (by omega)
  rw [show (256 : Nat) ^ 1 = 256 by decide] at hx6
  rw [show (256 : Nat) ^ 4 = 4294967296 by decide] at hx8
  rw [show (256 : Nat) ^ 8 = 18446744073709551616 by decide] at hx10
  rw [wrap8 hx6, wrap32 hx8]
  rw [head_zero] at hn8
  have hHok : (Head.mk (UInt8.ofNat x6) x8 x10).Ok := ⟨hx8, hx10⟩
  generalize hH : Head.mk (UInt8.ofNat x6) x8 x10 = H at hHok
  have hH1 : bv (UInt8.ofNat x6) = bv H.kind := by rw [← hH]
  have hH2 : (x8 : Int) = H.era := by rw [← hH]
  have hH3 : (x10 : Int) = H.seq := by rw [← hH]
  rw [hH1, hH2, hH3]
  refine head_put (h := H) hn8.get rfl fun w₉ hput9 => ⟨_, _, _, head_cells hput9.get, ?_⟩
  have hB2 : B2 = w₇.heap.size := hn8.num
  have hs7 := e7.size
  have e9 : Ext w w₉ := Put.upd (e7.trans hn8.upd) hput9 (.inl (by omega))
  have hsu57 := hu57.size
  have hs4 := he4.size
  have hcB9 : w₉.heap[B]? = _ := hput9.upd1.get (Ext.get hn8.upd hcB7) (by omega)
  refine (pool_PutHead_spec b.length H hHok w₉).mono ?_
  rintro _ w₁₀ ⟨he10, a2, c2, rfl, _, _⟩
  have e10 := e9.trans he10
  have hcB10 := Ext.get he10 hcB9
  have hpe : (putHead b.length H).2 = if H.may = false then 2 else 0 := by
    unfold putHead
    rw [hgb]
    cases H.may <;> simp
  have hcond : ¬ er ≠ 0 := by omega
  have hgen : kd = 1 → body.length = 13 → H = ⟨body.getD 0 0, fromLE ((body.drop 1).take 4), fromLE ((body.drop 5).take 8)⟩ := by
    intro hkd hbl
    obtain ⟨g1, g2, g3⟩ := hg5 rfl (by omega)
    obtain ⟨g4, g5, g6⟩ := hg6 g3 (by rw [g2]; simp; omega)
    obtain ⟨g7, g8, g9⟩ := hg7 g6 (by rw [g5, g2]; simp; omega)
    rw [← hH, g1, g4, g7, g5, g2, fromLE_take1]
    simp [List.drop_drop]
  have hcondG : getHead b = if kd ≠ 1 ∨ body.length ≠ 13 then (Head.none, 5) else if H.may = true then (H, 0) else (Head.none, 5) := by
    unfold getHead
    rw [hG]
    simp only []
    rw [if_neg hcond]
    by_cases hk : kd ≠ 1 ∨ body.length ≠ 13
    · rw [if_pos hk, if_pos hk]
    · rw [if_neg hk, if_neg hk]
      have hk' : kd = 1 ∧ body.length = 13 := ⟨Classical.byContradiction fun h => hk (.inl h), Classical.byContradiction fun h => hk (.inr h)⟩
      rw [hgen hk'.1 hk'.2]
  refine ⟨_, _, _, _, rfl, br_ne (fun hne => ?_) fun heq => ?_⟩
  · refine head_put (h := Head.none) hcB10 rfl fun w₃ hput => ⟨_, _, _, head_cells hput.get, fin e10 hput, ?_⟩
    have hm : H.may = false := by
      cases hm : H.may with
      | false => rfl
      | true => rw [hpe, hm] at hne; simp at hne
    rw [hcondG, hm]
    split <;> rfl
  have hm : H.may = true := by
    cases hm : H.may with
    | true => rfl
    | false => rw [hpe, hm] at heq; simp at heq
  have hkd : kd = 1 ↔ (kd.toNat : Int) = 1 := by
    constructor
    · rintro rfl; rfl
    · intro h; exact UInt8.toNat_inj.1 (by show kd.toNat = 1; omega)
  refine br_ne (fun hne => ?_) fun heq1 => ?_
  · refine head_put (h := Head.none) hcB10 rfl fun w₃ hput => ⟨_, _, _, head_cells hput.get, fin e10 hput, ?_⟩
    rw [hcondG, if_pos (.inl (fun h => hne (hkd.1 h)))]
    rfl
  refine br_ne (fun hne => ?_) fun heq2 => ?_
  · refine head_put (h := Head.none) hcB10 rfl fun w₃ hput => ⟨_, _, _, head_cells hput.get, fin e10 hput, ?_⟩
    rw [hcondG, if_pos (.inr (by omega))]
    rfl
  have hc9 := Ext.get he10 hput9.get
  refine ⟨_, _, _, head_cells hc9, head_put hcB10 rfl fun w₁₁ hput => ⟨_, _, _, head_cells hput.get, fin e10 hput, ?_⟩⟩
  have hk : ¬ (kd ≠ 1 ∨ body.length ≠ 13) := by
    rintro (h | h)
    · exact h (hkd.2 heq1)
    · omega
  rw [hcondG, if_neg hk, if_pos hm]
  rfl

theorem rtake_any (r k : Nat) (l : List UInt8) (no : Bool) (w : World) (hk : isSz k = true) (h : RReaderAt w r l no) (hkl : no = false ∧ k ≤ l.length) :
    CallsR prog K.carrackref01_Reader_Take #[.pointer (some ⟨r, 0, none⟩), .int .i64 k] w fun v w' => Upd (· = r) w w' ∧ v = .tuple #[.int .u64 (fromLE (l.take k)), .int .i64 0] ∧ RReaderAt w' r (l.drop k) false := by
  refine (carrackref01_Reader_Take_spec r k l no w hk h).mono ?_
  rintro v w' ⟨hu, hv⟩
  rw [if_neg (by rw [hkl.1]; simp; omega)] at hv
  exact ⟨hu, hv⟩

theorem carrackref04_GetHead_spec {a : Option Addr} {b : List UInt8} {c : Nat} {w : World} (h : BytesAt w a b) (hc : b.length ≤ c) :
    CallsR prog K.carrackref04_GetHead #[.slice a b.length c] w fun v w' => Ext w w' ∧ v = .tuple #[headV (getHead b).1, .int .i64 ((getHead b).2 : Nat)] := by
  apply carrackref04_GetHead.sh
  intro B w₁ hn
  have hB : B = w.heap.size := hn.num
  rw [head_zero] at hn
  have hcB := hn.get
  refine (carrackref02_Get_spec (h.ext hn.upd) hc).mono ?_
  rintro _ w₂ ⟨he2, a1, c1, rfl, hb2, hc2⟩
  have e2 : Ext w w₂ := hn.upd.trans he2
  have hcB2 := Ext.get he2 hcB
  have fin : ∀ {u u' : World} {h' : Head}, Ext w u → Put u B (.cells h'.vals.toArray T.api_Head (0, 0)) u' → Ext w u' := fun hu hp => Put.upd hu hp (.inl (by omega))
  refine ⟨_, _, _, _, _, rfl, br_ne (fun hne => ?_) fun heq => ?_⟩
  · refine head_put (h := Head.none) hcB2 rfl fun w₃ hput => ⟨_, _, _, head_cells hput.get, fin e2 hput, ?_⟩
    unfold getHead
    rw [if_pos (by omega)]
  have he0 : (getPage b).2.2 = 0 := by omega
  generalize hG : getPage b = G at *
  obtain ⟨kd, body, er⟩ := G
  simp only [] at *
  have hcond : ¬ er ≠ 0 := by omega
  have hkd : kd = 1 ↔ (kd.toNat : Int) = 1 := by
    constructor
    · rintro rfl; rfl
    · intro h; exact UInt8.toNat_inj.1 (by show kd.toNat = 1; omega)
  refine br_ne (fun hne => ?_) fun heq1 => ?_
  · refine head_put (h := Head.none) hcB2 rfl fun w₃ hput => ⟨_, _, _, head_cells hput.get, fin e2 hput, ?_⟩
    unfold getHead
    rw [hG]
    simp only []
    rw [if_neg hcond, if_pos (.inl (fun h => hne (hkd.1 h)))]
    rfl
  refine br_ne (fun hne => ?_) fun heq2 => ?_
  · refine head_put (h := Head.none) hcB2 rfl fun w₃ hput => ⟨_, _, _, head_cells hput.get, fin e2 hput, ?_⟩
    unfold getHead
    rw [hG]
    simp only []
    rw [if_neg hcond, if_pos (.inr (by omega))]
    rfl
  have hbl : body.length = 13 := by omega
  intro r w₆ hn6
  have hs0 := hn.size
  have hs1 := he2.size
  have hr : r = w₂.heap.size := hn6.num
  have hra : RReaderAt w₆ r body false := by
    refine ⟨a1, c1, hn6.get, hb2.ext hn6.upd, hc2, fun p hp => ?_⟩
    obtain ⟨b', o', hab, hlt⟩ := RowAt.blk hb2 (List.ne_nil_of_length_pos (by simp [hbl]))
    rw [hp] at hab
    cases hab
    show b' ≠ r
    omega
  refine (rtake_any r 1 body false w₆ rfl hra ⟨rfl, by omega⟩).mono ?_
  rintro _ w₇ ⟨hu7, rfl, hr7⟩
  refine ⟨_, _, rfl, ?_⟩
  refine (rtake_any r 4 _ false w₇ rfl hr7 ⟨rfl, by simp; omega⟩).mono ?_
  rintro _ w₈ ⟨hu8, rfl, hr8⟩
  refine ⟨_, _, rfl, ?_⟩
  refine (rtake_any r 8 _ false w₈ rfl hr8 ⟨rfl, by simp; omega⟩).mono ?_
  rintro _ w₉ ⟨hu9, rfl, hr9⟩
  refine ⟨_, _, rfl, fun B2 w₁₀ hn10 => ?_⟩
  have hu69 : Upd (· = r) w₆ w₉ := (hu7.trans hu8).trans hu9
  have e6 := e2.trans hn6.upd
  have hs2 := e2.size
  have e9 : Ext w w₉ := Upd.beyond e6 hu69 (fun x hx => by omega)
  have hcB9 : w₉.heap[B]? = _ := hu69.get (Ext.get hn6.upd hcB2) (by omega)
  have hx1 : fromLE (body.take 1) < 256 := by rw [fromLE_take1]; exact (body.getD 0 0).toNat_lt
  rw [wrap8 hx1, wrap32 (fromLE_lt4 _)]
  have hH1 : UInt8.ofNat (fromLE (body.take 1)) = body.getD 0 0 := by rw [fromLE_take1]; simp
  rw [hH1, List.drop_drop]
  rw [head_zero] at hn10
  have hcondG : getHead b = if (Head.mk (body.getD 0 0) (fromLE ((body.drop 1).take 4)) (fromLE ((body.drop 5).take 8))).may then (⟨body.getD 0 0, fromLE ((body.drop 1).take 4), fromLE ((body.drop 5).take 8)⟩, 0) else (Head.none, 5) := by
    unfold getHead
    rw [hG]
    simp only []
    rw [if_neg hcond, if_neg (fun h => h.elim (fun h => h (hkd.2 heq1)) (fun h => h hbl))]
  generalize hH : Head.mk (body.getD 0 0) (fromLE ((body.drop 1).take 4)) (fromLE ((body.drop 5).take 8)) = H at *
  have q1 : bv (body.getD 0 0) = bv H.kind := by rw [← hH]
  have q2 : (fromLE ((body.drop 1).take 4) : Int) = H.era := by rw [← hH]
  have q3 : (fromLE ((body.drop (4 + 1)).take 8) : Int) = H.seq := by rw [← hH]
  have q3' : (fromLE ((body.drop (1 + 4)).take 8) : Int) = H.seq := by rw [← hH]
  have hB2 : B2 = w₉.heap.size := hn10.num
  have hs69 := hu69.size
  have hs6 := hn6.size
  have main : storeP w₁₀ ⟨B2, 0, none⟩ [bv H.kind, .int .u32 H.era, .int .u64 H.seq] fun w11 =>
      ∃ x18 : Int, ∃ x19 : Int, ∃ x20 : Int, cellsAt w11 ⟨B2, 0, none⟩ [Value.int .u8 x18, Value.int .u32 x19, Value.int .u64 x20] 0 ∧
      CallsR prog K.carrackref04_MayHead #[Value.agg #[Value.int .u8 x18, Value.int .u32 x19, Value.int .u64 x20]] w11 fun v5 w12 =>
      ∃ b1 : Bool, v5 = Value.bool b1 ∧
      br (!b1) (
        storeP w12 ⟨B, 0, none⟩ [Value.int .u8 0, Value.int .u32 0, Value.int .u64 0] fun w13 =>
        ∃ x21 : Int, ∃ x22 : Int, ∃ x23 : Int, cellsAt w13 ⟨B, 0, none⟩ [Value.int .u8 x21, Value.int .u32 x22, Value.int .u64 x23] 0 ∧ (Ext w w13 ∧ Value.tuple #[Value.agg #[Value.int .u8 x21, Value.int .u32 x22, Value.int .u64 x23], Value.int .i64 5] = .tuple #[headV (getHead b).1, .int .i64 ((getHead b).2 : Nat)])) (
        ∃ x24 : Int, ∃ x25 : Int, ∃ x26 : Int, cellsAt w12 ⟨B2, 0, none⟩ [Value.int .u8 x24, Value.int .u32 x25, Value.int .u64 x26] 0 ∧
        storeP w12 ⟨B, 0, none⟩ [Value.int .u8 x24, Value.int .u32 x25, Value.int .u64 x26] fun w14 =>
        ∃ x27 : Int, ∃ x28 : Int, ∃ x29 : Int, cellsAt w14 ⟨B, 0, none⟩ [Value.int .u8 x27, Value.int .u32 x28, Value.int .u64 x29] 0 ∧ (Ext w w14 ∧ Value.tuple #[Value.agg #[Value.int .u8 x27, Value.int .u32 x28, Value.int .u64 x29], Value.int .i64 0] = .tuple #[headV (getHead b).1, .int .i64 ((getHead b).2 : Nat)])) := by
    refine head_put (h := H) hn10.get rfl fun w₁₁ hput11 => ⟨_, _, _, head_cells hput11.get, ?_⟩
    have e11 : Ext w w₁₁ := Put.upd (e9.trans hn10.upd) hput11 (.inl (by have := e9.size; omega))
    have hcB11 : w₁₁.heap[B]? = _ := hput11.upd1.get (Ext.get hn10.upd hcB9) (by omega)
    refine (carrackref04_MayHead_spec H w₁₁).mono ?_
    rintro _ w₁₂ ⟨rfl, he12⟩
    have e12 := e11.trans he12
    have hcB12 := Ext.get he12 hcB11
    refine ⟨_, rfl, ?_⟩
    cases hm : H.may with
    | false =>
      simp only [Bool.not_false, br_true]
      refine head_put (h := Head.none) hcB12 rfl fun w₃ hput => ⟨_, _, _, head_cells hput.get, fin e12 hput, ?_⟩
      rw [hcondG, hm]
      rfl
    | true =>
      simp only [Bool.not_true, br_false]
      have hc12 := Ext.get he12 hput11.get
      refine ⟨_, _, _, head_cells hc12, head_put hcB12 rfl fun w₁₁ hput => ⟨_, _, _, head_cells hput.get, fin e12 hput, ?_⟩⟩
      rw [hcondG, hm]
      rfl
  rw [← q1, ← q2, ← q3] at main
  exact main

end Go.Den
