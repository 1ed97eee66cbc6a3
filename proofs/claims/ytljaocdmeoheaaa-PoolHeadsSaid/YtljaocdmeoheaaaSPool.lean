/- Contracts of layer 4 (pool): off, alive, look, try. -/
import Derived.Test.YtljaocdmeoheaaaRPool
set_option linter.unusedVariables false
set_option linter.unusedSimpArgs false
set_option maxRecDepth 4000
namespace Go.Den

theorem ask_ok {c : Chip} {i k : Nat} (hd : c.dead = false) (hi : i < c.nb) (hk : k < c.np) : c.ask i k = 0 := by
  unfold Chip.ask
  rw [if_neg (by rw [hd]; simp), if_neg (by omega)]
theorem ask_dead {c : Chip} {i k : Int} (hd : c.dead = true) : c.ask i k = 10 := by unfold Chip.ask; rw [if_pos hd]
theorem ask00 {c : Chip} (h : c.Ok) : c.ask 0 0 = if c.dead then 10 else 0 := by
  cases hd : c.dead with
  | true => rw [ask_dead hd]; rfl
  | false =>
    have := h.nb1
    have := h.np1
    exact ask_ok (i := 0) (k := 0) hd (by omega) (by omega)

theorem pool_off_spec {w : World} {M : PLoc} {P : Pool} {c : Chip} {L : Loc} {G : Nat → Prop} (h : PC w M P c L G) :
    CallsR prog K.pool_Pool_off #[.pointer (some ⟨M.q, 0, none⟩)] w fun v w' => v = .bool false ∧ w' = w := by
  apply pool_Pool_off.sh
  simp only [pool_Pool_off.body, Option.isNone_some, br_false, nilC_some', add_lit]
  exact ⟨_, _, _, cell_of h.head rfl, rfl, by trivial⟩

theorem pool_alive_spec {w : World} {M : PLoc} {P : Pool} {c : Chip} {L : Loc} {G : Nat → Prop} (h : PC w M P c L G) :
    CallsR prog K.pool_Pool_alive #[.pointer (some ⟨M.q, 0, none⟩)] w fun v w' => v = .int .i64 (c.ask 0 0 : Nat) ∧ Ext w w' := by
  apply pool_Pool_alive.sh
  unfold pool_Pool_alive.body
  refine (pool_off_spec h).mono ?_
  rintro _ _ ⟨rfl, rfl⟩
  rename_i w
  refine ⟨_, rfl, ?_⟩
  simp only [br_false, nilC_some', add_lit]
  refine ⟨_, cell_of h.head rfl, ?_⟩
  refine (nand_Read_spec h.chip 0 0).mono ?_
  rintro v w₂ ⟨he, hv⟩
  split at hv
  · rename_i h0
    obtain ⟨a, cp, rfl, _⟩ := hv
    exact ⟨_, _, _, _, rfl, by rw [h0]; rfl, he⟩
  · subst hv
    exact ⟨_, _, _, _, rfl, rfl, he⟩

theorem setBlk_self (P : Pool) (i : Nat) (hi : i < P.blocks.length) : P.setBlk i (P.blk i) = P := by
  have : P.blk i = P.blocks[i] := by simp [Pool.blk, List.getD, hi]
  unfold Pool.setBlk
  rw [this, List.set_getElem_self]
theorem isBlank_append (l m : List UInt8) : isBlank (l ++ m) = (isBlank l && isBlank m) := by simp [isBlank]
theorem page_take (c : Chip) (i k : Nat) : (c.blk i).take ((k + 1) * c.sz) = (c.blk i).take (k * c.sz) ++ c.page i k := by
  rw [Nat.succ_mul, List.take_add]; rfl

theorem page_len {c : Chip} (h : c.Ok) {i k : Nat} (hi : i < c.nb) (hk : k < c.np) : (c.page i k).length = c.sz := by
  have h1 := h.blk_len hi
  have h2 := page_in hk
  simp [Chip.page, h1]
  omega

theorem pool_look_spec {w : World} {M : PLoc} {P : Pool} {c : Chip} {L : Loc} {G : Nat → Prop} (h : PC w M P c L G) {i : Nat} (hi : i < c.nb) :
    CallsR prog K.pool_Pool_look #[.pointer (some ⟨M.q, 0, none⟩), .int .i64 i] w fun v w' => v = .tuple #[] ∧ Upd (· = M.pb) w w' ∧ PC w' M (P.relook c i) c L G := by
  have hok := h.chip.ok
  have hnp1 := hok.np1
  have hnp2 := hok.np2
  have hnb2 := hok.nb2
  have hsz1 := hok.sz1
  have hsz2 := hok.sz2
  have hblen := hok.blk_len hi
  obtain ⟨hil, _⟩ := h.blk hi
  apply pool_Pool_look.sh
  intro B w₁ hn
  have hB : B = w.heap.size := hn.num
  refine store_of hn.get (by simp) fun w₂ hput => ?_
  have e2 : Ext w w₂ := Put.upd hn.upd hput (.inl (by omega))
  have hgB := hput.get
  rw [splice_all _ _ (by simp)] at hgB
  have h2 := h.ext e2
  simp only [nilC_some', add_lit]
  refine ⟨_, cell_of h2.head rfl, ?_⟩
  refine (nand_Geo_spec h2.chip).mono ?_
  rintro _ w₃ ⟨rfl, he3⟩
  have e3 := e2.trans he3
  have hgB3 := Ext.get he3 hgB
  refine ⟨_, _, _, _, rfl, ?_⟩
  refine ⟨fun x u => ∃ k : Nat, x = k ∧ k ≤ c.np ∧ Ext w u ∧ u.heap[B]? = some (.cells #[.int .i64 (if isBlank ((c.blk i).take (k * c.sz)) then 0 else 1), .int .u8 0, .int .u32 0, .int .u64 0] T.pool_block (0, 0)) ∧ (0 < k → c.dead = false ∧ (getHead (c.page i 0)).2 ≠ 0),
    fun x _ => (c.np - x).toNat, ⟨0, rfl, by omega, e3, by simpa [isBlank] using hgB3, fun h => by omega⟩, ?_⟩
  rintro x u ⟨k, rfl, hk, heu, hgu, hpos⟩
  have hu := h.ext heu
  have hsu := heu.size
  refine br_dec (fun hlt => ?_) fun hge => ?_
  · have hk' : k < c.np := by omega
    refine ⟨_, cell_of hu.head rfl, ?_⟩
    refine (nand_Read_spec hu.chip i k).mono ?_
    rintro v w₅ ⟨he5, hv⟩
    have e5 := heu.trans he5
    rcases Bool.eq_false_or_eq_true c.dead with hd | hd
    · rw [if_neg (by rw [ask_dead hd]; omega), ask_dead hd] at hv
      subst hv
      refine ⟨_, _, _, _, rfl, ?_⟩
      refine br_ne (fun _ => ⟨by trivial, Upd.ext e5, ?_⟩) fun h => by omega
      have : P.relook c i = P := by unfold Pool.relook lookAt; rw [if_pos hd]; exact setBlk_self P i hil
      rw [this]
      exact h.ext e5
    rw [if_pos (ask_ok hd hi hk')] at hv
    obtain ⟨a, cp, rfl, hba, hcp, hfa⟩ := hv
    simp only [Int.toNat_natCast] at hba
    have hpl := page_len hok hi hk'
    refine ⟨_, _, _, _, rfl, br_ne (fun h => by omega) fun _ => ?_⟩
    have hgh := pool_GetHead_spec (c := cp) hba (by omega)
    rw [hpl] at hgh
    refine hgh.mono ?_
    rintro _ w₆ ⟨he6, rfl⟩
    have e6 := e5.trans he6
    refine ⟨_, _, _, _, rfl, fun B2 w₇ hn7 => ?_⟩
    have hB2 : B2 = w₆.heap.size := hn7.num
    have hs6 := e6.size
    have hs56 := (he5.trans he6).size
    rw [head_zero] at hn7
    refine head_put (h := (getHead (c.page i k)).1) hn7.get rfl fun w₈ hput8 => ?_
    have e8 : Ext w w₈ := Put.upd (e6.trans hn7.upd) hput8 (.inl (by omega))
    have hBs : B < u.heap.size := (Array.getElem?_eq_some_iff.1 hgu).1
    have hg8 : w₈.heap[B]? = _ := hput8.upd1.get (Ext.get ((he5.trans he6).trans hn7.upd) hgu) (by omega)
    -- the page is no head: the next one
    have hblank : ∀ {X : Prop}, (0 < k ∨ (getHead (c.page i 0)).2 ≠ 0) → (∀ u', Ext w u' → u'.heap[B]? = some (.cells #[.int .i64 (if isBlank ((c.blk i).take ((k + 1) * c.sz)) then 0 else 1), .int .u8 0, .int .u32 0, .int .u64 0] T.pool_block (0, 0)) →
        (∃ k' : Nat, IntKind.i64.wrap ((k : Int) + 1) = k' ∧ k' ≤ c.np ∧ Ext w u' ∧ u'.heap[B]? = some (.cells #[.int .i64 (if isBlank ((c.blk i).take (k' * c.sz)) then 0 else 1), .int .u8 0, .int .u32 0, .int .u64 0] T.pool_block (0, 0)) ∧ (0 < k' → c.dead = false ∧ (getHead (c.page i 0)).2 ≠ 0)) ∧
          ((c.np : Int) - IntKind.i64.wrap ((k : Int) + 1)).toNat < ((c.np : Int) - (k : Int)).toNat) := by
      intro _ hno u' hu' hg'
      have e1 : IntKind.i64.wrap ((k : Int) + 1) = ((k + 1 : Nat) : Int) := w64 (by omega) (by omega)
      rw [e1]
      refine ⟨⟨k + 1, rfl, hk', hu', hg', fun _ => ⟨hd, ?_⟩⟩, by omega⟩
      rcases hno with hno | hno
      · exact (hpos hno).2
      · exact hno
    have hstep : (0 < k ∨ (getHead (c.page i 0)).2 ≠ 0) → CallsR prog K.seal_Blank #[Value.slice a c.sz cp] w₈ fun v4 w11 =>
        ∃ b1 : Bool, v4 = Value.bool b1 ∧
        br (!b1) (
          storeP w11 ⟨B, 0, none⟩ [Value.int .i64 1] fun w12 => (∃ k' : Nat, IntKind.i64.wrap ((k : Int) + 1) = k' ∧ k' ≤ c.np ∧ Ext w w12 ∧ w12.heap[B]? = some (.cells #[.int .i64 (if isBlank ((c.blk i).take (k' * c.sz)) then 0 else 1), .int .u8 0, .int .u32 0, .int .u64 0] T.pool_block (0, 0)) ∧ (0 < k' → c.dead = false ∧ (getHead (c.page i 0)).2 ≠ 0)) ∧
            ((c.np : Int) - IntKind.i64.wrap ((k : Int) + 1)).toNat < ((c.np : Int) - (k : Int)).toNat)
          ((∃ k' : Nat, IntKind.i64.wrap ((k : Int) + 1) = k' ∧ k' ≤ c.np ∧ Ext w w11 ∧ w11.heap[B]? = some (.cells #[.int .i64 (if isBlank ((c.blk i).take (k' * c.sz)) then 0 else 1), .int .u8 0, .int .u32 0, .int .u64 0] T.pool_block (0, 0)) ∧ (0 < k' → c.dead = false ∧ (getHead (c.page i 0)).2 ≠ 0)) ∧
            ((c.np : Int) - IntKind.i64.wrap ((k : Int) + 1)).toNat < ((c.np : Int) - (k : Int)).toNat) := by
      intro hno
      have hba8 : BytesAt w₈ a (c.page i k) := RowAt.upd (RowAt.ext (RowAt.ext hba he6) hn7.upd) hput8.upd1 (fun p hp e => by
        obtain ⟨b', o', hab, hlt⟩ := RowAt.blk hba (List.ne_nil_of_length_pos (by simp [hpl]; omega))
        rw [hp] at hab
        cases hab
        have : b' = B2 := e
        have := he6.size
        omega)
      have hsb := seal_Blank_spec (c := cp) hba8 (by omega)
      rw [hpl] at hsb
      refine hsb.mono ?_
      rintro _ _ ⟨rfl, rfl⟩
      rename_i w₈
      refine ⟨_, rfl, ?_⟩
      have hpt := page_take c i k
      cases hbp : isBlank (c.page i k) with
      | false =>
        simp only [Bool.not_false, br_true]
        refine store_of hg8 (by simp) fun w₁₂ hput12 => ?_
        refine hblank (X := True) hno w₁₂ (Put.upd e8 hput12 (.inl (by omega))) ?_
        have := hput12.get
        rw [this, hpt, isBlank_append, hbp, Bool.and_false]
        rfl
      | true =>
        simp only [Bool.not_true, br_false]
        refine hblank (X := True) hno w₈ e8 ?_
        rw [hg8, hpt, isBlank_append, hbp, Bool.and_true]
    refine br_eq (fun hk0 => ?_) fun hk0 => hstep (.inl (by omega))
    have hk0' : k = 0 := by omega
    subst hk0'
    refine br_eq (fun hz => ?_) fun hz => hstep (.inr (by omega))
    intro w₉ hd9
    have e9 := e8.trans hd9.upd
    have h9 := h.ext e9
    refine ⟨fun u => u = w₉, rfl, _, _, _, fun u hu => hu ▸ cell_of h9.head rfl, _, _, _, fun u hu => hu ▸ head_cells (Ext.get hd9.upd hput8.get), ?_⟩
    refine h9.idx hi fun _ => ?_
    refine h9.store hi ⟨2, (getHead (c.page i 0)).1⟩ fun w' hu' hp' => ⟨by trivial, (Upd.ext e9).trans hu', ?_⟩
    have : P.relook c i = P.setBlk i ⟨2, (getHead (c.page i 0)).1⟩ := by
      unfold Pool.relook lookAt
      rw [if_neg (by rw [hd]; simp), if_pos (by omega)]
    rw [this]
    exact hp'
  · have hk' : k = c.np := by omega
    subst hk'
    obtain ⟨hd, hno⟩ := hpos (by omega)
    rw [List.take_of_length_le (by omega)] at hgu
    intro w₁₅ hd15
    have e15 := heu.trans hd15.upd
    have h15 := h.ext e15
    refine ⟨fun u => u = w₁₅, rfl, _, _, _, fun u hu => hu ▸ cell_of h15.head rfl, (if isBlank (c.blk i) then 0 else 1), 0, 0, 0, fun u hu => hu ▸ cellsAt_of (o := 0) (Ext.get hd15.upd hgu) (fun j v hj => by simpa using hj), ?_⟩
    refine h15.idx hi fun _ => ?_
    have hv : (if isBlank (c.blk i) = true then (0 : Int) else 1) = (((if isBlank (c.blk i) = true then 0 else 1) : Nat) : Int) := by split <;> rfl
    have hval : [Value.int .i64 (if isBlank (c.blk i) = true then (0 : Int) else 1), Value.int .u8 0, Value.int .u32 0, Value.int .u64 0] = Blk.vals ⟨if isBlank (c.blk i) = true then 0 else 1, Head.none⟩ := by rw [hv]; rfl
    rw [hval]
    refine h15.store hi _ fun w' hu' hp' => ⟨by trivial, (Upd.ext e15).trans hu', ?_⟩
    have : P.relook c i = P.setBlk i ⟨if isBlank (c.blk i) = true then 0 else 1, Head.none⟩ := by
      unfold Pool.relook lookAt
      rw [if_neg (by rw [hd]; simp), if_neg hno]
      split <;> rfl
    rw [this]
    exact hp'

end Go.Den
