/- How arguments are opened: structs of numbers, by one check. (Merged by program: SPool SPool2 SPool3 SPool4 SRef4 MLaw4a SLaw4 MBerger MHead MDeed MPlay MPlay2 MPlay3 SPlay MPlay4 SPlay2 SPlay3 SPlay4 Frame Frame2.) -/
import Derived.Test.YtljaocdmeoheaaaQ3
import Derived.ProofKit
import Derived.Carry
import Derived.OpenShut
section
set_option linter.unusedVariables false
set_option linter.unusedSimpArgs false
set_option maxRecDepth 4000
namespace Go.Den

theorem ask_ok {c : Chip} {i k : Nat} (hd : c.dead = false) (hi : i < c.nb) (hk : k < c.np) : c.ask i k = 0 := by
  unfold Chip.ask
  rw [if_neg (by rw [hd]; simp), if_neg (by omega)]
theorem ask_dead {c : Chip} {i k : Int} (hd : c.dead = true) : c.ask i k = 10 := by unfold Chip.ask; rw [if_pos hd]
theorem ask00 {c : Chip} (h : c.Ok) : c.ask 0 0 = if c.dead then 10 else 0 := by
  cases hd : c.dead with
  | true => rw [ask_dead hd]; rfl
  | false =>
    have := h.nb1
    have := h.np1
    exact ask_ok (i := 0) (k := 0) hd (by omega) (by omega)

theorem pool_off_spec {w : World} {M : PLoc} {P : Pool} {c : Chip} {L : Loc} {G : Nat → Prop} (h : PC w M P c L G) :
    CallsR prog K.pool_Pool_off #[.pointer (some ⟨M.q, 0, none⟩)] w fun v w' => v = .bool false ∧ w' = w := by
  apply pool_Pool_off.sh
  simp only [pool_Pool_off.body, Option.isNone_some, br_false, nilC_some', add_lit]
  exact ⟨_, _, _, cell_of h.head rfl, rfl, by trivial⟩

theorem pool_alive_spec {w : World} {M : PLoc} {P : Pool} {c : Chip} {L : Loc} {G : Nat → Prop} (h : PC w M P c L G) :
    CallsR prog K.pool_Pool_alive #[.pointer (some ⟨M.q, 0, none⟩)] w fun v w' => v = .int .i64 (c.ask 0 0 : Nat) ∧ Ext w w' := by
  apply pool_Pool_alive.sh
  unfold pool_Pool_alive.body
  refine (pool_off_spec h).mono ?_
  rintro _ _ ⟨rfl, rfl⟩
  rename_i w
  refine ⟨_, rfl, ?_⟩
  simp only [br_false, nilC_some', add_lit]
  refine ⟨_, cell_of h.head rfl, ?_⟩
  refine (nand_Read_spec h.chip 0 0).mono ?_
  rintro v w₂ ⟨he, hv⟩
  split at hv
  · rename_i h0
    obtain ⟨a, cp, rfl, _⟩ := hv
    exact ⟨_, _, _, _, rfl, by rw [h0]; rfl, he⟩
  · subst hv
    exact ⟨_, _, _, _, rfl, rfl, he⟩

theorem setBlk_self (P : Pool) (i : Nat) (hi : i < P.blocks.length) : P.setBlk i (P.blk i) = P := by
  have : P.blk i = P.blocks[i] := by simp [Pool.blk, List.getD, hi]
  unfold Pool.setBlk
  rw [this, List.set_getElem_self]
theorem isBlank_append (l m : List UInt8) : isBlank (l ++ m) = (isBlank l && isBlank m) := by simp [isBlank]
theorem page_take (c : Chip) (i k : Nat) : (c.blk i).take ((k + 1) * c.sz) = (c.blk i).take (k * c.sz) ++ c.page i k := by
  rw [Nat.succ_mul, List.take_add]; rfl

theorem page_len {c : Chip} (h : c.Ok) {i k : Nat} (hi : i < c.nb) (hk : k < c.np) : (c.page i k).length = c.sz := by
  have h1 := h.blk_len hi
  have h2 := page_in hk
  simp [Chip.page, h1]
  omega

theorem pool_look_spec {w : World} {M : PLoc} {P : Pool} {c : Chip} {L : Loc} {G : Nat → Prop} (h : PC w M P c L G) {i : Nat} (hi : i < c.nb) :
    CallsR prog K.pool_Pool_look #[.pointer (some ⟨M.q, 0, none⟩), .int .i64 i] w fun v w' => v = .tuple #[] ∧ Upd (· = M.pb) w w' ∧ PC w' M (P.relook c i) c L G := by
  have hok := h.chip.ok
  have hnp1 := hok.np1
  have hnp2 := hok.np2
  have hnb2 := hok.nb2
  have hsz1 := hok.sz1
  have hsz2 := hok.sz2
  have hblen := hok.blk_len hi
  obtain ⟨hil, _⟩ := h.blk hi
  apply pool_Pool_look.sh
  intro B w₁ hn
  have hB : B = w.heap.size := hn.num
  refine store_of hn.get (by simp) fun w₂ hput => ?_
  have e2 : Ext w w₂ := Put.upd hn.upd hput (.inl (by omega))
  have hgB := hput.get
  rw [splice_all _ _ (by simp)] at hgB
  have h2 := h.ext e2
  simp only [nilC_some', add_lit]
  refine ⟨_, cell_of h2.head rfl, ?_⟩
  refine (nand_Geo_spec h2.chip).mono ?_
  rintro _ w₃ ⟨rfl, he3⟩
  have e3 := e2.trans he3
  have hgB3 := Ext.get he3 hgB
  refine ⟨_, _, _, _, rfl, ?_⟩
  refine ⟨fun x u => ∃ k : Nat, x = k ∧ k ≤ c.np ∧ Ext w u ∧ u.heap[B]? = some (.cells #[.int .i64 (if isBlank ((c.blk i).take (k * c.sz)) then 0 else 1), .int .u8 0, .int .u32 0, .int .u64 0] T.pool_block (0, 0)) ∧ (0 < k → c.dead = false ∧ (getHead (c.page i 0)).2 ≠ 0),
    fun x _ => (c.np - x).toNat, ⟨0, rfl, by omega, e3, by simpa [isBlank] using hgB3, fun h => by omega⟩, ?_⟩
  rintro x u ⟨k, rfl, hk, heu, hgu, hpos⟩
  have hu := h.ext heu
  have hsu := heu.size
  refine br_dec (fun hlt => ?_) fun hge => ?_
  · have hk' : k < c.np := by omega
    refine ⟨_, cell_of hu.head rfl, ?_⟩
    refine (nand_Read_spec hu.chip i k).mono ?_
    rintro v w₅ ⟨he5, hv⟩
    have e5 := heu.trans he5
    rcases Bool.eq_false_or_eq_true c.dead with hd | hd
    · rw [if_neg (by rw [ask_dead hd]; omega), ask_dead hd] at hv
      subst hv
      refine ⟨_, _, _, _, rfl, ?_⟩
      refine br_ne (fun _ => ⟨by trivial, Upd.ext e5, ?_⟩) fun h => by omega
      have : P.relook c i = P := by unfold Pool.relook lookAt; rw [if_pos hd]; exact setBlk_self P i hil
      rw [this]
      exact h.ext e5
    rw [if_pos (ask_ok hd hi hk')] at hv
    obtain ⟨a, cp, rfl, hba, hcp, hfa⟩ := hv
    simp only [Int.toNat_natCast] at hba
    have hpl := page_len hok hi hk'
    refine ⟨_, _, _, _, rfl, br_ne (fun h => by omega) fun _ => ?_⟩
    have hgh := pool_GetHead_spec (c := cp) hba (by omega)
    rw [hpl] at hgh
    refine hgh.mono ?_
    rintro _ w₆ ⟨he6, rfl⟩
    have e6 := e5.trans he6
    refine ⟨_, _, _, _, rfl, fun B2 w₇ hn7 => ?_⟩
    have hB2 : B2 = w₆.heap.size := hn7.num
    have hs6 := e6.size
    have hs56 := (he5.trans he6).size
    rw [head_zero] at hn7
    refine head_put (h := (getHead (c.page i k)).1) hn7.get rfl fun w₈ hput8 => ?_
    have e8 : Ext w w₈ := Put.upd (e6.trans hn7.upd) hput8 (.inl (by omega))
    have hBs : B < u.heap.size := (Array.getElem?_eq_some_iff.1 hgu).1
    have hg8 : w₈.heap[B]? = _ := hput8.upd1.get (Ext.get ((he5.trans he6).trans hn7.upd) hgu) (by omega)
    -- the page is no head: the next one
    have hblank : ∀ {X : Prop}, (0 < k ∨ (getHead (c.page i 0)).2 ≠ 0) → (∀ u', Ext w u' → u'.heap[B]? = some (.cells #[.int .i64 (if isBlank ((c.blk i).take ((k + 1) * c.sz)) then 0 else 1), .int .u8 0, .int .u32 0, .int .u64 0] T.pool_block (0, 0)) →
        (∃ k' : Nat, IntKind.i64.wrap ((k : Int) + 1) = k' ∧ k' ≤ c.np ∧ Ext w u' ∧ u'.heap[B]? = some (.cells #[.int .i64 (if isBlank ((c.blk i).take (k' * c.sz)) then 0 else 1), .int .u8 0, .int .u32 0, .int .u64 0] T.pool_block (0, 0)) ∧ (0 < k' → c.dead = false ∧ (getHead (c.page i 0)).2 ≠ 0)) ∧
          ((c.np : Int) - IntKind.i64.wrap ((k : Int) + 1)).toNat < ((c.np : Int) - (k : Int)).toNat) := by
      intro _ hno u' hu' hg'
      have e1 : IntKind.i64.wrap ((k : Int) + 1) = ((k + 1 : Nat) : Int) := w64 (by omega) (by omega)
      rw [e1]
      refine ⟨⟨k + 1, rfl, hk', hu', hg', fun _ => ⟨hd, ?_⟩⟩, by omega⟩
      rcases hno with hno | hno
      · exact (hpos hno).2
      · exact hno
    have hstep : (0 < k ∨ (getHead (c.page i 0)).2 ≠ 0) → CallsR prog K.seal_Blank #[Value.slice a c.sz cp] w₈ fun v4 w11 =>
        ∃ b1 : Bool, v4 = Value.bool b1 ∧
        br (!b1) (
          storeP w11 ⟨B, 0, none⟩ [Value.int .i64 1] fun w12 => (∃ k' : Nat, IntKind.i64.wrap ((k : Int) + 1) = k' ∧ k' ≤ c.np ∧ Ext w w12 ∧ w12.heap[B]? = some (.cells #[.int .i64 (if isBlank ((c.blk i).take (k' * c.sz)) then 0 else 1), .int .u8 0, .int .u32 0, .int .u64 0] T.pool_block (0, 0)) ∧ (0 < k' → c.dead = false ∧ (getHead (c.page i 0)).2 ≠ 0)) ∧
            ((c.np : Int) - IntKind.i64.wrap ((k : Int) + 1)).toNat < ((c.np : Int) - (k : Int)).toNat)
          ((∃ k' : Nat, IntKind.i64.wrap ((k : Int) + 1) = k' ∧ k' ≤ c.np ∧ Ext w w11 ∧ w11.heap[B]? = some (.cells #[.int .i64 (if isBlank ((c.blk i).take (k' * c.sz)) then 0 else 1), .int .u8 0, .int .u32 0, .int .u64 0] T.pool_block (0, 0)) ∧ (0 < k' → c.dead = false ∧ (getHead (c.page i 0)).2 ≠ 0)) ∧
            ((c.np : Int) - IntKind.i64.wrap ((k : Int) + 1)).toNat < ((c.np : Int) - (k : Int)).toNat) := by
      intro hno
      have hba8 : BytesAt w₈ a (c.page i k) := RowAt.upd (RowAt.ext (RowAt.ext hba he6) hn7.upd) hput8.upd1 (fun p hp e => by
        obtain ⟨b', o', hab, hlt⟩ := RowAt.blk hba (List.ne_nil_of_length_pos (by simp [hpl]; omega))
        rw [hp] at hab
        cases hab
        have : b' = B2 := e
        have := he6.size
        omega)
      have hsb := seal_Blank_spec (c := cp) hba8 (by omega)
      rw [hpl] at hsb
      refine hsb.mono ?_
      rintro _ _ ⟨rfl, rfl⟩
      rename_i w₈
      refine ⟨_, rfl, ?_⟩
      have hpt := page_take c i k
      cases hbp : isBlank (c.page i k) with
      | false =>
        simp only [Bool.not_false, br_true]
        refine store_of hg8 (by simp) fun w₁₂ hput12 => ?_
        refine hblank (X := True) hno w₁₂ (Put.upd e8 hput12 (.inl (by omega))) ?_
        have := hput12.get
        rw [this, hpt, isBlank_append, hbp, Bool.and_false]
        rfl
      | true =>
        simp only [Bool.not_true, br_false]
        refine hblank (X := True) hno w₈ e8 ?_
        rw [hg8, hpt, isBlank_append, hbp, Bool.and_true]
    refine br_eq (fun hk0 => ?_) fun hk0 => hstep (.inl (by omega))
    have hk0' : k = 0 := by omega
    subst hk0'
    refine br_eq (fun hz => ?_) fun hz => hstep (.inr (by omega))
    intro w₉ hd9
    have e9 := e8.trans hd9.upd
    have h9 := h.ext e9
    refine ⟨fun u => u = w₉, rfl, _, _, _, fun u hu => hu ▸ cell_of h9.head rfl, _, _, _, fun u hu => hu ▸ head_cells (Ext.get hd9.upd hput8.get), ?_⟩
    refine h9.idx hi fun _ => ?_
    refine h9.store hi ⟨2, (getHead (c.page i 0)).1⟩ fun w' hu' hp' => ⟨by trivial, (Upd.ext e9).trans hu', ?_⟩
    have : P.relook c i = P.setBlk i ⟨2, (getHead (c.page i 0)).1⟩ := by
      unfold Pool.relook lookAt
      rw [if_neg (by rw [hd]; simp), if_pos (by omega)]
    rw [this]
    exact hp'
  · have hk' : k = c.np := by omega
    subst hk'
    obtain ⟨hd, hno⟩ := hpos (by omega)
    rw [List.take_of_length_le (by omega)] at hgu
    intro w₁₅ hd15
    have e15 := heu.trans hd15.upd
    have h15 := h.ext e15
    refine ⟨fun u => u = w₁₅, rfl, _, _, _, fun u hu => hu ▸ cell_of h15.head rfl, (if isBlank (c.blk i) then 0 else 1), 0, 0, 0, fun u hu => hu ▸ cellsAt_of (o := 0) (Ext.get hd15.upd hgu) (fun j v hj => by simpa using hj), ?_⟩
    refine h15.idx hi fun _ => ?_
    have hv : (if isBlank (c.blk i) = true then (0 : Int) else 1) = (((if isBlank (c.blk i) = true then 0 else 1) : Nat) : Int) := by split <;> rfl
    have hval : [Value.int .i64 (if isBlank (c.blk i) = true then (0 : Int) else 1), Value.int .u8 0, Value.int .u32 0, Value.int .u64 0] = Blk.vals ⟨if isBlank (c.blk i) = true then 0 else 1, Head.none⟩ := by rw [hv]; rfl
    rw [hval]
    refine h15.store hi _ fun w' hu' hp' => ⟨by trivial, (Upd.ext e15).trans hu', ?_⟩
    have : P.relook c i = P.setBlk i ⟨if isBlank (c.blk i) = true then 0 else 1, Head.none⟩ := by
      unfold Pool.relook lookAt
      rw [if_neg (by rw [hd]; simp), if_neg hno]
      split <;> rfl
    rw [this]
    exact hp'

end Go.Den
end

section
set_option linter.unusedVariables false
set_option linter.unusedSimpArgs false
set_option maxRecDepth 4000
namespace Go.Den

theorem ChipRep.lt {w : World} {p : Nat} {c : Chip} {L : Loc} {G : Nat → Prop} (h : ChipRep w p c L G) : ∀ x, x ∈ p :: L.bb :: L.locs → x < w.heap.size := by
  intro x hx
  simp only [List.mem_cons] at hx
  rcases hx with rfl | rfl | hx
  · exact (Array.getElem?_eq_some_iff.1 h.head).1
  · exact OwnAt.blk h.bad rfl
  · obtain ⟨j, hj, e⟩ := List.getElem_of_mem hx
    obtain ⟨vs0, _, hv0⟩ := h.rows
    obtain ⟨l, cap, hl, _, hbi⟩ := hv0 j (by rw [← h.len]; exact hj)
    rw [List.getElem?_eq_getElem hj, e] at hl
    cases hl
    exact OwnAt.blk hbi rfl

theorem write_half {w : World} {M : PLoc} {P : Pool} {c : Chip} {L : Loc} {G : Nat → Prop} (h : PC w M P c L G) {i : Nat} (hi : i < c.nb) {kind : UInt8} {era : Nat} (hera : era < 4294967296) {R : Value → World → Prop}
    (hR : ∀ w' L', Upd (PF M L) w w' → SameLoc L L' → PC w' M (writeHead P c i kind era).1 (writeHead P c i kind era).2.1 L' G → R (.int .i64 ((writeHead P c i kind era).2.2 : Nat)) w') :
    ∃ x11 : Int, World.cell? w ⟨M.q, 0 + 2, none⟩ = some (Value.int .u64 x11) ∧
    storeP w ⟨M.q, 0 + 2, none⟩ [Value.int .u64 (IntKind.u64.wrap (x11 + 1))] fun w9 =>
    ∀ w10 : World, Drew w9 w10 →
    ∃ S2 : World → Prop, S2 w10 ∧
    ∃ p4 : Option Addr, (∀ u3, S2 u3 → World.cell? u3 ⟨M.q, 0, none⟩ = some (Value.pointer p4)) ∧
    ∃ x12 : Int, (∀ u4, S2 u4 → World.cell? u4 ⟨M.q, 0 + 2, none⟩ = some (Value.int .u64 x12)) ∧
    CallsR prog K.nand_Chip_Geo #[Value.pointer p4] w10 fun v7 w11 =>
    ∃ x13 : Int, ∃ x14 : Int, ∃ x15 : Int, ∃ x16 : Int, v7 = Value.agg #[Value.int .i64 x13, Value.int .i64 x14, Value.int .i64 x15, Value.int .i64 x16] ∧ S2 w11 ∧
    CallsR prog K.pool_PutHead #[Value.int .i64 x15, Value.agg #[Value.int .u8 (kind.toNat : Int), Value.int .u32 (era : Int), Value.int .u64 x12]] w11 fun v8 w12 =>
    ∃ (a3 : Option Addr) (l3 c3 : Nat), ∃ x17 : Int, v8 = Value.tuple #[Value.slice a3 l3 c3, Value.int .i64 x17] ∧ S2 w12 ∧
    ∃ p5 : Option Addr, World.cell? w12 ⟨M.q, 0, none⟩ = some (Value.pointer p5) ∧
    CallsR prog K.nand_Chip_Program #[Value.pointer p5, Value.int .i64 (i : Int), Value.int .i64 0, Value.slice a3 l3 c3] w12 fun v9 w13 =>
    ∃ x18 : Int, v9 = Value.int .i64 x18 ∧
    CallsR prog K.pool_Pool_look #[Value.pointer (some ⟨M.q, 0, none⟩), Value.int .i64 (i : Int)] w13 fun v10 w14 => v10 = Value.tuple #[] ∧ R (Value.int .i64 x18) w14 := by
  refine ⟨_, cell_of h.head rfl, store_of h.head (by simp) fun w₉ hput => ?_⟩
  have hq : IntKind.u64.wrap ((P.last : Int) + 1) = ((P.raise.last : Nat) : Int) := by
    rw [wu64_mod]; rfl
  have hlast : P.raise.last < 18446744073709551616 := Nat.mod_lt _ (by omega)
  have h9 : PC w₉ M P.raise c L G := h.rehead (Put.upd1 hput) (last := P.raise.last) (turn := P.turn) h.turn (by
    have := hput.get
    rw [this, hq]; rfl)
  intro w₁₀ hd10
  have h10 := h9.ext hd10.upd
  have hu10 : Upd (· = M.q) w w₁₀ := (Put.upd1 hput).then hd10.upd
  refine ⟨fun u => Ext w₁₀ u, Upd.refl _ _, _, fun u hu => cell_of (h10.ext hu).head rfl, _, fun u hu => cell_of (h10.ext hu).head rfl, ?_⟩
  refine (nand_Geo_spec h10.chip).mono ?_
  rintro _ w₁₁ ⟨rfl, he11⟩
  refine ⟨_, _, _, _, rfl, he11, ?_⟩
  refine (pool_PutHead_spec (c.sz : Nat) ⟨kind, era, P.raise.last⟩ ⟨hera, hlast⟩ w₁₁).mono ?_
  rintro _ w₁₂ ⟨he12, a3, c3, rfl, hb3, hf3, _⟩
  have e12 := he11.trans he12
  have h12 := h10.ext e12
  have h11 := h10.ext he11
  refine ⟨_, _, _, _, rfl, e12, _, cell_of h12.head rfl, ?_⟩
  refine (nand_Program_spec h12.chip (i : Int) 0 (cp := c3) hb3 (fun p hp hm => ?_)).mono ?_
  · have h1 := hf3 p hp
    have h2 := h11.chip.lt p.block (by
      simp only [List.mem_cons] at hm ⊢
      rcases hm with hm | hm
      · exact .inl hm
      · exact .inr (.inr hm))
    omega
  rintro _ w₁₃ ⟨hu13, L', hs13, h13, rfl⟩
  have hpc13 : PC w₁₃ M P.raise _ L' G := h12.rechip hu13 h13 hs13 (Chip.program_geo _ _ _ _) (fun x hx => (h.apart x hx).2)
  refine ⟨_, rfl, ?_⟩
  refine (pool_look_spec hpc13 (by rw [(Chip.program_geo c (i : Int) 0 _).1]; exact hi)).mono ?_
  rintro _ w₁₄ ⟨rfl, hu14, h14⟩
  refine ⟨rfl, hR w₁₄ L' ?_ hs13 h14⟩
  refine (((hu10.mono fun x _ hx => .inl hx).then e12).trans (hu13.mono fun x _ hx => .inr (.inr hx))).trans (hu14.mono fun x _ hx => .inr (.inl hx))

theorem pool_try_spec {w : World} {M : PLoc} {P : Pool} {c : Chip} {L : Loc} {G : Nat → Prop} (h : PC w M P c L G) {i : Nat} (hi : i < c.nb) {kind : UInt8} {era : Nat} (hera : era < 4294967296) :
    CallsR prog K.pool_Pool_try #[.pointer (some ⟨M.q, 0, none⟩), .int .i64 i, bv kind, .int .u32 era] w fun v w' => v = .int .i64 ((tryBlk P c i kind era).2.2 : Nat) ∧ Upd (PF M L) w w' ∧ ∃ L', SameLoc L L' ∧ PC w' M (tryBlk P c i kind era).1 (tryBlk P c i kind era).2.1 L' G := by
  apply pool_Pool_try.sh
  simp only [pool_Pool_try.body, nilC_some', add_lit]
  refine ⟨_, _, _, cell_of h.head rfl, ?_⟩
  refine h.idx hi fun hr => ?_
  have hc := RowAt.cell hr (i := 0) (v := .int .i64 (P.blk i).what) rfl
  obtain ⟨b, o, hab, hc⟩ := hc
  cases hab
  refine ⟨_, hc, br_eq (fun h1 => ?_) fun h1 => ?_⟩
  · have ht : tryBlk P c i kind era = if (c.erase i).2 ≠ 0 then (P.relook (c.erase i).1 i, (c.erase i).1, (c.erase i).2) else writeHead (P.relook (c.erase i).1 i) (c.erase i).1 i kind era := by
      unfold tryBlk; rw [if_pos (by omega)]
    rw [ht]
    refine ⟨_, cell_of h.head rfl, ?_⟩
    refine (nand_Erase_spec h.chip (i : Int)).mono ?_
    rintro _ w₁ ⟨hu1, L1, hs1, hc1, rfl⟩
    have hg := Chip.erase_geo c (i : Int)
    have hp1 : PC w₁ M P _ L1 G := h.rechip hu1 hc1 hs1 hg (fun x hx => (h.apart x hx).2)
    refine ⟨_, rfl, ?_⟩
    refine (pool_look_spec hp1 (by rw [hg.1]; exact hi)).mono ?_
    rintro _ w₂ ⟨rfl, hu2, hp2⟩
    refine ⟨rfl, ?_⟩
    have hu12 : Upd (PF M L) w w₂ := (hu1.mono fun x _ hx => .inr (.inr hx)).trans (hu2.mono fun x _ hx => .inr (.inl hx))
    refine br_ne (fun hne => ?_) fun heq => ?_
    · rw [if_pos (by omega)]
      exact ⟨by trivial, hu12, L1, hs1, hp2⟩
    · rw [if_neg (by omega)]
      refine write_half (kind := kind) hp2 (by rw [hg.1]; exact hi) hera (R := fun v w' => v = .int .i64 ((writeHead (P.relook (c.erase i).1 i) (c.erase i).1 i kind era).2.2 : Nat) ∧ Upd (PF M L) w w' ∧ ∃ L', SameLoc L L' ∧ PC w' M (writeHead (P.relook (c.erase i).1 i) (c.erase i).1 i kind era).1 (writeHead (P.relook (c.erase i).1 i) (c.erase i).1 i kind era).2.1 L' G) fun w' L' hu' hs' hp' => ⟨by trivial, hu12.trans (by rw [PF.same hs1] at hu'; exact hu'), L', hs1.trans hs', hp'⟩
  · have ht : tryBlk P c i kind era = writeHead P c i kind era := by unfold tryBlk; rw [if_neg (by omega)]
    rw [ht]
    exact write_half (kind := kind) h hi hera (R := fun v w' => v = .int .i64 ((writeHead P c i kind era).2.2 : Nat) ∧ Upd (PF M L) w w' ∧ ∃ L', SameLoc L L' ∧ PC w' M (writeHead P c i kind era).1 (writeHead P c i kind era).2.1 L' G) fun w' L' hu' hs' hp' => ⟨by trivial, hu', L', hs', hp'⟩

theorem SameLoc.symm {A B : Loc} (h : SameLoc A B) : SameLoc B A := by
  obtain ⟨a, b, c, d, e⟩ := h
  exact ⟨a.symm, b.symm, c.symm, d.symm, e.symm⟩

theorem tryBlk_geo (P : Pool) (c : Chip) (i : Nat) (kind : UInt8) (era : Nat) : c.SameGeo (tryBlk P c i kind era).2.1 := by
  unfold tryBlk writeHead
  split
  · split
    · exact Chip.erase_geo _ _
    · exact (Chip.erase_geo _ _).trans (Chip.program_geo _ _ _ _)
  · exact Chip.program_geo _ _ _ _

theorem pool_Take_spec {w : World} {M : PLoc} {P : Pool} {c : Chip} {L : Loc} {G : Nat → Prop} (h : PC w M P c L G) {kind : UInt8} {era : Nat} (hera : era < 4294967296) :
    CallsR prog K.pool_Pool_Take #[.pointer (some ⟨M.q, 0, none⟩), bv kind, .int .u32 era] w fun v w' =>
      v = .tuple #[.int .i64 ((takePool P c kind era).block : Nat), .int .i64 ((takePool P c kind era).err : Nat)] ∧ Upd (PF M L) w w' ∧ ∃ L', SameLoc L L' ∧ PC w' M (takePool P c kind era).pool (takePool P c kind era).chip L' G := by
  apply pool_Pool_Take.sh
  unfold pool_Pool_Take.body
  refine (pool_off_spec h).mono ?_
  rintro _ _ ⟨rfl, rfl⟩
  rename_i w
  refine ⟨_, rfl, ?_⟩
  simp only [br_false, nilC_some', add_lit]
  have hno : (kind.toNat < 1 ∨ kind.toNat > 3 ∨ era < 1) → takePool P c kind era = ⟨P, c, 0, 2⟩ := fun hc => by unfold takePool; rw [if_pos hc]
  refine ⟨fun u => u = w ∧ ¬ (kind.toNat < 1 ∨ kind.toNat > 3 ∨ era < 1), ?_, ?_⟩
  · refine br_dec (fun h1 => ?_) fun h1 => br_dec (fun h2 => ?_) fun h2 => br_dec (fun h3 => ?_) fun h3 => ⟨by trivial, by omega⟩
    · rw [hno (by omega)]; exact ⟨by trivial, Upd.refl _ _, L, SameLoc.refl _, h⟩
    · rw [hno (by omega)]; exact ⟨by trivial, Upd.refl _ _, L, SameLoc.refl _, h⟩
    · rw [hno (by omega)]; exact ⟨by trivial, Upd.refl _ _, L, SameLoc.refl _, h⟩
  rintro w₂ ⟨rfl, hcond⟩
  refine (pool_alive_spec h).mono ?_
  rintro _ w₃ ⟨rfl, he3⟩
  refine ⟨_, rfl, br_ne (fun hne => ?_) fun heq => ?_⟩
  · have : takePool P c kind era = ⟨P, c, 0, c.ask 0 0⟩ := by unfold takePool; rw [if_neg hcond, if_pos (by omega)]
    rw [this]
    exact ⟨by trivial, Upd.ext he3, L, SameLoc.refl _, h.ext he3⟩
  have ht : takePool P c kind era = takeGo kind era P c (List.range c.nb) := by unfold takePool; rw [if_neg hcond, if_neg (by omega)]
  rw [ht]
  have h3 := h.ext he3
  have hnb1 := h.chip.ok.nb1
  have hnb2 := h.chip.ok.nb2
  refine ⟨_, _, _, cell_of h3.head rfl, ?_⟩
  refine ⟨fun x u => ∃ (k : Nat) (P' : Pool) (c' : Chip) (L' : Loc), x = k ∧ k ≤ c.nb ∧ Upd (PF M L) w₂ u ∧ SameLoc L L' ∧ c.SameGeo c' ∧ PC u M P' c' L' G ∧ takeGo kind era P c (List.range c.nb) = takeGo kind era P' c' ((List.range c.nb).drop k),
    fun x _ => (c.nb - x).toNat, ⟨0, P, c, L, rfl, by omega, Upd.ext he3, SameLoc.refl _, .refl _, h3, by simp⟩, ?_⟩
  rintro x u ⟨k, P', c', L', rfl, hk, hu, hsl, hg, hp, htg⟩
  refine br_dec (fun hlt => ?_) fun hge => ?_
  · have hk' : k < c.nb := by omega
    have hturn := hp.turn
    rw [hg.1] at hturn
    have hdrop : (List.range c.nb).drop k = k :: (List.range c.nb).drop (k + 1) := by
      rw [List.drop_eq_getElem_cons (by simpa using hk')]; simp
    have hmod : (P'.turn + k) % c.nb < c.nb := Nat.mod_lt _ (by omega)
    have e1 : IntKind.i64.wrap ((k : Int) + 1) = ((k + 1 : Nat) : Int) := w64 (by omega) (by omega)
    have e2 : IntKind.i64.wrap ((P'.turn : Int) + (k : Int)) = ((P'.turn + k : Nat) : Int) := w64 (by omega) (by omega)
    have hnext : ∀ {u' : World} {P2 : Pool} {c2 : Chip} {L2 : Loc}, Upd (PF M L) w₂ u' → SameLoc L L2 → c.SameGeo c2 → PC u' M P2 c2 L2 G → takeGo kind era P c (List.range c.nb) = takeGo kind era P2 c2 ((List.range c.nb).drop (k + 1)) →
        (∃ (k' : Nat) (P' : Pool) (c' : Chip) (L' : Loc), IntKind.i64.wrap ((k : Int) + 1) = k' ∧ k' ≤ c.nb ∧ Upd (PF M L) w₂ u' ∧ SameLoc L L' ∧ c.SameGeo c' ∧ PC u' M P' c' L' G ∧ takeGo kind era P c (List.range c.nb) = takeGo kind era P' c' ((List.range c.nb).drop k')) ∧
          ((c.nb : Int) - IntKind.i64.wrap ((k : Int) + 1)).toNat < ((c.nb : Int) - (k : Int)).toNat := by
      intro u' P2 c2 L2 a1 a2 a3 a4 a5
      rw [e1]
      exact ⟨⟨k + 1, P2, c2, L2, rfl, hk', a1, a2, a3, a4, a5⟩, by omega⟩
    refine ⟨_, cell_of hp.head rfl, by omega, _, cell_of hp.head rfl, ?_⟩
    rw [e2, tmod_nat]
    rw [hdrop] at htg
    refine (nand_Bad_spec hp.chip _).mono ?_
    rintro _ _ ⟨rfl, rfl⟩
    rename_i u
    have hd0 : decide ((0 : Int) ≤ (((P'.turn + k) % c.nb : Nat) : Int)) = true := decide_eq_true (by omega)
    refine ⟨_, rfl, ?_⟩
    rw [hd0, Bool.true_and, Int.toNat_natCast]
    refine br_intro (fun hb => ?_) fun hb => ?_
    · refine hnext hu hsl hg hp ?_
      rw [htg, takeGo, if_pos (.inl (by rw [hg.1]; exact hb))]
    refine ⟨_, _, _, cell_of hp.head rfl, ?_⟩
    refine hp.idx (by rw [hg.1]; exact hmod) fun hr => ?_
    obtain ⟨b', o', hab, hc⟩ := RowAt.cell hr (i := 0) (v := .int .i64 (P'.blk ((P'.turn + k) % c.nb)).what) rfl
    cases hab
    refine ⟨_, hc, br_eq (fun h2 => ?_) fun h2 => ?_⟩
    · refine hnext hu hsl hg hp ?_
      rw [htg, takeGo, if_pos (.inr (by rw [hg.1]; omega))]
    have hcnd : ¬ (c'.isBad ((P'.turn + k) % c'.nb) = true ∨ (P'.blk ((P'.turn + k) % c'.nb)).what = 2) := by
      rw [hg.1, hb]; simp; omega
    rw [takeGo, if_neg hcnd, hg.1] at htg
    refine (pool_try_spec hp (by rw [hg.1]; exact hmod) hera).mono ?_
    rintro _ u' ⟨rfl, hu', L2, hs2, hp2⟩
    rw [PF.same hsl] at hu'
    have hg2 := hg.trans (tryBlk_geo P' c' ((P'.turn + k) % c.nb) kind era)
    refine ⟨_, rfl, br_eq (fun h0 => ?_) fun h0 => ?_⟩
    · rw [if_pos (by omega)] at htg
      refine store_of hp2.head (by simp) fun w₇ hput => ?_
      have e3 : IntKind.i64.wrap ((((P'.turn + k) % c.nb : Nat) : Int) + 1) = (((P'.turn + k) % c.nb + 1 : Nat) : Int) := w64 (by omega) (by omega)
      have h7 := hp2.rehead (Put.upd1 hput) (last := (tryBlk P' c' ((P'.turn + k) % c.nb) kind era).1.last) (turn := (P'.turn + k) % c.nb + 1) (by rw [hg2.1]; exact hmod) (by
        have := hput.get
        rw [this, e3]; rfl)
      rw [htg]
      exact ⟨by trivial, (hu.trans hu').trans ((Put.upd1 hput).mono fun x _ hx => .inl hx), L2, hsl.trans hs2, h7⟩
    rw [if_neg (by omega)] at htg
    refine br_eq (fun h10 => ?_) fun h10 => ?_
    · rw [if_pos (by omega)] at htg
      rw [htg, h10]
      exact ⟨by trivial, hu.trans hu', L2, hsl.trans hs2, hp2⟩
    · rw [if_neg (by omega)] at htg
      exact hnext (hu.trans hu') (hsl.trans hs2) hg2 hp2 htg
  · have : k = c.nb := by omega
    subst this
    rw [List.drop_of_length_le (by simp)] at htg
    rw [htg]
    exact ⟨by trivial, hu, L', hsl, hp⟩

theorem pool_Free_spec {w : World} {M : PLoc} {P : Pool} {c : Chip} {L : Loc} {G : Nat → Prop} (h : PC w M P c L G) (i : Int) :
    CallsR prog K.pool_Pool_Free #[.pointer (some ⟨M.q, 0, none⟩), .int .i64 i] w fun v w' =>
      v = .int .i64 ((freePool P c i).2.2 : Nat) ∧ Upd (PF M L) w w' ∧ ∃ L', SameLoc L L' ∧ PC w' M (freePool P c i).1 (freePool P c i).2.1 L' G := by
  apply pool_Pool_Free.sh
  unfold pool_Pool_Free.body
  refine (pool_off_spec h).mono ?_
  rintro _ _ ⟨rfl, rfl⟩
  rename_i w
  refine ⟨_, rfl, ?_⟩
  simp only [br_false, nilC_some', add_lit]
  have hno : (i < 0 ∨ i ≥ c.nb ∨ (P.blk i.toNat).what ≠ 2 ∨ c.isBad i.toNat = true) → freePool P c i = (P, c, 12) := fun hc => by unfold freePool; rw [if_pos hc]
  refine br_dec (fun h1 => ?_) fun h1 => ?_
  · rw [hno (.inl h1)]; exact ⟨by trivial, Upd.refl _ _, L, SameLoc.refl _, h⟩
  refine ⟨_, _, _, cell_of h.head rfl, br_dec (fun h2 => ?_) fun h2 => ?_⟩
  · rw [hno (.inr (.inl h2))]; exact ⟨by trivial, Upd.refl _ _, L, SameLoc.refl _, h⟩
  obtain ⟨j, rfl⟩ : ∃ j : Nat, i = j := ⟨i.toNat, by omega⟩
  have hj : j < c.nb := by omega
  simp only [Int.toNat_natCast] at hno
  refine ⟨_, _, _, cell_of h.head rfl, h.idx hj fun hr => ?_⟩
  obtain ⟨b', o', hab, hc⟩ := RowAt.cell hr (i := 0) (v := .int .i64 (P.blk j).what) rfl
  cases hab
  refine ⟨_, hc, br_ne (fun h3 => ?_) fun h3 => ?_⟩
  · rw [hno (.inr (.inr (.inl (by omega))))]; exact ⟨by trivial, Upd.refl _ _, L, SameLoc.refl _, h⟩
  refine ⟨_, cell_of h.head rfl, ?_⟩
  refine (nand_Bad_spec h.chip _).mono ?_
  rintro _ _ ⟨rfl, rfl⟩
  rename_i w
  have hd0 : decide ((0 : Int) ≤ ((j : Nat) : Int)) = true := decide_eq_true (by omega)
  refine ⟨_, rfl, ?_⟩
  rw [hd0, Bool.true_and, Int.toNat_natCast]
  refine br_intro (fun h4 => ?_) fun h4 => ?_
  · rw [hno (.inr (.inr (.inr h4)))]; exact ⟨by trivial, Upd.refl _ _, L, SameLoc.refl _, h⟩
  have hf : freePool P c (j : Int) = (P.relook (c.erase j).1 j, (c.erase j).1, if (c.erase j).2 = 9 then 0 else (c.erase j).2) := by
    unfold freePool
    rw [if_neg (by
      rw [Int.toNat_natCast, h4]
      rintro (h | h | h | h)
      · omega
      · omega
      · omega
      · cases h)]
    simp only [Int.toNat_natCast]
  rw [hf]
  refine ⟨_, cell_of h.head rfl, ?_⟩
  refine (nand_Erase_spec h.chip (j : Int)).mono ?_
  rintro _ w₁ ⟨hu1, L1, hs1, hc1, rfl⟩
  have hg := Chip.erase_geo c (j : Int)
  have hp1 : PC w₁ M P _ L1 G := h.rechip hu1 hc1 hs1 hg (fun x hx => (h.apart x hx).2)
  refine ⟨_, rfl, ?_⟩
  refine (pool_look_spec hp1 (by rw [hg.1]; exact hj)).mono ?_
  rintro _ w₂ ⟨rfl, hu2, hp2⟩
  have hu12 : Upd (PF M L) w w₂ := (hu1.mono fun x _ hx => .inr (.inr hx)).trans (hu2.mono fun x _ hx => .inr (.inl hx))
  refine ⟨rfl, br_eq (fun h9 => ?_) fun h9 => ?_⟩
  · rw [if_pos (by omega)]
    exact ⟨by trivial, hu12, L1, hs1, hp2⟩
  · rw [if_neg (by omega)]
    exact ⟨by trivial, hu12, L1, hs1, hp2⟩

theorem pool_Last_spec {w : World} {M : PLoc} {P : Pool} {c : Chip} {L : Loc} {G : Nat → Prop} (h : PC w M P c L G) :
    CallsR prog K.pool_Pool_Last #[.pointer (some ⟨M.q, 0, none⟩)] w fun v w' => v = .int .u64 (P.last : Nat) ∧ w' = w := by
  apply pool_Pool_Last.sh
  unfold pool_Pool_Last.body
  refine (pool_off_spec h).mono ?_
  rintro _ _ ⟨rfl, rfl⟩
  refine ⟨_, rfl, ?_⟩
  simp only [br_false, nilC_some', add_lit]
  exact ⟨_, cell_of h.head rfl, by trivial, by trivial⟩

theorem pool_Chip_spec {w : World} {M : PLoc} {P : Pool} {c : Chip} {L : Loc} {G : Nat → Prop} (h : PC w M P c L G) :
    CallsR prog K.pool_Pool_Chip #[.pointer (some ⟨M.q, 0, none⟩)] w fun v w' => v = .pointer (some ⟨M.p, 0, none⟩) ∧ w' = w := by
  apply pool_Pool_Chip.sh
  unfold pool_Pool_Chip.body
  refine (pool_off_spec h).mono ?_
  rintro _ _ ⟨rfl, rfl⟩
  refine ⟨_, rfl, ?_⟩
  simp only [br_false, nilC_some', add_lit]
  exact ⟨_, cell_of h.head rfl, by trivial, by trivial⟩

theorem pool_Blanks_spec {w : World} {M : PLoc} {P : Pool} {c : Chip} {L : Loc} {G : Nat → Prop} (h : PC w M P c L G) :
    CallsR prog K.pool_Pool_Blanks #[.pointer (some ⟨M.q, 0, none⟩)] w fun v w' => v = .int .i64 (blanksPool P c : Nat) ∧ Ext w w' := by
  apply pool_Pool_Blanks.sh
  unfold pool_Pool_Blanks.body
  refine (pool_off_spec h).mono ?_
  rintro _ _ ⟨rfl, rfl⟩
  rename_i w
  refine ⟨_, rfl, ?_⟩
  simp only [br_false, nilC_some', add_lit]
  have hnb2 := h.chip.ok.nb2
  refine ⟨_, _, _, cell_of h.head rfl, ?_⟩
  refine ⟨fun x y u => ∃ i : Nat, y = i ∧ i ≤ c.nb ∧ Ext w u ∧ x = (((List.range i).filter fun i => decide ((P.blk i).what ≠ 2) && !c.isBad i).length : Nat), fun _ y _ => (c.nb - y).toNat, ⟨0, rfl, by omega, Upd.refl _ _, rfl⟩, ?_⟩
  rintro x y u ⟨i, rfl, hi, hu, rfl⟩
  have hpu := h.ext hu
  refine br_dec (fun hlt => ?_) fun hge => ?_
  · have hi' : i < c.nb := by omega
    have e1 : IntKind.i64.wrap ((i : Int) + 1) = ((i + 1 : Nat) : Int) := w64 (by omega) (by omega)
    have hle : ((List.range i).filter fun i => decide ((P.blk i).what ≠ 2) && !c.isBad i).length ≤ i := Nat.le_trans (List.length_filter_le _ _) (by simp)
    refine hpu.idx hi' fun hr => ?_
    refine ⟨(P.blk i).what, (P.blk i).head.kind.toNat, (P.blk i).head.era, (P.blk i).head.seq, RowAt.cells hr, fun B w₃ hn3 => ?_⟩
    refine store_of hn3.get (by simp) fun w₄ hput4 => ?_
    have hB : B = u.heap.size := hn3.num
    have e4 : Ext w w₄ := Put.upd (hu.trans hn3.upd) hput4 (.inl (by have := hu.size; omega))
    have hg4 := hput4.get
    have hp4 := h.ext e4
    refine ⟨(P.blk i).what, ?_, ?_⟩
    · refine cell_of hg4 ?_
      rw [splice_all _ _ (by simp)]; rfl
    have hrs : ∀ b : Bool, (decide ((P.blk i).what ≠ 2) && !c.isBad i) = b → (((List.range (i + 1)).filter fun i => decide ((P.blk i).what ≠ 2) && !c.isBad i).length : Nat) = ((List.range i).filter fun i => decide ((P.blk i).what ≠ 2) && !c.isBad i).length + if b then 1 else 0 := by
      intro b hb
      rw [List.range_succ, List.filter_append, List.length_append]
      simp only [List.filter_cons, hb, List.filter_nil]
      cases b <;> rfl
    refine br_ne (fun hne => ?_) fun heq => ?_
    · refine ⟨_, cell_of hp4.head rfl, ?_⟩
      refine (nand_Bad_spec hp4.chip _).mono ?_
      rintro _ _ ⟨rfl, rfl⟩
      rename_i w₄
      have hd0 : decide ((0 : Int) ≤ ((i : Nat) : Int)) = true := decide_eq_true (by omega)
      have hd1 : decide ((P.blk i).what ≠ 2) = true := decide_eq_true (by omega)
      refine ⟨_, rfl, ?_⟩
      rw [hd0, Bool.true_and, Int.toNat_natCast, e1]
      refine br_intro (fun hb => ?_) fun hb => ?_
      · have := hrs true (by rw [hd1, hb]; rfl)
        refine ⟨⟨i + 1, rfl, hi', e4, ?_⟩, meas hi'⟩
        rw [this, w64 (by omega) (by omega)]
        simp
      · have := hrs false (by rw [hd1, hb]; rfl)
        refine ⟨⟨i + 1, rfl, hi', e4, ?_⟩, meas hi'⟩
        rw [this]
        simp
    · rw [e1]
      have hd1 : decide ((P.blk i).what ≠ 2) = false := decide_eq_false (by omega)
      have := hrs false (by rw [hd1]; rfl)
      refine ⟨⟨i + 1, rfl, hi', e4, ?_⟩, meas hi'⟩
      rw [this]
      simp
  · have : i = c.nb := by omega
    subst this
    exact ⟨by trivial, hu⟩

end Go.Den
end

section
set_option linter.unusedVariables false
set_option linter.unusedSimpArgs false
set_option maxRecDepth 4000
namespace Go.Den

theorem zerosL_flat {α : Type} (f : α → List Value) (b : α) (n : Nat) : zerosL (f b) n = (List.replicate n b).flatMap f := by
  induction n with
  | zero => rfl
  | succ n ih => simp [zerosL, List.replicate_succ] at ih ⊢; try exact ih

theorem scanGo_turn (c : Chip) (i : Nat) : (scanGo c i).turn ≤ i := by
  induction i with
  | zero => exact Nat.le_refl _
  | succ i ih =>
    unfold scanGo
    split
    · exact Nat.le_refl _
    · show (scanGo c i).turn ≤ _; omega

theorem pool_Scan_spec {w : World} {p : Nat} {c : Chip} {L : Loc} {G : Nat → Prop} (h : ChipRep w p c L G) (hG : ∀ x, G x → x < w.heap.size) :
    CallsR prog K.pool_Scan #[.pointer (some ⟨p, 0, none⟩)] w fun v w' => Ext w w' ∧
      if c.dead then v = .tuple #[.pointer none, .int .i64 10]
      else ∃ q pb, v = .tuple #[.pointer (some ⟨q, 0, none⟩), .int .i64 0] ∧ w.heap.size ≤ q ∧ w.heap.size ≤ pb ∧ q < w'.heap.size ∧ pb < w'.heap.size ∧ PC w' ⟨q, pb, c.nb, p⟩ (scanPool c) c L G := by
  have hok := h.ok
  have hnb1 := hok.nb1
  have hnb2 := hok.nb2
  apply pool_Scan.sh
  refine ⟨fun u => Ext w u, ?_, ?_⟩
  · simp only [Option.isNone_some, br_false]
    refine (nand_Geo_spec h).mono ?_
    rintro _ w₁ ⟨rfl, he1⟩
    exact ⟨_, _, _, _, rfl, br_eq (fun h => by omega) fun _ => he1⟩
  intro w₂ he2
  have h2 := h.ext he2
  refine (nand_Read_spec h2 0 0).mono ?_
  rintro v w₃ ⟨he3, hv⟩
  have e3 := he2.trans he3
  rw [ask00 hok] at hv
  rcases Bool.eq_false_or_eq_true c.dead with hd | hd
  · rw [hd] at hv
    simp only [if_true, if_neg (show ¬ (10 = 0) by omega)] at hv
    subst hv
    refine ⟨_, _, _, _, rfl, br_ne (fun _ => ⟨e3, ?_⟩) fun h => by omega⟩
    rw [if_pos hd]
    rfl
  rw [hd] at hv
  simp only [Bool.false_eq_true, if_false, if_true] at hv
  obtain ⟨a, cp, rfl, _⟩ := hv
  refine ⟨_, _, _, _, rfl, br_ne (fun h => by omega) fun _ => ?_⟩
  have h3 := h.ext e3
  refine (nand_Geo_spec h3).mono ?_
  rintro _ w₄ ⟨rfl, he4⟩
  have e4 := e3.trans he4
  refine ⟨_, _, _, _, rfl, ?_⟩
  refine ⟨by omega, by omega, by omega, by omega, rfl, fun pb w₅ hn5 q w₆ hn6 => ?_⟩
  have e6 := (e4.trans hn5.upd).trans hn6.upd
  have h6 := h.ext e6
  have hpb : pb = w₄.heap.size := hn5.num
  have hq : q = w₅.heap.size := hn6.num
  have hs4 := e4.size
  have hs5 := hn5.size
  have hs6 := hn6.size
  simp only [Int.toNat_natCast] at hn5 hn6 ⊢
  have hz : zerosL [Value.int .i64 0, Value.int .u8 0, Value.int .u32 0, Value.int .u64 0] c.nb = (List.replicate c.nb Blk.zero).flatMap Blk.vals := zerosL_flat Blk.vals Blk.zero c.nb
  rw [hz] at hn5
  have hpc6 : PC w₆ ⟨q, pb, c.nb, p⟩ (scanGo c 0) c L G := by
    refine ⟨h6, hn6.get, ?_, Nat.zero_le _, fun x hx => ?_, by show q ≠ pb; omega⟩
    · have := OwnAt.new (n := c.nb) (size := 4) hn5 (by simp [Blk.vals])
      exact OwnAt.ext this hn6.upd
    · have hxw : w.heap.size ≤ x := by
        rcases hx with hx | hx
        · have : x = q := hx
          omega
        · have : x = pb := hx
          omega
      exact ⟨fun hm => by have := h.lt x hm; omega, fun hg => by have := hG x hg; omega⟩
  simp only [add_lit]
  refine ⟨_, _, _, cell_of hn6.get rfl, ?_⟩
  refine ⟨fun x u => ∃ i : Nat, x = i ∧ i ≤ c.nb ∧ Upd (fun x => x = q ∨ x = pb) w₆ u ∧ PC u ⟨q, pb, c.nb, p⟩ (scanGo c i) c L G, fun x _ => (c.nb - x).toNat, ⟨0, rfl, by omega, Upd.refl _ _, hpc6⟩, ?_⟩
  rintro x u ⟨i, rfl, hi, hu, hp⟩
  have hfin : ∀ {u' : World}, Upd (fun x => x = q ∨ x = pb) w₆ u' → Ext w u' := fun hu' => Upd.beyond e6 hu' (fun x hx => by rcases hx with rfl | rfl <;> omega)
  refine br_dec (fun hlt => ?_) fun hge => ?_
  · have hi' : i < c.nb := by omega
    have e1 : IntKind.i64.wrap ((i : Int) + 1) = ((i + 1 : Nat) : Int) := w64 (by omega) (by omega)
    refine (pool_look_spec hp hi').mono ?_
    rintro _ w₈ ⟨rfl, hu8, hp8⟩
    have hu08 : Upd (fun x => x = q ∨ x = pb) w₆ w₈ := hu.trans (hu8.mono fun x _ hx => .inr hx)
    refine ⟨rfl, _, _, _, cell_of hp8.head rfl, hp8.idx hi' fun hr => ?_⟩
    simp only [add_lit]
    generalize hP8 : (scanGo c i).relook c i = P8 at *
    have hc1 := RowAt.cells (RowAt.drop hr 1)
    refine ⟨(P8.blk i).head.kind.toNat, (P8.blk i).head.era, (P8.blk i).head.seq, hc1, fun B w₉ hn9 => ?_⟩
    rw [head_zero] at hn9
    refine head_put (h := (P8.blk i).head) hn9.get rfl fun w₁₀ hput10 => ?_
    have hB : B = w₈.heap.size := hn9.num
    have hs8 := hu08.size
    have hu10 : Upd (fun x => x = q ∨ x = pb) w₆ w₁₀ := Put.upd (hu08.then hn9.upd) hput10 (.inl (by omega))
    intro w₁₁ hd11
    have hu11 := hu10.then hd11.upd
    have e811 : Ext w₈ w₁₁ := (Put.upd hn9.upd hput10 (.inl (by omega))).trans hd11.upd
    have hp11 := hp8.ext e811
    have hg11 := Ext.get hd11.upd hput10.get
    have hgo : scanGo c (i + 1) = if (P8.blk i).head.seq > (scanGo c i).last ∨ ((P8.blk i).head.seq = (scanGo c i).last ∧ (P8.blk i).head.seq > 0) then { P8 with last := (P8.blk i).head.seq, turn := i + 1 } else P8 := by
      rw [scanGo, hP8]
    have hl8 : P8.last = (scanGo c i).last := by rw [← hP8]; rfl
    have hset : ((P8.blk i).head.seq > (scanGo c i).last ∨ ((P8.blk i).head.seq = (scanGo c i).last ∧ (P8.blk i).head.seq > 0)) →
        storeP w₁₁ ⟨q, 0 + 2, none⟩ [Value.int .u64 ((P8.blk i).head.seq : Nat)] fun w12 =>
        storeP w12 ⟨q, 0 + 3, none⟩ [Value.int .i64 (IntKind.i64.wrap ((i : Int) + 1))] fun w13 =>
          (∃ i' : Nat, IntKind.i64.wrap ((i : Int) + 1) = i' ∧ i' ≤ c.nb ∧ Upd (fun x => x = q ∨ x = pb) w₆ w13 ∧ PC w13 ⟨q, pb, c.nb, p⟩ (scanGo c i') c L G) ∧ ((c.nb : Int) - IntKind.i64.wrap ((i : Int) + 1)).toNat < ((c.nb : Int) - (i : Int)).toNat := by
      intro hcnd
      refine store_of hp11.head (by simp) fun w₁₂ hput12 => ?_
      refine store_of hput12.get (by simp [splice]) fun w₁₃ hput13 => ?_
      rw [e1]
      have hq2 := (Put.upd1 hput12).trans (Put.upd1 hput13)
      refine ⟨⟨i + 1, rfl, hi', hu11.trans (hq2.mono fun x _ hx => .inl hx), ?_⟩, meas hi'⟩
      rw [hgo, if_pos hcnd]
      refine hp11.rehead hq2 (last := (P8.blk i).head.seq) (turn := i + 1) hi' ?_
      have := hput13.get
      rw [this, e1]; rfl
    have hkeep : ¬ ((P8.blk i).head.seq > (scanGo c i).last ∨ ((P8.blk i).head.seq = (scanGo c i).last ∧ (P8.blk i).head.seq > 0)) →
        (∃ i' : Nat, IntKind.i64.wrap ((i : Int) + 1) = i' ∧ i' ≤ c.nb ∧ Upd (fun x => x = q ∨ x = pb) w₆ w₁₁ ∧ PC w₁₁ ⟨q, pb, c.nb, p⟩ (scanGo c i') c L G) ∧ ((c.nb : Int) - IntKind.i64.wrap ((i : Int) + 1)).toNat < ((c.nb : Int) - (i : Int)).toNat := by
      intro hcnd
      rw [e1]
      refine ⟨⟨i + 1, rfl, hi', hu11, ?_⟩, meas hi'⟩
      rw [hgo, if_neg hcnd]
      exact hp11
    have hcq : World.cell? w₁₁ ⟨q, 0 + 2, none⟩ = some (.int .u64 ((scanGo c i).last : Nat)) := by rw [← hl8]; exact cell_of hp11.head rfl
    refine ⟨fun v => v = w₁₁, rfl, _, fun v hv => hv ▸ cell_of hg11 rfl, _, fun v hv => hv ▸ hcq, br_dec (fun h1 => ?_) fun h1 => ?_⟩
    · exact ⟨_, cell_of hg11 rfl, hset (.inl (by omega))⟩
    refine ⟨_, fun v hv => hv ▸ cell_of hg11 rfl, _, fun v hv => hv ▸ hcq, br_eq (fun h2 => ?_) fun h2 => hkeep (by omega)⟩
    refine ⟨_, fun v hv => hv ▸ cell_of hg11 rfl, br_dec (fun h3 => ?_) fun h3 => hkeep (by omega)⟩
    exact ⟨_, cell_of hg11 rfl, hset (.inr (by omega))⟩
  · have : i = c.nb := by omega
    subst this
    have hsu := hu.size
    refine ⟨hfin hu, ?_⟩
    rw [if_neg (by rw [hd]; simp)]
    exact ⟨q, pb, rfl, by omega, by omega, by omega, by omega, hp⟩

end Go.Den
end

section
set_option linter.unusedVariables false
set_option linter.unusedSimpArgs false
set_option maxRecDepth 4000
namespace Go.Den

/-! ### Sorting -/
def pref {α : Type} (lt : α → α → Bool) (l : List α) (i : Nat) : List α := (l.take i).foldl (fun acc x => sink lt x acc) []
theorem sink_length {α : Type} (lt : α → α → Bool) (x : α) (l : List α) : (sink lt x l).length = l.length + 1 := by
  induction l with
  | nil => rfl
  | cons y l ih => unfold sink; split <;> simp [ih]
theorem pref_succ {α : Type} (lt : α → α → Bool) (l : List α) (i : Nat) (hi : i < l.length) : pref lt l (i + 1) = sink lt l[i] (pref lt l i) := by
  unfold pref
  rw [List.take_succ_eq_append_getElem hi, List.foldl_append]
  rfl
theorem pref_length {α : Type} (lt : α → α → Bool) (l : List α) (i : Nat) (hi : i ≤ l.length) : (pref lt l i).length = i := by
  induction i with
  | zero => simp [pref]
  | succ i ih => rw [pref_succ lt l i hi, sink_length, ih (by omega)]
theorem pref_all {α : Type} (lt : α → α → Bool) (l : List α) : (pref lt l l.length).reverse = isort lt l := by simp [pref, isort]
theorem sink_mem {α : Type} (lt : α → α → Bool) (x y : α) (l : List α) : y ∈ sink lt x l ↔ y = x ∨ y ∈ l := by
  induction l with
  | nil => simp [sink]
  | cons z l ih =>
    unfold sink
    split
    · simp [ih]; constructor
      · rintro (h | h | h)
        · exact .inr (.inl h)
        · exact .inl h
        · exact .inr (.inr h)
      · rintro (h | h | h)
        · exact .inr (.inl h)
        · exact .inl h
        · exact .inr (.inr h)
    · simp
theorem isort_mem {α : Type} (lt : α → α → Bool) (y : α) (l : List α) : y ∈ isort lt l ↔ y ∈ l := by
  unfold isort
  rw [List.mem_reverse]
  have : ∀ (acc : List α), y ∈ l.foldl (fun acc x => sink lt x acc) acc ↔ y ∈ acc ∨ y ∈ l := by
    induction l with
    | nil => intro acc; simp
    | cons x l ih =>
      intro acc
      rw [List.foldl_cons, ih, sink_mem]
      simp only [List.mem_cons]
      constructor
      · rintro ((h | h) | h)
        · exact .inr (.inl h)
        · exact .inl h
        · exact .inr (.inr h)
      · rintro (h | h | h)
        · exact .inl (.inr h)
        · exact .inl (.inl h)
        · exact .inr h
  rw [this]; simp
theorem isort_length {α : Type} (lt : α → α → Bool) (l : List α) : (isort lt l).length = l.length := by
  rw [← pref_all, List.length_reverse, pref_length lt l _ (Nat.le_refl _)]

abbrev takenV (t : Taken) : Value := .agg #[.int .i64 t.block, bv t.head.kind, .int .u32 t.head.era, .int .u64 t.head.seq, .bool t.bad]
theorem pool_Taken_1_spec (a b : Taken) (ha : a.block < 1000000) (hb : b.block < 1000000) (w : World) :
    CallsR prog K.pool_Pool_Taken_1 #[takenV a, takenV b] w fun v w' => ∃ x : Int, v = .int .i64 x ∧ decide (x < 0) = takenLt a b ∧ Ext w w' := by
  apply pool_Pool_Taken_1.sh
  intro B₁ w₁ hn1 B₂ w₂ hn2
  have e2 := hn1.upd.trans hn2.upd
  have h1 := Ext.get hn2.upd hn1.get
  have h2 := hn2.get
  simp only [add_lit]
  refine ⟨_, cell_of h1 rfl, _, cell_of h2 rfl, br_dec (fun hlt => ⟨_, rfl, ?_, e2⟩) fun hge => ⟨_, cell_of h1 rfl, _, cell_of h2 rfl, br_dec (fun hgt => ⟨_, rfl, ?_, e2⟩) fun hle => ⟨_, cell_of h1 rfl, _, cell_of h2 rfl, _, rfl, ?_, e2⟩⟩⟩
  · have q : decide (a.head.seq < b.head.seq) = true := decide_eq_true (by omega)
    simp [takenLt, q]
  · have q : decide (a.head.seq < b.head.seq) = false := decide_eq_false (by omega)
    have q2 : decide (a.head.seq = b.head.seq) = false := decide_eq_false (by omega)
    simp [takenLt, q, q2]
  · have q : decide (a.head.seq < b.head.seq) = false := decide_eq_false (by omega)
    have q2 : decide (a.head.seq = b.head.seq) = true := decide_eq_true (by omega)
    rw [w64 (by omega) (by omega)]
    simp only [takenLt, q, q2, Bool.false_or, Bool.true_and]
    exact decide_eq_decide.2 (by omega)

theorem swap_list {α : Type} (A R : List α) (x y : α) : ((A ++ y :: x :: R).set (A.length + 1) y).set A.length x = A ++ x :: y :: R := by
  rw [List.set_append_right _ _ (by omega), List.set_append_right _ _ (by omega)]
  simp

/-- an element of a row of the call's own is written -/
theorem own_set {α : Type} {f : α → List Value} {k : Nat} (hf : ∀ x, (f x).length = k) {w : World} {b cap : Nat} {e : TypeId} {l : List α} (h : OwnAt w (some ⟨b, 0, none⟩) l.length cap e k (l.flatMap f)) {i : Nat} (hi : i < l.length) (x : α) {K : World → Prop}
    (hk : ∀ w', Upd (· = b) w w' → OwnAt w' (some ⟨b, 0, none⟩) (l.set i x).length cap e k ((l.set i x).flatMap f) → K w') : storeP w ⟨b, i * k, none⟩ (f x) K := by
  refine own_store h (by rw [flat_len hf, hf, ← Nat.succ_mul]; exact Nat.mul_le_mul_right _ hi) fun w' hu ho => hk w' hu ?_
  rw [hf, flat_set hf l hi x] at ho
  rw [List.length_set]
  exact ho

theorem insertionSort_spec {w : World} {a : Option Addr} {l : List Taken} {cap cp : Nat} (h : OwnAt w a l.length cap T.api_Taken 5 (l.flatMap Taken.vals)) (hb : ∀ t ∈ l, t.block < 1000000) (hl : l.length < 1000) :
    CallsR prog K.slices_insertionSortCmpFunc_api_Taken #[.slice a l.length cp, .int .i64 0, .int .i64 l.length, .func (.func K.pool_Pool_Taken_1) #[] #[]] w fun v w' => v = .tuple #[] ∧ Upd (fun b => a = some ⟨b, 0, none⟩) w w' ∧ OwnAt w' a (isort takenLt l).length cap T.api_Taken 5 ((isort takenLt l).flatMap Taken.vals) := by
  apply slices_insertionSortCmpFunc_api_Taken.sh
  have e01 : IntKind.i64.wrap ((0 : Int) + 1) = ((1 : Nat) : Int) := by decide
  unfold slices_insertionSortCmpFunc_api_Taken.body
  rw [e01]
  refine ⟨fun x u => ∃ i : Nat, x = i ∧ 1 ≤ i ∧ (i ≤ l.length ∨ i = 1) ∧ Upd (fun b => a = some ⟨b, 0, none⟩) w u ∧ OwnAt u a ((pref takenLt l i).reverse ++ l.drop i).length cap T.api_Taken 5 (((pref takenLt l i).reverse ++ l.drop i).flatMap Taken.vals),
    fun x _ => (l.length - x).toNat, ⟨1, rfl, by omega, .inr rfl, Upd.refl _ _, ?_⟩, ?_⟩
  · have : (pref takenLt l 1).reverse ++ l.drop 1 = l := by
      cases l with
      | nil => rfl
      | cons x l => rfl
    rw [this]; exact h
  rintro x u ⟨i, rfl, hi1, hi, hu, ho⟩
  refine br_dec (fun hlt => ?_) fun hge => ?_
  · have hil : i < l.length := by omega
    have hpl := pref_length takenLt l i (by omega)
    have hdrop : l.drop i = l[i] :: l.drop (i + 1) := List.drop_eq_getElem_cons hil
    have hblk : ∀ t, t ∈ pref takenLt l i → t.block < 1000000 := by
      intro t ht
      have : t ∈ isort takenLt (l.take i) := by unfold isort; exact List.mem_reverse.2 ht
      rw [isort_mem] at this
      exact hb t (List.mem_of_mem_take this)
    have hbi : l[i].block < 1000000 := hb _ (List.getElem_mem hil)
    rw [hdrop] at ho
    obtain ⟨B, rfl⟩ : ∃ B, a = some ⟨B, 0, none⟩ := by
      obtain ⟨_, _, hx⟩ := h
      rcases hx with ⟨_, hx, _⟩ | ⟨b, cur, hx, _⟩
      · omega
      · exact ⟨b, hx⟩
    have hF : ∀ {u u' : World}, Upd (· = B) u u' → Upd (fun b => (some ⟨B, 0, none⟩ : Option Addr) = some ⟨b, 0, none⟩) u u' := fun k => k.mono fun x _ hx => by rw [hx]
    have e1 : IntKind.i64.wrap ((i : Int) + 1) = ((i + 1 : Nat) : Int) := w64 (by omega) (by omega)
    -- the element's way
    refine ⟨fun x v => ∃ A D : List Taken, x = (A.length : Int) ∧ pref takenLt l i = D ++ A ∧ sink takenLt l[i] (pref takenLt l i) = D ++ sink takenLt l[i] A ∧ Upd (fun b => (some ⟨B, 0, none⟩ : Option Addr) = some ⟨b, 0, none⟩) w v ∧
        OwnAt v (some ⟨B, 0, none⟩) (A.reverse ++ l[i] :: (D.reverse ++ l.drop (i + 1))).length cap T.api_Taken 5 ((A.reverse ++ l[i] :: (D.reverse ++ l.drop (i + 1))).flatMap Taken.vals), fun x _ => x.toNat, ⟨pref takenLt l i, [], by rw [hpl], rfl, rfl, hu, ho⟩, ?_⟩
    rintro y v ⟨A, D, rfl, hAD, hsk, huv, hov⟩ w₃ hd3
    have hlen : ∀ X : Taken, (A.reverse ++ X :: (D.reverse ++ l.drop (i + 1))).length = l.length := by
      intro X
      have : D.length + A.length = i := by rw [← hpl, hAD, List.length_append]
      simp; omega
    -- the end of the way
    have hend : ∀ {v' : World}, sink takenLt l[i] A = l[i] :: A → Upd (fun b => (some ⟨B, 0, none⟩ : Option Addr) = some ⟨b, 0, none⟩) w v' →
        OwnAt v' (some ⟨B, 0, none⟩) (A.reverse ++ l[i] :: (D.reverse ++ l.drop (i + 1))).length cap T.api_Taken 5 ((A.reverse ++ l[i] :: (D.reverse ++ l.drop (i + 1))).flatMap Taken.vals) →
        (∃ i' : Nat, IntKind.i64.wrap ((i : Int) + 1) = i' ∧ 1 ≤ i' ∧ (i' ≤ l.length ∨ i' = 1) ∧ Upd (fun b => (some ⟨B, 0, none⟩ : Option Addr) = some ⟨b, 0, none⟩) w v' ∧ OwnAt v' (some ⟨B, 0, none⟩) ((pref takenLt l i').reverse ++ l.drop i').length cap T.api_Taken 5 (((pref takenLt l i').reverse ++ l.drop i').flatMap Taken.vals)) ∧
          ((l.length : Int) - IntKind.i64.wrap ((i : Int) + 1)).toNat < ((l.length : Int) - (i : Int)).toNat := by
      intro v' hs hu' ho'
      rw [e1]
      refine ⟨⟨i + 1, rfl, by omega, .inl hil, hu', ?_⟩, meas hil⟩
      have : (pref takenLt l (i + 1)).reverse ++ l.drop (i + 1) = A.reverse ++ l[i] :: (D.reverse ++ l.drop (i + 1)) := by
        rw [pref_succ takenLt l i hil, hsk, hs]
        simp
      rw [this]; exact ho'
    have hov3 := OwnAt.ext hov hd3.upd
    have huv3 := huv.then hd3.upd
    refine ⟨fun z => z = w₃, rfl, br_dec (fun hpos => ?_) fun hzero => ?_⟩
    · obtain ⟨y, A', rfl⟩ : ∃ y A', A = y :: A' := by
        cases A with
        | nil => simp at hpos
        | cons y A' => exact ⟨y, A', rfl⟩
      have hly := hlen l[i]
      simp only [List.reverse_cons, List.append_assoc, List.singleton_append, List.length_cons] at hov3 hpos hly ⊢
      generalize hR : D.reverse ++ l.drop (i + 1) = R at *
      have hA : A'.reverse.length = A'.length := List.length_reverse
      have hlx : A'.length + 1 < (A'.reverse ++ y :: l[i] :: R).length := by simp
      have hgx : (A'.reverse ++ y :: l[i] :: R)[A'.length + 1] = l[i] := by rw [List.getElem_append_right (by omega)]; simp
      have hgy : (A'.reverse ++ y :: l[i] :: R)[A'.length] = y := by rw [List.getElem_append_right (by omega)]; simp
      have em : IntKind.i64.wrap (((A'.length + 1 : Nat) : Int) - 1) = ((A'.length : Nat) : Int) := by rw [w64 (by omega) (by omega)]; omega
      rw [em]
      refine idx_flat (f := Taken.vals) (l := A'.reverse ++ y :: l[i] :: R) Taken.vals_length (by omega) hov3.row (by omega) hlx fun b o hab hr => ?_
      cases hab
      rw [hgx] at hr
      refine ⟨l[i].block, l[i].head.kind.toNat, l[i].head.era, l[i].head.seq, l[i].bad, fun z hz => hz ▸ RowAt.cells hr, ?_⟩
      refine idx_flat (f := Taken.vals) (l := A'.reverse ++ y :: l[i] :: R) Taken.vals_length (by omega) hov3.row (by omega) (by omega) fun b o hab hr => ?_
      cases hab
      rw [hgy] at hr
      refine ⟨y.block, y.head.kind.toNat, y.head.era, y.head.seq, y.bad, fun z hz => hz ▸ RowAt.cells hr, ?_⟩
      have hby : y.block < 1000000 := hblk y (by rw [hAD]; simp)
      refine ⟨rfl, ?_⟩
      refine (pool_Taken_1_spec l[i] y hbi hby w₃).mono ?_
      rintro _ w₄ ⟨x11, rfl, hx11, he4⟩
      have hov4 := OwnAt.ext hov3 he4
      have huv4 := huv3.then he4
      refine ⟨_, rfl, ?_⟩
      rw [hx11]
      refine br_intro (fun ht => ?_) fun hf => ?_
      · intro w₅ hd5
        have hov5 := OwnAt.ext hov4 hd5.upd
        have huv5 := huv4.then hd5.upd
        refine ⟨fun z => z = w₅, rfl, ?_⟩
        refine idx_flat (f := Taken.vals) (l := A'.reverse ++ y :: l[i] :: R) Taken.vals_length (by omega) hov5.row (by omega) (by omega) fun b o hab hr => ?_
        cases hab
        rw [hgy] at hr
        refine ⟨y.block, y.head.kind.toNat, y.head.era, y.head.seq, y.bad, fun z hz => hz ▸ RowAt.cells hr, ?_⟩
        refine idx_flat (f := Taken.vals) (l := A'.reverse ++ y :: l[i] :: R) Taken.vals_length (by omega) hov5.row (by omega) hlx fun b o hab hr => ?_
        cases hab
        rw [hgx] at hr
        refine ⟨l[i].block, l[i].head.kind.toNat, l[i].head.era, l[i].head.seq, l[i].bad, fun z hz => hz ▸ RowAt.cells hr, ?_⟩
        refine idx_flat (f := Taken.vals) (l := A'.reverse ++ y :: l[i] :: R) Taken.vals_length (by omega) hov5.row (by omega) hlx fun b o hab _ => ?_
        cases hab
        rw [Nat.zero_add]
        refine own_set Taken.vals_length hov5 hlx y fun w₆ hu6 ho6 => ?_
        refine idx_flat (f := Taken.vals) Taken.vals_length (by omega) ho6.row (by rw [List.length_set]; omega) (by rw [List.length_set]; omega) fun b o hab _ => ?_
        cases hab
        rw [Nat.zero_add]
        refine own_set Taken.vals_length ho6 (by rw [List.length_set]; omega) l[i] fun w₇ hu7 ho7 => ?_
        have hsw : ((A'.reverse ++ y :: l[i] :: R).set (A'.length + 1) y).set A'.length l[i] = A'.reverse ++ l[i] :: y :: R := by
          have := swap_list A'.reverse R l[i] y
          rw [hA] at this
          exact this
        rw [hsw] at ho7
        refine ⟨⟨A', D ++ [y], rfl, by rw [hAD]; simp, ?_, (huv5.trans (hF hu6)).trans (hF hu7), ?_⟩, by omega⟩
        · rw [hsk]
          have : sink takenLt l[i] (y :: A') = y :: sink takenLt l[i] A' := by rw [sink, if_pos ht]
          rw [this]; simp
        · have : A'.reverse ++ l[i] :: ((D ++ [y]).reverse ++ l.drop (i + 1)) = A'.reverse ++ l[i] :: y :: R := by rw [← hR]; simp
          rw [this]; exact ho7
      · refine hend ?_ huv4 ?_
        · rw [sink, if_neg (by rw [hf]; simp)]
        · simp only [List.reverse_cons, List.append_assoc, List.singleton_append]
          exact hov4
    · have : A = [] := List.eq_nil_of_length_eq_zero (by omega)
      subst this
      exact hend rfl huv3 hov3
  · refine ⟨by trivial, hu, ?_⟩
    rcases hi with hi | hi
    · have : i = l.length := by omega
      subst this
      rw [pref_all, List.drop_length, List.append_nil] at ho
      exact ho
    · subst hi
      have : (pref takenLt l 1).reverse ++ l.drop 1 = isort takenLt l := by
        match l, hge with
        | [], _ => rfl
        | [x], _ => rfl
        | x :: y :: l, hge => simp at hge; omega
      rw [this] at ho
      exact ho

theorem sortStable_spec {w : World} {a : Option Addr} {l : List Taken} {cap cp : Nat} (h : OwnAt w a l.length cap T.api_Taken 5 (l.flatMap Taken.vals)) (hb : ∀ t ∈ l, t.block < 1000000) (hl : l.length < 20) :
    CallsR prog K.slices_SortStableFunc_api_Taken #[.slice a l.length cp, .func (.func K.pool_Pool_Taken_1) #[] #[]] w fun v w' => v = .tuple #[] ∧ Upd (fun b => a = some ⟨b, 0, none⟩) w w' ∧ OwnAt w' a (isort takenLt l).length cap T.api_Taken 5 ((isort takenLt l).flatMap Taken.vals) := by
  apply slices_SortStableFunc_api_Taken.sh
  have key : CallsR prog K.slices_stableCmpFunc_api_Taken #[.slice a l.length cp, .int .i64 l.length, .func (.func K.pool_Pool_Taken_1) #[] #[]] w fun v w' => v = .tuple #[] ∧ Upd (fun b => a = some ⟨b, 0, none⟩) w w' ∧ OwnAt w' a (isort takenLt l).length cap T.api_Taken 5 ((isort takenLt l).flatMap Taken.vals) := by
    apply slices_stableCmpFunc_api_Taken.sh
    refine ⟨fun x y u => x = 0 ∧ y = 20 ∧ u = w, fun _ _ _ => 0, ⟨rfl, rfl, rfl⟩, ?_⟩
    rintro x y u ⟨rfl, rfl, rfl⟩
    refine br_dec (fun h => by omega) fun _ => ?_
    refine (insertionSort_spec (cp := cp) h hb (by omega)).mono ?_
    rintro _ w₃ ⟨rfl, hu, ho⟩
    refine ⟨rfl, fun x u => x = 20 ∧ u = w₃, fun _ _ => 0, ⟨rfl, rfl⟩, ?_⟩
    rintro x v ⟨rfl, rfl⟩
    exact br_dec (fun h => by omega) fun _ => ⟨by trivial, hu, ho⟩
  refine key.mono ?_
  rintro _ w' ⟨rfl, hr⟩
  exact ⟨rfl, by trivial, hr⟩

theorem takenRaw_length (P : Pool) (c : Chip) (n : Nat) : (takenRaw P c n).length ≤ n := by
  unfold takenRaw
  exact Nat.le_trans (List.length_filterMap_le _ _) (by simp)
theorem takenRaw_succ (P : Pool) (c : Chip) (n : Nat) : takenRaw P c (n + 1) = takenRaw P c n ++ if (P.blk n).what = 2 then [⟨n, (P.blk n).head, c.isBad n⟩] else [] := by
  unfold takenRaw
  rw [List.range_succ, List.filterMap_append]
  congr 1
  simp only [List.filterMap_cons, List.filterMap_nil]
  split <;> simp_all
theorem takenRaw_block {P : Pool} {c : Chip} {n : Nat} {t : Taken} (h : t ∈ takenRaw P c n) : t.block < n := by
  unfold takenRaw at h
  rw [List.mem_filterMap] at h
  obtain ⟨i, hi, h⟩ := h
  split at h
  · simp at h hi
    rw [← h]; exact hi
  · cases h

theorem pool_Taken_spec {w : World} {M : PLoc} {P : Pool} {c : Chip} {L : Loc} {G : Nat → Prop} (h : PC w M P c L G) (hnb : c.nb < 20) :
    CallsR prog K.pool_Pool_Taken #[.pointer (some ⟨M.q, 0, none⟩)] w fun v w' => Ext w w' ∧ ∃ a cap, v = .slice a (takenPool P c).length cap ∧ OwnAt w' a (takenPool P c).length cap T.api_Taken 5 ((takenPool P c).flatMap Taken.vals) ∧ Fresh w a := by
  apply pool_Pool_Taken.sh
  unfold pool_Pool_Taken.body
  refine (pool_off_spec h).mono ?_
  rintro _ _ ⟨rfl, rfl⟩
  rename_i w
  refine ⟨_, rfl, ?_⟩
  simp only [br_false, nilC_some', add_lit]
  refine ⟨_, _, _, cell_of h.head rfl, ?_⟩
  refine ⟨fun a l cap x u => ∃ i : Nat, x = i ∧ i ≤ c.nb ∧ l = (takenRaw P c i).length ∧ Ext w u ∧ OwnAt u a (takenRaw P c i).length cap T.api_Taken 5 ((takenRaw P c i).flatMap Taken.vals) ∧ Fresh w a, fun _ _ _ x _ => (c.nb - x).toNat,
    ⟨0, rfl, by omega, rfl, Upd.refl _ _, OwnAt.nil _ _ _, Fresh.none _⟩, ?_⟩
  rintro a l cap x u ⟨i, rfl, hi, rfl, hu, ho, hf⟩
  have hpu := h.ext hu
  refine br_dec (fun hlt => ?_) fun hge => ?_
  · have hi' : i < c.nb := by omega
    have e1 : IntKind.i64.wrap ((i : Int) + 1) = ((i + 1 : Nat) : Int) := w64 (by omega) (by omega)
    have hlen := takenRaw_length P c i
    have hsucc := takenRaw_succ P c i
    refine hpu.idx hi' fun hr => ?_
    refine ⟨(P.blk i).what, (P.blk i).head.kind.toNat, (P.blk i).head.era, (P.blk i).head.seq, RowAt.cells hr, fun B w₃ hn3 => ?_⟩
    refine store_of hn3.get (by simp) fun w₄ hput4 => ?_
    have hB : B = u.heap.size := hn3.num
    have hsu := hu.size
    have e34 : Ext u w₄ := Put.upd hn3.upd hput4 (.inl (by omega))
    have e4 := hu.trans e34
    have hg4 := hput4.get
    rw [splice_all _ _ (by simp)] at hg4
    have hp4 := h.ext e4
    refine ⟨(P.blk i).what, cell_of hg4 rfl, br_eq (fun h2 => ?_) fun h2 => ?_⟩
    · rw [if_pos (by omega)] at hsucc
      intro w₅ hd5
      have e5 := e4.trans hd5.upd
      have hp5 := h.ext e5
      have hg5 := Ext.get hd5.upd hg4
      have hs3 := hn3.size
      have hs4 := hput4.size
      have hown : ∀ b, a = some ⟨b, 0, none⟩ → w.heap.size ≤ b ∧ b < u.heap.size := fun b hb => ⟨hf _ hb, OwnAt.blk ho hb⟩
      have hqw : M.q < w.heap.size := (Array.getElem?_eq_some_iff.1 h.head).1
      refine ⟨fun v => Upd (fun b => a = some ⟨b, 0, none⟩) w₅ v, Upd.refl _ _, (P.blk i).head.kind.toNat, (P.blk i).head.era, (P.blk i).head.seq, fun v hv => ?_, _, fun v hv => cell_of (hv.get hp5.head (fun e => by have := hown _ e; omega)) rfl, ?_⟩
      · have := hv.get hg5 (fun e => by have := hown _ e; omega)
        exact cellsAt_of (o := 1) this (fun j v hj => by
          match j, hj with
          | 0, hj => simpa using hj
          | 1, hj => simpa using hj
          | 2, hj => simpa using hj
          | j + 3, hj => simp at hj)
      refine (nand_Bad_spec hp5.chip _).mono ?_
      rintro _ _ ⟨rfl, rfl⟩
      rename_i w₅
      have hd0 : decide ((0 : Int) ≤ ((i : Nat) : Int)) = true := decide_eq_true (by omega)
      refine ⟨_, rfl, Upd.refl _ _, ?_⟩
      rw [hd0, Bool.true_and, Int.toNat_natCast]
      intro B2 w₇ hn7
      refine ⟨Upd.ext hn7.upd, ?_⟩
      have ho7 : OwnAt w₇ a (takenRaw P c i).length cap T.api_Taken 5 ((takenRaw P c i).flatMap Taken.vals) := OwnAt.ext ho ((e34.trans hd5.upd).trans hn7.upd)
      refine append_flat (f := Taken.vals) Taken.vals_length (x := ⟨i, (P.blk i).head, c.isBad i⟩) ho7 (by simp [Taken.vals]) hn7 rfl (by intro v hv; simp [Taken.vals] at hv; rcases hv with rfl | rfl | rfl | rfl | rfl <;> rfl) rfl (by omega) (by omega) fun a' c' w₈ hu8 ho8 hf8 => ?_
      rw [← hsucc] at ho8 ⊢
      have e7 := e5.trans hn7.upd
      refine ⟨(Upd.ext hn7.upd).trans hu8, ⟨i + 1, e1, hi', rfl, Upd.beyond e7 hu8 (fun x hx => (hown x hx).1), ho8, ?_⟩, by rw [e1]; exact meas hi'⟩
      rcases hf8 with rfl | ⟨b, rfl, hb⟩
      · exact hf
      · exact Fresh.some (by have := e7.size; omega)
    · rw [if_neg (by omega), List.append_nil] at hsucc
      refine ⟨⟨i + 1, e1, hi', by rw [hsucc], e4, by rw [hsucc]; exact OwnAt.ext ho e34, hf⟩, by rw [e1]; exact meas hi'⟩
  · have : i = c.nb := by omega
    subst this
    have hlen := takenRaw_length P c c.nb
    refine (sortStable_spec (cp := cap) ho (fun t ht => by have := takenRaw_block ht; omega) (by omega)).mono ?_
    rintro _ w₉ ⟨rfl, hu9, ho9⟩
    have e9 : Ext w w₉ := Upd.beyond hu hu9 (fun x hx => hf _ hx)
    refine ⟨rfl, e9, a, cap, ?_, ho9, hf⟩
    unfold takenPool
    rw [isort_length]

end Go.Den
end

section
set_option linter.unusedVariables false
set_option linter.unusedSimpArgs false
set_option maxRecDepth 4000
namespace Go.Den

/-! ### The plain reference -/
def refHead (c : Chip) (i : Int) : Head × Bool := if c.ask i 0 ≠ 0 then (Head.none, false) else ((getHead (c.page i.toNat 0)).1, decide ((getHead (c.page i.toNat 0)).2 = 0))
/-- behind all of its Seq -/
def posOf (t : Taken) (l : List Taken) : Nat := (l.takeWhile fun x => decide (x.head.seq ≤ t.head.seq)).length
def insAt (t : Taken) (l : List Taken) : List Taken := l.take (posOf t l) ++ [t] ++ l.drop (posOf t l)
def refGo (c : Chip) : Nat → List Taken
  | 0 => []
  | i + 1 => if (refHead c i).2 then insAt ⟨i, (refHead c i).1, c.isBad i⟩ (refGo c i) else refGo c i
def refTaken (c : Chip) : List Taken := refGo c c.nb
def refBlanks (c : Chip) : Nat := ((List.range c.nb).filter fun i : Nat => !(refHead c i).2 && !c.isBad i).length
def refLast (c : Chip) : Nat := (refTaken c).foldl (fun n t => max n t.head.seq) 0

theorem insAt_length (t : Taken) (l : List Taken) : (insAt t l).length = l.length + 1 := by
  unfold insAt
  simp
  omega
theorem refGo_length (c : Chip) (i : Nat) : (refGo c i).length ≤ i := by
  induction i with
  | zero => simp [refGo]
  | succ i ih => 
    unfold refGo
    split
    · rw [insAt_length]; omega
    · omega
theorem takeWhile_le {α : Type} (p : α → Bool) (l : List α) : (l.takeWhile p).length ≤ l.length := by
  induction l with
  | nil => simp
  | cons x l ih => rw [List.takeWhile_cons]; split <;> simp <;> omega
theorem takeWhile_at {α : Type} (p : α → Bool) : ∀ (l : List α) (k : Nat) (hk : k ≤ l.length), (∀ x ∈ l.take k, p x = true) → (∀ (h : k < l.length), p l[k] = false) → (l.takeWhile p).length = k
  | [], k, hk, _, _ => by simp at hk; simp [hk]
  | x :: l, 0, _, _, h => by
    have := h (by simp)
    have : p x = false := this
    simp [List.takeWhile_cons, this]
  | x :: l, k + 1, hk, ha, h => by
    have hx : p x = true := ha x (by simp)
    rw [List.takeWhile_cons, if_pos hx, List.length_cons]
    congr 1
    refine takeWhile_at p l k (by simpa using hk) (fun y hy => ha y (by simp [hy])) (fun hlt => ?_)
    have := h (by simpa using hlt)
    simpa using this

theorem carrackref04_Head_spec {w : World} {p : Nat} {c : Chip} {L : Loc} {G : Nat → Prop} (h : ChipRep w p c L G) (i : Int) :
    CallsR prog K.carrackref04_Head #[.pointer (some ⟨p, 0, none⟩), .int .i64 i] w fun v w' => Ext w w' ∧ v = .tuple #[headV (refHead c i).1, .bool (refHead c i).2] := by
  apply carrackref04_Head.sh
  intro B w₁ hn
  have hB : B = w.heap.size := hn.num
  rw [head_zero] at hn
  have h1 := h.ext hn.upd
  refine (nand_Read_spec h1 i 0).mono ?_
  rintro v w₂ ⟨he2, hv⟩
  have e2 := hn.upd.trans he2
  have hg2 := Ext.get he2 hn.get
  split at hv
  · rename_i h0
    obtain ⟨a, cp, rfl, hba, hcp, hfa⟩ := hv
    refine ⟨_, _, _, _, rfl, br_ne (fun h => by omega) fun _ => ?_⟩
    obtain ⟨hd, hb0, hb1, _, hp1⟩ := ask_zero h0
    have hpl : (c.page i.toNat 0).length = c.sz := page_len h.ok hb1 (by have := h.ok.np1; omega)
    simp only [tn0] at hba
    have hgh := carrackref04_GetHead_spec (c := cp) hba (by omega)
    rw [hpl] at hgh
    refine hgh.mono ?_
    rintro _ w₄ ⟨he4, rfl⟩
    have e4 := e2.trans he4
    refine ⟨_, _, _, _, rfl, fun B2 w₅ hn5 => ?_⟩
    have hB2 : B2 = w₄.heap.size := hn5.num
    rw [head_zero] at hn5
    have hs4 := e4.size
    have hs12 := hn.size
    have hs1 := he2.size
    have hs3 := he4.size
    refine head_put (h := (getHead (c.page i.toNat 0)).1) hn5.get rfl fun w₆ hput6 => ?_
    have hg6 : w₆.heap[B]? = _ := hput6.upd1.get (Ext.get hn5.upd (Ext.get he4 hg2)) (by omega)
    have e6 : Ext w w₆ := Put.upd (e4.trans hn5.upd) hput6 (.inl (by omega))
    refine ⟨_, _, _, head_cells hput6.get, head_put hg6 rfl fun w₇ hput7 => ⟨_, _, _, head_cells hput7.get, Put.upd e6 hput7 (.inl (by omega)), ?_⟩⟩
    unfold refHead
    rw [if_neg (by omega)]
    simp only [Value.tuple.injEq]
    congr 4
    rw [Bool.eq_iff_iff]
    simp
  · rename_i h0
    subst hv
    refine ⟨_, _, _, _, rfl, br_ne (fun _ => ?_) fun h => by omega⟩
    refine head_put (h := Head.none) hg2 rfl fun w₃ hput => ⟨_, _, _, head_cells hput.get, Put.upd e2 hput (.inl (by omega)), ?_⟩
    unfold refHead
    rw [if_pos h0]

theorem oneCell_taken (t : Taken) : ∀ v ∈ t.vals, v.oneCell' = true := by
  intro v hv
  simp [Taken.vals] at hv
  rcases hv with rfl | rfl | rfl | rfl | rfl <;> rfl

/-- an element comes between others -/
theorem insert_tail {w : World} {p : Nat} {c : Chip} {L : Loc} {G : Nat → Prop} (h : ChipRep w p c L G) {a : Option Addr} {out : List Taken} {cap i j B : Nat} {hd : Head} (ho : OwnAt w a out.length cap T.api_Taken 5 (out.flatMap Taken.vals)) (hl : out.length ≤ 1000) (hj : j ≤ out.length)
    (hB : w.heap[B]? = some (.cells hd.vals.toArray T.api_Head (0, 0))) {Q : Option Addr → Nat → Nat → World → Prop}
    (hk : ∀ a' c' w', Ext w w' → OwnAt w' a' (out.take j ++ [Taken.mk i hd (c.isBad i)] ++ out.drop j).length c' T.api_Taken 5 ((out.take j ++ [Taken.mk i hd (c.isBad i)] ++ out.drop j).flatMap Taken.vals) → Fresh w a' → Q a' (out.take j ++ [Taken.mk i hd (c.isBad i)] ++ out.drop j).length c' w') :
    sliceP 5 a out.length cap none (some (j : Int)) none fun a2 l2 c2 =>
        appendP T.api_Taken 5 32 [Value.int .i64 0, Value.int .u8 0, Value.int .u32 0, Value.int .u64 0, Value.bool false] none 0 0 (Value.slice a2 l2 c2) w fun a3 l3 c3 w8 =>
        ∀ w9 : World, Drew w8 w9 →
        ∃ S2 : World → Prop, S2 w9 ∧
        ∃ x12 : Int, ∃ x13 : Int, ∃ x14 : Int, (∀ u3, S2 u3 → cellsAt u3 ⟨B, 0, none⟩ [Value.int .u8 x12, Value.int .u32 x13, Value.int .u64 x14] 0) ∧
        CallsR prog K.nand_Chip_Bad #[Value.pointer (some ⟨p, 0, none⟩), Value.int .i64 (i : Int)] w9 fun v3 w10 =>
        ∃ b2 : Bool, v3 = Value.bool b2 ∧ S2 w10 ∧
        ∀ (B2 : Nat) (w11 : World), New w10 (.cells #[Value.int .i64 (i : Int), Value.int .u8 x12, Value.int .u32 x13, Value.int .u64 x14, Value.bool b2] T.api_Taken) B2 w11 → S2 w11 ∧
        appendP T.api_Taken 5 32 [Value.int .i64 0, Value.int .u8 0, Value.int .u32 0, Value.int .u64 0, Value.bool false] a3 l3 c3 (Value.slice (some ⟨B2, 0, none⟩) 1 1) w11 fun a4 l4 c4 w12 => S2 w12 ∧
        sliceP 5 a out.length cap (some (j : Int)) none none fun a5 l5 c5 =>
        appendP T.api_Taken 5 32 [Value.int .i64 0, Value.int .u8 0, Value.int .u32 0, Value.int .u64 0, Value.bool false] a4 l4 c4 (Value.slice a5 l5 c5) w12 fun a6 l6 c6 w13 => Q a6 l6 c6 w13 := by
  have hcap := ho.2.1
  refine slice_to (by omega) (by omega) hcap ?_
  rw [Int.toNat_natCast]
  have hr1 : RowAt w a ((out.take j).flatMap Taken.vals) := by rw [← flat_take Taken.vals_length]; exact RowAt.take ho.row _
  refine append_rows (f := Taken.vals) Taken.vals_length (l := []) (xs := out.take j) (OwnAt.nil _ _ _) hr1 rfl (by simp; omega) (fun x _ => oneCell_taken x) rfl (by simp; omega) (by omega) fun a3 c3 w₈ hu8 ho8 hf8 => ?_
  have e8 : Ext w w₈ := hu8.mono (fun x _ hx => by cases hx)
  have hf8' : Fresh w a3 := by
    rcases hf8 with rfl | ⟨b, rfl, hb⟩
    · exact Fresh.none _
    · exact Fresh.some hb
  intro w₉ hd9
  have e9 := e8.trans hd9.upd
  have h9 := h.ext e9
  have hg9 := Ext.get e9 hB
  have hBw : B < w.heap.size := (Array.getElem?_eq_some_iff.1 hB).1
  refine ⟨fun u => u.heap[B]? = some (.cells hd.vals.toArray T.api_Head (0, 0)), hg9, hd.kind.toNat, hd.era, hd.seq, fun u hu => head_cells hu, ?_⟩
  refine (nand_Bad_spec h9 _).mono ?_
  rintro _ _ ⟨rfl, rfl⟩
  rename_i w₉
  have hd0 : decide ((0 : Int) ≤ ((i : Nat) : Int)) = true := decide_eq_true (by omega)
  refine ⟨_, rfl, hg9, ?_⟩
  rw [hd0, Bool.true_and, Int.toNat_natCast]
  intro B2 w₁₁ hn11
  have hg11 := Ext.get hn11.upd hg9
  refine ⟨hg11, ?_⟩
  have ho11 := OwnAt.ext (OwnAt.ext ho8 hd9.upd) hn11.upd
  refine append_flat (f := Taken.vals) Taken.vals_length (x := ⟨i, hd, c.isBad i⟩) ho11 (by simp [Taken.vals]) hn11 rfl (oneCell_taken _) rfl (by simp; omega) (by omega) fun a4 c4 w₁₂ hu12 ho12 hf12 => ?_
  have e11 := e9.trans hn11.upd
  have e12 : Ext w w₁₂ := Upd.beyond e11 hu12 (fun x hx => hf8' _ hx)
  have hf12' : Fresh w a4 := by
    rcases hf12 with rfl | ⟨b, rfl, hb⟩
    · exact hf8'
    · exact Fresh.some (by have := e11.size; omega)
  refine ⟨Ext.get e12 hB, ?_⟩
  refine slice_from (by omega) (by omega) hcap ?_
  rw [Int.toNat_natCast]
  have hr2 : RowAt w₁₂ (if cap = j then a else a.map (·.add (j * 5))) ((out.drop j).flatMap Taken.vals) := by
    rw [← flat_drop Taken.vals_length]; exact row_from (RowAt.ext ho.row e12) (by rw [flat_len Taken.vals_length]) hcap
  refine append_rows (f := Taken.vals) Taken.vals_length (xs := out.drop j) ho12 hr2 rfl (by simp) (fun x _ => oneCell_taken x) rfl (by simp; omega) (by omega) fun a6 c6 w₁₃ hu13 ho13 hf13 => ?_
  have e13 : Ext w w₁₃ := Upd.beyond e12 hu13 (fun x hx => hf12' _ hx)
  simp only [List.nil_append] at ho13 ⊢
  refine hk a6 c6 w₁₃ e13 ho13 ?_
  rcases hf13 with rfl | ⟨b, rfl, hb⟩
  · exact hf12'
  · exact Fresh.some (by have := e12.size; omega)

theorem carrackref04_Taken_spec {w : World} {p : Nat} {c : Chip} {L : Loc} {G : Nat → Prop} (h : ChipRep w p c L G) :
    CallsR prog K.carrackref04_Taken #[.pointer (some ⟨p, 0, none⟩)] w fun v w' => Ext w w' ∧ ∃ a cap, v = .slice a (refTaken c).length cap ∧ OwnAt w' a (refTaken c).length cap T.api_Taken 5 ((refTaken c).flatMap Taken.vals) ∧ Fresh w a := by
  apply carrackref04_Taken.sh
  have hnb := h.ok.nb2
  refine ⟨fun a l cap x u => ∃ i : Nat, x = i ∧ i ≤ c.nb ∧ l = (refGo c i).length ∧ Ext w u ∧ OwnAt u a (refGo c i).length cap T.api_Taken 5 ((refGo c i).flatMap Taken.vals) ∧ Fresh w a, fun _ _ _ x _ => (c.nb - x).toNat,
    ⟨0, rfl, by omega, rfl, Upd.refl _ _, OwnAt.nil _ _ _, Fresh.none _⟩, ?_⟩
  rintro a l cap x u ⟨i, rfl, hi, rfl, hu, ho, hf⟩
  have hlen := refGo_length c i
  refine (nand_Geo_spec (h.ext hu)).mono ?_
  rintro _ w₂ ⟨rfl, he2⟩
  have e2 := hu.trans he2
  refine ⟨_, _, _, _, rfl, br_dec (fun hlt => ?_) fun hge => ?_⟩
  · have hi' : i < c.nb := by omega
    have e1 : IntKind.i64.wrap ((i : Int) + 1) = ((i + 1 : Nat) : Int) := w64 (by omega) (by omega)
    refine (carrackref04_Head_spec (h.ext e2) (i : Int)).mono ?_
    rintro _ w₃ ⟨he3, rfl⟩
    have e3 := e2.trans he3
    refine ⟨_, _, _, _, rfl, fun B w₄ hn4 => ?_⟩
    rw [head_zero] at hn4
    refine head_put (h := (refHead c i).1) hn4.get rfl fun w₅ hput5 => ?_
    have hB : B = w₃.heap.size := hn4.num
    have hs3 := e3.size
    have e5 : Ext w w₅ := Put.upd (e3.trans hn4.upd) hput5 (.inl (by omega))
    have eu3 : Ext u w₃ := he2.trans he3
    have hsu3 := eu3.size
    have eu5 : Ext u w₅ := Put.upd (eu3.trans hn4.upd) hput5 (.inl (by omega))
    have hgo : refGo c (i + 1) = if (refHead c i).2 then insAt ⟨i, (refHead c i).1, c.isBad i⟩ (refGo c i) else refGo c i := by rw [refGo]
    cases hh : (refHead c i).2 with
    | false =>
      simp only [Bool.not_false, br_true]
      rw [hh] at hgo
      simp only [Bool.false_eq_true, if_false] at hgo
      exact ⟨⟨i + 1, e1, hi', by rw [hgo], e5, by rw [hgo]; exact OwnAt.ext ho eu5, hf⟩, by rw [e1]; exact meas hi'⟩
    | true =>
      simp only [Bool.not_true, br_false]
      rw [hh] at hgo
      simp only [if_true] at hgo
      refine ⟨fun y v => ∃ j : Nat, y = j ∧ j ≤ (refGo c i).length ∧ Ext w₅ v ∧ ∀ t ∈ (refGo c i).take j, t.head.seq ≤ (refHead c i).1.seq, fun y _ => ((refGo c i).length - y).toNat, ⟨0, rfl, by omega, Upd.refl _ _, fun t ht => by simp at ht⟩, ?_⟩
      rintro y v ⟨j, rfl, hj, hv5, hall⟩ w₇ hd7
      have e57 := hv5.trans hd7.upd
      have e7 := e5.trans e57
      have ho7 := OwnAt.ext (OwnAt.ext ho eu5) e57
      have hg7 := Ext.get e57 hput5.get
      have hins : (∀ (hlt : j < (refGo c i).length), decide ((refGo c i)[j].head.seq ≤ (refHead c i).1.seq) = false) → (refGo c i).take j ++ [⟨i, (refHead c i).1, c.isBad i⟩] ++ (refGo c i).drop j = refGo c (i + 1) := by
        intro hstop
        have hpos : posOf ⟨i, (refHead c i).1, c.isBad i⟩ (refGo c i) = j := takeWhile_at _ _ j hj (fun t ht => decide_eq_true (hall t ht)) hstop
        rw [hgo]
        unfold insAt
        rw [hpos]
      refine ⟨fun z => z = w₇, rfl, br_dec (fun hlt => ?_) fun hge => ?_⟩
      · have hj' : j < (refGo c i).length := by omega
        refine idx_flat (f := Taken.vals) Taken.vals_length (by omega) ho7.row rfl hj' fun b o hab hr => ?_
        simp only [add_lit]
        obtain ⟨b', o', hab', hc⟩ := RowAt.cell hr (i := 3) (v := .int .u64 (refGo c i)[j].head.seq) rfl
        cases hab'
        refine ⟨_, fun z hz => hz ▸ hc, _, fun z hz => hz ▸ cell_of hg7 rfl, br_dec (fun hle => ?_) fun hgt => ?_⟩
        · have e2 : IntKind.i64.wrap ((j : Int) + 1) = ((j + 1 : Nat) : Int) := w64 (by omega) (by omega)
          rw [e2]
          refine ⟨⟨j + 1, rfl, hj', e57, fun t ht => ?_⟩, meas hj'⟩
          rw [List.take_succ_eq_append_getElem hj'] at ht
          rcases List.mem_append.1 ht with ht | ht
          · exact hall t ht
          · simp at ht
            subst ht
            omega
        · have hin := hins (fun _ => decide_eq_false (by omega))
          refine insert_tail (i := i) (h.ext e7) ho7 (by omega) hj hg7 fun a6 c6 w₁₃ he13 ho13 hf13 => ?_
          rw [hin] at ho13 ⊢
          exact ⟨⟨i + 1, e1, hi', rfl, e7.trans he13, ho13, Fresh.mono hf13 e7.size⟩, by rw [e1]; exact meas hi'⟩
      · have hin := hins (fun h => by omega)
        refine insert_tail (i := i) (h.ext e7) ho7 (by omega) hj hg7 fun a6 c6 w₁₃ he13 ho13 hf13 => ?_
        rw [hin] at ho13 ⊢
        exact ⟨⟨i + 1, e1, hi', rfl, e7.trans he13, ho13, Fresh.mono hf13 e7.size⟩, by rw [e1]; exact meas hi'⟩
  · have : i = c.nb := by omega
    subst this
    exact ⟨e2, a, cap, rfl, OwnAt.ext ho he2, hf⟩

theorem carrackref04_Blanks_spec {w : World} {p : Nat} {c : Chip} {L : Loc} {G : Nat → Prop} (h : ChipRep w p c L G) :
    CallsR prog K.carrackref04_Blanks #[.pointer (some ⟨p, 0, none⟩)] w fun v w' => v = .int .i64 (refBlanks c : Nat) ∧ Ext w w' := by
  apply carrackref04_Blanks.sh
  have hnb := h.ok.nb2
  refine ⟨fun x y u => ∃ i : Nat, y = i ∧ i ≤ c.nb ∧ Ext w u ∧ x = (((List.range i).filter fun i : Nat => !(refHead c i).2 && !c.isBad i).length : Nat), fun _ y _ => (c.nb - y).toNat, ⟨0, rfl, by omega, Upd.refl _ _, rfl⟩, ?_⟩
  rintro x y u ⟨i, rfl, hi, hu, rfl⟩
  have hle : ((List.range i).filter fun i : Nat => !(refHead c i).2 && !c.isBad i).length ≤ i := Nat.le_trans (List.length_filter_le _ _) (by simp)
  refine (nand_Geo_spec (h.ext hu)).mono ?_
  rintro _ w₂ ⟨rfl, he2⟩
  have e2 := hu.trans he2
  refine ⟨_, _, _, _, rfl, br_dec (fun hlt => ?_) fun hge => ?_⟩
  · have hi' : i < c.nb := by omega
    have e1 : IntKind.i64.wrap ((i : Int) + 1) = ((i + 1 : Nat) : Int) := w64 (by omega) (by omega)
    refine (carrackref04_Head_spec (h.ext e2) (i : Int)).mono ?_
    rintro _ w₃ ⟨he3, rfl⟩
    have e3 := e2.trans he3
    refine ⟨_, _, _, _, rfl, fun B w₄ hn4 => ?_⟩
    rw [head_zero] at hn4
    refine head_put (h := (refHead c i).1) hn4.get rfl fun w₅ hput5 => ?_
    have hB : B = w₃.heap.size := hn4.num
    have hs3 := e3.size
    have e5 : Ext w w₅ := Put.upd (e3.trans hn4.upd) hput5 (.inl (by omega))
    have hrs : ∀ b : Bool, (!(refHead c i).2 && !c.isBad i) = b → (((List.range (i + 1)).filter fun i : Nat => !(refHead c i).2 && !c.isBad i).length : Nat) = ((List.range i).filter fun i : Nat => !(refHead c i).2 && !c.isBad i).length + if b then 1 else 0 := by
      intro b hb
      rw [List.range_succ, List.filter_append, List.length_append]
      simp only [List.filter_cons, hb, List.filter_nil]
      cases b <;> rfl
    cases hh : (refHead c i).2 with
    | false =>
      simp only [Bool.not_false, br_true]
      refine (nand_Bad_spec (h.ext e5) _).mono ?_
      rintro _ _ ⟨rfl, rfl⟩
      rename_i w₅
      have hd0 : decide ((0 : Int) ≤ ((i : Nat) : Int)) = true := decide_eq_true (by omega)
      refine ⟨_, rfl, ?_⟩
      rw [hd0, Bool.true_and, Int.toNat_natCast, e1]
      cases hb : c.isBad i with
      | false =>
        have := hrs true (by rw [hh, hb]; rfl)
        refine ⟨⟨i + 1, rfl, hi', e5, ?_⟩, meas hi'⟩
        rw [this, w64 (by omega) (by omega)]
        simp
      | true =>
        have := hrs false (by rw [hh, hb]; rfl)
        refine ⟨⟨i + 1, rfl, hi', e5, ?_⟩, meas hi'⟩
        rw [this]
        simp
    | true =>
      simp only [Bool.not_true, br_false]
      have := hrs false (by rw [hh]; rfl)
      rw [e1]
      refine ⟨⟨i + 1, rfl, hi', e5, ?_⟩, meas hi'⟩
      rw [this]
      simp
  · have : i = c.nb := by omega
    subst this
    exact ⟨by trivial, e2⟩

theorem refLast_take (c : Chip) (i : Nat) (hi : i < (refTaken c).length) : ((refTaken c).take (i + 1)).foldl (fun n t => max n t.head.seq) 0 = max (((refTaken c).take i).foldl (fun n t => max n t.head.seq) 0) (refTaken c)[i].head.seq := by
  rw [List.take_succ_eq_append_getElem hi, List.foldl_append]
  rfl

theorem carrackref04_Last_spec {w : World} {p : Nat} {c : Chip} {L : Loc} {G : Nat → Prop} (h : ChipRep w p c L G) :
    CallsR prog K.carrackref04_Last #[.pointer (some ⟨p, 0, none⟩)] w fun v w' => v = .int .u64 (refLast c : Nat) ∧ Ext w w' := by
  apply carrackref04_Last.sh
  have hnb := h.ok.nb2
  unfold carrackref04_Last.body
  refine (carrackref04_Taken_spec h).mono ?_
  rintro _ w₁ ⟨he1, a, cap, rfl, ho, hf⟩
  have hlen : (refTaken c).length ≤ c.nb := refGo_length c c.nb
  refine ⟨_, _, _, rfl, fun x y u => ∃ i : Nat, y = i ∧ i ≤ (refTaken c).length ∧ u = w₁ ∧ x = (((refTaken c).take i).foldl (fun n t => max n t.head.seq) 0 : Nat), fun _ y _ => ((refTaken c).length - y).toNat, ⟨0, rfl, by omega, rfl, rfl⟩, ?_⟩
  rintro x y u ⟨i, rfl, hi, rfl, rfl⟩
  refine br_dec (fun hlt => ?_) fun hge => ?_
  · have hi' : i < (refTaken c).length := by omega
    have e1 : IntKind.i64.wrap ((i : Int) + 1) = ((i + 1 : Nat) : Int) := w64 (by omega) (by omega)
    refine idx_flat (f := Taken.vals) Taken.vals_length (by omega) ho.row rfl hi' fun b o hab hr => ?_
    obtain ⟨b', o', hab', hc⟩ := RowAt.cell hr (i := 3) (v := .int .u64 (refTaken c)[i].head.seq) rfl
    cases hab'
    simp only [add_lit]
    refine ⟨_, hc, ?_⟩
    rw [e1]
    refine ⟨⟨i + 1, rfl, hi', by trivial, ?_⟩, meas hi'⟩
    rw [refLast_take c i hi']
    generalize ((refTaken c).take i).foldl (fun n t => max n t.head.seq) 0 = m
    split <;> omega
  · have : i = (refTaken c).length := by omega
    subst this
    refine ⟨?_, he1⟩
    rw [List.take_length]
    rfl

end Go.Den
end

section
set_option linter.unusedVariables false
set_option maxRecDepth 100000
namespace Go.Den

def newChip (nb np sz sp : Nat) : Chip := ⟨nb, np, sz, sp, List.replicate nb (List.replicate (np * sz) 255), List.replicate nb false, [], 0, false, 0⟩
def wT1 : TakeR := takePool (scanPool (newChip 8 4 128 0)) (newChip 8 4 128 0) 1 1
def wT2 : TakeR := takePool wT1.pool wT1.chip 2 1
def wF1 : Pool × Chip × Nat := freePool wT2.pool wT2.chip 0
def wF2 : Pool × Chip × Nat := freePool wF1.1 wF1.2.1 0
def wL : List Taken := takenPool wF2.1 wF2.2.1
def wT3 : TakeR := takePool wF2.1 wF2.2.1 1 1
def worksM : Bool := (newChip 8 4 128 0).dead == false && blanksPool (scanPool (newChip 8 4 128 0)) (newChip 8 4 128 0) == 8 && wT1.block == 0 && wT1.err == 0 && wT2.block == 1 && wT2.err == 0 && wF1.2.2 == 0 && wF2.2.2 == 12 && decide (wL = [⟨1, ⟨2, 1, 2⟩, false⟩]) && wT3.block == 2 && wT3.err == 0
theorem worksM_true : worksM = true := by decide +kernel
end Go.Den
end

section
set_option linter.unusedVariables false
set_option linter.unusedSimpArgs false
set_option maxRecDepth 4000
namespace Go.Den

/-- a chip whose parts lie between A and S -/
def CAt (A S : Nat) (w : World) (p : Nat) (c : Chip) : Prop := ∃ L G, ChipRep w p c L G ∧ (∀ x, x ∈ p :: L.bb :: L.locs → A ≤ x ∧ x < S) ∧ ∀ x, G x → A ≤ x ∧ x < w.heap.size
/-- a pool beyond A -/
def PAt (A S : Nat) (w : World) (M : PLoc) (P : Pool) (c : Chip) : Prop := ∃ L G, PC w M P c L G ∧ (∀ x, PF M L x → A ≤ x ∧ x < S) ∧ ∀ x, G x → A ≤ x ∧ x < w.heap.size
abbrev Bet (A S : Nat) : Nat → Prop := fun x => A ≤ x ∧ x < S
theorem CAt.ext {A S : Nat} {w w' : World} {p : Nat} {c : Chip} (h : CAt A S w p c) (k : Ext w w') : CAt A S w' p c := by
  obtain ⟨L, G, hr, hF, hG⟩ := h
  exact ⟨L, G, hr.ext k, hF, fun x hx => ⟨(hG x hx).1, Nat.lt_of_lt_of_le (hG x hx).2 k.size⟩⟩
theorem PAt.ext {A S : Nat} {w w' : World} {M : PLoc} {P : Pool} {c : Chip} (h : PAt A S w M P c) (k : Ext w w') : PAt A S w' M P c := by
  obtain ⟨L, G, hr, hF, hG⟩ := h
  exact ⟨L, G, hr.ext k, hF, fun x hx => ⟨(hG x hx).1, Nat.lt_of_lt_of_le (hG x hx).2 k.size⟩⟩
theorem PAt.chip {A S : Nat} {w : World} {M : PLoc} {P : Pool} {c : Chip} (h : PAt A S w M P c) : CAt A S w M.p c := by
  obtain ⟨L, G, hr, hF, hG⟩ := h
  exact ⟨L, G, hr.chip, fun x hx => hF x (.inr (.inr hx)), hG⟩
theorem CAt.ok {A S : Nat} {w : World} {p : Nat} {c : Chip} (h : CAt A S w p c) : c.Ok := by
  obtain ⟨L, G, hr, hF, hG⟩ := h
  exact hr.ok
theorem PAt.size {A S : Nat} {w : World} {M : PLoc} {P : Pool} {c : Chip} (h : PAt A S w M P c) : M.q < w.heap.size := by
  obtain ⟨L, G, hr, hF, hG⟩ := h
  exact (Array.getElem?_eq_some_iff.1 hr.head).1
theorem CAt.of {w w' : World} {p : Nat} {c : Chip} {A : Nat} (h : ChipAt w' p c (fun x => w.heap.size ≤ x ∧ x < w'.heap.size)) (hA : A ≤ w.heap.size) : CAt A w'.heap.size w' p c := by
  obtain ⟨L, G, hr, hF, hG, _⟩ := h
  exact ⟨L, G, hr, fun x hx => ⟨Nat.le_trans hA (hF x hx).1, (hF x hx).2⟩, fun x hx => ⟨Nat.le_trans hA (hG x hx).1, (hG x hx).2⟩⟩

theorem cNew (w : World) {A nb np sz sp : Nat} (hA : A ≤ w.heap.size) (nb1 : 8 ≤ nb) (nb2 : nb ≤ 64) (np1 : 4 ≤ np) (np2 : np ≤ 32) (sz1 : 128 ≤ sz) (sz2 : sz ≤ 256) (sp2 : sp ≤ 4) :
    CallsR prog K.nand_New #[.agg #[.int .i64 nb, .int .i64 np, .int .i64 sz, .int .i64 sp]] w fun v w' => Ext w w' ∧ ∃ p, v = .tuple #[.pointer (some ⟨p, 0, none⟩), .int .i64 0] ∧ CAt A w'.heap.size w' p (newChip nb np sz sp) := by
  refine (nand_New_spec w nb1 nb2 np1 np2 sz1 sz2 sp2).mono ?_
  rintro v w' ⟨he, p, rfl, hc⟩
  exact ⟨he, p, rfl, CAt.of hc hA⟩
theorem cPower {A S : Nat} {w : World} {p : Nat} {c : Chip} (h : CAt A S w p c) (hA : A ≤ w.heap.size) :
    CallsR prog K.nand_Chip_Power #[.pointer (some ⟨p, 0, none⟩)] w fun v w' => Ext w w' ∧ ∃ p', v = .tuple #[.pointer (some ⟨p', 0, none⟩), .int .i64 0] ∧ CAt A w'.heap.size w' p' c.power := by
  obtain ⟨L, G, hr, hF, hG⟩ := h
  refine (nand_Power_spec hr).mono ?_
  rintro v w' ⟨he, p', rfl, hc⟩
  exact ⟨he, p', rfl, CAt.of hc hA⟩
theorem cScan {A S : Nat} {w : World} {p : Nat} {c : Chip} (h : CAt A S w p c) (hA : A ≤ w.heap.size) (hS : S ≤ w.heap.size) :
    CallsR prog K.pool_Scan #[.pointer (some ⟨p, 0, none⟩)] w fun v w' => Ext w w' ∧
      if c.dead then v = .tuple #[.pointer none, .int .i64 10]
      else ∃ M : PLoc, M.p = p ∧ v = .tuple #[.pointer (some ⟨M.q, 0, none⟩), .int .i64 0] ∧ PAt A w'.heap.size w' M (scanPool c) c := by
  obtain ⟨L, G, hr, hF, hG⟩ := h
  refine (pool_Scan_spec hr (fun x hx => (hG x hx).2)).mono ?_
  rintro v w' ⟨he, hv⟩
  refine ⟨he, ?_⟩
  split at hv
  · rename_i hd
    rw [if_pos hd]; exact hv
  · rename_i hd
    rw [if_neg hd]
    obtain ⟨q, pb, rfl, hq, hpb, hq', hpb', hp⟩ := hv
    refine ⟨⟨q, pb, c.nb, p⟩, rfl, rfl, L, G, hp, fun x hx => ?_, fun x hx => ⟨(hG x hx).1, Nat.lt_of_lt_of_le (hG x hx).2 he.size⟩⟩
    rcases hx with hx | hx | hx
    · have : x = q := hx
      omega
    · have : x = pb := hx
      omega
    · have := hF x hx
      have := he.size
      omega
theorem cRead {A S : Nat} {w : World} {p : Nat} {c : Chip} (h : CAt A S w p c) :
    CallsR prog K.nand_Chip_Read #[.pointer (some ⟨p, 0, none⟩), .int .i64 0, .int .i64 0] w fun v w' => Ext w w' ∧ ∃ a l cp, v = .tuple #[.slice a l cp, .int .i64 ((if c.dead then 10 else 0 : Nat) : Int)] := by
  obtain ⟨L, G, hr, hF, hG⟩ := h
  refine (nand_Read_spec hr 0 0).mono ?_
  rintro v w' ⟨he, hv⟩
  refine ⟨he, ?_⟩
  rw [ask00 hr.ok] at hv
  cases hd : c.dead with
  | true =>
    rw [hd] at hv
    simp only [if_true, if_neg (show ¬ (10 = 0) by omega)] at hv
    exact ⟨_, _, _, hv⟩
  | false =>
    rw [hd] at hv
    simp only [Bool.false_eq_true, if_false, if_true] at hv
    obtain ⟨a, cp, rfl, _⟩ := hv
    exact ⟨_, _, _, rfl⟩
theorem cAlive {A S : Nat} {w : World} {p : Nat} {c : Chip} (h : CAt A S w p c) :
    CallsR prog K.carracklaw04_alive #[.pointer (some ⟨p, 0, none⟩)] w fun v w' => v = .bool (!c.dead) ∧ Ext w w' := by
  apply carracklaw04_alive.sh
  refine (cRead h).mono ?_
  rintro v w' ⟨he, a, l, cp, rfl⟩
  refine ⟨_, _, _, _, rfl, ?_, he⟩
  cases c.dead <;> rfl
theorem pTake {A S : Nat} {w : World} {M : PLoc} {P : Pool} {c : Chip} (h : PAt A S w M P c) {kind : UInt8} {era : Nat} (hera : era < 4294967296) {r : TakeR} (hr : takePool P c kind era = r) :
    CallsR prog K.pool_Pool_Take #[.pointer (some ⟨M.q, 0, none⟩), bv kind, .int .u32 era] w fun v w' =>
      v = .tuple #[.int .i64 (r.block : Nat), .int .i64 (r.err : Nat)] ∧ Upd (Bet A S) w w' ∧ PAt A S w' M r.pool r.chip := by
  subst hr
  obtain ⟨L, G, hr, hF, hG⟩ := h
  refine (pool_Take_spec hr hera).mono ?_
  rintro v w' ⟨rfl, hu, L', hs, hp⟩
  exact ⟨rfl, hu.mono fun x _ hx => hF x hx, L', G, hp, fun x hx => hF x (by rw [PF.same hs] at hx; exact hx), fun x hx => ⟨(hG x hx).1, Nat.lt_of_lt_of_le (hG x hx).2 hu.size⟩⟩
theorem pFree {A S : Nat} {w : World} {M : PLoc} {P : Pool} {c : Chip} (h : PAt A S w M P c) (i : Int) {r : Pool × Chip × Nat} (hr : freePool P c i = r) :
    CallsR prog K.pool_Pool_Free #[.pointer (some ⟨M.q, 0, none⟩), .int .i64 i] w fun v w' =>
      v = .int .i64 (r.2.2 : Nat) ∧ Upd (Bet A S) w w' ∧ PAt A S w' M r.1 r.2.1 := by
  subst hr
  obtain ⟨L, G, hr, hF, hG⟩ := h
  refine (pool_Free_spec hr i).mono ?_
  rintro v w' ⟨rfl, hu, L', hs, hp⟩
  exact ⟨rfl, hu.mono fun x _ hx => hF x hx, L', G, hp, fun x hx => hF x (by rw [PF.same hs] at hx; exact hx), fun x hx => ⟨(hG x hx).1, Nat.lt_of_lt_of_le (hG x hx).2 hu.size⟩⟩
theorem pBlanks {A S : Nat} {w : World} {M : PLoc} {P : Pool} {c : Chip} (h : PAt A S w M P c) :
    CallsR prog K.pool_Pool_Blanks #[.pointer (some ⟨M.q, 0, none⟩)] w fun v w' => v = .int .i64 (blanksPool P c : Nat) ∧ Ext w w' := by
  obtain ⟨L, G, hr, hF, hG⟩ := h
  exact pool_Blanks_spec hr
theorem pLast {A S : Nat} {w : World} {M : PLoc} {P : Pool} {c : Chip} (h : PAt A S w M P c) :
    CallsR prog K.pool_Pool_Last #[.pointer (some ⟨M.q, 0, none⟩)] w fun v w' => v = .int .u64 (P.last : Nat) ∧ w' = w := by
  obtain ⟨L, G, hr, hF, hG⟩ := h
  exact pool_Last_spec hr
theorem pChip {A S : Nat} {w : World} {M : PLoc} {P : Pool} {c : Chip} (h : PAt A S w M P c) :
    CallsR prog K.pool_Pool_Chip #[.pointer (some ⟨M.q, 0, none⟩)] w fun v w' => v = .pointer (some ⟨M.p, 0, none⟩) ∧ w' = w := by
  obtain ⟨L, G, hr, hF, hG⟩ := h
  exact pool_Chip_spec hr
/-- a row of taken blocks, of new memory -/
def TakenAt (w w' : World) (v : Value) (l : List Taken) : Prop := ∃ a cap, v = .slice a l.length cap ∧ OwnAt w' a l.length cap T.api_Taken 5 (l.flatMap Taken.vals) ∧ Fresh w a
theorem pTaken {A S : Nat} {w : World} {M : PLoc} {P : Pool} {c : Chip} (h : PAt A S w M P c) (hnb : c.nb < 20) {l : List Taken} (hl : takenPool P c = l) :
    CallsR prog K.pool_Pool_Taken #[.pointer (some ⟨M.q, 0, none⟩)] w fun v w' => Ext w w' ∧ TakenAt w w' v l := by
  subst hl
  obtain ⟨L, G, hr, hF, hG⟩ := h
  exact pool_Taken_spec hr hnb
theorem rTaken {A S : Nat} {w : World} {p : Nat} {c : Chip} (h : CAt A S w p c) :
    CallsR prog K.carrackref04_Taken #[.pointer (some ⟨p, 0, none⟩)] w fun v w' => Ext w w' ∧ TakenAt w w' v (refTaken c) := by
  obtain ⟨L, G, hr, hF, hG⟩ := h
  exact carrackref04_Taken_spec hr
theorem rBlanks {A S : Nat} {w : World} {p : Nat} {c : Chip} (h : CAt A S w p c) :
    CallsR prog K.carrackref04_Blanks #[.pointer (some ⟨p, 0, none⟩)] w fun v w' => v = .int .i64 (refBlanks c : Nat) ∧ Ext w w' := by
  obtain ⟨L, G, hr, hF, hG⟩ := h
  exact carrackref04_Blanks_spec hr
theorem rLast {A S : Nat} {w : World} {p : Nat} {c : Chip} (h : CAt A S w p c) :
    CallsR prog K.carrackref04_Last #[.pointer (some ⟨p, 0, none⟩)] w fun v w' => v = .int .u64 (refLast c : Nat) ∧ Ext w w' := by
  obtain ⟨L, G, hr, hF, hG⟩ := h
  exact carrackref04_Last_spec hr
theorem rHead {A S : Nat} {w : World} {p : Nat} {c : Chip} (h : CAt A S w p c) (i : Int) :
    CallsR prog K.carrackref04_Head #[.pointer (some ⟨p, 0, none⟩), .int .i64 i] w fun v w' => Ext w w' ∧ v = .tuple #[headV (refHead c i).1, .bool (refHead c i).2] := by
  obtain ⟨L, G, hr, hF, hG⟩ := h
  exact carrackref04_Head_spec hr i
theorem cBad {A S : Nat} {w : World} {p : Nat} {c : Chip} (h : CAt A S w p c) (i : Int) :
    CallsR prog K.nand_Chip_Bad #[.pointer (some ⟨p, 0, none⟩), .int .i64 i] w fun v w' => v = .bool (decide (0 ≤ i) && c.isBad i.toNat) ∧ w' = w := by
  obtain ⟨L, G, hr, hF, hG⟩ := h
  exact nand_Bad_spec hr i

theorem takePool_geo (P : Pool) (c : Chip) (kind : UInt8) (era : Nat) : c.SameGeo (takePool P c kind era).chip := by
  have go : ∀ (ks : List Nat) (P : Pool) (c : Chip), c.SameGeo (takeGo kind era P c ks).chip := by
    intro ks
    induction ks with
    | nil => intro P c; exact .refl _
    | cons k ks ih =>
      intro P c
      unfold takeGo
      split
      · exact ih P c
      · split
        · exact tryBlk_geo _ _ _ _ _
        · split
          · exact tryBlk_geo _ _ _ _ _
          · exact (tryBlk_geo P c _ kind era).trans (ih _ _)
  unfold takePool
  split
  · exact .refl _
  · split
    · exact .refl _
    · exact go _ _ _
theorem freePool_geo (P : Pool) (c : Chip) (i : Int) : c.SameGeo (freePool P c i).2.1 := by
  unfold freePool
  split
  · exact .refl _
  · exact Chip.erase_geo _ _

theorem works_of {c0 : Chip} {P0 : Pool} {t1 t2 t3 : TakeR} {f1 f2 : Pool × Chip × Nat} {l : List Taken} (hc0 : newChip 8 4 128 0 = c0) (hP0 : scanPool c0 = P0) (h1 : takePool P0 c0 1 1 = t1) (h2 : takePool t1.pool t1.chip 2 1 = t2) (h3 : freePool t2.pool t2.chip 0 = f1) (h4 : freePool f1.1 f1.2.1 0 = f2)
    (h5 : takenPool f2.1 f2.2.1 = l) (h6 : takePool f2.1 f2.2.1 1 1 = t3) (m0 : c0.dead = false) (m1 : blanksPool P0 c0 = 8) (m2 : t1.block = 0) (m3 : t1.err = 0) (m4 : t2.block = 1) (m5 : t2.err = 0) (m6 : f1.2.2 = 0) (m7 : f2.2.2 = 12) (m8 : l = [⟨1, ⟨2, 1, 2⟩, false⟩]) (m9 : t3.block = 2) (m10 : t3.err = 0) (w : World) :
    CallsR prog K.carracklaw04_works #[] w fun v w' => v = .bool true ∧ Ext w w' := by
  apply carracklaw04_works.sh
  refine (cNew w (A := w.heap.size) (nb := 8) (np := 4) (sz := 128) (sp := 0) (Nat.le_refl _) (by omega) (by omega) (by omega) (by omega) (by omega) (by omega) (by omega)).mono ?_
  rintro _ w₁ ⟨he1, p, rfl, hc1⟩
  rw [hc0] at hc1
  refine ⟨_, _, rfl, ?_⟩
  refine (cScan hc1 he1.size (Nat.le_refl _)).mono ?_
  rintro _ w₂ ⟨he2, hv⟩
  rw [if_neg (by rw [m0]; simp), hP0] at hv
  obtain ⟨M, hMp, rfl, hp2⟩ := hv
  have e2 : Ext w w₂ := he1.trans he2
  refine ⟨_, _, rfl, ?_⟩
  refine (pBlanks hp2).mono ?_
  rintro _ w₃ ⟨rfl, he3⟩
  have e3 := e2.trans he3
  have hp3 := hp2.ext he3
  have nb0 : c0.nb = 8 := by rw [← hc0]; rfl
  refine ⟨_, rfl, ?_⟩
  refine (pTake (kind := 1) (era := 1) hp3 (by omega) h1).mono ?_
  rintro _ w₄ ⟨rfl, hu4, hp4⟩
  have e4 : Ext w w₄ := Upd.beyond e3 hu4 (fun x hx => hx.1)
  refine ⟨_, _, rfl, ?_⟩
  refine (pTake (kind := 2) (era := 1) hp4 (by omega) h2).mono ?_
  rintro _ w₅ ⟨rfl, hu5, hp5⟩
  have e5 : Ext w w₅ := Upd.beyond e4 hu5 (fun x hx => hx.1)
  refine ⟨_, _, rfl, ?_⟩
  refine (pFree hp5 0 h3).mono ?_
  rintro _ w₆ ⟨rfl, hu6, hp6⟩
  have e6 : Ext w w₆ := Upd.beyond e5 hu6 (fun x hx => hx.1)
  refine ⟨_, rfl, ?_⟩
  refine (pFree hp6 0 h4).mono ?_
  rintro _ w₇ ⟨rfl, hu7, hp7⟩
  have e7 : Ext w w₇ := Upd.beyond e6 hu7 (fun x hx => hx.1)
  refine ⟨_, rfl, ?_⟩
  have hgeo : f2.2.1.nb = 8 := by
    have g1 := takePool_geo P0 c0 1 1
    rw [h1] at g1
    have g2 := takePool_geo t1.pool t1.chip 2 1
    rw [h2] at g2
    have g3 := freePool_geo t2.pool t2.chip 0
    rw [h3] at g3
    have g4 := freePool_geo f1.1 f1.2.1 0
    rw [h4] at g4
    have := (((g1.trans g2).trans g3).trans g4).1
    rw [this, nb0]
  refine (pTaken hp7 (by rw [hgeo]; omega) h5).mono ?_
  rintro _ w₈ ⟨he8, a, cap, rfl, ho8, hf8⟩
  have e8 := e7.trans he8
  refine ⟨_, _, _, rfl, ?_⟩
  refine (pTake (kind := 1) (era := 1) (hp7.ext he8) (by omega) h6).mono ?_
  rintro _ w₉ ⟨rfl, hu9, hp9⟩
  have e9 : Ext w w₉ := Upd.beyond e8 hu9 (fun x hx => hx.1)
  refine ⟨_, _, rfl, ?_⟩
  rw [m1, m2, m3, m4, m5, m6, m7]
  rw [m8] at ho8 ⊢
  have hs27 : w₂.heap.size ≤ w₇.heap.size := by
    have := he3.size
    have := hu4.size
    have := hu5.size
    have := hu6.size
    have := hu7.size
    omega
  have hrow9 : RowAt w₉ a (([⟨1, ⟨2, 1, 2⟩, false⟩] : List Taken).flatMap Taken.vals) := RowAt.upd ho8.row hu9 (fun q hq hb => by
    have := hf8 q hq
    have := hb.2
    omega)
  refine br_eq (fun _ => br_eq (fun _ => br_eq (fun _ => br_eq (fun _ => br_eq (fun _ => br_eq (fun _ => br_eq (fun _ => br_eq (fun _ => br_eq (fun _ => ?_) fun h => (h rfl).elim) fun h => (h rfl).elim) fun h => (h rfl).elim) fun h => (h rfl).elim) fun h => (h rfl).elim) fun h => (h rfl).elim) fun h => (h rfl).elim) fun h => (h rfl).elim) fun h => (h rfl).elim
  refine idx_flat (f := Taken.vals) (i := 0) Taken.vals_length (by omega) hrow9 rfl (by simp) fun b o hab hr => ?_
  refine ⟨1, 2, 1, 2, false, RowAt.cells hr, ?_⟩
  rw [m9, m10]
  exact ⟨rfl, e9⟩

theorem carracklaw04_works_spec (w : World) : CallsR prog K.carracklaw04_works #[] w fun v w' => v = .bool true ∧ Ext w w' := by
  have hM := worksM_true
  simp only [worksM, Bool.and_eq_true, beq_iff_eq, decide_eq_true_eq] at hM
  obtain ⟨⟨⟨⟨⟨⟨⟨⟨⟨⟨m0, m1⟩, m2⟩, m3⟩, m4⟩, m5⟩, m6⟩, m7⟩, m8⟩, m9⟩, m10⟩ := hM
  exact works_of rfl rfl (t1 := wT1) (by rfl) (t2 := wT2) (by rfl) (f1 := wF1) (by rfl) (f2 := wF2) (by rfl) (l := wL) (by rfl) (t3 := wT3) (by rfl) m0 m1 m2 m3 m4 m5 m6 m7 m8 m9 m10 w

end Go.Den
end

section
set_option linter.unusedVariables false
set_option linter.unusedSimpArgs false
namespace Go.Den

def bit (x : UInt8) (k : Nat) : Bool := x.toBitVec.getLsbD k
theorem bit_nat (x : UInt8) (k : Nat) : bit x k = x.toNat.testBit k := rfl
theorem bit_div (x : UInt8) (k : Nat) : (x.toNat / 2 ^ k % 2 == 0) = !bit x k := by
  rw [bit_nat, Nat.testBit_eq_decide_div_mod_eq]
  have : x.toNat / 2 ^ k % 2 = 0 ∨ x.toNat / 2 ^ k % 2 = 1 := by omega
  rcases this with h | h <;> rw [h] <;> rfl
theorem bit_high (x : UInt8) {k : Nat} (h : 8 ≤ k) : bit x k = false := by
  unfold bit
  exact BitVec.getLsbD_of_ge _ _ h
theorem bit_ext {x y : UInt8} (h : ∀ k, k < 8 → bit x k = bit y k) : x = y := by
  have : x.toBitVec = y.toBitVec := BitVec.eq_of_getLsbD_eq fun k hk => h k hk
  exact UInt8.toBitVec_inj.1 this
theorem zeros8_bits (x : UInt8) : zeros8 x = ((List.range 8).filter fun k => !bit x k).length := by
  unfold zeros8
  congr 2
  funext k
  exact bit_div x k
theorem filter_le {α : Type} {p q : α → Bool} : ∀ {l : List α}, (∀ a ∈ l, p a = true → q a = true) → (l.filter p).length ≤ (l.filter q).length ∧ ((l.filter p).length = (l.filter q).length → ∀ a ∈ l, q a = true → p a = true)
  | [], _ => by simp
  | a :: l, h => by
    obtain ⟨h1, h2⟩ := filter_le (l := l) fun b hb => h b (by simp [hb])
    have ha := h a (by simp)
    simp only [List.filter_cons]
    cases hp : p a with
    | true =>
      have hq := ha hp
      simp only [hq, if_true, List.length_cons]
      refine ⟨by omega, fun he b hb hqb => ?_⟩
      rcases List.mem_cons.1 hb with rfl | hb
      · exact hp
      · exact h2 (by omega) b hb hqb
    | false =>
      cases hq : q a with
      | true =>
        simp only [Bool.false_eq_true, if_false, if_true, List.length_cons]
        exact ⟨by omega, fun he => by omega⟩
      | false =>
        simp only [Bool.false_eq_true, if_false]
        refine ⟨h1, fun he b hb hqb => ?_⟩
        rcases List.mem_cons.1 hb with rfl | hb
        · rw [hq] at hqb; cases hqb
        · exact h2 he b hb hqb

/-- y's bits are bits of x -/
def sub8 (y x : UInt8) : Prop := ∀ k, bit y k = true → bit x k = true
theorem sub8_zeros {y x : UInt8} (h : sub8 y x) : zeros8 x ≤ zeros8 y ∧ (zeros8 x = zeros8 y → x = y) := by
  rw [zeros8_bits, zeros8_bits]
  obtain ⟨h1, h2⟩ := filter_le (p := fun k => !bit x k) (q := fun k => !bit y k) (l := List.range 8) (fun k _ hk => by
    cases hy : bit y k with
    | false => rfl
    | true => rw [h k hy] at hk; cases hk)
  refine ⟨h1, fun he => bit_ext fun k hk => ?_⟩
  have := h2 he k (by simpa using hk)
  cases hy : bit y k with
  | true => exact h k hy
  | false =>
    rw [hy] at this
    simpa using this
theorem sub8_le {y x : UInt8} (h : sub8 y x) : y.toNat ≤ x.toNat := by
  have : y.toNat &&& x.toNat = y.toNat := by
    apply Nat.eq_of_testBit_eq
    intro k
    rw [Nat.testBit_and]
    have := h k
    rw [bit_nat, bit_nat] at this
    cases hy : y.toNat.testBit k with
    | false => rfl
    | true => rw [this hy]; rfl
  rw [← this]
  exact Nat.and_le_right
theorem sub8_refl (x : UInt8) : sub8 x x := fun _ h => h
theorem sub8_trans {x y z : UInt8} (h : sub8 x y) (k : sub8 y z) : sub8 x z := fun i hi => k i (h i hi)
theorem bit_mix (m o n : UInt8) {k : Nat} (hk : k < 8) : bit (mix m o n) k = ((bit o k && !bit m k) || (bit n k && bit m k)) := by
  unfold bit mix
  rw [UInt8.toBitVec_or, UInt8.toBitVec_and, UInt8.toBitVec_and, UInt8.toBitVec_not, BitVec.getLsbD_or, BitVec.getLsbD_and, BitVec.getLsbD_and, BitVec.getLsbD_not]
  simp [hk]
theorem bit_255 {k : Nat} (hk : k < 8) : bit 255 k = true := by
  match k, hk with
  | 0, _ | 1, _ | 2, _ | 3, _ | 4, _ | 5, _ | 6, _ | 7, _ => rfl
theorem sub8_erase (m o : UInt8) : sub8 o (mix m o 255) := by
  intro k hk
  by_cases h8 : k < 8
  · rw [bit_mix _ _ _ h8, hk, bit_255 h8]
    cases bit m k <;> rfl
  · rw [bit_high _ (by omega)] at hk; cases hk
theorem sub8_write (m n : UInt8) : sub8 n (mix m 255 n) := by
  intro k hk
  by_cases h8 : k < 8
  · rw [bit_mix _ _ _ h8, hk, bit_255 h8]
    cases bit m k <;> rfl
  · rw [bit_high _ (by omega)] at hk; cases hk
theorem mix_full (o n : UInt8) : mix 255 o n = n := by
  apply bit_ext
  intro k hk
  rw [bit_mix _ _ _ hk, bit_255 hk]
  simp

/-- bit by bit, of lists -/
def SubL (Q X : List UInt8) : Prop := Q.length = X.length ∧ ∀ i, i < Q.length → sub8 (Q.getD i 0) (X.getD i 0)
theorem SubL.refl (Q : List UInt8) : SubL Q Q := ⟨rfl, fun _ _ => sub8_refl _⟩
theorem SubL.trans {A B C : List UInt8} (h : SubL A B) (k : SubL B C) : SubL A C := ⟨h.1.trans k.1, fun i hi => sub8_trans (h.2 i hi) (k.2 i (by rw [← h.1]; exact hi))⟩
theorem SubL.cons {y x : UInt8} {ys xs : List UInt8} (h : SubL (y :: ys) (x :: xs)) : sub8 y x ∧ SubL ys xs := by
  obtain ⟨hl, hb⟩ := h
  refine ⟨hb 0 (by simp), by simpa using hl, fun i hi => ?_⟩
  exact hb (i + 1) (by simpa using hi)
theorem SubL.take {A B : List UInt8} (h : SubL A B) (n : Nat) : SubL (A.take n) (B.take n) := by
  refine ⟨by simp [h.1], fun i hi => ?_⟩
  have hi' : i < A.length ∧ i < n := by simp at hi; omega
  have hb := h.2 i hi'.1
  have hl := h.1
  simpa [List.getD, List.getElem?_take, hi'.2] using hb
theorem SubL.drop {A B : List UInt8} (h : SubL A B) (n : Nat) : SubL (A.drop n) (B.drop n) := by
  refine ⟨by simp [h.1], fun i hi => ?_⟩
  have hb := h.2 (n + i) (by simp at hi; omega)
  simpa [List.getD] using hb
theorem SubL.nts : ∀ {Q X : List UInt8}, SubL Q X → noughts X ≤ noughts Q ∧ (noughts X = noughts Q → X = Q)
  | [], [], _ => ⟨Nat.le_refl _, fun _ => rfl⟩
  | [], _ :: _, h => by have := h.1; simp at this
  | _ :: _, [], h => by have := h.1; simp at this
  | y :: ys, x :: xs, h => by
    obtain ⟨h1, h2⟩ := h.cons
    obtain ⟨a1, a2⟩ := sub8_zeros h1
    obtain ⟨b1, b2⟩ := SubL.nts h2
    have e1 : noughts (x :: xs) = zeros8 x + noughts xs := by simp [Go.Den.noughts]
    have e2 : noughts (y :: ys) = zeros8 y + noughts ys := by simp [Go.Den.noughts]
    rw [e1, e2]
    refine ⟨by omega, fun he => ?_⟩
    rw [a2 (by omega), b2 (by omega)]
theorem SubL.fle : ∀ {Q X : List UInt8}, SubL Q X → fromLE Q ≤ fromLE X
  | [], [], _ => Nat.le_refl _
  | [], _ :: _, h => by have := h.1; simp at this
  | _ :: _, [], h => by have := h.1; simp at this
  | y :: ys, x :: xs, h => by
    obtain ⟨h1, h2⟩ := h.cons
    have a := sub8_le h1
    have b := SubL.fle h2
    simp only [Go.Den.fromLE]
    omega
theorem SubL.antisymm {A B : List UInt8} (h : SubL A B) (k : SubL B A) : A = B := by
  have h1 := h.nts
  have h2 := k.nts
  exact (h1.2 (by omega)).symm

/-- bytes that tell their noughts -/
def Sound (Q : List UInt8) : Prop := 2 ≤ Q.length ∧ fromLE (Q.take 2) = noughts (Q.drop 2)
/-- bytes that have but bits too many -/
def Safe (X : List UInt8) : Prop := ∃ Q, Sound Q ∧ SubL Q X
theorem berger {Q X : List UInt8} (h : SubL Q X) (hq : Sound Q) (hx : Sound X) : X = Q := by
  have h1 := (h.drop 2).nts
  have h2 := (h.take 2).fle
  have e1 := hq.2
  have e2 := hx.2
  have hd : X.drop 2 = Q.drop 2 := h1.2 (by omega)
  have hf : fromLE (X.take 2) = fromLE (Q.take 2) := by rw [e1, e2, hd]
  have hl : (X.take 2).length = (Q.take 2).length := by simp [h.1]
  have ht : X.take 2 = Q.take 2 := by
    have a := leB_fromLE (X.take 2)
    have b := leB_fromLE (Q.take 2)
    rw [hf, hl, b] at a
    exact a.symm
  rw [← List.take_append_drop 2 X, ht, hd, List.take_append_drop]
theorem Safe.up {X Y : List UInt8} (h : Safe X) (k : SubL X Y) : Safe Y := by
  obtain ⟨Q, hq, hs⟩ := h
  exact ⟨Q, hq, hs.trans k⟩
theorem Safe.same {X Y : List UInt8} (h : Safe X) (k : SubL X Y) (hy : Sound Y) : Y = X := by
  obtain ⟨Q, hq, hs⟩ := h
  have e := berger (hs.trans k) hq hy
  subst e
  exact SubL.antisymm hs k
theorem getHead_sound {b : List UInt8} (h : (getHead b).2 = 0) : Sound b := by
  have hp : (getPage b).2.2 = 0 := by
    unfold getHead at h
    split at h
    · exact absurd h (by assumption)
    · rename_i hc; exact Classical.byContradiction hc
  unfold getPage at hp
  split at hp
  · cases hp
  · rename_i hs
    split at hp
    · cases hp
    · split at hp
      · cases hp
      · rename_i hn
        have hs' : isSize b.length = true := by simpa using hs
        simp [isSize] at hs'
        exact ⟨by omega, Classical.byContradiction hn⟩
theorem pageOf_sound {size : Nat} {kind : UInt8} {body : List UInt8} (hb : body.length + 5 ≤ size) (hs : size ≤ 8000) : Sound (pageOf size kind body) := by
  have hl := pageOf_length size kind body hb
  have hrl := pageRest_length size kind body hb
  have hn := noughts_le (pageRest size kind body)
  have h2 := leB_length 2 (noughts (pageRest size kind body))
  have e : (256 : Nat) ^ 2 = 65536 := by decide
  refine ⟨by omega, ?_⟩
  unfold pageOf
  rw [List.take_append_of_le_length (by omega), List.take_of_length_le (by omega), List.drop_append_of_le_length (by omega), List.drop_of_length_le (by omega), List.nil_append]
  exact fromLE_leB 2 _ (by omega)

/-! ### What a hit leaves -/
theorem mixL_getD (h : Option Hit) (old new : List UInt8) {i : Nat} (hi : i < old.length) : (mixL h old new).getD i 0 = mix (maskAt h i) (old.getD i 0) (new.getD i 0) := by
  simp [mixL, List.getD, hi]
theorem mixL_none (old new : List UInt8) (hl : new.length = old.length) : mixL none old new = new := by
  apply List.ext_getElem
  · simp [mixL_length, hl]
  · intro i h1 h2
    simp only [mixL, List.getElem_map, List.getElem_range, maskAt, mix_full]
    simp [List.getD, h2]
theorem mixL_erase (h : Option Hit) (old : List UInt8) (n : Nat) (hn : old.length ≤ n) : SubL old (mixL h old (List.replicate n 255)) := by
  refine ⟨(mixL_length _ _ _).symm, fun i hi => ?_⟩
  rw [mixL_getD _ _ _ hi]
  have : (List.replicate n (255 : UInt8)).getD i 0 = 255 := by simp [List.getD, show i < n by omega]
  rw [this]
  exact sub8_erase _ _
theorem mixL_write (h : Option Hit) (n : Nat) (new : List UInt8) (hl : new.length = n) : SubL new (mixL h (List.replicate n 255) new) := by
  refine ⟨by rw [mixL_length]; simp [hl], fun i hi => ?_⟩
  rw [mixL_getD _ _ _ (by simp; omega)]
  have : (List.replicate n (255 : UInt8)).getD i 0 = 255 := by simp [List.getD, show i < n by omega]
  rw [this]
  exact sub8_write _ _

end Go.Den
end

section
set_option linter.unusedVariables false
set_option linter.unusedSimpArgs false
namespace Go.Den

theorem isBlank_replicate (n : Nat) : isBlank (List.replicate n 255) = true := by simp [isBlank]
theorem getPage_pageOf {size : Nat} {kind : UInt8} {body : List UInt8} (hs : isSize size = true) (hk1 : ¬ kind < 1) (hk7 : ¬ kind > 7) (hb : body.length + 5 ≤ size) : getPage (pageOf size kind body) = (kind, body, 0) := by
  have hs' := hs
  simp [isSize] at hs'
  have hlen := pageOf_length size kind body hb
  have hrl := pageRest_length size kind body hb
  have hn := noughts_le (pageRest size kind body)
  have h2 := leB_length 2 (noughts (pageRest size kind body))
  have h3 := leB_length 2 body.length
  have e256 : (256 : Nat) ^ 2 = 65536 := by decide
  obtain ⟨n0, n1, hN⟩ : ∃ n0 n1, leB (noughts (pageRest size kind body)) 2 = [n0, n1] := ⟨_, _, rfl⟩
  obtain ⟨m0, m1, hM⟩ : ∃ m0 m1, leB body.length 2 = [m0, m1] := ⟨_, _, rfl⟩
  have hp : pageOf size kind body = n0 :: n1 :: kind :: m0 :: m1 :: (body ++ List.replicate (size - 5 - body.length) 255) := by
    unfold pageOf
    rw [hN]
    unfold pageRest
    rw [hM]
    simp
  have hr : pageRest size kind body = kind :: m0 :: m1 :: (body ++ List.replicate (size - 5 - body.length) 255) := by
    unfold pageRest
    rw [hM]
    simp
  have f1 : fromLE [n0, n1] = noughts (pageRest size kind body) := by rw [← hN]; exact fromLE_leB 2 _ (by omega)
  have f2 : fromLE [m0, m1] = body.length := by rw [← hM]; exact fromLE_leB 2 _ (by omega)
  have hkb : kind ≠ 255 := fun e => hk7 (by rw [e]; decide)
  have hnb : isBlank (pageOf size kind body) = false := by
    rw [hp]
    simp [isBlank, hkb]
  unfold getPage
  rw [hlen, if_neg (by rw [hs]; simp), if_neg (by rw [hnb]; simp)]
  have d2 : (pageOf size kind body).drop 2 = pageRest size kind body := by rw [hp, hr]; rfl
  have t2 : (pageOf size kind body).take 2 = [n0, n1] := by rw [hp]; rfl
  have g2 : (pageOf size kind body).getD 2 0 = kind := by rw [hp]; rfl
  have t3 : ((pageOf size kind body).drop 3).take 2 = [m0, m1] := by rw [hp]; rfl
  rw [d2, t2, f1, if_neg (by simp), g2, t3, f2]
  have d5 : (pageOf size kind body).drop (5 + body.length) = List.replicate (size - 5 - body.length) 255 := by
    rw [hp, ← List.drop_drop]
    show (body ++ List.replicate (size - 5 - body.length) 255).drop body.length = _
    simp
  have t5 : ((pageOf size kind body).take (5 + body.length)).drop 5 = body := by
    rw [hp, Nat.add_comm]
    show ((n0 :: n1 :: kind :: m0 :: m1 :: (body ++ List.replicate (size - 5 - body.length) 255)).take (body.length + 5)).drop 5 = body
    simp
  rw [d5, t5, isBlank_replicate, if_neg]
  rintro (h | h | h | h)
  · exact hk1 h
  · exact hk7 h
  · omega
  · cases h

theorem getHead_pageOf {size : Nat} {h : Head} (hs : isSize size = true) (ho : h.Ok) (hm : h.may = true) : getHead (pageOf size 1 h.body) = (h, 0) := by
  have hbl := h.body_length
  have hsz := putHead_size hs
  have hg := getPage_pageOf (kind := 1) (body := h.body) hs (by decide) (by decide) (by omega)
  unfold getHead
  rw [hg]
  simp only []
  rw [if_neg (by simp), if_neg (by rw [hbl]; simp)]
  have e4 : (256 : Nat) ^ 4 = 4294967296 := by decide
  have e8 : (256 : Nat) ^ 8 = 18446744073709551616 := by decide
  have h4 := leB_length 4 h.era
  have h8 := leB_length 8 h.seq
  have b0 : h.body.getD 0 0 = h.kind := rfl
  have b1 : (h.body.drop 1).take 4 = leB h.era 4 := by
    show (leB h.era 4 ++ leB h.seq 8).take 4 = _
    rw [List.take_append_of_le_length (by omega), List.take_of_length_le (by omega)]
  have b5 : (h.body.drop 5).take 8 = leB h.seq 8 := by
    show ((leB h.era 4 ++ leB h.seq 8).drop 4).take 8 = _
    rw [List.drop_append_of_le_length (by omega), List.drop_of_length_le (by omega), List.nil_append, List.take_of_length_le (by omega)]
  have f1 : fromLE (leB h.era 4) = h.era := fromLE_leB 4 _ (by have := ho.1; omega)
  have f2 : fromLE (leB h.seq 8) = h.seq := fromLE_leB 8 _ (by have := ho.2; omega)
  rw [b0, b1, b5, f1, f2]
  have e : (Head.mk h.kind h.era h.seq) = h := rfl
  rw [e, hm]
  rfl

end Go.Den
end

section
set_option linter.unusedVariables false
set_option linter.unusedSimpArgs false
namespace Go.Den

/-! ### Deeds -/
structure Deed (c c' : Chip) (i e : Nat) : Prop where
  geo : c.SameGeo c'
  ok : c'.Ok
  blk : ∀ j, j ≠ i → c'.blk j = c.blk j
  bad : ∀ j, j ≠ i → c'.isBad j = c.isBad j
  cases : (e = 0 ∧ c'.dead = c.dead ∧ c'.bad = c.bad) ∨ (e = 9 ∧ c'.dead = c.dead ∧ c'.isBad i = true) ∨ (e = 10 ∧ c'.dead = true ∧ c'.bad = c.bad)
  calm : (∀ t ∈ c.hits, t.fails = false) → e ≠ 9 ∧ (∀ t ∈ c'.hits, t.fails = false) ∧ c'.bad = c.bad
  quiet : c.hits = [] → e = 0 ∧ c'.hits = []

theorem strike_same (c : Chip) : c.strike.1.nb = c.nb ∧ c.strike.1.np = c.np ∧ c.strike.1.sz = c.sz ∧ c.strike.1.blocks = c.blocks ∧ c.strike.1.bad = c.bad ∧ c.strike.1.dead = c.dead ∧ (∀ t ∈ c.strike.1.hits, t ∈ c.hits) ∧ (∀ t, c.strike.2 = some t → t ∈ c.hits) ∧ (c.hits = [] → c.strike.2 = none ∧ c.strike.1.hits = []) := by
  unfold Chip.strike
  split
  · rename_i h
    exact ⟨rfl, rfl, rfl, rfl, rfl, rfl, (fun t ht => ht), (fun t ht => by cases ht), fun _ => ⟨rfl, h⟩⟩
  · rename_i t r h
    split
    · exact ⟨rfl, rfl, rfl, rfl, rfl, rfl, (fun t ht => ht), (fun t ht => by cases ht), fun h' => by rw [h] at h'; cases h'⟩
    · exact ⟨rfl, rfl, rfl, rfl, rfl, rfl, (fun t ht => by rw [h]; simp [ht]), (fun t ht => by cases ht; rw [h]; simp), fun h' => by rw [h] at h'; cases h'⟩

theorem getD_set_ne {α : Type} {l : List α} {i j : Nat} {x d : α} (h : j ≠ i) : (l.set i x).getD j d = l.getD j d := by
  simp [List.getD, List.getElem?_set_ne (Ne.symm h)]
theorem getD_set_eq {α : Type} {l : List α} {i : Nat} {x d : α} (h : i < l.length) : (l.set i x).getD i d = x := by
  simp [List.getD, h]

/-- what a deed makes of a block -/
def madeBlk (c : Chip) (b off n : Nat) (new : List UInt8) : List UInt8 := (c.blk b).take off ++ mixL c.strike.2 (((c.blk b).drop off).take n) new ++ (c.blk b).drop (off + n)
theorem done_deed {c : Chip} (h : c.Ok) {b off n : Nat} (hb : b < c.nb) (ho : off + n ≤ c.np * c.sz) (new : List UInt8) :
    Deed c (c.done b off n new).1 b (c.done b off n new).2 ∧ (c.done b off n new).1.blk b = madeBlk c b off n new ∧ (c.done b off n new).1.dead = (if (c.done b off n new).2 = 10 then true else c.dead) := by
  obtain ⟨s1, s2, s3, s4, s5, s6, s7, s8, s9⟩ := strike_same c
  have hbl := h.blk_len hb
  have hml : (madeBlk c b off n new).length = c.np * c.sz := by simp [madeBlk, mixL_length]; omega
  have hbb : b < c.blocks.length := by rw [h.bl]; exact hb
  have hbd : b < c.bad.length := by rw [h.bad]; exact hb
  have hdone : c.done b off n new = (c.strike.1.setBlk b (madeBlk c b off n new)).finish b c.strike.2 := rfl
  -- the chip ahead of the hit's end
  have hmid : ∀ (bad : List Bool) (dead : Bool), bad.length = c.nb → ({ c.strike.1.setBlk b (madeBlk c b off n new) with bad := bad, dead := dead } : Chip).Ok := by
    intro bad dead hl
    refine ⟨by show 8 ≤ c.strike.1.nb; rw [s1]; exact h.nb1, by show c.strike.1.nb ≤ 64; rw [s1]; exact h.nb2, by show 4 ≤ c.strike.1.np; rw [s2]; exact h.np1, by show c.strike.1.np ≤ 32; rw [s2]; exact h.np2, by show 128 ≤ c.strike.1.sz; rw [s3]; exact h.sz1, by show c.strike.1.sz ≤ 256; rw [s3]; exact h.sz2, ?_, ?_, ?_⟩
    · show (c.strike.1.blocks.set b _).length = c.strike.1.nb
      rw [List.length_set, s4, s1]; exact h.bl
    · intro x hx
      have hx' : x ∈ c.strike.1.blocks.set b (madeBlk c b off n new) := hx
      show x.length = c.strike.1.np * c.strike.1.sz
      rw [s2, s3]
      rw [s4] at hx'
      rcases List.mem_or_eq_of_mem_set hx' with hx' | hx'
      · exact h.bl2 x hx'
      · rw [hx']; exact hml
    · show bad.length = c.strike.1.nb
      rw [s1]; exact hl
  have hblk : ∀ (bad : List Bool) (dead : Bool) j, ({ c.strike.1.setBlk b (madeBlk c b off n new) with bad := bad, dead := dead } : Chip).blk j = if j = b then madeBlk c b off n new else c.blk j := by
    intro bad dead j
    show (c.strike.1.blocks.set b _).getD j [] = _
    rw [s4]
    split
    · rename_i e; subst e; exact getD_set_eq hbb
    · rename_i e; exact getD_set_ne e
  rw [hdone]
  cases hh : c.strike.2 with
  | none =>
    have e : (c.strike.1.setBlk b (madeBlk c b off n new)).finish b none = ({ c.strike.1.setBlk b (madeBlk c b off n new) with bad := c.strike.1.bad, dead := c.strike.1.dead }, 0) := rfl
    rw [e]
    refine ⟨⟨⟨s1, s2, s3, (c.strike_geo).2.2.2⟩, hmid _ _ (by rw [s5]; exact h.bad), fun j hj => by rw [hblk, if_neg hj], fun j hj => by show c.strike.1.bad.getD j false = _; rw [s5]; rfl, .inl ⟨rfl, s6, s5⟩, fun hc => ⟨by simp, fun t ht => hc t (s7 t ht), s5⟩, fun hq => ⟨rfl, (s9 hq).2⟩⟩, by rw [hblk, if_pos rfl], ?_⟩
    simp only [if_neg (show ¬ (0 = 10) by omega)]
    exact s6
  | some t =>
    have htm := s8 t hh
    have hnq : ¬ c.hits = [] := fun hq => by rw [(s9 hq).1] at hh; cases hh
    cases hf : t.fails with
    | true =>
      have e : (c.strike.1.setBlk b (madeBlk c b off n new)).finish b (some t) = ({ c.strike.1.setBlk b (madeBlk c b off n new) with bad := c.strike.1.bad.set b true, dead := c.strike.1.dead }, 9) := by
        simp only [Chip.finish, hf, if_true]; rfl
      rw [e]
      refine ⟨⟨⟨s1, s2, s3, (c.strike_geo).2.2.2⟩, hmid _ _ (by rw [List.length_set, s5]; exact h.bad), fun j hj => by rw [hblk, if_neg hj], fun j hj => ?_, .inr (.inl ⟨rfl, s6, ?_⟩), fun hc => ?_, fun hq => absurd hq hnq⟩, by rw [hblk, if_pos rfl], ?_⟩
      · show (c.strike.1.bad.set b true).getD j false = _
        rw [s5]; exact getD_set_ne hj
      · show (c.strike.1.bad.set b true).getD b false = true
        rw [s5]; exact getD_set_eq hbd
      · rw [hc t htm] at hf; cases hf
      · simp only [if_neg (show ¬ (9 = 10) by omega)]; exact s6
    | false =>
      have e : (c.strike.1.setBlk b (madeBlk c b off n new)).finish b (some t) = ({ c.strike.1.setBlk b (madeBlk c b off n new) with bad := c.strike.1.bad, dead := true }, 10) := by
        simp only [Chip.finish, hf]; rfl
      rw [e]
      refine ⟨⟨⟨s1, s2, s3, (c.strike_geo).2.2.2⟩, hmid _ _ (by rw [s5]; exact h.bad), fun j hj => by rw [hblk, if_neg hj], fun j hj => by show c.strike.1.bad.getD j false = _; rw [s5]; rfl, .inr (.inr ⟨rfl, rfl, s5⟩), fun hc => ⟨by simp, fun t ht => hc t (s7 t ht), s5⟩, fun hq => absurd hq hnq⟩, by rw [hblk, if_pos rfl], ?_⟩
      simp only [if_true]

/-! ### Heads, views, the invariant -/
def hd (c : Chip) (i : Nat) : Head × Nat := getHead (c.page i 0)
def isHd (c : Chip) (i : Nat) : Prop := (hd c i).2 = 0
def view (c : Chip) (i : Nat) : Blk := if (hd c i).2 = 0 then ⟨2, (hd c i).1⟩ else if isBlank (c.blk i) then ⟨0, Head.none⟩ else ⟨1, Head.none⟩
theorem lookAt_view (c : Chip) (i : Nat) (old : Blk) : lookAt c i old = if c.dead then old else view c i := rfl
theorem view_what (c : Chip) (i : Nat) : (view c i).what = 2 ↔ isHd c i := by
  unfold view isHd
  split
  · rename_i h; simp [h]
  · rename_i h; split <;> simp [h]
theorem hd_blk {c c' : Chip} (hg : c.SameGeo c') {i : Nat} (h : c'.blk i = c.blk i) : hd c' i = hd c i := by
  unfold hd Chip.page
  rw [h, hg.2.2.1]
theorem view_blk {c c' : Chip} (hg : c.SameGeo c') {i : Nat} (h : c'.blk i = c.blk i) : view c' i = view c i := by
  unfold view
  rw [hd_blk hg h, h]

structure CI (c : Chip) : Prop where
  ok : c.Ok
  safe : ∀ i, i < c.nb → Safe (c.page i 0)
  uniq : ∀ i j, i < c.nb → j < c.nb → i ≠ j → isHd c i → isHd c j → (hd c i).1.seq ≠ (hd c j).1.seq
structure Inv (P : Pool) (c : Chip) : Prop where
  ci : CI c
  len : P.blocks.length = c.nb
  known : c.dead = false → ∀ i, i < c.nb → P.blk i = view c i
  last : ∀ i, i < c.nb → isHd c i → (hd c i).1.seq ≤ P.last

theorem setBlk_blk {P : Pool} {i j : Nat} {b : Blk} (hi : i < P.blocks.length) : (P.setBlk i b).blk j = if j = i then b else P.blk j := by
  show (P.blocks.set i b).getD j Blk.zero = _
  split
  · rename_i e; subst e; exact getD_set_eq hi
  · rename_i e; exact getD_set_ne e

/-- a deed on block i, whose head is then an old one or of a Seq that is new -/
theorem Inv.deed {P P' : Pool} {c c' : Chip} {i e : Nat} (h : Inv P c) (hd0 : c.dead = false) (hi : i < c.nb) (hde : Deed c c' i e) (hs : Safe (c'.page i 0)) (hbl : P'.blocks = (P.relook c' i).blocks) (hl : P.last ≤ P'.last)
    (hnew : isHd c' i → (isHd c i ∧ hd c' i = hd c i) ∨ (P.last < (hd c' i).1.seq ∧ (hd c' i).1.seq ≤ P'.last)) : Inv P' c' := by
  have hnb := hde.geo.1
  have hoth : ∀ j, j ≠ i → hd c' j = hd c j := fun j hj => hd_blk hde.geo (hde.blk j hj)
  have hothH : ∀ j, j ≠ i → (isHd c' j ↔ isHd c j) := fun j hj => by unfold isHd; rw [hoth j hj]
  have hpg : ∀ j, j ≠ i → c'.page j 0 = c.page j 0 := fun j hj => by unfold Chip.page; rw [hde.blk j hj, hde.geo.2.2.1]
  have hil : i < P.blocks.length := by rw [h.len]; exact hi
  refine ⟨⟨hde.ok, fun j hj => ?_, fun j k hj hk hjk h1 h2 => ?_⟩, ?_, fun hd' j hj => ?_, fun j hj h1 => ?_⟩
  · by_cases hji : j = i
    · subst hji; exact hs
    · rw [hpg j hji]; exact h.ci.safe j (by rw [← hnb]; exact hj)
  · rw [hnb] at hj hk
    by_cases hji : j = i
    · subst hji
      have hkj : k ≠ j := fun e => hjk e.symm
      have h2' := (hothH k hkj).1 h2
      rw [hoth k hkj]
      rcases hnew h1 with ⟨ho, he⟩ | ⟨hlt, _⟩
      · rw [he]; exact h.ci.uniq j k hj hk hjk ho h2'
      · have := h.last k hk h2'; omega
    · by_cases hki : k = i
      · subst hki
        have h1' := (hothH j hji).1 h1
        rw [hoth j hji]
        rcases hnew h2 with ⟨ho, he⟩ | ⟨hlt, _⟩
        · rw [he]; exact h.ci.uniq j k hj hk hjk h1' ho
        · have := h.last j hj h1'; omega
      · rw [hoth j hji, hoth k hki]
        exact h.ci.uniq j k hj hk hjk ((hothH j hji).1 h1) ((hothH k hki).1 h2)
  · rw [hbl, hnb]
    show (P.blocks.set i _).length = _
    rw [List.length_set]; exact h.len
  · rw [hnb] at hj
    have : P'.blk j = (P.relook c' i).blk j := by unfold Pool.blk; rw [hbl]
    rw [this]
    unfold Pool.relook
    rw [setBlk_blk hil, lookAt_view]
    by_cases hji : j = i
    · subst hji
      rw [if_pos rfl, if_neg (by rw [hd']; simp)]
    · rw [if_neg hji, h.known hd0 j hj]
      exact (view_blk hde.geo (hde.blk j hji)).symm
  · rw [hnb] at hj
    by_cases hji : j = i
    · subst hji
      rcases hnew h1 with ⟨ho, he⟩ | ⟨_, hle⟩
      · rw [he]; have := h.last j hj ho; omega
      · exact hle
    · rw [hoth j hji]
      have := h.last j hj ((hothH j hji).1 h1)
      omega

end Go.Den
end

section
set_option linter.unusedVariables false
set_option linter.unusedSimpArgs false
namespace Go.Den

theorem done_zero {c : Chip} {b off n : Nat} {new : List UInt8} (h : (c.done b off n new).2 = 0) : c.strike.2 = none := by
  unfold Chip.done Chip.finish at h
  cases hh : c.strike.2 with
  | none => rfl
  | some t =>
    rw [hh] at h
    simp only [] at h
    split at h <;> cases h
theorem isBlank_eq {l : List UInt8} (h : isBlank l = true) : l = List.replicate l.length 255 := by
  refine List.eq_replicate_iff.2 ⟨rfl, fun b hb => ?_⟩
  simp only [isBlank, List.all_eq_true, beq_iff_eq] at h
  exact h b hb
theorem page0 {c : Chip} (i : Nat) : c.page i 0 = (c.blk i).take c.sz := by simp [Chip.page]

theorem erase_done {c : Chip} (h : c.Ok) (hd0 : c.dead = false) {i : Nat} (hi : i < c.nb) (hb : c.isBad i = false) : c.erase i = c.done i 0 (c.np * c.sz) (List.replicate (c.np * c.sz) 255) := by
  unfold Chip.erase
  have := h.np1
  have ha : c.ask i 0 = 0 := ask_ok (k := 0) hd0 hi (by omega)
  rw [if_neg (by omega)]
  simp only [Int.toNat_natCast]
  rw [if_neg (by rw [hb]; simp)]

theorem erase_inv {P : Pool} {c : Chip} (h : Inv P c) (hd0 : c.dead = false) {i : Nat} (hi : i < c.nb) (hb : c.isBad i = false) :
    Deed c (c.erase i).1 i (c.erase i).2 ∧ Inv (P.relook (c.erase i).1 i) (c.erase i).1 ∧ ((c.erase i).2 = 0 → (c.erase i).1.blk i = List.replicate (c.np * c.sz) 255) ∧ (isHd (c.erase i).1 i → isHd c i ∧ hd (c.erase i).1 i = hd c i) := by
  rw [erase_done h.ci.ok hd0 hi hb]
  obtain ⟨hde, hbl, hdd⟩ := done_deed h.ci.ok hi (off := 0) (n := c.np * c.sz) (by omega) (List.replicate (c.np * c.sz) 255)
  have hz := @done_zero c i 0 (c.np * c.sz) (List.replicate (c.np * c.sz) 255)
  generalize hr : c.done i 0 (c.np * c.sz) (List.replicate (c.np * c.sz) 255) = r at *
  have hlen := h.ci.ok.blk_len hi
  have hmb : madeBlk c i 0 (c.np * c.sz) (List.replicate (c.np * c.sz) 255) = mixL c.strike.2 (c.blk i) (List.replicate (c.np * c.sz) 255) := by
    unfold madeBlk
    rw [Nat.zero_add, List.drop_zero, List.take_zero, List.nil_append, List.take_of_length_le (show (c.blk i).length ≤ c.np * c.sz by omega), List.drop_of_length_le (show (c.blk i).length ≤ c.np * c.sz by omega), List.append_nil]
  rw [hmb] at hbl
  have hsub : SubL (c.blk i) (r.1.blk i) := by rw [hbl]; exact mixL_erase _ _ _ (by omega)
  have hsp : SubL (c.page i 0) (r.1.page i 0) := by rw [page0, page0, hde.geo.2.2.1]; exact hsub.take _
  have hsafe := h.ci.safe i hi
  have hkeep : isHd r.1 i → isHd c i ∧ hd r.1 i = hd c i := by
    intro hh
    have e := hsafe.same hsp (getHead_sound hh)
    have : hd r.1 i = hd c i := by unfold hd; rw [e]
    exact ⟨by unfold isHd; rw [← this]; exact hh, this⟩
  refine ⟨hde, h.deed hd0 hi hde (hsafe.up hsp) rfl (Nat.le_refl _) (fun hh => .inl (hkeep hh)), fun h0 => ?_, hkeep⟩
  rw [hbl, hz h0, mixL_none _ _ (by simp; omega)]

theorem view_zero {c : Chip} {i : Nat} (h : (view c i).what = 0) : isBlank (c.blk i) = true := by
  unfold view at h
  split at h
  · cases h
  · split at h
    · assumption
    · cases h
theorem view_one {c : Chip} {i : Nat} (h : (view c i).what ≠ 2) (h1 : (view c i).what ≠ 1) : (view c i).what = 0 := by
  unfold view at h h1 ⊢
  split
  · rename_i hh; rw [if_pos hh] at h; exact absurd rfl h
  · rename_i hh
    rw [if_neg hh] at h1
    split
    · rfl
    · rename_i hb; rw [if_neg hb] at h1; exact absurd rfl h1

theorem write_inv {P : Pool} {c : Chip} (h : Inv P c) (hd0 : c.dead = false) {i : Nat} (hi : i < c.nb) (hb : c.isBad i = false) (hbl : isBlank (c.blk i) = true) {kind : UInt8} {era : Nat} (hk1 : 1 ≤ kind.toNat) (hk3 : kind.toNat ≤ 3) (he1 : 1 ≤ era) (he2 : era < 4294967296) (hl : P.last + 1 < 18446744073709551616) :
    (writeHead P c i kind era).1.last = P.last + 1 ∧ (writeHead P c i kind era).1.turn = P.turn ∧ Deed c (writeHead P c i kind era).2.1 i (writeHead P c i kind era).2.2 ∧ Inv (writeHead P c i kind era).1 (writeHead P c i kind era).2.1 ∧
      ((writeHead P c i kind era).2.2 = 0 → hd (writeHead P c i kind era).2.1 i = (⟨kind, era, P.last + 1⟩, 0)) := by
  have hok := h.ci.ok
  have hlast : P.raise.last = P.last + 1 := Nat.mod_eq_of_lt hl
  have hsz : isSize (c.sz : Int) = true := by
    have := hok.sz1
    have := hok.sz2
    simp [isSize]; omega
  have hm : (Head.mk kind era (P.last + 1)).may = true := by
    simp [Head.may]; omega
  have hHok : (Head.mk kind era (P.last + 1)).Ok := ⟨he2, hl⟩
  have hput : putHead c.sz ⟨kind, era, P.raise.last⟩ = (pageOf c.sz 1 (Head.mk kind era (P.last + 1)).body, 0) := by
    unfold putHead
    rw [hlast, if_neg (by rw [hm, hsz]; simp)]
    simp
  have hbody := (Head.mk kind era (P.last + 1)).body_length
  have hpl : (pageOf c.sz 1 (Head.mk kind era (P.last + 1)).body).length = c.sz := pageOf_length _ _ _ (by have := hok.sz1; omega)
  have hpg := getHead_pageOf hsz hHok hm
  generalize hpage : pageOf c.sz 1 (Head.mk kind era (P.last + 1)).body = pg at *
  have hprog : c.program i 0 pg = c.done i 0 c.sz pg := by
    have := hok.np1
    have ha : c.ask i 0 = 0 := ask_ok (k := 0) hd0 hi (by omega)
    unfold Chip.program
    rw [if_neg (by omega), if_neg (by omega)]
    simp only [Int.toNat_natCast, tn0, Nat.zero_mul, List.drop_zero]
    rw [if_neg (by rw [hb]; simp), if_neg (by rw [hbl]; simp)]
  have hw : writeHead P c i kind era = (P.raise.relook (c.done i 0 c.sz pg).1 i, (c.done i 0 c.sz pg).1, (c.done i 0 c.sz pg).2) := by
    unfold writeHead
    rw [hput, hprog]
  rw [hw]
  have hfit : c.sz ≤ c.np * c.sz := Nat.le_mul_of_pos_left _ (by have := hok.np1; omega)
  obtain ⟨hde, hblk, hdd⟩ := done_deed hok hi (off := 0) (n := c.sz) (by omega) pg
  have hz := @done_zero c i 0 c.sz pg
  generalize hr : c.done i 0 c.sz pg = r at *
  have hlen := hok.blk_len hi
  have hrep := isBlank_eq hbl
  have htk : (c.blk i).take c.sz = List.replicate c.sz 255 := by rw [hrep, hlen, List.take_replicate, Nat.min_eq_left hfit]
  have hpage0 : r.1.page i 0 = mixL c.strike.2 (List.replicate c.sz 255) pg := by
    rw [page0, hde.geo.2.2.1, hblk]
    unfold madeBlk
    rw [Nat.zero_add, List.drop_zero, htk, List.take_zero, List.nil_append, List.take_append_of_le_length (by simp [mixL_length]), List.take_of_length_le (by simp [mixL_length])]
  have hsub : SubL pg (r.1.page i 0) := by rw [hpage0]; exact mixL_write _ _ _ hpl
  have hsound : Sound pg := by rw [← hpage]; exact pageOf_sound (by have := hok.sz1; omega) (by have := hok.sz2; omega)
  have hnew : isHd r.1 i → hd r.1 i = (⟨kind, era, P.last + 1⟩, 0) := by
    intro hh
    have e := berger hsub hsound (getHead_sound hh)
    unfold hd
    rw [e]; exact hpg
  refine ⟨hlast, rfl, hde, h.deed hd0 hi hde ⟨pg, hsound, hsub⟩ rfl (by show P.last ≤ P.raise.last; omega) (fun hh => .inr ?_), fun h0 => ?_⟩
  · rw [hnew hh]
    show P.last < P.last + 1 ∧ P.last + 1 ≤ P.raise.last
    omega
  · have e : r.1.page i 0 = pg := by rw [hpage0, hz h0, mixL_none _ _ (by simp [hpl])]
    unfold hd
    rw [e]; exact hpg

theorem Deed.trans {c c1 c2 : Chip} {i e : Nat} (h : Deed c c1 i 0) (k : Deed c1 c2 i e) : Deed c c2 i e := by
  obtain ⟨hd1, hb1⟩ : c1.dead = c.dead ∧ c1.bad = c.bad := by
    rcases h.cases with ⟨_, a, b⟩ | ⟨a, _⟩ | ⟨a, _⟩
    · exact ⟨a, b⟩
    · cases a
    · cases a
  refine ⟨h.geo.trans k.geo, k.ok, fun j hj => (k.blk j hj).trans (h.blk j hj), fun j hj => (k.bad j hj).trans (h.bad j hj), ?_, fun hc => ?_, fun hq => k.quiet (h.quiet hq).2⟩
  · rcases k.cases with ⟨a, b, d⟩ | ⟨a, b, d⟩ | ⟨a, b, d⟩
    · exact .inl ⟨a, by rw [b, hd1], by rw [d, hb1]⟩
    · exact .inr (.inl ⟨a, by rw [b, hd1], d⟩)
    · exact .inr (.inr ⟨a, b, by rw [d, hb1]⟩)
  · have h1 := h.calm hc
    have k1 := k.calm h1.2.1
    exact ⟨k1.1, k1.2.1, by rw [k1.2.2, hb1]⟩

structure TryR (P : Pool) (c : Chip) (i : Nat) (kind : UInt8) (era : Nat) (P' : Pool) (c' : Chip) (e : Nat) : Prop where
  deed : Deed c c' i e
  inv : Inv P' c'
  lo : P.last ≤ P'.last
  hi : P'.last ≤ P.last + 1
  turn : P'.turn = P.turn
  ok : e = 0 → hd c' i = (⟨kind, era, P'.last⟩, 0) ∧ P'.last = P.last + 1

theorem try_inv {P : Pool} {c : Chip} (h : Inv P c) (hd0 : c.dead = false) {i : Nat} (hi : i < c.nb) (hb : c.isBad i = false) (hw : (P.blk i).what ≠ 2) {kind : UInt8} {era : Nat} (hk1 : 1 ≤ kind.toNat) (hk3 : kind.toNat ≤ 3) (he1 : 1 ≤ era) (he2 : era < 4294967296) (hl : P.last + 1 < 18446744073709551616) :
    TryR P c i kind era (tryBlk P c i kind era).1 (tryBlk P c i kind era).2.1 (tryBlk P c i kind era).2.2 := by
  have hkn := h.known hd0 i hi
  unfold tryBlk
  split
  · rename_i h1
    obtain ⟨hde, hinv, hz, hk⟩ := erase_inv h hd0 hi hb
    split
    · rename_i hne
      exact ⟨hde, hinv, Nat.le_refl _, Nat.le_succ _, rfl, fun h0 => absurd h0 hne⟩
    · rename_i heq
      have h0 : (c.erase i).2 = 0 := Classical.byContradiction heq
      have hdd : (c.erase i).1.dead = c.dead ∧ (c.erase i).1.bad = c.bad := by
        rcases hde.cases with ⟨_, a, b⟩ | ⟨a, _⟩ | ⟨a, _⟩
        · exact ⟨a, b⟩
        · omega
        · omega
      rw [h0] at hde
      have hnb := hde.geo.1
      obtain ⟨w1, w2, w3, w4, w5⟩ := write_inv (i := i) hinv (by rw [hdd.1]; exact hd0) (by rw [hnb]; exact hi) (by unfold Chip.isBad; rw [hdd.2]; exact hb) (by rw [hz h0]; exact isBlank_replicate _) hk1 hk3 he1 he2 hl
      refine ⟨hde.trans w3, w4, by rw [w1]; exact Nat.le_succ _, by rw [w1]; exact Nat.le_refl _, w2, fun e => ⟨?_, w1⟩⟩
      rw [w5 e, w1]
  · rename_i h1
    have hbk : isBlank (c.blk i) = true := by
      rw [hkn] at h1 hw
      exact view_zero (view_one hw h1)
    obtain ⟨w1, w2, w3, w4, w5⟩ := write_inv h hd0 hi hb hbk hk1 hk3 he1 he2 hl
    exact ⟨w3, w4, by rw [w1]; exact Nat.le_succ _, by rw [w1]; exact Nat.le_refl _, w2, fun e => ⟨by rw [w5 e, w1], w1⟩⟩

end Go.Den
end

section
set_option linter.unusedVariables false
set_option linter.unusedSimpArgs false
namespace Go.Den

theorem isHd_blk {c c' : Chip} (hg : c.SameGeo c') {i : Nat} (h : c'.blk i = c.blk i) : isHd c' i ↔ isHd c i := by
  unfold isHd
  rw [hd_blk hg h]
theorem Inv.what {P : Pool} {c : Chip} (h : Inv P c) (hd0 : c.dead = false) {i : Nat} (hi : i < c.nb) : (P.blk i).what = 2 ↔ isHd c i := by
  rw [h.known hd0 i hi]; exact view_what c i

structure TakeP (kind : UInt8) (era : Nat) (ks : List Nat) (P : Pool) (c : Chip) (R : TakeR) : Prop where
  inv : Inv R.pool R.chip
  geo : c.SameGeo R.chip
  lo : P.last ≤ R.pool.last
  hi : R.pool.last ≤ P.last + ks.length
  turn : P.turn ≤ c.nb → R.pool.turn ≤ c.nb
  kept : ∀ j, j < c.nb → isHd c j → R.chip.blk j = c.blk j ∧ R.chip.isBad j = c.isBad j
  bads : ∀ j, j < c.nb → c.isBad j = true → R.chip.isBad j = true
  cases : (R.err = 0 ∧ R.chip.dead = false ∧ R.block < c.nb ∧ ¬ isHd c R.block ∧ R.chip.isBad R.block = false ∧ hd R.chip R.block = (⟨kind, era, R.pool.last⟩, 0) ∧ P.last < R.pool.last) ∨
    (R.err = 10 ∧ R.chip.dead = true) ∨ (R.err = 11 ∧ R.chip.dead = false ∧ ∀ k ∈ ks, R.chip.isBad ((P.turn + k) % c.nb) = true ∨ isHd R.chip ((P.turn + k) % c.nb))
  calm : (∀ t ∈ c.hits, t.fails = false) → (∀ t ∈ R.chip.hits, t.fails = false) ∧ R.chip.bad = c.bad ∧ ∃ i0, ∀ j, j ≠ i0 → R.chip.blk j = c.blk j
  quiet : c.hits = [] → R.chip.hits = [] ∧ R.err ≠ 10 ∧ (R.err = 11 → R.chip = c ∧ R.pool = P) ∧ (R.err = 0 → ∀ j, j ≠ R.block → R.chip.blk j = c.blk j ∧ R.chip.isBad j = c.isBad j)

theorem takeGo_inv {kind : UInt8} {era : Nat} (hk1 : 1 ≤ kind.toNat) (hk3 : kind.toNat ≤ 3) (he1 : 1 ≤ era) (he2 : era < 4294967296) : ∀ (ks : List Nat) {P : Pool} {c : Chip}, Inv P c → c.dead = false → P.last + ks.length < 18446744073709551616 → TakeP kind era ks P c (takeGo kind era P c ks)
  | [], P, c, h, hd0, hl => by
    rw [takeGo]
    exact ⟨h, .refl _, Nat.le_refl _, by simp, fun h => h, fun _ _ _ => ⟨rfl, rfl⟩, fun _ _ h => h, .inr (.inr ⟨rfl, hd0, fun k hk => by simp at hk⟩), fun hc => ⟨hc, rfl, 0, fun _ _ => rfl⟩, fun hq => ⟨hq, by simp, fun _ => ⟨rfl, rfl⟩, fun h0 => by cases h0⟩⟩
  | k :: ks, P, c, h, hd0, hl => by
    have hnb := h.ci.ok.nb1
    have hmod : (P.turn + k) % c.nb < c.nb := Nat.mod_lt _ (by omega)
    simp only [List.length_cons] at hl
    rw [takeGo]
    by_cases hcnd : c.isBad ((P.turn + k) % c.nb) = true ∨ (P.blk ((P.turn + k) % c.nb)).what = 2
    · rw [if_pos hcnd]
      have r := takeGo_inv hk1 hk3 he1 he2 ks h hd0 (by omega)
      refine ⟨r.inv, r.geo, r.lo, by have := r.hi; simp; omega, r.turn, r.kept, r.bads, ?_, r.calm, r.quiet⟩
      rcases r.cases with h0 | h10 | ⟨h1, h2, h3⟩
      · exact .inl h0
      · exact .inr (.inl h10)
      · refine .inr (.inr ⟨h1, h2, fun x hx => ?_⟩)
        rcases List.mem_cons.1 hx with rfl | hx
        · rcases hcnd with hb | hw
          · exact .inl (r.bads _ hmod hb)
          · have hh := (h.what hd0 hmod).1 hw
            exact .inr ((isHd_blk r.geo (r.kept _ hmod hh).1).2 hh)
        · exact h3 x hx
    · rw [if_neg hcnd]
      have hb : c.isBad ((P.turn + k) % c.nb) = false := by
        cases hb : c.isBad ((P.turn + k) % c.nb) with
        | false => rfl
        | true => exact absurd (.inl hb) hcnd
      have hw : (P.blk ((P.turn + k) % c.nb)).what ≠ 2 := fun hw => hcnd (.inr hw)
      have hnh : ¬ isHd c ((P.turn + k) % c.nb) := fun hh => hw ((h.what hd0 hmod).2 hh)
      have t := try_inv h hd0 hmod hb hw hk1 hk3 he1 he2 (by omega)
      generalize hi : (P.turn + k) % c.nb = i at *
      generalize hT : tryBlk P c i kind era = T at *
      have hkept : ∀ j, isHd c j → T.2.1.blk j = c.blk j ∧ T.2.1.isBad j = c.isBad j := fun j hj => by
        have hji : j ≠ i := fun e => hnh (e ▸ hj)
        exact ⟨t.deed.blk j hji, t.deed.bad j hji⟩
      have hbads : ∀ j, c.isBad j = true → T.2.1.isBad j = true := fun j hj => by
        have hji : j ≠ i := fun e => by rw [e, hb] at hj; cases hj
        rw [t.deed.bad j hji]; exact hj
      by_cases h0 : T.2.2 = 0
      · rw [if_pos h0]
        obtain ⟨hhd, hls⟩ := t.ok h0
        obtain ⟨hdd, hbad⟩ : T.2.1.dead = c.dead ∧ T.2.1.bad = c.bad := by
          rcases t.deed.cases with ⟨_, a, b⟩ | ⟨a, _⟩ | ⟨a, _⟩
          · exact ⟨a, b⟩
          · omega
          · omega
        refine ⟨⟨t.inv.ci, t.inv.len, t.inv.known, t.inv.last⟩, t.deed.geo, t.lo, by have := t.hi; simp; omega, fun _ => by show i + 1 ≤ c.nb; omega, fun j _ hj => hkept j hj, fun j _ hj => hbads j hj, .inl ⟨rfl, by rw [← hd0]; exact hdd, hmod, hnh, ?_, hhd, by show P.last < T.1.last; omega⟩, fun hc => ⟨(t.deed.calm hc).2.1, (t.deed.calm hc).2.2, i, fun j hj => t.deed.blk j hj⟩,
          fun hq => ⟨(t.deed.quiet hq).2, by simp, (fun h => by cases h), fun _ j hj => ⟨t.deed.blk j hj, t.deed.bad j hj⟩⟩⟩
        show T.2.1.isBad i = false
        unfold Chip.isBad; rw [hbad]; exact hb
      · rw [if_neg h0]
        by_cases h10 : T.2.2 = 10
        · rw [if_pos h10]
          have hdd : T.2.1.dead = true := by
            rcases t.deed.cases with ⟨a, _⟩ | ⟨a, _⟩ | ⟨_, a, _⟩
            · omega
            · omega
            · exact a
          refine ⟨t.inv, t.deed.geo, t.lo, by have := t.hi; simp; omega, fun h => by show T.1.turn ≤ c.nb; rw [t.turn]; exact h, fun j _ hj => hkept j hj, fun j _ hj => hbads j hj, .inr (.inl ⟨rfl, hdd⟩), fun hc => ⟨(t.deed.calm hc).2.1, (t.deed.calm hc).2.2, i, fun j hj => t.deed.blk j hj⟩, fun hq => absurd (t.deed.quiet hq).1 h0⟩
        · rw [if_neg h10]
          obtain ⟨h9, hdd, hbi⟩ : T.2.2 = 9 ∧ T.2.1.dead = c.dead ∧ T.2.1.isBad i = true := by
            rcases t.deed.cases with ⟨a, _⟩ | a | ⟨a, _⟩
            · exact absurd a h0
            · exact a
            · exact absurd a h10
          have r := takeGo_inv hk1 hk3 he1 he2 ks t.inv (by rw [hdd]; exact hd0) (by have := t.hi; omega)
          have hnbT : T.2.1.nb = c.nb := t.deed.geo.1
          have hhT : ∀ j, isHd c j → isHd T.2.1 j := fun j hj => (isHd_blk t.deed.geo (hkept j hj).1).2 hj
          refine ⟨r.inv, t.deed.geo.trans r.geo, Nat.le_trans t.lo r.lo, by have := r.hi; have := t.hi; simp; omega, fun h => by have := r.turn (by rw [t.turn, hnbT]; exact h); rw [hnbT] at this; exact this, fun j hj hh => ?_, fun j hj hh => r.bads j (by rw [hnbT]; exact hj) (hbads j hh), ?_, fun hc => absurd h9 (t.deed.calm hc).1, fun hq => absurd (t.deed.quiet hq).1 h0⟩
          · obtain ⟨a, b⟩ := r.kept j (by rw [hnbT]; exact hj) (hhT j hh)
            exact ⟨a.trans (hkept j hh).1, b.trans (hkept j hh).2⟩
          · rcases r.cases with ⟨a1, a2, a3, a4, a5, a6, a7⟩ | a | ⟨a1, a2, a3⟩
            · refine .inl ⟨a1, a2, by rw [← hnbT]; exact a3, fun hh => a4 (hhT _ hh), a5, a6, by have := t.lo; omega⟩
            · exact .inr (.inl a)
            · refine .inr (.inr ⟨a1, a2, fun x hx => ?_⟩)
              rcases List.mem_cons.1 hx with rfl | hx
              · rw [hi]; exact .inl (r.bads i (by rw [hnbT]; exact hmod) hbi)
              · have := a3 x hx
                rw [t.turn, hnbT] at this
                exact this

theorem mod_all {n t j : Nat} (ht : t ≤ n) (hj : j < n) : ∃ k, k < n ∧ (t + k) % n = j := by
  by_cases h : t ≤ j
  · exact ⟨j - t, by omega, by rw [show t + (j - t) = j by omega]; exact Nat.mod_eq_of_lt hj⟩
  · by_cases h2 : t = n
    · exact ⟨j, hj, by rw [h2, Nat.add_mod_left]; exact Nat.mod_eq_of_lt hj⟩
    · exact ⟨j + n - t, by omega, by rw [show t + (j + n - t) = j + n by omega, Nat.add_mod_right]; exact Nat.mod_eq_of_lt hj⟩

theorem takePool_go {P : Pool} {c : Chip} (h : c.Ok) (hd0 : c.dead = false) {kind : UInt8} {era : Nat} (hk1 : 1 ≤ kind.toNat) (hk3 : kind.toNat ≤ 3) (he1 : 1 ≤ era) : takePool P c kind era = takeGo kind era P c (List.range c.nb) := by
  unfold takePool
  rw [if_neg (by omega), if_neg (by rw [ask00 h, hd0]; simp)]
theorem takePool_bad {P : Pool} {c : Chip} {kind : UInt8} {era : Nat} (hk : kind.toNat < 1 ∨ kind.toNat > 3 ∨ era < 1) : takePool P c kind era = ⟨P, c, 0, 2⟩ := by
  unfold takePool
  rw [if_pos hk]

theorem blank_notHd {c : Chip} (h : c.Ok) {i : Nat} (hi : i < c.nb) (hb : isBlank (c.blk i) = true) : ¬ isHd c i := by
  have hlen := h.blk_len hi
  have hpg : isBlank (c.page i 0) = true := by
    rw [page0]
    simp only [isBlank, List.all_eq_true] at hb ⊢
    exact fun x hx => hb x (List.mem_of_mem_take hx)
  have hpl : (c.page i 0).length = c.sz := page_len h hi (by have := h.np1; omega)
  have hsz : isSize ((c.page i 0).length : Int) = true := by
    have := h.sz1
    have := h.sz2
    rw [hpl]; simp [isSize]; omega
  intro hh
  have hg : (getPage (c.page i 0)).2.2 = 6 := by
    unfold getPage
    rw [if_neg (by rw [hsz]; simp), if_pos hpg]
  unfold isHd hd getHead at hh
  rw [if_pos (by omega)] at hh
  omega

/-- may it be freed? -/
def Mine (c : Chip) (i : Int) : Prop := 0 ≤ i ∧ i < c.nb ∧ isHd c i.toNat ∧ c.isBad i.toNat = false
theorem free_not {P : Pool} {c : Chip} (h : Inv P c) (hd0 : c.dead = false) {i : Int} (hm : ¬ Mine c i) : freePool P c i = (P, c, 12) := by
  unfold freePool
  refine if_pos (Classical.byContradiction fun hn => hm ?_)
  have h1 : ¬ i < 0 := fun h => hn (.inl h)
  have h2 : ¬ i ≥ c.nb := fun h => hn (.inr (.inl h))
  have hlt : i.toNat < c.nb := by omega
  have h3 : (P.blk i.toNat).what = 2 := Classical.byContradiction fun h => hn (.inr (.inr (.inl h)))
  have h4 : ¬ c.isBad i.toNat = true := fun h => hn (.inr (.inr (.inr h)))
  exact ⟨by omega, by omega, (h.what hd0 hlt).1 h3, by simpa using h4⟩
structure FreeP (P : Pool) (c : Chip) (i : Nat) (r : Pool × Chip × Nat) (e : Nat) : Prop where
  deed : Deed c r.2.1 i e
  inv : Inv r.1 r.2.1
  last : r.1.last = P.last
  turn : r.1.turn = P.turn
  err : r.2.2 = if e = 9 then 0 else e
  gone : e = 0 → ¬ isHd r.2.1 i
  keep : isHd r.2.1 i → isHd c i ∧ hd r.2.1 i = hd c i
theorem free_mine {P : Pool} {c : Chip} (h : Inv P c) (hd0 : c.dead = false) {i : Int} (hm : Mine c i) : ∃ e, FreeP P c i.toNat (freePool P c i) e := by
  obtain ⟨h0, h1, h2, h3⟩ := hm
  have hlt : i.toNat < c.nb := by omega
  have hei : c.erase i = c.erase (i.toNat : Int) := by rw [Int.toNat_of_nonneg h0]
  have hf : freePool P c i = (P.relook (c.erase i).1 i.toNat, (c.erase i).1, if (c.erase i).2 = 9 then 0 else (c.erase i).2) := by
    unfold freePool
    rw [if_neg]
    rintro (a | a | a | a)
    · omega
    · omega
    · exact a ((h.what hd0 hlt).2 h2)
    · rw [h3] at a; cases a
  rw [hf, hei]
  obtain ⟨hde, hinv, hz, hk⟩ := erase_inv h hd0 hlt h3
  refine ⟨_, hde, hinv, rfl, rfl, rfl, fun h0 => ?_, hk⟩
  exact blank_notHd hde.ok (by rw [hde.geo.1]; exact hlt) (by show isBlank ((c.erase (i.toNat : Int)).1.blk i.toNat) = true; rw [hz h0]; exact isBlank_replicate _)

end Go.Den
end

section
set_option linter.unusedVariables false
set_option linter.unusedSimpArgs false
namespace Go.Den

/-! ### Rows by rising numbers -/
theorem sorted_ext {α : Type} {f : α → Nat} : ∀ {l m : List α}, l.Pairwise (fun a b => f a < f b) → m.Pairwise (fun a b => f a < f b) → (∀ x, x ∈ l ↔ x ∈ m) → l = m
  | [], [], _, _, _ => rfl
  | [], b :: m, _, _, h => by have := (h b).2 (by simp); simp at this
  | a :: l, [], _, _, h => by have := (h a).1 (by simp); simp at this
  | a :: l, b :: m, hl, hm, h => by
    obtain ⟨l1, l2⟩ := List.pairwise_cons.1 hl
    obtain ⟨m1, m2⟩ := List.pairwise_cons.1 hm
    have hab : a = b := by
      rcases List.mem_cons.1 ((h a).1 (by simp)) with e | ha
      · exact e
      · rcases List.mem_cons.1 ((h b).2 (by simp)) with e | hb
        · exact e.symm
        · have := l1 b hb; have := m1 a ha; omega
    subst hab
    rw [sorted_ext l2 m2 fun x => ?_]
    constructor
    · intro hx
      rcases List.mem_cons.1 ((h x).1 (by simp [hx])) with e | hx'
      · have := l1 x hx; rw [e] at this; omega
      · exact hx'
    · intro hx
      rcases List.mem_cons.1 ((h x).2 (by simp [hx])) with e | hx'
      · have := m1 x hx; rw [e] at this; omega
      · exact hx'

theorem sink_sorted {x : Taken} : ∀ {l : List Taken}, l.Pairwise (fun a b => b.head.seq < a.head.seq) → (∀ y ∈ l, y.head.seq ≠ x.head.seq) → (sink takenLt x l).Pairwise (fun a b => b.head.seq < a.head.seq)
  | [], _, _ => by simp [sink]
  | y :: l, hl, hx => by
    obtain ⟨l1, l2⟩ := List.pairwise_cons.1 hl
    have hyx := hx y (by simp)
    unfold sink
    split
    · rename_i hlt
      have hxy : x.head.seq < y.head.seq := by
        simp [takenLt] at hlt
        omega
      refine List.pairwise_cons.2 ⟨fun z hz => ?_, sink_sorted l2 fun z hz => hx z (by simp [hz])⟩
      rcases (sink_mem takenLt x z l).1 hz with rfl | hz
      · exact hxy
      · exact l1 z hz
    · rename_i hlt
      have hxy : y.head.seq < x.head.seq := by
        have : takenLt x y = false := by simpa using hlt
        simp [takenLt] at this
        omega
      refine List.pairwise_cons.2 ⟨fun z hz => ?_, hl⟩
      rcases List.mem_cons.1 hz with rfl | hz
      · exact hxy
      · have := l1 z hz; omega
theorem isort_sorted {l : List Taken} (h : l.Pairwise (fun a b => a.head.seq ≠ b.head.seq)) : (isort takenLt l).Pairwise (fun a b => a.head.seq < b.head.seq) := by
  unfold isort
  rw [List.pairwise_reverse]
  have key : ∀ (l acc : List Taken), acc.Pairwise (fun a b => b.head.seq < a.head.seq) → l.Pairwise (fun a b => a.head.seq ≠ b.head.seq) → (∀ a ∈ acc, ∀ b ∈ l, a.head.seq ≠ b.head.seq) → (l.foldl (fun acc x => sink takenLt x acc) acc).Pairwise (fun a b => b.head.seq < a.head.seq) := by
    intro l
    induction l with
    | nil => intro acc ha _ _; exact ha
    | cons x l ih =>
      intro acc ha hl hx
      obtain ⟨l1, l2⟩ := List.pairwise_cons.1 hl
      rw [List.foldl_cons]
      refine ih _ (sink_sorted ha fun y hy => hx y hy x (by simp)) l2 fun a ha' b hb => ?_
      rcases (sink_mem takenLt x a acc).1 ha' with rfl | ha'
      · exact l1 b hb
      · exact hx a ha' b (by simp [hb])
  exact key l [] List.Pairwise.nil h fun a ha => by simp at ha

theorem insAt_cons (t y : Taken) (l : List Taken) : insAt t (y :: l) = if y.head.seq ≤ t.head.seq then y :: insAt t l else t :: y :: l := by
  unfold insAt posOf
  rw [List.takeWhile_cons]
  split <;> rename_i h
  · have : y.head.seq ≤ t.head.seq := by simpa using h
    rw [if_pos this]; simp
  · have : ¬ y.head.seq ≤ t.head.seq := by simpa using h
    rw [if_neg this]; simp
theorem insAt_mem (t x : Taken) : ∀ (l : List Taken), x ∈ insAt t l ↔ x = t ∨ x ∈ l
  | [] => by simp [insAt, posOf]
  | y :: l => by
    rw [insAt_cons]
    split
    · simp only [List.mem_cons, insAt_mem t x l]
      constructor
      · rintro (h | h | h)
        · exact .inr (.inl h)
        · exact .inl h
        · exact .inr (.inr h)
      · rintro (h | h | h)
        · exact .inr (.inl h)
        · exact .inl h
        · exact .inr (.inr h)
    · simp
theorem insAt_sorted {t : Taken} : ∀ {l : List Taken}, l.Pairwise (fun a b => a.head.seq < b.head.seq) → (∀ y ∈ l, y.head.seq ≠ t.head.seq) → (insAt t l).Pairwise (fun a b => a.head.seq < b.head.seq)
  | [], _, _ => by simp [insAt, posOf]
  | y :: l, hl, hx => by
    obtain ⟨l1, l2⟩ := List.pairwise_cons.1 hl
    have hyt := hx y (by simp)
    rw [insAt_cons]
    split
    · refine List.pairwise_cons.2 ⟨fun z hz => ?_, insAt_sorted l2 fun z hz => hx z (by simp [hz])⟩
      rcases (insAt_mem t z l).1 hz with rfl | hz
      · omega
      · exact l1 z hz
    · refine List.pairwise_cons.2 ⟨fun z hz => ?_, hl⟩
      rcases List.mem_cons.1 hz with rfl | hz
      · omega
      · have := l1 z hz; omega

theorem view_pos {c : Chip} {i : Nat} (h : isHd c i) : view c i = ⟨2, (hd c i).1⟩ := if_pos h
theorem view_neg {c : Chip} {i : Nat} (h : ¬ isHd c i) : (view c i).head = Head.none := by
  unfold view
  rw [if_neg (show ¬ (hd c i).2 = 0 from h)]
  split <;> rfl
/-! ### Taken blocks -/
/-- a block with a head -/
def IsTaken (c : Chip) (n : Nat) (t : Taken) : Prop := t.block < n ∧ isHd c t.block ∧ t.head = (hd c t.block).1 ∧ t.bad = c.isBad t.block
theorem raw_mem {P : Pool} {c : Chip} (h : Inv P c) (hd0 : c.dead = false) {n : Nat} (hn : n ≤ c.nb) (t : Taken) : t ∈ takenRaw P c n ↔ IsTaken c n t := by
  unfold takenRaw IsTaken
  rw [List.mem_filterMap]
  constructor
  · rintro ⟨i, hi, e⟩
    have hi' : i < n := by simpa using hi
    split at e
    · rename_i hw
      cases e
      have hh := (h.what hd0 (by omega)).1 hw
      refine ⟨hi', hh, ?_, rfl⟩
      rw [h.known hd0 i (by omega), view_pos hh]
    · cases e
  · rintro ⟨h1, h2, h3, h4⟩
    refine ⟨t.block, by simpa using h1, ?_⟩
    rw [if_pos ((h.what hd0 (by omega)).2 h2)]
    obtain ⟨b, hh, bad⟩ := t
    simp only [] at h1 h2 h3 h4 ⊢
    rw [h.known hd0 b (by omega), view_pos h2, h3, h4]
theorem raw_distinct {P : Pool} {c : Chip} (h : Inv P c) (hd0 : c.dead = false) : ∀ n, n ≤ c.nb → (takenRaw P c n).Pairwise (fun a b => a.head.seq ≠ b.head.seq)
  | 0, _ => by simp [takenRaw]
  | n + 1, hn => by
    rw [takenRaw_succ]
    rw [List.pairwise_append]
    refine ⟨raw_distinct h hd0 n (by omega), ?_, fun a ha b hb => ?_⟩
    · split <;> simp
    · obtain ⟨a1, a2, a3, _⟩ := (raw_mem h hd0 (by omega) a).1 ha
      have hb' : b ∈ takenRaw P c (n + 1) := by rw [takenRaw_succ]; exact List.mem_append.2 (.inr hb)
      obtain ⟨b1, b2, b3, _⟩ := (raw_mem h hd0 hn b).1 hb'
      have hbn : b.block = n := by
        split at hb
        · simp at hb; rw [hb]
        · simp at hb
      rw [a3, b3]
      exact h.ci.uniq _ _ (by omega) (by omega) (by omega) a2 b2
theorem taken_mem {P : Pool} {c : Chip} (h : Inv P c) (hd0 : c.dead = false) (t : Taken) : t ∈ takenPool P c ↔ IsTaken c c.nb t := by
  unfold takenPool
  rw [isort_mem]
  exact raw_mem h hd0 (Nat.le_refl _) t
theorem taken_sorted {P : Pool} {c : Chip} (h : Inv P c) (hd0 : c.dead = false) : (takenPool P c).Pairwise (fun a b => a.head.seq < b.head.seq) := isort_sorted (raw_distinct h hd0 _ (Nat.le_refl _))

theorem refHead_eq {c : Chip} (h : c.Ok) (hd0 : c.dead = false) {i : Nat} (hi : i < c.nb) : refHead c i = ((hd c i).1, decide ((hd c i).2 = 0)) := by
  have := h.np1
  have ha : c.ask i 0 = 0 := ask_ok (k := 0) hd0 hi (by omega)
  unfold refHead
  rw [if_neg (by omega)]
  rfl
theorem ref_mem {c : Chip} (h : CI c) (hd0 : c.dead = false) : ∀ n, n ≤ c.nb → (∀ t, t ∈ refGo c n ↔ IsTaken c n t) ∧ (refGo c n).Pairwise (fun a b => a.head.seq < b.head.seq)
  | 0, _ => ⟨fun t => by simp [refGo, IsTaken], by simp [refGo]⟩
  | n + 1, hn => by
    obtain ⟨h1, h2⟩ := ref_mem h hd0 n (by omega)
    have hr := refHead_eq h.ok hd0 (i := n) (by omega)
    rw [refGo, hr]
    simp only [decide_eq_true_eq]
    split
    · rename_i hh
      refine ⟨fun t => ?_, insAt_sorted h2 fun y hy => ?_⟩
      · rw [insAt_mem, h1]
        constructor
        · rintro (rfl | ⟨a, b⟩)
          · exact ⟨Nat.lt_succ_self _, hh, rfl, rfl⟩
          · exact ⟨by omega, b⟩
        · rintro ⟨a, b, d, e⟩
          by_cases hb : t.block = n
          · left
            obtain ⟨tb, th, tbad⟩ := t
            simp only [] at hb d e
            subst hb
            rw [d, e]
          · exact .inr ⟨by omega, b, d, e⟩
      · obtain ⟨a, b, d, _⟩ := (h1 y).1 hy
        rw [d]
        exact h.uniq _ _ (by omega) (by omega) (by omega) b hh
    · rename_i hh
      refine ⟨fun t => ?_, h2⟩
      rw [h1]
      constructor
      · rintro ⟨a, b⟩; exact ⟨by omega, b⟩
      · rintro ⟨a, b, d⟩
        have : t.block ≠ n := fun e => hh (e ▸ b)
        exact ⟨by omega, b, d⟩
theorem taken_ref {P : Pool} {c : Chip} (h : Inv P c) (hd0 : c.dead = false) : takenPool P c = refTaken c := by
  obtain ⟨h1, h2⟩ := ref_mem h.ci hd0 c.nb (Nat.le_refl _)
  exact sorted_ext (f := fun t : Taken => t.head.seq) (taken_sorted h hd0) h2 fun t => by rw [taken_mem h hd0]; exact (h1 t).symm
theorem filter_congr' {α : Type} {p q : α → Bool} {l : List α} (h : ∀ a ∈ l, p a = q a) : l.filter p = l.filter q := by
  induction l with
  | nil => rfl
  | cons a l ih => rw [List.filter_cons, List.filter_cons, h a (by simp), ih fun b hb => h b (by simp [hb])]
theorem blanks_ref {P : Pool} {c : Chip} (h : Inv P c) (hd0 : c.dead = false) : blanksPool P c = refBlanks c := by
  unfold blanksPool refBlanks
  congr 1
  refine filter_congr' fun i hi => ?_
  have hi' : i < c.nb := by simpa using hi
  congr 1
  rw [refHead_eq h.ci.ok hd0 hi']
  have := h.what hd0 hi'
  by_cases hh : isHd c i
  · have e1 : decide ((P.blk i).what ≠ 2) = false := decide_eq_false (fun h => h (this.2 hh))
    have e2 : decide ((hd c i).2 = 0) = true := decide_eq_true hh
    rw [e1, e2]; rfl
  · have e1 : decide ((P.blk i).what ≠ 2) = true := decide_eq_true (fun h => hh (this.1 h))
    have e2 : decide ((hd c i).2 = 0) = false := decide_eq_false hh
    rw [e1, e2]; rfl
theorem last_ref {P : Pool} {c : Chip} (h : Inv P c) (hd0 : c.dead = false) : refLast c ≤ P.last := by
  obtain ⟨h1, _⟩ := ref_mem h.ci hd0 c.nb (Nat.le_refl _)
  have key : ∀ (l : List Taken) (m : Nat), m ≤ P.last → (∀ t ∈ l, t.head.seq ≤ P.last) → l.foldl (fun n t => max n t.head.seq) m ≤ P.last := by
    intro l
    induction l with
    | nil => intro m hm _; exact hm
    | cons t l ih =>
      intro m hm hl
      rw [List.foldl_cons]
      exact ih _ (by have := hl t (by simp); omega) fun t ht => hl t (by simp [ht])
  refine key _ 0 (Nat.zero_le _) fun t ht => ?_
  obtain ⟨a, b, d, _⟩ := (h1 t).1 ht
  rw [d]
  exact h.last _ a b
/-- none is blank -/
theorem blanks_zero {c : Chip} (h : CI c) (hd0 : c.dead = false) (hall : ∀ j, j < c.nb → c.isBad j = true ∨ isHd c j) : refBlanks c = 0 := by
  unfold refBlanks
  rw [List.length_eq_zero_iff, List.filter_eq_nil_iff]
  intro i hi
  have hi' : i < c.nb := by simpa using hi
  rw [refHead_eq h.ok hd0 hi']
  rcases hall i hi' with hb | hh
  · rw [hb]; simp
  · simp only []
    rw [decide_eq_true (show (hd c i).2 = 0 from hh)]; simp

/-! ### Scan -/
theorem scanGo_inv {c : Chip} (h : CI c) (hd0 : c.dead = false) : ∀ n, n ≤ c.nb → (scanGo c n).blocks.length = c.nb ∧ (∀ i, i < n → (scanGo c n).blk i = view c i) ∧ (∀ i, i < n → isHd c i → (hd c i).1.seq ≤ (scanGo c n).last) ∧
    ((scanGo c n).last = 0 ∨ ∃ i, i < n ∧ isHd c i ∧ (scanGo c n).last = (hd c i).1.seq)
  | 0, _ => ⟨by simp [scanGo], fun i hi => by omega, fun i hi => by omega, .inl rfl⟩
  | n + 1, hn => by
    obtain ⟨h1, h2, h3, h4⟩ := scanGo_inv h hd0 n (by omega)
    have hb : ∀ i, i < n + 1 → ((scanGo c n).relook c n).blk i = view c i := by
      intro i hi
      unfold Pool.relook
      rw [setBlk_blk (by omega), lookAt_view, hd0]
      by_cases e : i = n
      · rw [if_pos e, e]; rfl
      · rw [if_neg e]; exact h2 i (by omega)
    have hl : ((scanGo c n).relook c n).blocks.length = c.nb := by
      show ((scanGo c n).blocks.set n _).length = _
      rw [List.length_set]; exact h1
    have hbn := hb n (by omega)
    rw [scanGo, hbn]
    have hseq : isHd c n → (view c n).head.seq = (hd c n).1.seq := fun hh => by rw [view_pos hh]
    have hseq0 : ¬ isHd c n → (view c n).head.seq = 0 := fun hh => by rw [view_neg hh]; rfl
    split
    · rename_i hc
      have hh : isHd c n := Classical.byContradiction fun hn' => by rw [hseq0 hn'] at hc; omega
      refine ⟨hl, hb, fun i hi hi' => ?_, .inr ⟨n, by omega, hh, hseq hh⟩⟩
      show _ ≤ (view c n).head.seq
      rw [hseq hh]
      by_cases e : i = n
      · rw [e]; exact Nat.le_refl _
      · have := h3 i (by omega) hi'
        rw [hseq hh] at hc
        omega
    · rename_i hc
      refine ⟨hl, hb, fun i hi hi' => ?_, ?_⟩
      · show _ ≤ (scanGo c n).last
        by_cases e : i = n
        · rw [e] at hi' ⊢
          rw [hseq hi'] at hc
          omega
        · exact h3 i (by omega) hi'
      · rcases h4 with h4 | ⟨i, a, b, d⟩
        · exact .inl h4
        · exact .inr ⟨i, by omega, b, d⟩
theorem scan_inv {c : Chip} (h : CI c) (hd0 : c.dead = false) : Inv (scanPool c) c ∧ (∀ m, (∀ i, i < c.nb → isHd c i → (hd c i).1.seq ≤ m) → (scanPool c).last ≤ m) := by
  obtain ⟨h1, h2, h3, h4⟩ := scanGo_inv h hd0 c.nb (Nat.le_refl _)
  refine ⟨⟨h, h1, fun _ => h2, h3⟩, fun m hm => ?_⟩
  show (scanGo c c.nb).last ≤ m
  rcases h4 with h4 | ⟨i, a, b, d⟩
  · omega
  · rw [d]; exact hm i a b
theorem power_ci {c : Chip} (h : CI c) : CI c.power := ⟨⟨h.ok.nb1, h.ok.nb2, h.ok.np1, h.ok.np2, h.ok.sz1, h.ok.sz2, h.ok.bl, h.ok.bl2, h.ok.bad⟩, h.safe, h.uniq⟩
theorem blank_page_safe (n : Nat) (hn : 128 ≤ n) (hn2 : n ≤ 256) : Safe (List.replicate n 255) := by
  refine ⟨pageOf n 1 [], pageOf_sound (by simp; omega) (by omega), ?_⟩
  have hl := pageOf_length n 1 [] (by simp; omega)
  refine ⟨by simp [hl], fun i hi => ?_⟩
  have : (List.replicate n (255 : UInt8)).getD i 0 = 255 := by simp [List.getD, show i < n by omega]
  rw [this]
  intro k hk
  by_cases h8 : k < 8
  · exact bit_255 h8
  · rw [bit_high _ (by omega)] at hk; cases hk
theorem new_ci {nb np sz sp : Nat} (nb1 : 8 ≤ nb) (nb2 : nb ≤ 64) (np1 : 4 ≤ np) (np2 : np ≤ 32) (sz1 : 128 ≤ sz) (sz2 : sz ≤ 256) (c : Chip) (hc : c = ⟨nb, np, sz, sp, List.replicate nb (List.replicate (np * sz) 255), List.replicate nb false, [], 0, false, 0⟩) : CI c ∧ ∀ i, i < c.nb → ¬ isHd c i := by
  subst hc
  have hok : Chip.Ok ⟨nb, np, sz, sp, List.replicate nb (List.replicate (np * sz) 255), List.replicate nb false, [], 0, false, 0⟩ := by
    refine ⟨nb1, nb2, np1, np2, sz1, sz2, by simp, fun b hb => ?_, by simp⟩
    rw [List.eq_of_mem_replicate hb]; simp
  have hblk : ∀ i, i < nb → Chip.blk ⟨nb, np, sz, sp, List.replicate nb (List.replicate (np * sz) 255), List.replicate nb false, [], 0, false, 0⟩ i = List.replicate (np * sz) 255 := fun i hi => by
    simp [Chip.blk, List.getD, hi]
  have hfit : sz ≤ np * sz := Nat.le_mul_of_pos_left _ (by omega)
  have hno : ∀ i, i < nb → ¬ isHd ⟨nb, np, sz, sp, List.replicate nb (List.replicate (np * sz) 255), List.replicate nb false, [], 0, false, 0⟩ i := fun i hi => blank_notHd hok hi (by rw [hblk i hi]; exact isBlank_replicate _)
  refine ⟨⟨hok, fun i hi => ?_, fun i j hi _ _ h _ => absurd h (hno i hi)⟩, hno⟩
  rw [page0, hblk i hi]
  show Safe ((List.replicate (np * sz) 255).take sz)
  rw [List.take_replicate, Nat.min_eq_left hfit]
  exact blank_page_safe sz sz1 sz2

end Go.Den
end

section
set_option linter.unusedVariables false
set_option linter.unusedSimpArgs false
set_option maxRecDepth 4000
namespace Go.Den

structure Act where
  act : Int
  kind : UInt8
  era : Nat
  block : Int
  page : Int
  fill : UInt8
namespace Act
def vals (a : Act) : List Value := [.int .i64 a.act, bv a.kind, .int .u32 a.era, .int .i64 a.block, .int .i64 a.page, bv a.fill]
end Act
abbrev actV (a : Act) : Value := .agg #[.int .i64 a.act, bv a.kind, .int .u32 a.era, .int .i64 a.block, .int .i64 a.page, bv a.fill]

/-- a row of taken blocks that stays -/
theorem TakenAt.row {w w' : World} {v : Value} {l : List Taken} (h : TakenAt w w' v l) : ∃ a cap, v = .slice a l.length cap ∧ RowAt w' a (l.flatMap Taken.vals) ∧ Fresh w a := by
  obtain ⟨a, cap, rfl, ho, hf⟩ := h
  exact ⟨a, cap, rfl, ho.row, hf⟩

theorem carracklaw04_same_spec {A S : Nat} {w : World} {M : PLoc} {P : Pool} {c : Chip} (h : PAt A S w M P c) (hi : Inv P c) (hd0 : c.dead = false) (hnb : c.nb < 20) :
    CallsR prog K.carracklaw04_same #[.pointer (some ⟨M.q, 0, none⟩), .pointer (some ⟨M.p, 0, none⟩)] w fun v w' => v = .bool true ∧ Ext w w' := by
  apply carracklaw04_same.sh
  unfold carracklaw04_same.body
  refine (pTaken h hnb (taken_ref hi hd0)).mono ?_
  rintro _ w₁ ⟨he1, ht1⟩
  obtain ⟨a1, c1, rfl, hr1, hf1⟩ := ht1.row
  refine ⟨_, _, _, rfl, ?_⟩
  refine (rTaken (h.ext he1).chip).mono ?_
  rintro _ w₂ ⟨he2, ht2⟩
  obtain ⟨a2, c2, rfl, hr2, hf2⟩ := ht2.row
  have e2 := he1.trans he2
  have h2 := h.ext e2
  refine ⟨_, _, _, rfl, fun u => Ext w₂ u, ?_, ?_⟩
  · refine br_ne (fun h => (h rfl).elim) fun _ => ?_
    refine (pBlanks h2).mono ?_
    rintro _ w₃ ⟨rfl, he3⟩
    have h3 := h2.ext he3
    refine ⟨_, rfl, ?_⟩
    refine (rBlanks h3.chip).mono ?_
    rintro _ w₄ ⟨rfl, he4⟩
    have h4 := h3.ext he4
    refine ⟨_, rfl, ?_⟩
    rw [blanks_ref hi hd0]
    refine br_ne (fun h => (h rfl).elim) fun _ => ?_
    refine (pLast h4).mono ?_
    rintro _ _ ⟨rfl, rfl⟩
    rename_i w₄
    refine ⟨_, rfl, ?_⟩
    refine (rLast h4.chip).mono ?_
    rintro _ w₆ ⟨rfl, he6⟩
    have h6 := h4.ext he6
    have hlast := last_ref hi hd0
    refine ⟨_, rfl, br_dec (fun h => by omega) fun _ => ?_⟩
    refine (pChip h6).mono ?_
    rintro _ _ ⟨rfl, rfl⟩
    refine ⟨_, rfl, ?_⟩
    show _ ∧ _
    refine ⟨rfl, ?_⟩
    simp only [beq_self_eq_true, Bool.not_true, br_false]
    exact (he3.trans he4).trans he6
  intro w₈ he8
  refine ⟨fun x u => ∃ i : Nat, x = i ∧ i ≤ (refTaken c).length ∧ Ext w₂ u, fun x _ => ((refTaken c).length - x).toNat, ⟨0, rfl, by omega, he8⟩, ?_⟩
  rintro x u ⟨i, rfl, hi', hu⟩
  refine br_dec (fun hlt => ?_) fun hge => ⟨by trivial, e2.trans hu⟩
  have hil : i < (refTaken c).length := by omega
  intro w₁₀ hd10
  have e10 := hu.trans hd10.upd
  refine ⟨fun v => v = w₁₀, rfl, ?_⟩
  refine idx_flat (f := Taken.vals) Taken.vals_length (by omega) (RowAt.ext (RowAt.ext hr1 he2) e10) rfl hil fun b o hab hr => ?_
  refine ⟨(refTaken c)[i].block, (refTaken c)[i].head.kind.toNat, (refTaken c)[i].head.era, (refTaken c)[i].head.seq, (refTaken c)[i].bad, fun v hv => hv ▸ RowAt.cells hr, ?_⟩
  refine idx_flat (f := Taken.vals) Taken.vals_length (by omega) (RowAt.ext hr2 e10) rfl hil fun b o hab hr => ?_
  refine ⟨(refTaken c)[i].block, (refTaken c)[i].head.kind.toNat, (refTaken c)[i].head.era, (refTaken c)[i].head.seq, (refTaken c)[i].bad, fun v hv => hv ▸ RowAt.cells hr, ?_⟩
  simp only [beq_self_eq_true, Bool.and_self, Bool.not_true, br_false]
  have e : IntKind.i64.wrap ((i : Int) + 1) = ((i + 1 : Nat) : Int) := w64 (by omega) (by have : (refTaken c).length ≤ c.nb := refGo_length c c.nb
                                                                                          omega)
  rw [e]
  exact ⟨⟨i + 1, rfl, hil, e10⟩, meas hil⟩

theorem ref_at {c : Chip} (h : CI c) (hd0 : c.dead = false) {t : Taken} (ht : t ∈ refTaken c) : t.block < c.nb ∧ isHd c t.block ∧ t.head = (hd c t.block).1 ∧ t.bad = c.isBad t.block := ((ref_mem h hd0 c.nb (Nat.le_refl _)).1 t).1 ht

/-- what an act leaves -/
structure Stepped (A S : Nat) (w : World) (M : PLoc) (P : Pool) (c : Chip) (w' : World) : Prop where
  upd : Upd (Bet A S) w w'
  out : ∃ P' c', PAt A S w' M P' c' ∧ Inv P' c' ∧ c.SameGeo c' ∧ P'.last ≤ P.last + c.nb ∧ (c.hits = [] → c'.hits = [] ∧ c'.dead = false)

theorem carracklaw04_step_spec {A S : Nat} {w : World} {M : PLoc} {P : Pool} {c : Chip} (h : PAt A S w M P c) (hS : S ≤ w.heap.size) (hi : Inv P c) (hd0 : c.dead = false) (hnb : c.nb < 20) (hlast : P.last < 100000) (ht : P.turn ≤ c.nb) (a : Act) (hera : a.era < 4294967296) :
    CallsR prog K.carracklaw04_step #[.pointer (some ⟨M.q, 0, none⟩), .pointer (some ⟨M.p, 0, none⟩), actV a] w fun v w' => v = .bool true ∧ Stepped A S w M P c w' := by
  apply carracklaw04_step.sh
  intro B w₁ hn1
  have hB : B = w.heap.size := hn1.num
  have hg1 := hn1.get
  have h1 := h.ext hn1.upd
  have hnb0 := hi.ci.ok.nb1
  refine (rTaken h1.chip).mono ?_
  rintro _ w₂ ⟨he2, ht2⟩
  obtain ⟨a1, c1, rfl, hr1, hf1⟩ := ht2.row
  have e2 : Ext w w₂ := hn1.upd.trans he2
  have h2 := h1.ext he2
  have hg2 := Ext.get he2 hg1
  refine ⟨_, _, _, rfl, ?_⟩
  refine (pLast h2).mono ?_
  rintro _ _ ⟨rfl, rfl⟩
  rename_i w₂
  have hrl : (refTaken c).length ≤ c.nb := refGo_length c c.nb
  have hkeep : ∀ {u v : World}, Upd (Bet A S) u v → w.heap.size ≤ u.heap.size → ∀ {cs : Array Value}, u.heap[B]? = some (.cells cs T.carracklaw04_Act (0, 0)) → v.heap[B]? = some (.cells cs T.carracklaw04_Act (0, 0)) := fun hu hs cs hc => hu.get hc (fun hb => by have := hb.2; omega)
  have hsw1 := hn1.size
  have hsw2 := he2.size
  simp only [add_lit]
  refine ⟨_, rfl, _, cell_of hg2 rfl, br_eq (fun hdo => ?_) fun hdo => ?_⟩
  · -- Take
    refine ⟨_, cell_of hg2 rfl, _, cell_of hg2 rfl, ?_⟩
    refine (pTake h2 hera rfl).mono ?_
    rintro _ w₄ ⟨rfl, hu4, hp4⟩
    have hg4 := hkeep hu4 (by omega) hg2
    have hr4 : RowAt w₄ a1 ((refTaken c).flatMap Taken.vals) := RowAt.upd hr1 hu4 (fun q hq hb => by have := hf1 q hq; have := hb.2; omega)
    have hu04 : Upd (Bet A S) w w₄ := (Upd.ext e2).trans hu4
    by_cases hk : a.kind.toNat < 1 ∨ a.kind.toNat > 3 ∨ a.era < 1
    · -- no such kind or era
      rw [takePool_bad hk] at hp4 ⊢
      have hst : ∀ u, Ext w₄ u → Stepped A S w M P c u := fun u hu => ⟨hu04.then hu, P, c, hp4.ext hu, hi, .refl _, by omega, fun hq => ⟨hq, hd0⟩⟩
      refine ⟨_, _, rfl, br_eq (fun h => by simp at h) fun _ => ?_⟩
      refine ⟨fun _ => False, ?_, fun _ h => h.elim⟩
      refine ⟨_, cell_of hg4 rfl, br_dec (fun h => ⟨by trivial, hst _ (Upd.refl _ _)⟩) fun h1 => ⟨_, cell_of hg4 rfl, br_dec (fun h => ⟨by trivial, hst _ (Upd.refl _ _)⟩) fun h2 => ⟨_, cell_of hg4 rfl, br_eq (fun h => ⟨by trivial, hst _ (Upd.refl _ _)⟩) fun h3 => by omega⟩⟩⟩
    · have hgo := takePool_go (P := P) hi.ci.ok hd0 (kind := a.kind) (era := a.era) (by omega) (by omega) (by omega)
      have tp := takeGo_inv (kind := a.kind) (era := a.era) (by omega) (by omega) (by omega) hera (List.range c.nb) hi hd0 (by simp; omega)
      rw [hgo] at hp4 ⊢
      generalize takeGo a.kind a.era P c (List.range c.nb) = R at *
      have hhi : R.pool.last ≤ P.last + c.nb := by have := tp.hi; simpa using this
      have hst : ∀ u, Ext w₄ u → Stepped A S w M P c u := fun u hu => ⟨hu04.then hu, R.pool, R.chip, hp4.ext hu, tp.inv, tp.geo, hhi, fun hq => ⟨(tp.quiet hq).1, by
        rcases tp.cases with ⟨_, b, _⟩ | ⟨b, _⟩ | ⟨_, b, _⟩
        · exact b
        · exact absurd b (tp.quiet hq).2.1
        · exact b⟩⟩
      refine ⟨_, _, rfl, br_eq (fun h10 => ⟨by trivial, hst _ (Upd.refl _ _)⟩) fun h10 => ?_⟩
      refine ⟨fun u => u = w₄, ?_, ?_⟩
      · refine ⟨_, cell_of hg4 rfl, br_dec (fun h => by omega) fun h1 => ⟨_, cell_of hg4 rfl, br_dec (fun h => by omega) fun h2 => ⟨_, cell_of hg4 rfl, br_eq (fun h => by omega) fun h3 => rfl⟩⟩⟩
      rintro _ rfl
      rename_i w₄
      refine br_eq (fun h11 => ?_) fun h11 => ?_
      · -- full
        refine (rBlanks hp4.chip).mono ?_
        rintro _ w₆ ⟨rfl, he6⟩
        refine ⟨_, rfl, ?_, hst _ he6⟩
        obtain ⟨_, hdR, hall⟩ : R.err = 11 ∧ R.chip.dead = false ∧ ∀ k ∈ List.range c.nb, R.chip.isBad ((P.turn + k) % c.nb) = true ∨ isHd R.chip ((P.turn + k) % c.nb) := by
          rcases tp.cases with ⟨b, _⟩ | ⟨b, _⟩ | b
          · omega
          · omega
          · exact b
        have hz := blanks_zero tp.inv.ci hdR (fun j hj => by
          rw [tp.geo.1] at hj
          obtain ⟨k, hk, hm⟩ := mod_all ht hj
          have := hall k (by simpa using hk)
          rwa [hm] at this)
        rw [hz]; rfl
      · -- one more
        obtain ⟨h0, hdR, hbl, hnh, hbad, hhd, hlt⟩ : R.err = 0 ∧ R.chip.dead = false ∧ R.block < c.nb ∧ ¬ isHd c R.block ∧ R.chip.isBad R.block = false ∧ hd R.chip R.block = (⟨a.kind, a.era, R.pool.last⟩, 0) ∧ P.last < R.pool.last := by
          rcases tp.cases with b | ⟨b, _⟩ | ⟨b, _⟩
          · exact b
          · omega
          · omega
        have hrh := refHead_eq tp.inv.ci.ok hdR (i := R.block) (by rw [tp.geo.1]; exact hbl)
        rw [hhd] at hrh
        refine (rHead hp4.chip (R.block : Int)).mono ?_
        rintro _ w₇ ⟨he7, rfl⟩
        rw [hrh]
        refine ⟨_, _, _, _, rfl, fun B2 w₈ hn8 => ?_⟩
        rw [head_zero] at hn8
        refine head_put (h := ⟨a.kind, a.era, R.pool.last⟩) hn8.get rfl fun w₉ hput9 => ?_
        have hB2 : B2 = w₇.heap.size := hn8.num
        have e49 : Ext w₄ w₉ := Put.upd (he7.trans hn8.upd) hput9 (.inl (by have := he7.size; omega))
        have hr9 := RowAt.ext hr4 e49
        have hg9 := Ext.get e49 hg4
        refine ⟨fun x u => ∃ i : Nat, x = i ∧ i ≤ (refTaken c).length ∧ u = w₉, fun x _ => ((refTaken c).length - x).toNat, ⟨0, rfl, by omega, rfl⟩, ?_⟩
        rintro x u ⟨i, rfl, hil, rfl⟩
        refine br_dec (fun hlt => ?_) fun hge => ?_
        · have hi' : i < (refTaken c).length := by omega
          have e1 : IntKind.i64.wrap ((i : Int) + 1) = ((i + 1 : Nat) : Int) := w64 (by omega) (by omega)
          refine idx_flat (f := Taken.vals) Taken.vals_length (by omega) hr9 rfl hi' fun b o hab hr => ?_
          obtain ⟨b', o', hab', hc⟩ := RowAt.cell hr (i := 0) (v := .int .i64 (refTaken c)[i].block) rfl
          cases hab'
          refine ⟨_, hc, br_eq (fun he => ?_) fun _ => ?_⟩
          · have hm := ref_at hi.ci hd0 (List.getElem_mem hi')
            have : (refTaken c)[i].block = R.block := by omega
            exact absurd (this ▸ hm.2.1) hnh
          · rw [e1]
            exact ⟨⟨i + 1, rfl, hi', by trivial⟩, meas hi'⟩
        · intro w₁₁ hd11
          have e11 : Ext w₄ w₁₁ := e49.trans hd11.upd
          have hg11 := Ext.get hd11.upd hput9.get
          have hgB11 := Ext.get hd11.upd hg9
          have hp11 := hp4.ext e11
          have hst11 := hst _ e11
          refine ⟨fun u => u = w₁₁, rfl, br_eq (fun _ => ?_) fun h => by omega⟩
          simp only [decide_true, br_true]
          refine (cBad hp11.chip _).mono ?_
          rintro _ _ ⟨rfl, rfl⟩
          rename_i w₁₁
          refine ⟨_, rfl, rfl, ?_⟩
          rw [Int.toNat_natCast, hbad, Bool.and_false]
          simp only [Bool.not_false, br_true]
          refine ⟨_, fun v hv => hv ▸ cell_of hg11 rfl, _, fun v hv => hv ▸ cell_of hgB11 rfl, br_eq (fun _ => ?_) fun h => (h rfl).elim⟩
          refine ⟨_, fun v hv => hv ▸ cell_of hg11 rfl, _, fun v hv => hv ▸ cell_of hgB11 rfl, br_eq (fun _ => ?_) fun h => (h rfl).elim⟩
          refine ⟨_, fun v hv => hv ▸ cell_of hg11 rfl, ?_⟩
          refine (pLast hp11).mono ?_
          rintro _ _ ⟨rfl, rfl⟩
          rename_i w₁₁
          refine ⟨_, rfl, rfl, br_eq (fun _ => ?_) fun h => (h rfl).elim⟩
          refine ⟨_, fun v hv => hv ▸ cell_of hg11 rfl, ?_, hst11⟩
          congr 1
          exact decide_eq_true (by omega)
  · refine br_eq (fun hdo2 => ?_) fun hdo2 => ⟨by trivial, Upd.ext e2, P, c, h2, hi, .refl _, by omega, fun hq => ⟨hq, hd0⟩⟩
    -- Free
    have hthere : ((refTaken c).any fun t => decide ((t.block : Int) = a.block) && !t.bad) = true ↔ Mine c a.block := by
      rw [List.any_eq_true]
      constructor
      · rintro ⟨t, ht, he⟩
        obtain ⟨m1, m2, m3, m4⟩ := ref_at hi.ci hd0 ht
        simp at he
        have hbn : a.block.toNat = t.block := by omega
        refine ⟨by omega, by omega, by rw [hbn]; exact m2, by rw [hbn, ← m4]; exact he.2⟩
      · rintro ⟨m1, m2, m3, m4⟩
        refine ⟨⟨a.block.toNat, (hd c a.block.toNat).1, c.isBad a.block.toNat⟩, ((ref_mem hi.ci hd0 c.nb (Nat.le_refl _)).1 _).2 ⟨by show a.block.toNat < c.nb; omega, m3, rfl, rfl⟩, ?_⟩
        simp only [m4, Bool.not_false, Bool.and_true]
        exact decide_eq_true (by omega)
    refine ⟨fun b x u => ∃ i : Nat, x = i ∧ i ≤ (refTaken c).length ∧ Ext w₂ u ∧ b = ((refTaken c).take i).any (fun t => decide ((t.block : Int) = a.block) && !t.bad), fun _ x _ => ((refTaken c).length - x).toNat, ⟨0, rfl, by omega, Upd.refl _ _, by simp⟩, ?_⟩
    rintro b x u ⟨i, rfl, hil, hu, rfl⟩
    have hgu := Ext.get hu hg2
    refine br_dec (fun hlt => ?_) fun hge => ?_
    · have hi' : i < (refTaken c).length := by omega
      have e1 : IntKind.i64.wrap ((i : Int) + 1) = ((i + 1 : Nat) : Int) := w64 (by omega) (by omega)
      have hsucc : ((refTaken c).take (i + 1)).any (fun t => decide ((t.block : Int) = a.block) && !t.bad) = (((refTaken c).take i).any (fun t => decide ((t.block : Int) = a.block) && !t.bad) || (decide (((refTaken c)[i].block : Int) = a.block) && !(refTaken c)[i].bad)) := by
        rw [List.take_succ_eq_append_getElem hi', List.any_append]
        simp
      refine ⟨fun b u => Ext w₂ u ∧ b = ((refTaken c).take (i + 1)).any (fun t => decide ((t.block : Int) = a.block) && !t.bad), ?_, ?_⟩
      · intro w₁₅ hd15
        have e15 := hu.trans hd15.upd
        have hr15 := RowAt.ext hr1 e15
        have hg15 := Ext.get e15 hg2
        refine ⟨fun v => v = w₁₅, rfl, ?_⟩
        refine br_intro (fun hb => ⟨e15, ?_⟩) fun hb => ?_
        · rw [hsucc, hb]; rfl
        · refine idx_flat (f := Taken.vals) Taken.vals_length (by omega) hr15 rfl hi' fun b o hab hr => ?_
          obtain ⟨b', o', hab', hc⟩ := RowAt.cell hr (i := 0) (v := .int .i64 (refTaken c)[i].block) rfl
          cases hab'
          refine ⟨_, fun v hv => hv ▸ hc, _, fun v hv => hv ▸ cell_of hg15 rfl, br_eq (fun heq => ?_) fun hne => ⟨e15, ?_⟩⟩
          · refine idx_flat (f := Taken.vals) Taken.vals_length (by omega) hr15 rfl hi' fun b o hab hr => ?_
            obtain ⟨b', o', hab', hc⟩ := RowAt.cell hr (i := 4) (v := .bool (refTaken c)[i].bad) rfl
            cases hab'
            simp only [add_lit]
            refine ⟨_, fun v hv => hv ▸ hc, e15, ?_⟩
            rw [hsucc, hb, decide_eq_true heq]; rfl
          · rw [hsucc, hb, decide_eq_false hne]; rfl
      · rintro b' w₁₆ ⟨he16, rfl⟩
        rw [e1]
        exact ⟨⟨i + 1, rfl, hi', he16, rfl⟩, meas hi'⟩
    · have : i = (refTaken c).length := by omega
      subst this
      rw [List.take_length]
      generalize hth : ((refTaken c).any fun t => decide ((t.block : Int) = a.block) && !t.bad) = th at *
      refine ⟨_, cell_of hgu rfl, ?_⟩
      refine (pFree (h2.ext hu) a.block rfl).mono ?_
      rintro _ w₁₇ ⟨rfl, hu17, hp17⟩
      have hsu := hu.size
      have hg17 := hkeep hu17 (by omega) hgu
      have hu017 : Upd (Bet A S) w w₁₇ := (Upd.ext (e2.trans hu)).trans hu17
      refine ⟨_, rfl, ?_⟩
      by_cases hm : Mine c a.block
      · have hth1 : th = true := hthere.2 hm
        subst hth1
        obtain ⟨e, f⟩ := free_mine hi hd0 hm
        generalize freePool P c a.block = r at *
        have hst : ∀ u, Ext w₁₇ u → Stepped A S w M P c u := fun u hu => ⟨hu017.then hu, r.1, r.2.1, hp17.ext hu, f.inv, f.deed.geo, by rw [f.last]; omega, fun hq => ⟨(f.deed.quiet hq).2, by
          rcases f.deed.cases with ⟨_, b, _⟩ | ⟨b, _⟩ | ⟨b, _⟩
          · rw [b]; exact hd0
          · have := (f.deed.quiet hq).1; omega
          · have := (f.deed.quiet hq).1; omega⟩⟩
        refine br_eq (fun h10 => ⟨by trivial, hst _ (Upd.refl _ _)⟩) fun h10 => ?_
        simp only [Bool.not_true, br_false]
        have hnl : a.block = (a.block.toNat : Int) := by have := hm.1; omega
        have hbn : a.block.toNat < c.nb := by have := hm.1; have := hm.2.1; omega
        have herr := f.err
        have hdR : r.2.1.dead = false := by
          rcases f.deed.cases with ⟨b, d, _⟩ | ⟨b, d, _⟩ | ⟨b, d, _⟩
          · rw [d]; exact hd0
          · rw [d]; exact hd0
          · rw [b] at herr; simp at herr; omega
        have hr0 : r.2.2 = 0 := by
          rcases f.deed.cases with ⟨b, d, _⟩ | ⟨b, d, _⟩ | ⟨b, d, _⟩
          · rw [b] at herr; simpa using herr
          · rw [b] at herr; simpa using herr
          · rw [b] at herr; simp at herr; omega
        refine ⟨_, cell_of hg17 rfl, ?_⟩
        refine (rHead hp17.chip a.block).mono ?_
        rintro _ w₁₈ ⟨he18, rfl⟩
        have hrh := refHead_eq f.inv.ci.ok hdR (i := a.block.toNat) (by rw [f.deed.geo.1]; exact hbn)
        rw [← hnl] at hrh
        rw [hrh]
        refine ⟨_, _, _, _, rfl, fun B3 w₁₉ hn19 => ?_⟩
        rw [head_zero] at hn19
        refine head_put (h := (hd r.2.1 a.block.toNat).1) hn19.get rfl fun w₂₀ hput20 => ?_
        have hB3 : B3 = w₁₈.heap.size := hn19.num
        have e20 : Ext w₁₇ w₂₀ := Put.upd (he18.trans hn19.upd) hput20 (.inl (by have := he18.size; omega))
        have hg20 := Ext.get e20 hg17
        refine br_eq (fun _ => ?_) fun h => by omega
        refine br_intro (fun _ => ⟨by trivial, hst _ e20⟩) fun hh => ?_
        have hhd : isHd r.2.1 a.block.toNat := by
          have : decide ((hd r.2.1 a.block.toNat).2 = 0) = true := by simpa using hh
          have h2 : (hd r.2.1 a.block.toNat).2 = 0 := of_decide_eq_true this
          exact h2
        refine ⟨_, cell_of hg20 rfl, ?_⟩
        refine (cBad (hp17.ext e20).chip a.block).mono ?_
        rintro _ _ ⟨rfl, rfl⟩
        rename_i w₂₀
        refine ⟨_, rfl, ?_, hst _ e20⟩
        have hbad : r.2.1.isBad a.block.toNat = true := by
          rcases f.deed.cases with ⟨b, _⟩ | ⟨b, _, d⟩ | ⟨b, d, _⟩
          · exact absurd hhd (f.gone b)
          · exact d
          · rw [hdR] at d; cases d
        rw [hbad, decide_eq_true hm.1]; rfl
      · have hth0 : th = false := by
          cases th with
          | false => rfl
          | true => exact absurd (hthere.1 rfl) hm
        subst hth0
        rw [free_not hi hd0 hm] at hp17 ⊢
        have hst : ∀ u, Ext w₁₇ u → Stepped A S w M P c u := fun u hu => ⟨hu017.then hu, P, c, hp17.ext hu, hi, .refl _, by omega, fun hq => ⟨hq, hd0⟩⟩
        refine br_eq (fun h10 => by simp at h10) fun h10 => ?_
        simp only [Bool.not_false, br_true]
        exact ⟨by trivial, hst _ (Upd.refl _ _)⟩

end Go.Den
end

section
set_option linter.unusedVariables false
set_option linter.unusedSimpArgs false
namespace Go.Den

theorem setHits_inv {P : Pool} {c : Chip} (h : Inv P c) (hs : List Hit) : Inv P (c.setHits hs).1 := by
  unfold Chip.setHits
  split
  · exact h
  · exact ⟨⟨⟨h.ci.ok.nb1, h.ci.ok.nb2, h.ci.ok.np1, h.ci.ok.np2, h.ci.ok.sz1, h.ci.ok.sz2, h.ci.ok.bl, h.ci.ok.bl2, h.ci.ok.bad⟩, h.ci.safe, h.ci.uniq⟩, h.len, h.known, h.last⟩
theorem setHits_geo (c : Chip) (hs : List Hit) : c.SameGeo (c.setHits hs).1 ∧ (c.setHits hs).1.dead = c.dead ∧ (hs = [] → c.hits = [] → (c.setHits hs).1.hits = []) := by
  unfold Chip.setHits
  split
  · exact ⟨.refl _, rfl, fun _ h => h⟩
  · exact ⟨⟨rfl, rfl, rfl, rfl⟩, rfl, fun h _ => h⟩

/-- a page behind the head's is written -/
theorem program_inv {P : Pool} {c : Chip} (h : Inv P c) {i k : Nat} (hi : i < c.nb) (hk : 1 ≤ k) (hkn : k < c.np) (hh : c.dead = false → isHd c i) (b : List UInt8) :
    Inv P (c.program i k b).1 ∧ (c.hits = [] → (c.program i k b).1.hits = [] ∧ (c.program i k b).1.dead = c.dead) := by
  have hok := h.ci.ok
  unfold Chip.program
  split
  · exact ⟨h, fun hq => ⟨hq, rfl⟩⟩
  rename_i hask
  have hask0 : c.ask i k = 0 := Classical.byContradiction hask
  obtain ⟨hd0, _⟩ := ask_zero hask0
  split
  · exact ⟨h, fun hq => ⟨hq, rfl⟩⟩
  rename_i hl
  split
  · exact ⟨h, fun hq => ⟨hq, rfl⟩⟩
  split
  · exact ⟨h, fun hq => ⟨hq, rfl⟩⟩
  simp only [Int.toNat_natCast]
  have hfit := page_in hkn
  obtain ⟨hde, hblk, hdd⟩ := done_deed hok hi (off := k * c.sz) (n := c.sz) hfit b
  generalize hr : c.done i (k * c.sz) c.sz b = r at *
  have hlen := hok.blk_len hi
  have hks : c.sz ≤ k * c.sz := Nat.le_mul_of_pos_left _ hk
  have hp0 : r.1.page i 0 = c.page i 0 := by
    rw [page0, page0, hde.geo.2.2.1, hblk]
    unfold madeBlk
    rw [List.append_assoc, List.take_append_of_le_length (by simp; omega), List.take_take, Nat.min_eq_left hks]
  have hhd : hd r.1 i = hd c i := by unfold hd; rw [hp0]
  have hisd : isHd r.1 i := by unfold isHd; rw [hhd]; exact hh hd0
  have hil : i < P.blocks.length := by rw [h.len]; exact hi
  have hinv := h.deed hd0 hi hde (by rw [hp0]; exact h.ci.safe i hi) (P' := P.relook r.1 i) rfl (Nat.le_refl _) (fun _ => .inl ⟨hh hd0, hhd⟩)
  refine ⟨⟨hinv.ci, by rw [h.len]; exact hde.geo.1.symm, fun hdr j hj => ?_, hinv.last⟩, fun hq => ⟨(hde.quiet hq).2, ?_⟩⟩
  · have := hinv.known hdr j hj
    rw [← this]
    unfold Pool.relook
    rw [setBlk_blk hil]
    split
    · rename_i e
      subst e
      rw [lookAt_view, hdr, h.known hd0 j hi, view_pos (hh hd0)]
      show _ = view r.1 j
      rw [view_pos hisd, hhd]
    · rfl
  · rw [hdd, if_neg (by have := (hde.quiet hq).1; omega)]

end Go.Den
end

section
set_option linter.unusedVariables false
set_option linter.unusedSimpArgs false
set_option maxRecDepth 4000
namespace Go.Den

theorem PAt.turn {A S : Nat} {w : World} {M : PLoc} {P : Pool} {c : Chip} (h : PAt A S w M P c) : P.turn ≤ c.nb := by
  obtain ⟨L, G, hr, _⟩ := h
  exact hr.turn
theorem PAt.low {A S : Nat} {w : World} {M : PLoc} {P : Pool} {c : Chip} (h : PAt A S w M P c) : A ≤ M.p ∧ M.p < S := by
  obtain ⟨L, G, hr, hF, _⟩ := h
  exact hF M.p (.inr (.inr (by simp)))
/-- hits are set -/
theorem pHits {A S : Nat} {w : World} {M : PLoc} {P : Pool} {c : Chip} (h : PAt A S w M P c) (hA : A ≤ w.heap.size) {Gin : Nat → Prop} {a : Option Addr} {vs : List Value} {hs : List Hit} {cp : Nat} (hr : RowAt w a vs) (hh : HitRow w Gin vs hs)
    (hG : ∀ x, Gin x → x < A ∨ S ≤ x) (hap : hs ≠ [] → ∀ q, a = some q → q.block < A ∨ S ≤ q.block) (hn : hs.length ≤ 100000) (hm : ∀ t ∈ hs, t.mask.length ≤ 140737488355232) :
    CallsR prog K.nand_Chip_Hits #[.pointer (some ⟨M.p, 0, none⟩), .slice a hs.length cp] w fun v w' => v = .int .i64 ((c.setHits hs).2 : Nat) ∧ Upd (Bet A S) w w' ∧ PAt A S w' M P (c.setHits hs).1 := by
  have hlow := h.low
  obtain ⟨L, G, hp, hF, hGG⟩ := h
  refine (nand_Hits_spec hp.chip hr hh (fun x hx e => by have := hG x hx; omega) (fun hne q hq e => by have := hap hne q hq; omega) hn hm).mono ?_
  rintro _ w' ⟨hu, L', G', hs', hc, hG', rfl⟩
  have hnew : ∀ x, G' x → A ≤ x ∧ x < w'.heap.size := fun x hx => by
    rcases hG' x hx with hx | hx
    · have := hGG x hx; have := hu.size; omega
    · omega
  refine ⟨rfl, hu.mono fun x _ hx => by rw [hx]; exact hlow, L', G', hp.rechip (hu.mono fun x _ hx => by rw [hx]; simp) hc hs' (setHits_geo c hs).1 (fun x hx hg => ?_), fun x hx => hF x (by rw [PF.same hs'] at hx; exact hx), hnew⟩
  rcases hG' x hg with hg | hg
  · exact (hp.apart x hx).2 hg
  · have hxq : x < w.heap.size := by
      rcases hx with rfl | rfl
      · exact (Array.getElem?_eq_some_iff.1 hp.head).1
      · exact OwnAt.blk hp.own rfl
    omega
/-- a page is written, beside the pool -/
theorem pProgram {A S : Nat} {w : World} {M : PLoc} {P : Pool} {c : Chip} (h : PAt A S w M P c) (block page : Int) {a : Option Addr} {b : List UInt8} {cp : Nat} (hb : BytesAt w a b) (hap : ∀ q, a = some q → S ≤ q.block) :
    CallsR prog K.nand_Chip_Program #[.pointer (some ⟨M.p, 0, none⟩), .int .i64 block, .int .i64 page, .slice a b.length cp] w fun v w' => v = .int .i64 ((c.program block page b).2 : Nat) ∧ Upd (Bet A S) w w' ∧ PAt A S w' M P (c.program block page b).1 := by
  obtain ⟨L, G, hp, hF, hGG⟩ := h
  refine (nand_Program_spec hp.chip block page hb (fun q hq hm => ?_)).mono ?_
  · have := hap q hq
    have := hF q.block (.inr (.inr (by
      simp only [List.mem_cons] at hm ⊢
      rcases hm with hm | hm
      · exact .inl hm
      · exact .inr (.inr hm))))
    omega
  rintro _ w' ⟨hu, L', hs', hc, rfl⟩
  exact ⟨rfl, hu.mono fun x _ hx => hF x (.inr (.inr hx)), L', G, hp.rechip hu hc hs' (Chip.program_geo _ _ _ _) (fun x hx => (hp.apart x hx).2), fun x hx => hF x (by rw [PF.same hs'] at hx; exact hx), fun x hx => ⟨(hGG x hx).1, Nat.lt_of_lt_of_le (hGG x hx).2 hu.size⟩⟩

/-- an act, and what is looked at behind it -/
theorem play_tail {A S : Nat} {w : World} {M : PLoc} {P : Pool} {c : Chip} (h : PAt A S w M P c) (hS : S ≤ w.heap.size) (hi : Inv P c) (hd0 : c.dead = false) (hnb : c.nb = 8) (hlast : P.last < 100000) (a : Act) (hera : a.era < 4294967296)
    {X Y Z : World → Prop} (hZ : ∀ u P' c', Upd (Bet A S) w u → PAt A S u M P' c' → Inv P' c' → c.SameGeo c' → P'.last ≤ P.last + 8 → (c.hits = [] → c'.hits = [] ∧ c'.dead = false) → Z u) :
    CallsR prog K.carracklaw04_step #[.pointer (some ⟨M.q, 0, none⟩), .pointer (some ⟨M.p, 0, none⟩), actV a] w fun v8 w19 =>
      ∃ b1 : Bool, v8 = Value.bool b1 ∧
      br (!b1) (X w19) (
        CallsR prog K.carracklaw04_alive #[Value.pointer (some ⟨M.p, 0, none⟩)] w19 fun v9 w20 =>
        ∃ b2 : Bool, v9 = Value.bool b2 ∧
        br b2 (
          CallsR prog K.carracklaw04_same #[Value.pointer (some ⟨M.q, 0, none⟩), Value.pointer (some ⟨M.p, 0, none⟩)] w20 fun v10 w21 =>
          ∃ b3 : Bool, v10 = Value.bool b3 ∧
          br (!b3) (Y w21) (Z w21)) (Z w20)) := by
  refine (carracklaw04_step_spec h hS hi hd0 (by omega) hlast h.turn a hera).mono ?_
  rintro _ w₁ ⟨rfl, hu1, P', c', hp1, hi1, hg1, hl1, hq1⟩
  refine ⟨_, rfl, ?_⟩
  simp only [Bool.not_true, br_false]
  refine (cAlive hp1.chip).mono ?_
  rintro _ w₂ ⟨rfl, he2⟩
  have hp2 := hp1.ext he2
  refine ⟨_, rfl, br_intro (fun hal => ?_) fun hal => ?_⟩
  · have hd1 : c'.dead = false := by simpa using hal
    refine (carracklaw04_same_spec hp2 hi1 hd1 (by rw [hg1.1]; omega)).mono ?_
    rintro _ w₃ ⟨rfl, he3⟩
    refine ⟨_, rfl, ?_⟩
    simp only [Bool.not_true, br_false]
    exact hZ w₃ P' c' ((hu1.then he2).then he3) (hp2.ext he3) hi1 hg1 (by omega) hq1
  · exact hZ w₂ P' c' (hu1.then he2) hp2 hi1 hg1 (by omega) hq1

end Go.Den
end

section
set_option linter.unusedVariables false
set_option linter.unusedSimpArgs false
set_option maxRecDepth 4000
namespace Go.Den

/-- what stands ahead of each act -/
structure Playing (w : World) (hs : List Hit) (k : Nat) (p3 p4 : Option Addr) (u : World) : Prop where
  ext : Ext w u
  out : ∃ S M P c, p3 = some ⟨PLoc.p M, 0, none⟩ ∧ p4 = some ⟨PLoc.q M, 0, none⟩ ∧ S ≤ u.heap.size ∧ PAt w.heap.size S u M P c ∧ Inv P c ∧ c.nb = 8 ∧ c.sz = 128 ∧ P.last ≤ 8 * k ∧ (hs = [] → c.hits = [] ∧ c.dead = false)

theorem Act.vals_length (a : Act) : a.vals.length = 6 := rfl
theorem fill_bytes {w : World} {b i : Nat} {x : UInt8} (hi : i < 128) (h : OwnAt w (some ⟨b, 0, none⟩) 128 128 T.uint8 1 ((List.replicate i x ++ List.replicate (128 - i) 0).map bv)) {K : World → Prop}
    (hk : ∀ w', Upd (· = b) w w' → OwnAt w' (some ⟨b, 0, none⟩) 128 128 T.uint8 1 ((List.replicate (i + 1) x ++ List.replicate (128 - (i + 1)) 0).map bv) → K w') : storeP w ⟨b, i, none⟩ [bv x] K := by
  refine own_store h (by simp; omega) fun w' hu ho => hk w' hu ?_
  have e : ((List.replicate i x ++ List.replicate (128 - i) (0 : UInt8)).map bv).take i ++ [bv x] ++ ((List.replicate i x ++ List.replicate (128 - i) (0 : UInt8)).map bv).drop (i + [bv x].length) = (List.replicate (i + 1) x ++ List.replicate (128 - (i + 1)) 0).map bv := by
    rw [← List.map_take, ← List.map_drop, show [bv x] = [x].map bv from rfl, ← List.map_append, ← List.map_append]
    congr 1
    rw [List.take_append_of_le_length (by simp), List.take_of_length_le (by simp), List.drop_append, List.drop_of_length_le (l := List.replicate i x) (by simp)]
    simp only [List.map_cons, List.map_nil, List.length_cons, List.length_nil, List.length_replicate, List.nil_append, List.drop_replicate]
    rw [← List.replicate_append_replicate (n := i) (m := 1)]
    simp
    omega
  rw [e] at ho
  exact ho

/-- the third act: something is written behind the last head -/
theorem act_three {w : World} {A S : Nat} {M : PLoc} {P : Pool} {c : Chip} (h : PAt A S w M P c) (hA : A ≤ S) (hS : S ≤ w.heap.size) (hi : Inv P c) (hnb : c.nb = 8) (hsz : c.sz = 128) {B : Nat} (hBS : S ≤ B) {a : Act} (hB : w.heap[B]? = some (.cells a.vals.toArray T.carracklaw04_Act (0, 0))) {J : World → Prop}
    (hJ : ∀ u c', Upd (Bet A S) w u → PAt A S u M P c' → Inv P c' → c.SameGeo c' → (c.hits = [] → c'.hits = [] ∧ c'.dead = c.dead) → J u) :
    CallsR prog K.pool_Pool_Taken #[Value.pointer (some ⟨M.q, 0, none⟩)] w fun v4 w10 =>
          ∃ (a1 : Option Addr) (l1 c1 : Nat), v4 = Value.slice a1 l1 c1 ∧
          br (decide (((l1 : Nat) : Int) > 0)) (makeSliceP T.uint8 1 1 [Value.int .u8 0] (128 : Int) (128 : Int) w10 fun a2 l2 c2 w11 =>
            ∃ (J6 : Int → World → Prop) (μ2 : Int → World → Nat), J6 0 w11 ∧
            ∀ x12 : Int,
            ∀ w12 : World, J6 x12 w12 →
            br (decide (x12 < ((l2 : Nat) : Int))) (
              ∃ x13 : Int, World.cell? w12 (Addr.add ⟨B, 0, none⟩ 5) = some (Value.int .u8 x13) ∧
              idxP a2 l2 x12 1 fun q2 =>
              storeP w12 q2 [Value.int .u8 x13] fun w13 => J6 (IntKind.i64.wrap (x12 + 1)) w13 ∧ μ2 (IntKind.i64.wrap (x12 + 1)) w13 < μ2 x12 w12) (
              ∀ w14 : World, Drew w12 w14 →
              ∃ S1 : World → Prop, S1 w14 ∧
              idxP a1 l1 (IntKind.i64.wrap (((l1 : Nat) : Int) - 1)) 5 fun q3 =>
              ∃ x14 : Int, (
                ∀ u1, S1 u1 → World.cell? u1 q3 = some (Value.int .i64 x14)) ∧
              ∃ x15 : Int, (
                ∀ u2, S1 u2 → World.cell? u2 (Addr.add ⟨B, 0, none⟩ 4) = some (Value.int .i64 x15)) ∧ (3 : Int) ≠ 0 ∧
              CallsR prog K.nand_Chip_Program #[Value.pointer (some ⟨M.p, 0, none⟩), Value.int .i64 x14, Value.int .i64 (IntKind.i64.wrap ((1 : Int) + (IntKind.i64.wrap (Int.tmod (IntKind.u64.wrap x15) 3)))), Value.slice a2 l2 c2] w14 fun v5 w15 =>
              ∃ x16 : Int, v5 = Value.int .i64 x16 ∧ S1 w15 ∧ J w15)) (J w10) := by
  have hnp := hi.ci.ok.np1
  refine (pTaken h (by omega) rfl).mono ?_
  rintro _ w₁₀ ⟨he10, a1, c1, rfl, ho1, hf1⟩
  have h10 := h.ext he10
  refine ⟨_, _, _, rfl, br_dec (fun hpos => ?_) fun hz => hJ w₁₀ c (Upd.ext he10) h10 hi (.refl _) (fun hq => ⟨hq, rfl⟩)⟩
  generalize hl : takenPool P c = l at *
  have hll : l.length ≤ 8 := by
    rw [← hl]
    unfold takenPool
    rw [isort_length, ← hnb]
    exact takenRaw_length P c c.nb
  refine ⟨by omega, by omega, by omega, by omega, rfl, fun b w₁₁ hn11 => ?_⟩
  have hb : b = w₁₀.heap.size := hn11.num
  have hs10 := he10.size
  have hs11 := hn11.size
  rw [zerosL_one] at hn11
  have e128 : Int.toNat 128 = 128 := rfl
  simp only [e128, add_lit] at hn11 ⊢
  refine ⟨fun x u => ∃ i : Nat, x = i ∧ i ≤ 128 ∧ Upd (· = b) w₁₁ u ∧ OwnAt u (some ⟨b, 0, none⟩) 128 128 T.uint8 1 ((List.replicate i a.fill ++ List.replicate (128 - i) 0).map bv), fun x _ => (128 - x).toNat, ⟨0, rfl, by omega, Upd.refl _ _, ?_⟩, ?_⟩
  · have := OwnAt.new (n := 128) (size := 1) hn11 (by rw [List.size_toArray, List.length_replicate])
    rw [List.replicate_zero, List.nil_append, List.map_replicate]
    exact this
  rintro x u ⟨i, rfl, hi128, hu, ho⟩
  have hgB : u.heap[B]? = _ := hu.get (Ext.get hn11.upd (Ext.get he10 hB)) (by have := (Array.getElem?_eq_some_iff.1 hB).1; omega)
  refine br_dec (fun hlt => ?_) fun hge => ?_
  · have hi' : i < 128 := by omega
    have e1 : IntKind.i64.wrap ((i : Int) + 1) = ((i + 1 : Nat) : Int) := w64 (by omega) (by omega)
    refine ⟨_, cell_of hgB rfl, ?_⟩
    refine ⟨by omega, by omega, ?_⟩
    simp only [nilC_some', add_lit, Int.toNat_natCast, Nat.mul_one, Nat.zero_add]
    refine fill_bytes hi' ho fun w' hu' ho' => ?_
    rw [e1]
    exact ⟨⟨i + 1, rfl, hi', hu.trans hu', ho'⟩, by omega⟩
  · have : i = 128 := by omega
    subst this
    intro w₁₄ hd14
    have hu14 : Upd (· = b) w₁₁ w₁₄ := hu.then hd14.upd
    have e10_14 : Ext w₁₀ w₁₄ := Upd.beyond hn11.upd hu14 (fun x hx => by omega)
    have e14 : Ext w w₁₄ := he10.trans e10_14
    have h14 := h.ext e14
    have hr14 := RowAt.ext ho1.row e10_14
    have hgB14 := Ext.get hd14.upd hgB
    have hfr : ∀ q, a1 = some q → S ≤ q.block := fun q hq => by have := hf1 q hq; omega
    have el : IntKind.i64.wrap (((l.length : Nat) : Int) - 1) = ((l.length - 1 : Nat) : Int) := by rw [w64 (by omega) (by omega)]; omega
    rw [el]
    refine ⟨fun v => Upd (Bet A S) w₁₄ v, Upd.refl _ _, ?_⟩
    have hli : l.length - 1 < l.length := by omega
    refine idx_flat (f := Taken.vals) Taken.vals_length (by omega) hr14 rfl hli fun b' o hab hr => ?_
    refine ⟨l[l.length - 1].block, fun v hv => ?_, a.page, fun v hv => cell_of (hv.get hgB14 (fun hb => by have := hb.2; omega)) rfl, by omega, ?_⟩
    · obtain ⟨b'', o'', hab', hc⟩ := RowAt.cell (RowAt.upd hr hv (fun q hq hb => by
        cases hq
        have := hfr _ hab
        have := hb.2
        simp only [] at *
        omega)) (i := 0) (v := .int .i64 l[l.length - 1].block) rfl
      cases hab'
      exact hc
    obtain ⟨m, hm⟩ : ∃ m : Nat, IntKind.u64.wrap a.page = m := ⟨(IntKind.u64.wrap a.page).toNat, by rw [wu64_mod]; omega⟩
    have et : Int.tmod (m : Int) 3 = ((m % 3 : Nat) : Int) := tmod_nat m 3
    have hm3 : m % 3 < 3 := Nat.mod_lt _ (by omega)
    rw [hm, et, w64n (by omega)]
    have e2 : IntKind.i64.wrap ((1 : Int) + ((m % 3 : Nat) : Int)) = ((1 + m % 3 : Nat) : Int) := by rw [w64 (by omega) (by omega)]; omega
    rw [e2]
    have ho14 := OwnAt.ext ho hd14.upd
    have hbytes : BytesAt w₁₄ (some ⟨b, 0, none⟩) (List.replicate 128 a.fill) := by
      have := ho14.row
      rw [Nat.sub_self, List.replicate_zero (a := (0 : UInt8)), List.append_nil] at this
      exact this
    have hpr := pProgram h14 (l[l.length - 1].block : Int) ((1 + m % 3 : Nat) : Int) (cp := 128) hbytes (fun q hq => by cases hq; show S ≤ b; omega)
    rw [List.length_replicate] at hpr
    have hmem : l[l.length - 1] ∈ takenPool P c := by rw [hl]; exact List.getElem_mem hli
    have hblk : l[l.length - 1].block < c.nb := by
      unfold takenPool at hmem
      rw [isort_mem] at hmem
      exact takenRaw_block hmem
    obtain ⟨hpi, hpq⟩ := program_inv hi (i := l[l.length - 1].block) (k := 1 + m % 3) hblk (by omega) (by omega) (fun hd0 => ((taken_mem hi hd0 _).1 hmem).2.1) (List.replicate 128 a.fill)
    refine hpr.mono ?_
    rintro _ w₁₅ ⟨rfl, hu15, hp15⟩
    exact ⟨_, rfl, hu15, hJ w₁₅ _ ((Upd.ext e14).trans hu15) hp15 hpi (Chip.program_geo _ _ _ _) hpq⟩

end Go.Den
end

section
set_option linter.unusedVariables false
set_option linter.unusedSimpArgs false
set_option maxRecDepth 4000
namespace Go.Den

theorem carracklaw04_played_spec {w : World} (pages : UInt8) {Gin : Nat → Prop} {ha aa : Option Addr} {hvs : List Value} {hs : List Hit} {acts : List Act} {hc ac : Nat} (hr : RowAt w ha hvs) (hh : HitRow w Gin hvs hs) (hG : ∀ x, Gin x → x < w.heap.size) (hap : hs ≠ [] → ∀ q, ha = some q → q.block < w.heap.size)
    (hm : ∀ t ∈ hs, t.mask.length ≤ 140737488355232) (ar : RowAt w aa (acts.flatMap Act.vals)) (hera : ∀ a ∈ acts, a.era < 4294967296) :
    CallsR prog K.carracklaw04_played #[bv pages, .slice ha hs.length hc, .slice aa acts.length ac] w fun v w' => Ext w w' ∧ ∃ S M P c, v = .tuple #[.pointer (some ⟨PLoc.p M, 0, none⟩), .pointer (some ⟨PLoc.q M, 0, none⟩), .bool true] ∧
      S ≤ w'.heap.size ∧ PAt w.heap.size S w' M P c ∧ Inv P c ∧ c.nb = 8 ∧ c.sz = 128 ∧ P.last ≤ 320 ∧ (hs = [] → c.hits = [] ∧ c.dead = false) := by
  have hpg := pages.toNat_lt
  apply carracklaw04_played.sh
  have et : Int.tmod (pages.toNat : Int) 3 = ((pages.toNat % 3 : Nat) : Int) := tmod_nat _ 3
  have hm3 : pages.toNat % 3 < 3 := Nat.mod_lt _ (by omega)
  have e0 : IntKind.i64.wrap ((4 : Int) + IntKind.i64.wrap (Int.tmod (pages.toNat : Int) 3)) = ((4 + pages.toNat % 3 : Nat) : Int) := by
    rw [et, w64n (m := pages.toNat % 3) (by omega), w64 (by omega) (by omega)]; omega
  unfold carracklaw04_played.body
  rw [e0]
  refine ⟨by omega, ?_⟩
  refine (cNew w (A := w.heap.size) (nb := 8) (np := 4 + pages.toNat % 3) (sz := 128) (sp := 2) (Nat.le_refl _) (by omega) (by omega) (by omega) (by omega) (by omega) (by omega) (by omega)).mono ?_
  rintro _ w₁ ⟨he1, p, rfl, hc1⟩
  refine ⟨_, _, rfl, ?_⟩
  obtain ⟨hci, hno⟩ := new_ci (nb := 8) (np := 4 + pages.toNat % 3) (sz := 128) (sp := 2) (by omega) (by omega) (by omega) (by omega) (by omega) (by omega) (newChip 8 (4 + pages.toNat % 3) 128 2) rfl
  have hnb0 : (newChip 8 (4 + pages.toNat % 3) 128 2).nb = 8 := rfl
  have hsz0 : (newChip 8 (4 + pages.toNat % 3) 128 2).sz = 128 := rfl
  have hd0 : (newChip 8 (4 + pages.toNat % 3) 128 2).dead = false := rfl
  have hh0 : (newChip 8 (4 + pages.toNat % 3) 128 2).hits = [] := rfl
  generalize newChip 8 (4 + pages.toNat % 3) 128 2 = c0 at *
  obtain ⟨hinv, hlast⟩ := scan_inv hci hd0
  have hl0 := hlast 0 (fun i hi hhd => absurd hhd (hno i hi))
  refine (cScan hc1 he1.size (Nat.le_refl _)).mono ?_
  rintro _ w₂ ⟨he2, hv⟩
  rw [if_neg (by rw [hd0]; simp)] at hv
  obtain ⟨M, rfl, rfl, hp2⟩ := hv
  have e2 : Ext w w₂ := he1.trans he2
  refine ⟨_, _, rfl, fun u => u = w₂, br_ne (fun h => (h rfl).elim) fun _ => br_ne (fun h => (h rfl).elim) fun _ => rfl, ?_⟩
  rintro _ rfl
  rename_i w₂
  have hstart : Playing w hs 0 (some ⟨M.p, 0, none⟩) (some ⟨M.q, 0, none⟩) w₂ → True := fun _ => trivial
  refine ⟨fun u => Playing w hs 0 (some ⟨M.p, 0, none⟩) (some ⟨M.q, 0, none⟩) u, ?_, ?_⟩
  · refine br_dec (fun hlt => ?_) fun hge => ⟨e2, _, M, _, c0, rfl, rfl, Nat.le_refl _, hp2, hinv, hnb0, hsz0, by omega, fun _ => ⟨hh0, hd0⟩⟩
    refine (pHits hp2 e2.size (cp := hc) (RowAt.ext hr e2) (HitRow.upd e2 (fun _ _ hf => hf) hh) (fun x hx => .inl (hG x hx)) (fun h q hq => .inl (hap h q hq)) (by omega) hm).mono ?_
    rintro _ w₄ ⟨rfl, hu4, hp4⟩
    obtain ⟨g1, g2, g3⟩ := setHits_geo c0 hs
    exact ⟨_, rfl, Upd.beyond e2 hu4 (fun x hx => hx.1), _, M, _, _, rfl, rfl, hu4.size, hp4, setHits_inv hinv hs, g1.1.trans hnb0, g1.2.2.1.trans hsz0, by omega, fun h => ⟨g3 h hh0, g2.trans hd0⟩⟩
  intro w₅ hpl5
  refine ⟨fun p3 p4 x u => ∃ k : Nat, x = k ∧ k ≤ acts.length ∧ k ≤ 40 ∧ Playing w hs k p3 p4 u, fun _ _ x _ => (40 - x).toNat, ⟨0, rfl, by omega, by omega, hpl5⟩, ?_⟩
  rintro p3 p4 x u ⟨k, rfl, hka, hk40, hext, S, M, P, c, rfl, rfl, hS, hp, hi, hnb, hsz, hls, hq⟩
  have hfin : CallsR prog K.carracklaw04_played #[] u (fun _ _ => True) → True := fun _ => trivial
  have hAS : w.heap.size ≤ S := by have := hp.low; omega
  refine ⟨fun v => v = u ∧ k < acts.length ∧ k < 40, ?_, ?_⟩
  · refine br_dec (fun h1 => br_dec (fun h2 => ⟨rfl, by omega, by omega⟩) fun h2 => ?_) fun h1 => ?_
    · exact ⟨hext, S, M, P, c, rfl, hS, hp, hi, hnb, hsz, by omega, hq⟩
    · exact ⟨hext, S, M, P, c, rfl, hS, hp, hi, hnb, hsz, by omega, hq⟩
  rintro _ ⟨rfl, hka', hk40'⟩
  rename_i u
  have e1 : IntKind.i64.wrap ((k : Int) + 1) = ((k + 1 : Nat) : Int) := w64 (by omega) (by omega)
  refine idx_flat (f := Act.vals) Act.vals_length (by omega) (RowAt.ext ar hext) rfl hka' fun b o hab hra => ?_
  have hae := hera _ (List.getElem_mem hka')
  generalize acts[k] = a at *
  refine ⟨a.act, a.kind.toNat, a.era, a.block, a.page, a.fill.toNat, RowAt.cells hra, fun B w₈ hn8 => ?_⟩
  refine store_of hn8.get (by simp) fun w₉ hput9 => ?_
  have hB : B = u.heap.size := hn8.num
  have hgB := hput9.get
  rw [splice_all _ _ (by simp)] at hgB
  have hgB' : w₉.heap[B]? = some (.cells a.vals.toArray T.carracklaw04_Act (0, 0)) := hgB
  have hsx := hext.size
  have e9u : Ext u w₉ := Put.upd hn8.upd hput9 (.inl (by omega))
  have e9 := hext.trans e9u
  have hp9 := hp.ext e9u
  have hs9 := e9u.size
  -- behind the third act
  refine ⟨fun v => Upd (Bet w.heap.size S) w₉ v ∧ ∃ c', PAt w.heap.size S v M P c' ∧ Inv P c' ∧ c.SameGeo c' ∧ (c.hits = [] → c'.hits = [] ∧ c'.dead = c.dead), ?_, ?_⟩
  · refine ⟨_, cell_of hgB' rfl, br_eq (fun h3 => ?_) fun h3 => ⟨Upd.refl _ _, c, hp9, hi, .refl _, fun h => ⟨h, rfl⟩⟩⟩
    exact act_three hp9 hAS (by omega) hi hnb hsz (by omega) hgB' fun v c' hu' hp' hi' hg' hq' => ⟨hu', c', hp', hi', hg', hq'⟩
  rintro w₁₆ ⟨hu16, c', hp16, hi16, hg16, hq16⟩
  have hgB16 : w₁₆.heap[B]? = some (.cells a.vals.toArray T.carracklaw04_Act (0, 0)) := hu16.get hgB' (fun hb => by have := hb.2; omega)
  have e16 : Ext w w₁₆ := Upd.beyond e9 hu16 (fun x hx => hx.1)
  have hs16 := hu16.size
  have hactc : ∀ {v : World}, v.heap[B]? = some (.cells a.vals.toArray T.carracklaw04_Act (0, 0)) → cellsAt v ⟨B, 0, none⟩ a.vals 0 := fun hv => cellsAt_of (o := 0) hv (fun j v hj => by simpa [Act.vals] using hj)
  -- with the power cut and the pool scanned anew
  have hpower : ∀ {v : World} {X Y : Option Addr → Option Addr → World → Prop}, Ext w₁₆ v → (∀ S' M' P' u', Ext w₁₆ u' → S' ≤ u'.heap.size → PAt w.heap.size S' u' M' P' c'.power → Inv P' c'.power → P'.last ≤ P.last → X (some ⟨M'.p, 0, none⟩) (some ⟨M'.q, 0, none⟩) u') →
      CallsR prog K.nand_Chip_Power #[Value.pointer (some ⟨M.p, 0, none⟩)] v fun v6 w17 =>
          ∃ p5 : Option Addr, ∃ x18 : Int, v6 = Value.tuple #[Value.pointer p5, Value.int .i64 x18] ∧
          CallsR prog K.pool_Scan #[Value.pointer p5] w17 fun v7 w18 =>
          ∃ p6 : Option Addr, ∃ x19 : Int, v7 = Value.tuple #[Value.pointer p6, Value.int .i64 x19] ∧ br (x19 != 0) (Y p5 p6 w18) (X p5 p6 w18) := by
    intro v X Y hv hX
    refine (cPower (hp16.ext hv).chip (by have := hv.size; omega)).mono ?_
    rintro _ w₁₇ ⟨he17, p', rfl, hc17⟩
    refine ⟨_, _, rfl, ?_⟩
    have hs17 := (hv.trans he17).size
    refine (cScan hc17 (by omega) (Nat.le_refl _)).mono ?_
    rintro _ w₁₈ ⟨he18, hv18⟩
    rw [if_neg (by show ¬ (false = true); simp)] at hv18
    obtain ⟨M', rfl, rfl, hp18⟩ := hv18
    obtain ⟨hsi, hsl⟩ := scan_inv (power_ci hi16.ci) rfl
    exact ⟨_, _, rfl, br_ne (fun h => (h rfl).elim) fun _ => hX _ M' _ w₁₈ ((hv.trans he17).trans he18) (Nat.le_refl _) hp18 hsi (hsl _ (fun i hi' hhd => hi16.last i hi' hhd))⟩
  have hZ : ∀ (S' : Nat) (M' : PLoc) (P' : Pool) (c1 : Chip) (u' : World), Ext w u' → S' ≤ u'.heap.size → c1.nb = 8 → c1.sz = 128 → P'.last ≤ 8 * k → (hs = [] → c1.hits = [] ∧ c1.dead = false) → ∀ u P'' c'', Upd (Bet w.heap.size S') u' u → PAt w.heap.size S' u M' P'' c'' → Inv P'' c'' → c1.SameGeo c'' → P''.last ≤ P'.last + 8 → (c1.hits = [] → c''.hits = [] ∧ c''.dead = false) →
      (∃ k' : Nat, IntKind.i64.wrap ((k : Int) + 1) = k' ∧ k' ≤ acts.length ∧ k' ≤ 40 ∧ Playing w hs k' (some ⟨M'.p, 0, none⟩) (some ⟨M'.q, 0, none⟩) u) ∧ ((40 : Int) - IntKind.i64.wrap ((k : Int) + 1)).toNat < ((40 : Int) - (k : Int)).toNat := by
    intro S' M' P' c1 u' he hS' h8 h128 hl hq1 u P'' c'' hu hp'' hi'' hg hl'' hq2
    rw [e1]
    exact ⟨⟨k + 1, rfl, hka', hk40', Upd.beyond he hu (fun x hx => hx.1), S', M', P'', c'', rfl, rfl, Nat.le_trans hS' hu.size, hp'', hi'', hg.1.trans h8, hg.2.2.1.trans h128, by omega, fun h => hq2 (hq1 h).1⟩, by omega⟩
  have h8 : c'.nb = 8 := hg16.1.trans hnb
  have h128 : c'.sz = 128 := hg16.2.2.1.trans hsz
  refine ⟨_, cell_of hgB16 rfl, br_eq (fun h4 => ?_) fun h4 => ?_⟩
  · refine hpower (Upd.refl _ _) fun S' M' P' u' he hS' hp' hi' hl' => ⟨_, _, _, _, _, _, hactc (Ext.get he hgB16), ?_⟩
    exact play_tail hp' hS' hi' rfl h8 (by omega) a hae (hZ S' M' P' c'.power u' (e16.trans he) hS' h8 h128 (by omega) (fun _ => ⟨rfl, rfl⟩))
  · refine (cAlive hp16.chip).mono ?_
    rintro _ w₂₂ ⟨rfl, he22⟩
    refine ⟨_, rfl, ?_⟩
    rw [Bool.not_not]
    refine br_intro (fun hdd => ?_) fun hdd => ?_
    · refine hpower he22 fun S' M' P' u' he hS' hp' hi' hl' => ⟨_, _, _, _, _, _, hactc (Ext.get he hgB16), ?_⟩
      exact play_tail hp' hS' hi' rfl h8 (by omega) a hae (hZ S' M' P' c'.power u' (e16.trans he) hS' h8 h128 (by omega) (fun _ => ⟨rfl, rfl⟩))
    · refine ⟨_, _, _, _, _, _, hactc (Ext.get he22 hgB16), ?_⟩
      have hs22 := he22.size
      exact play_tail (hp16.ext he22) (by omega) hi16 hdd h8 (by omega) a hae (hZ S M P c' w₂₂ (e16.trans he22) (by omega) h8 h128 hls (fun h => ⟨(hq16 (hq h).1).1, hdd⟩))

end Go.Den
end

section
set_option linter.unusedVariables false
set_option linter.unusedSimpArgs false
namespace Go.Den
open Go.ChangeShapes Go.WideShapes Go.ChangeAt Go.RowKit

theorem Ext.below {w w' : World} (h : Ext w w') : Below w.heap.size w w' := ⟨h.os, h.tape, h.output, h.size, fun k hk => h.blk k hk (fun hf => hf)⟩

section
variable {H : Type} {enc : TypeId × Value → H} {P : Program}
theorem trodAll_stays (hl : laidOutB P = true) {W W' : World} (hb : Below W.heap.size W W') {sp : Nat → Bool} : ∀ {ts : List TypeId} {vs : List Value} {ds : List (DataW H)} {ps : List MemPlace}, (∀ t ∈ ts, P.readableRec t = true ∧ t < P.types.size) →
    DataW.TrodAll enc P W 0 (fun _ => true) true ts vs ds ps → (∀ x ∈ ps, x.block < W.heap.size) → (∀ x ∈ ps, sp x.block = true) → DataW.TrodAll enc P W' 0 sp true ts vs ds ps
  | [], _, _, _, _, h, _, _ => by
    obtain ⟨rfl, rfl, rfl⟩ := trodAll_nil h
    rfl
  | t :: ts, _, _, _, hr, h, hlt, hsp => by
    obtain ⟨v, vs1, d, ds1, a, b, rfl, rfl, rfl, h1, h2⟩ := trodAll_cons h
    exact ⟨a, b, WideElems.Trod_stays hl (hr t (by simp)).1 (hr t (by simp)).2 h1 (fun x hx => hb.same (hlt x (by simp [hx]))) (fun x hx => hsp x (by simp [hx])),
      trodAll_stays hl hb (fun u hu => hr u (by simp [hu])) h2 (fun x hx => hlt x (by simp [hx])) (fun x hx => hsp x (by simp [hx])), rfl⟩

/-- a law's answer: true, and all arguments as they were -/
theorem post_true (hl : laidOutB P = true) {f : Func} {s : ChangeSpec} {apart fresh handsOn again : Bool} {W W' : World} {args : Array Value} {ds gs : List (DataW H)} {before : List MemPlace} {tb : TypeId}
    (hW : DataW.Whole enc P f.params.toList s.vars apart W args.toList ds gs before) (hv : s.vars = []) (hrows : ∀ t ∈ f.params.toList, P.readableRec t = true ∧ t < P.types.size) (hb : Below W.heap.size W W')
    (ht : P.underlying tb = some .bool) (hres : f.resultTypes = #[tb]) (hfn : (s.fn H (ds ++ gs)) = { results := [.lit (.bool true)], args := ds }) :
    s.post enc P f apart fresh handsOn again W args (.bool true) W' := by
  have hlt := hW.lt
  have hW' := hW
  obtain ⟨p, q, hA, hV, hpq, hz, hn⟩ := hW'
  rw [hv] at hV
  obtain ⟨rfl, rfl⟩ := trodVars_none hV
  simp only [List.append_nil] at hpq
  subst hpq
  have hargs : ∀ sp : Nat → Bool, (∀ x ∈ before, sp x.block = true) → DataW.TrodAll enc P W' 0 sp true f.params.toList args.toList ds before := fun sp hsp => trodAll_stays hl hb hrows hA hlt hsp
  have hresT : ∀ (b : Nat) (sp : Nat → Bool) (hd : Bool), DataW.TrodAll enc P W' b sp hd f.resultTypes.toList ((Value.bool true).resultList f.resultTypes.size) [.lit (.bool true)] [] := by
    intro b sp hd
    rw [hres]
    exact trodAll_cons_mk (shut_bool ht _) trodAll_mk0
  refine ⟨ds, [], before, [], before, [], hW, ?_, ?_, ?_, hb.frame _, fun _ => ⟨?_, .lit (.bool true) :: ds, [], before, ⟨before, [], ?_, ?_, by simp, ?_, hn⟩, fun p hp _ => hp⟩⟩
  · rw [hfn]; exact hresT _ _ _
  · rw [hfn]; exact hargs _ (fun x hx => by simpa using hlt x hx)
  · rw [hv, hfn]; rfl
  · exact ok_one hres rfl (okWide_bool_mk ht _)
  · have := trodAll_append (hargs _ (fun _ _ => rfl)) (hresT 0 (fun _ => true) true)
    exact this
  · rw [hv]; rfl
  · intro b off hp
    have hbl := hlt _ hp
    rw [hb.frozen (p := ⟨b, off, none⟩) hbl]
    exact hz b off hp

/-! ### Arguments -/
theorem row_of_cells {w : World} {a : Addr} {vs : List Value} (h : ∀ (j : Nat) v, vs[j]? = some v → w.cell? (a.add j) = some v) : RowAt w (some a) vs := by
  cases vs with
  | nil => exact .inl rfl
  | cons v vs =>
    have h0 := h 0 v rfl
    rw [add_zero] at h0
    unfold World.cell? at h0
    split at h0
    · rename_i c t fr hb
      split at h0
      · cases h0
      · rename_i hs
        obtain ⟨b, o, s⟩ := a
        cases s with
        | some s => simp at hs
        | none =>
          refine .inr ⟨b, o, c, t, fr, rfl, hb, fun j u hj => ?_⟩
          have := h j u hj
          rw [add_lit] at this
          simpa [World.cell?, hb] using this
    · cases h0

theorem cells_get {w : World} {base : Nat} {a : Addr} {n : Nat} {cs : List Value} (h : w.cells? base a n = some cs) : cs.length = n ∧ ∀ (j : Nat) v, cs[j]? = some v → w.cell? (a.add j) = some v := by
  unfold World.cells? at h
  split at h
  · have hl : cs.length = n := by
      have := mapM_some_length h
      simpa using this
    refine ⟨hl, fun j v hj => ?_⟩
    have hjn : j < n := by rw [← hl]; exact (List.getElem?_eq_some_iff.1 hj).1
    have := mapM_some_get h j j (by simp [hjn])
    rw [hj] at this
    exact this
  · cases h
theorem add_add (a : Addr) (x y : Nat) : (a.add x).add y = a.add (x + y) := by
  unfold Addr.add
  by_cases hx : x = 0
  · subst hx; simp
  · by_cases hy : y = 0
    · subst hy; simp [hx]
    · rw [if_neg hx, if_neg hy, if_neg (by omega)]
      simp [Nat.add_assoc]
theorem flat_at {k : Nat} {g : Nat → List Value} : ∀ (n : Nat), (∀ i, i < n → (g i).length = k) → ((List.range n).flatMap g).length = n * k ∧ ∀ (j : Nat) v, ((List.range n).flatMap g)[j]? = some v → ∃ i c, i < n ∧ j = i * k + c ∧ (g i)[c]? = some v
  | 0, _ => by simp
  | n + 1, h => by
    obtain ⟨hl, hg⟩ := flat_at n fun i hi => h i (by omega)
    have hn := h n (by omega)
    rw [List.range_succ, List.flatMap_append]
    refine ⟨by simp [hl, hn, Nat.succ_mul], fun j v hj => ?_⟩
    by_cases hlt : j < ((List.range n).flatMap g).length
    · rw [List.getElem?_append_left hlt] at hj
      obtain ⟨i, c, hi, e, hc⟩ := hg j v hj
      exact ⟨i, c, by omega, e, hc⟩
    · rw [List.getElem?_append_right (by omega), hl] at hj
      exact ⟨n, j - n * k, by omega, by rw [hl] at hlt; omega, by simpa using hj⟩

/-- a slice of whatever elements: its rows -/
theorem open_rows {w : World} {base : Nat} {spare : Nat → Bool} {held : Bool} {t e : TypeId} {fuel : Nat} {cs : List Value} {x : DataW H × List MemPlace} (ht : P.underlying t = some (.slice e)) (h : DataW.trod enc P w base spare held fuel t cs = some x) :
    ∃ (a : Option Addr) (len cap : Nat) (rows : List (List Value)) (ds : List (DataW H)), cs = [.slice a len cap] ∧ len ≤ cap ∧ rows.length = len ∧ ds.length = len ∧ (∀ r ∈ rows, r.length = P.cellsOf e) ∧ RowAt w a rows.flatten ∧ (a = none → cap = 0) ∧
      (∀ (i : Nat) r, rows[i]? = some r → ∃ n d ps, ds[i]? = some d ∧ DataW.trod enc P w base spare held n e r = some (d, ps)) ∧ ((x.1 = .nil ∧ len = 0) ∨ ∃ sp, x.1 = .slice ds sp) := by
  rcases DataW.trod_slice ht h with ⟨rfl, rfl⟩ | ⟨a, len, cap, elems, rest, n, _, rfl, rfl, hb, hl, hm, hlen, hel, hsp, hns⟩
  · exact ⟨none, 0, 0, [], [], rfl, Nat.le_refl _, rfl, rfl, by simp, RowAt.nil _ _, fun _ => rfl, fun i r hr => by simp at hr, .inl ⟨rfl, rfl⟩⟩
  · have hrow : ∀ i, i < len → ∃ r, w.cells? base (a.add (i * P.cellsOf e)) (P.cellsOf e) = some r ∧ DataW.trod enc P w base spare held n e r = elems[i]? ∧ ∃ y, elems[i]? = some y := by
      intro i hi
      have h1 := hel i hi
      have h2 : ∃ y, elems[i]? = some y := ⟨elems[i]'(by omega), by simp [hlen, hi]⟩
      obtain ⟨y, hy⟩ := h2
      rw [hy] at h1
      cases hc : w.cells? base (a.add (i * P.cellsOf e)) (P.cellsOf e) with
      | none => rw [hc] at h1; cases h1
      | some r => rw [hc] at h1; exact ⟨r, rfl, by rw [hy]; exact h1, y, hy⟩
    have hg : ∀ i, i < len → w.cells? base (a.add (i * P.cellsOf e)) (P.cellsOf e) = some ((w.cells? base (a.add (i * P.cellsOf e)) (P.cellsOf e)).getD []) := by
      intro i hi
      obtain ⟨r, hr, _⟩ := hrow i hi
      rw [hr]; rfl
    have hgl : ∀ i, i < len → ((w.cells? base (a.add (i * P.cellsOf e)) (P.cellsOf e)).getD []).length = P.cellsOf e := fun i hi => (cells_get (hg i hi)).1
    obtain ⟨_, hflat⟩ := flat_at (g := fun i => (w.cells? base (a.add (i * P.cellsOf e)) (P.cellsOf e)).getD []) len hgl
    refine ⟨some a, len, cap, (List.range len).map fun i => (w.cells? base (a.add (i * P.cellsOf e)) (P.cellsOf e)).getD [], elems.map (·.1), rfl, hl, by simp, by simpa using hlen, ?_, ?_, (fun h => by cases h), ?_, .inr ⟨_, rfl⟩⟩
    · intro r hr
      obtain ⟨i, hi, rfl⟩ := List.mem_map.1 hr
      exact hgl i (by simpa using hi)
    · refine row_of_cells fun j v hj => ?_
      rw [← List.flatMap_def] at hj
      obtain ⟨i, c, hi, rfl, hc⟩ := hflat j v hj
      rw [← add_add]
      exact (cells_get (hg i hi)).2 c v hc
    · intro i r hr
      have hi : i < len := by have := (List.getElem?_eq_some_iff.1 hr).1; simpa using this
      obtain ⟨r', h1, h2, y, hy⟩ := hrow i hi
      have : r = r' := by
        simp [hi, h1] at hr
        exact hr.symm
      subst this
      exact ⟨n, y.1, y.2, by simp [hy], by rw [h2, hy]⟩

theorem list_choice {α β : Type} {f : α → β} {Q : α → Prop} : ∀ (l : List β), (∀ r ∈ l, ∃ x, r = f x ∧ Q x) → ∃ xs : List α, l = xs.map f ∧ ∀ x ∈ xs, Q x
  | [], _ => ⟨[], rfl, by simp⟩
  | r :: l, h => by
    obtain ⟨x, e, q⟩ := h r (by simp)
    obtain ⟨xs, e', q'⟩ := list_choice l fun r hr => h r (by simp [hr])
    refine ⟨x :: xs, by rw [e, e']; rfl, fun y hy => ?_⟩
    rcases List.mem_cons.1 hy with rfl | hy
    · exact q
    · exact q' y hy
theorem byte_of {n : Int} (h : (Lit.int .u8 n).wf = true) : ∃ x : UInt8, Value.int .u8 n = bv x := by
  have hb : 0 ≤ n ∧ n ≤ 255 := by simpa [Lit.wf, IntKind.min, IntKind.max, IntKind.signed, IntKind.bits] using h
  exact ⟨UInt8.ofNat n.toNat, by simp; omega⟩

theorem flat_single (l : List UInt8) : (l.map fun x => [bv x]).flatten = l.map bv := by
  induction l with
  | nil => rfl
  | cons x l ih => simp [ih]

/-- a slice of bytes -/
theorem open_bytes {w : World} {base : Nat} {spare : Nat → Bool} {held : Bool} {t e : TypeId} {fuel : Nat} {cs : List Value} {x : DataW H × List MemPlace} (ht : P.underlying t = some (.slice e)) (he : P.underlying e = some (.int .u8)) (h : DataW.trod enc P w base spare held fuel t cs = some x) :
    ∃ (a : Option Addr) (l : List UInt8) (cap : Nat), cs = [.slice a l.length cap] ∧ l.length ≤ cap ∧ BytesAt w a l ∧ (a = none → cap = 0) := by
  obtain ⟨a, len, cap, rows, ds, rfl, hlc, hrl, hdl, hrk, hrow, hn, hel, _⟩ := open_rows ht h
  obtain ⟨l, rfl, _⟩ := list_choice (f := fun x : UInt8 => [bv x]) (Q := fun _ => True) rows (fun r hr => by
    obtain ⟨i, hi, rfl⟩ := List.getElem_of_mem hr
    obtain ⟨n, d, ps, _, ht'⟩ := hel i _ (List.getElem?_eq_getElem hi)
    obtain ⟨m, hm, _, hw⟩ := DataW.trod_int he ht'
    obtain ⟨x, hx⟩ := byte_of hw
    exact ⟨x, by rw [hm, hx], trivial⟩)
  simp at hrl
  subst hrl
  refine ⟨a, l, cap, rfl, hlc, ?_, hn⟩
  have e2 : (l.map fun x => [bv x]).flatten = l.map bv := flat_single l
  rw [e2] at hrow
  exact hrow

/-- a struct of three numbers -/
theorem open_agg3 {w : World} {r : Reach} {base : Nat} {t t0 t1 t2 : TypeId} {k0 k1 k2 : IntKind} {f0 f1 f2 : Field} {v : Value} {d : DataW H} {ps : List MemPlace} (ht : P.underlying t = some (.struct #[f0, f1, f2])) (hC : P.cellsOf t = 3)
    (o0 : f0.offset = 0) (o1 : f1.offset = 1) (o2 : f2.offset = 2) (e0 : f0.type = t0) (e1 : f1.type = t1) (e2 : f2.type = t2) (c0 : P.cellsOf t0 = 1) (c1 : P.cellsOf t1 = 1) (c2 : P.cellsOf t2 = 1)
    (u0 : P.underlying t0 = some (.int k0)) (u1 : P.underlying t1 = some (.int k1)) (u2 : P.underlying t2 = some (.int k2)) (hv : Value.okWide P w r base t v) (h : DataW.Trod enc P w 0 (fun _ => true) true t v d ps) :
    ∃ a b c : Int, v = .agg #[.int k0 a, .int k1 b, .int k2 c] ∧ (Lit.int k0 a).wf = true ∧ (Lit.int k1 b).wf = true ∧ (Lit.int k2 c).wf = true := by
  obtain ⟨fuel, hf⟩ := h
  obtain ⟨cs, rfl⟩ : ∃ cs, v = .agg cs := by
    unfold Value.okWide at hv
    rw [ht] at hv
    obtain ⟨cs, h, _⟩ := hv
    exact ⟨cs, h⟩
  obtain ⟨xs, n, _, _, hlen, hxs, hfs⟩ := DataW.trod_struct ht hf
  have g0 := hfs 0 f0 rfl
  have g1 := hfs 1 f1 rfl
  have g2 := hfs 2 f2 rfl
  have hxl : xs.length = 3 := by simpa using hxs
  rw [e0, o0, c0, List.getElem?_eq_getElem (by omega)] at g0
  rw [e1, o1, c1, List.getElem?_eq_getElem (by omega)] at g1
  rw [e2, o2, c2, List.getElem?_eq_getElem (by omega)] at g2
  obtain ⟨a, ha, _, wa⟩ := DataW.trod_int u0 g0
  obtain ⟨b, hb, _, wb⟩ := DataW.trod_int u1 g1
  obtain ⟨c, hc, _, wc⟩ := DataW.trod_int u2 g2
  refine ⟨a, b, c, ?_, wa, wb, wc⟩
  rw [hC] at hlen
  have hcl : (Value.agg cs).cells = cs := rfl
  rw [hcl] at ha hb hc hlen
  obtain ⟨l⟩ := cs
  match l, hlen with
  | [x, y, z], _ =>
    simp at ha hb hc
    rw [ha, hb, hc]

end

end Go.Den
end

section
set_option linter.unusedVariables false
set_option linter.unusedSimpArgs false
namespace Go.Den
open Go.ChangeShapes Go.WideShapes Go.ChangeAt Go.RowKit

/-- is e a struct of just such numbers? -/
def numsB (P : Program) (e : TypeId) (ks : List IntKind) : Bool :=
  match P.underlying e with
  | some (.struct fs) => fs.size == ks.length && P.cellsOf e == ks.length && (List.range ks.length).all fun i =>
      match fs[i]?, ks[i]? with
      | some f, some k => f.offset == i && P.cellsOf f.type == 1 && (match P.underlying f.type with | some (.int k') => k' == k | _ => false)
      | _, _ => false
  | _ => false

section
variable {H : Type} {enc : TypeId × Value → H} {P : Program}
theorem open_nums {w : World} {base : Nat} {spare : Nat → Bool} {held : Bool} {e : TypeId} {ks : List IntKind} (hb : numsB P e ks = true) {fuel : Nat} {cs : List Value} {x : DataW H × List MemPlace} (h : DataW.trod enc P w base spare held fuel e cs = some x) :
    cs.length = ks.length ∧ ∀ (i : Nat) k, ks[i]? = some k → ∃ v : Int, cs[i]? = some (.int k v) ∧ (Lit.int k v).wf = true := by
  unfold numsB at hb
  split at hb
  · rename_i fs ht
    simp only [Bool.and_eq_true, beq_iff_eq, List.all_eq_true] at hb
    obtain ⟨⟨h1, h2⟩, h3⟩ := hb
    obtain ⟨xs, n, _, _, hlen, hxs, hfs⟩ := DataW.trod_struct ht h
    refine ⟨by rw [hlen, h2], fun i k hk => ?_⟩
    have hi : i < ks.length := (List.getElem?_eq_some_iff.1 hk).1
    have h3i := h3 i (by simpa using hi)
    rw [hk] at h3i
    cases hf : fs[i]? with
    | none => rw [hf] at h3i; cases h3i
    | some f =>
      rw [hf] at h3i
      simp only [Bool.and_eq_true, beq_iff_eq] at h3i
      obtain ⟨⟨o, c⟩, u⟩ := h3i
      split at u
      · rename_i k' hu
        have hk' : k' = k := by simpa using u
        subst hk'
        have g := hfs i f hf
        rw [o, c, List.getElem?_eq_getElem (by omega)] at g
        obtain ⟨v, hv, _, wv⟩ := DataW.trod_int hu g
        refine ⟨v, ?_, wv⟩
        have : ((cs.drop i).take 1)[0]? = some (.int k' v) := by rw [hv]; rfl
        simpa using this
      · cases u
  · cases hb
end

end Go.Den
end
