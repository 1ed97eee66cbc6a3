/- Contracts of layer 4 (pool): try, Take, Free, Blanks, Last, Chip. -/
import Derived.Test.YtljaocdmeoheaaaSPool
set_option linter.unusedVariables false
set_option linter.unusedSimpArgs false
set_option maxRecDepth 4000
namespace Go.Den

theorem ChipRep.lt {w : World} {p : Nat} {c : Chip} {L : Loc} {G : Nat → Prop} (h : ChipRep w p c L G) : ∀ x, x ∈ p :: L.bb :: L.locs → x < w.heap.size := by
  intro x hx
  simp only [List.mem_cons] at hx
  rcases hx with rfl | rfl | hx
  · exact (Array.getElem?_eq_some_iff.1 h.head).1
  · exact OwnAt.blk h.bad rfl
  · obtain ⟨j, hj, e⟩ := List.getElem_of_mem hx
    obtain ⟨vs0, _, hv0⟩ := h.rows
    obtain ⟨l, cap, hl, _, hbi⟩ := hv0 j (by rw [← h.len]; exact hj)
    rw [List.getElem?_eq_getElem hj, e] at hl
    cases hl
    exact OwnAt.blk hbi rfl

theorem write_half {w : World} {M : PLoc} {P : Pool} {c : Chip} {L : Loc} {G : Nat → Prop} (h : PC w M P c L G) {i : Nat} (hi : i < c.nb) {kind : UInt8} {era : Nat} (hera : era < 4294967296) {R : Value → World → Prop}
    (hR : ∀ w' L', Upd (PF M L) w w' → SameLoc L L' → PC w' M (writeHead P c i kind era).1 (writeHead P c i kind era).2.1 L' G → R (.int .i64 ((writeHead P c i kind era).2.2 : Nat)) w') :
    ∃ x11 : Int, World.cell? w ⟨M.q, 0 + 2, none⟩ = some (Value.int .u64 x11) ∧
    storeP w ⟨M.q, 0 + 2, none⟩ [Value.int .u64 (IntKind.u64.wrap (x11 + 1))] fun w9 =>
    ∀ w10 : World, Drew w9 w10 →
    ∃ S2 : World → Prop, S2 w10 ∧
    ∃ p4 : Option Addr, (∀ u3, S2 u3 → World.cell? u3 ⟨M.q, 0, none⟩ = some (Value.pointer p4)) ∧
    ∃ x12 : Int, (∀ u4, S2 u4 → World.cell? u4 ⟨M.q, 0 + 2, none⟩ = some (Value.int .u64 x12)) ∧
    CallsR prog K.nand_Chip_Geo #[Value.pointer p4] w10 fun v7 w11 =>
    ∃ x13 : Int, ∃ x14 : Int, ∃ x15 : Int, ∃ x16 : Int, v7 = Value.agg #[Value.int .i64 x13, Value.int .i64 x14, Value.int .i64 x15, Value.int .i64 x16] ∧ S2 w11 ∧
    CallsR prog K.pool_PutHead #[Value.int .i64 x15, Value.agg #[Value.int .u8 (kind.toNat : Int), Value.int .u32 (era : Int), Value.int .u64 x12]] w11 fun v8 w12 =>
    ∃ (a3 : Option Addr) (l3 c3 : Nat), ∃ x17 : Int, v8 = Value.tuple #[Value.slice a3 l3 c3, Value.int .i64 x17] ∧ S2 w12 ∧
    ∃ p5 : Option Addr, World.cell? w12 ⟨M.q, 0, none⟩ = some (Value.pointer p5) ∧
    CallsR prog K.nand_Chip_Program #[Value.pointer p5, Value.int .i64 (i : Int), Value.int .i64 0, Value.slice a3 l3 c3] w12 fun v9 w13 =>
    ∃ x18 : Int, v9 = Value.int .i64 x18 ∧
    CallsR prog K.pool_Pool_look #[Value.pointer (some ⟨M.q, 0, none⟩), Value.int .i64 (i : Int)] w13 fun v10 w14 => v10 = Value.tuple #[] ∧ R (Value.int .i64 x18) w14 := by
  refine ⟨_, cell_of h.head rfl, store_of h.head (by simp) fun w₉ hput => ?_⟩
  have hq : IntKind.u64.wrap ((P.last : Int) + 1) = ((P.raise.last : Nat) : Int) := by
    rw [wu64_mod]; rfl
  have hlast : P.raise.last < 18446744073709551616 := Nat.mod_lt _ (by omega)
  have h9 : PC w₉ M P.raise c L G := h.rehead (Put.upd1 hput) (last := P.raise.last) (turn := P.turn) h.turn (by
    have := hput.get
    rw [this, hq]; rfl)
  intro w₁₀ hd10
  have h10 := h9.ext hd10.upd
  have hu10 : Upd (· = M.q) w w₁₀ := (Put.upd1 hput).then hd10.upd
  refine ⟨fun u => Ext w₁₀ u, Upd.refl _ _, _, fun u hu => cell_of (h10.ext hu).head rfl, _, fun u hu => cell_of (h10.ext hu).head rfl, ?_⟩
  refine (nand_Geo_spec h10.chip).mono ?_
  rintro _ w₁₁ ⟨rfl, he11⟩
  refine ⟨_, _, _, _, rfl, he11, ?_⟩
  refine (pool_PutHead_spec (c.sz : Nat) ⟨kind, era, P.raise.last⟩ ⟨hera, hlast⟩ w₁₁).mono ?_
  rintro _ w₁₂ ⟨he12, a3, c3, rfl, hb3, hf3, _⟩
  have e12 := he11.trans he12
  have h12 := h10.ext e12
  have h11 := h10.ext he11
  refine ⟨_, _, _, _, rfl, e12, _, cell_of h12.head rfl, ?_⟩
  refine (nand_Program_spec h12.chip (i : Int) 0 (cp := c3) hb3 (fun p hp hm => ?_)).mono ?_
  · have h1 := hf3 p hp
    have h2 := h11.chip.lt p.block (by
      simp only [List.mem_cons] at hm ⊢
      rcases hm with hm | hm
      · exact .inl hm
      · exact .inr (.inr hm))
    omega
  rintro _ w₁₃ ⟨hu13, L', hs13, h13, rfl⟩
  have hpc13 : PC w₁₃ M P.raise _ L' G := h12.rechip hu13 h13 hs13 (Chip.program_geo _ _ _ _) (fun x hx => (h.apart x hx).2)
  refine ⟨_, rfl, ?_⟩
  refine (pool_look_spec hpc13 (by rw [(Chip.program_geo c (i : Int) 0 _).1]; exact hi)).mono ?_
  rintro _ w₁₄ ⟨rfl, hu14, h14⟩
  refine ⟨rfl, hR w₁₄ L' ?_ hs13 h14⟩
  refine (((hu10.mono fun x _ hx => .inl hx).then e12).trans (hu13.mono fun x _ hx => .inr (.inr hx))).trans (hu14.mono fun x _ hx => .inr (.inl hx))

theorem pool_try_spec {w : World} {M : PLoc} {P : Pool} {c : Chip} {L : Loc} {G : Nat → Prop} (h : PC w M P c L G) {i : Nat} (hi : i < c.nb) {kind : UInt8} {era : Nat} (hera : era < 4294967296) :
    CallsR prog K.pool_Pool_try #[.pointer (some ⟨M.q, 0, none⟩), .int .i64 i, bv kind, .int .u32 era] w fun v w' => v = .int .i64 ((tryBlk P c i kind era).2.2 : Nat) ∧ Upd (PF M L) w w' ∧ ∃ L', SameLoc L L' ∧ PC w' M (tryBlk P c i kind era).1 (tryBlk P c i kind era).2.1 L' G := by
  apply pool_Pool_try.sh
  simp only [pool_Pool_try.body, nilC_some', add_lit]
  refine ⟨_, _, _, cell_of h.head rfl, ?_⟩
  refine h.idx hi fun hr => ?_
  have hc := RowAt.cell hr (i := 0) (v := .int .i64 (P.blk i).what) rfl
  obtain ⟨b, o, hab, hc⟩ := hc
  cases hab
  refine ⟨_, hc, br_eq (fun h1 => ?_) fun h1 => ?_⟩
  · have ht : tryBlk P c i kind era = if (c.erase i).2 ≠ 0 then (P.relook (c.erase i).1 i, (c.erase i).1, (c.erase i).2) else writeHead (P.relook (c.erase i).1 i) (c.erase i).1 i kind era := by
      unfold tryBlk; rw [if_pos (by omega)]
    rw [ht]
    refine ⟨_, cell_of h.head rfl, ?_⟩
    refine (nand_Erase_spec h.chip (i : Int)).mono ?_
    rintro _ w₁ ⟨hu1, L1, hs1, hc1, rfl⟩
    have hg := Chip.erase_geo c (i : Int)
    have hp1 : PC w₁ M P _ L1 G := h.rechip hu1 hc1 hs1 hg (fun x hx => (h.apart x hx).2)
    refine ⟨_, rfl, ?_⟩
    refine (pool_look_spec hp1 (by rw [hg.1]; exact hi)).mono ?_
    rintro _ w₂ ⟨rfl, hu2, hp2⟩
    refine ⟨rfl, ?_⟩
    have hu12 : Upd (PF M L) w w₂ := (hu1.mono fun x _ hx => .inr (.inr hx)).trans (hu2.mono fun x _ hx => .inr (.inl hx))
    refine br_ne (fun hne => ?_) fun heq => ?_
    · rw [if_pos (by omega)]
      exact ⟨by trivial, hu12, L1, hs1, hp2⟩
    · rw [if_neg (by omega)]
      refine write_half (kind := kind) hp2 (by rw [hg.1]; exact hi) hera (R := fun v w' => v = .int .i64 ((writeHead (P.relook (c.erase i).1 i) (c.erase i).1 i kind era).2.2 : Nat) ∧ Upd (PF M L) w w' ∧ ∃ L', SameLoc L L' ∧ PC w' M (writeHead (P.relook (c.erase i).1 i) (c.erase i).1 i kind era).1 (writeHead (P.relook (c.erase i).1 i) (c.erase i).1 i kind era).2.1 L' G) fun w' L' hu' hs' hp' => ⟨by trivial, hu12.trans (by rw [PF.same hs1] at hu'; exact hu'), L', hs1.trans hs', hp'⟩
  · have ht : tryBlk P c i kind era = writeHead P c i kind era := by unfold tryBlk; rw [if_neg (by omega)]
    rw [ht]
    exact write_half (kind := kind) h hi hera (R := fun v w' => v = .int .i64 ((writeHead P c i kind era).2.2 : Nat) ∧ Upd (PF M L) w w' ∧ ∃ L', SameLoc L L' ∧ PC w' M (writeHead P c i kind era).1 (writeHead P c i kind era).2.1 L' G) fun w' L' hu' hs' hp' => ⟨by trivial, hu', L', hs', hp'⟩

theorem SameLoc.symm {A B : Loc} (h : SameLoc A B) : SameLoc B A := by
  obtain ⟨a, b, c, d, e⟩ := h
  exact ⟨a.symm, b.symm, c.symm, d.symm, e.symm⟩

theorem tryBlk_geo (P : Pool) (c : Chip) (i : Nat) (kind : UInt8) (era : Nat) : c.SameGeo (tryBlk P c i kind era).2.1 := by
  unfold tryBlk writeHead
  split
  · split
    · exact Chip.erase_geo _ _
    · exact (Chip.erase_geo _ _).trans (Chip.program_geo _ _ _ _)
  · exact Chip.program_geo _ _ _ _

theorem pool_Take_spec {w : World} {M : PLoc} {P : Pool} {c : Chip} {L : Loc} {G : Nat → Prop} (h : PC w M P c L G) {kind : UInt8} {era : Nat} (hera : era < 4294967296) :
    CallsR prog K.pool_Pool_Take #[.pointer (some ⟨M.q, 0, none⟩), bv kind, .int .u32 era] w fun v w' =>
      v = .tuple #[.int .i64 ((takePool P c kind era).block : Nat), .int .i64 ((takePool P c kind era).err : Nat)] ∧ Upd (PF M L) w w' ∧ ∃ L', SameLoc L L' ∧ PC w' M (takePool P c kind era).pool (takePool P c kind era).chip L' G := by
  apply pool_Pool_Take.sh
  unfold pool_Pool_Take.body
  refine (pool_off_spec h).mono ?_
  rintro _ _ ⟨rfl, rfl⟩
  rename_i w
  refine ⟨_, rfl, ?_⟩
  simp only [br_false, nilC_some', add_lit]
  have hno : (kind.toNat < 1 ∨ kind.toNat > 3 ∨ era < 1) → takePool P c kind era = ⟨P, c, 0, 2⟩ := fun hc => by unfold takePool; rw [if_pos hc]
  refine ⟨fun u => u = w ∧ ¬ (kind.toNat < 1 ∨ kind.toNat > 3 ∨ era < 1), ?_, ?_⟩
  · refine br_dec (fun h1 => ?_) fun h1 => br_dec (fun h2 => ?_) fun h2 => br_dec (fun h3 => ?_) fun h3 => ⟨by trivial, by omega⟩
    · rw [hno (by omega)]; exact ⟨by trivial, Upd.refl _ _, L, SameLoc.refl _, h⟩
    · rw [hno (by omega)]; exact ⟨by trivial, Upd.refl _ _, L, SameLoc.refl _, h⟩
    · rw [hno (by omega)]; exact ⟨by trivial, Upd.refl _ _, L, SameLoc.refl _, h⟩
  rintro w₂ ⟨rfl, hcond⟩
  refine (pool_alive_spec h).mono ?_
  rintro _ w₃ ⟨rfl, he3⟩
  refine ⟨_, rfl, br_ne (fun hne => ?_) fun heq => ?_⟩
  · have : takePool P c kind era = ⟨P, c, 0, c.ask 0 0⟩ := by unfold takePool; rw [if_neg hcond, if_pos (by omega)]
    rw [this]
    exact ⟨by trivial, Upd.ext he3, L, SameLoc.refl _, h.ext he3⟩
  have ht : takePool P c kind era = takeGo kind era P c (List.range c.nb) := by unfold takePool; rw [if_neg hcond, if_neg (by omega)]
  rw [ht]
  have h3 := h.ext he3
  have hnb1 := h.chip.ok.nb1
  have hnb2 := h.chip.ok.nb2
  refine ⟨_, _, _, cell_of h3.head rfl, ?_⟩
  refine ⟨fun x u => ∃ (k : Nat) (P' : Pool) (c' : Chip) (L' : Loc), x = k ∧ k ≤ c.nb ∧ Upd (PF M L) w₂ u ∧ SameLoc L L' ∧ c.SameGeo c' ∧ PC u M P' c' L' G ∧ takeGo kind era P c (List.range c.nb) = takeGo kind era P' c' ((List.range c.nb).drop k),
    fun x _ => (c.nb - x).toNat, ⟨0, P, c, L, rfl, by omega, Upd.ext he3, SameLoc.refl _, .refl _, h3, by simp⟩, ?_⟩
  rintro x u ⟨k, P', c', L', rfl, hk, hu, hsl, hg, hp, htg⟩
  refine br_dec (fun hlt => ?_) fun hge => ?_
  · have hk' : k < c.nb := by omega
    have hturn := hp.turn
    rw [hg.1] at hturn
    have hdrop : (List.range c.nb).drop k = k :: (List.range c.nb).drop (k + 1) := by
      rw [List.drop_eq_getElem_cons (by simpa using hk')]; simp
    have hmod : (P'.turn + k) % c.nb < c.nb := Nat.mod_lt _ (by omega)
    have e1 : IntKind.i64.wrap ((k : Int) + 1) = ((k + 1 : Nat) : Int) := w64 (by omega) (by omega)
    have e2 : IntKind.i64.wrap ((P'.turn : Int) + (k : Int)) = ((P'.turn + k : Nat) : Int) := w64 (by omega) (by omega)
    have hnext : ∀ {u' : World} {P2 : Pool} {c2 : Chip} {L2 : Loc}, Upd (PF M L) w₂ u' → SameLoc L L2 → c.SameGeo c2 → PC u' M P2 c2 L2 G → takeGo kind era P c (List.range c.nb) = takeGo kind era P2 c2 ((List.range c.nb).drop (k + 1)) →
        (∃ (k' : Nat) (P' : Pool) (c' : Chip) (L' : Loc), IntKind.i64.wrap ((k : Int) + 1) = k' ∧ k' ≤ c.nb ∧ Upd (PF M L) w₂ u' ∧ SameLoc L L' ∧ c.SameGeo c' ∧ PC u' M P' c' L' G ∧ takeGo kind era P c (List.range c.nb) = takeGo kind era P' c' ((List.range c.nb).drop k')) ∧
          ((c.nb : Int) - IntKind.i64.wrap ((k : Int) + 1)).toNat < ((c.nb : Int) - (k : Int)).toNat := by
      intro u' P2 c2 L2 a1 a2 a3 a4 a5
      rw [e1]
      exact ⟨⟨k + 1, P2, c2, L2, rfl, hk', a1, a2, a3, a4, a5⟩, by omega⟩
    refine ⟨_, cell_of hp.head rfl, by omega, _, cell_of hp.head rfl, ?_⟩
    rw [e2, tmod_nat]
    rw [hdrop] at htg
    refine (nand_Bad_spec hp.chip _).mono ?_
    rintro _ _ ⟨rfl, rfl⟩
    rename_i u
    have hd0 : decide ((0 : Int) ≤ (((P'.turn + k) % c.nb : Nat) : Int)) = true := decide_eq_true (by omega)
    refine ⟨_, rfl, ?_⟩
    rw [hd0, Bool.true_and, Int.toNat_natCast]
    refine br_intro (fun hb => ?_) fun hb => ?_
    · refine hnext hu hsl hg hp ?_
      rw [htg, takeGo, if_pos (.inl (by rw [hg.1]; exact hb))]
    refine ⟨_, _, _, cell_of hp.head rfl, ?_⟩
    refine hp.idx (by rw [hg.1]; exact hmod) fun hr => ?_
    obtain ⟨b', o', hab, hc⟩ := RowAt.cell hr (i := 0) (v := .int .i64 (P'.blk ((P'.turn + k) % c.nb)).what) rfl
    cases hab
    refine ⟨_, hc, br_eq (fun h2 => ?_) fun h2 => ?_⟩
    · refine hnext hu hsl hg hp ?_
      rw [htg, takeGo, if_pos (.inr (by rw [hg.1]; omega))]
    have hcnd : ¬ (c'.isBad ((P'.turn + k) % c'.nb) = true ∨ (P'.blk ((P'.turn + k) % c'.nb)).what = 2) := by
      rw [hg.1, hb]; simp; omega
    rw [takeGo, if_neg hcnd, hg.1] at htg
    refine (pool_try_spec hp (by rw [hg.1]; exact hmod) hera).mono ?_
    rintro _ u' ⟨rfl, hu', L2, hs2, hp2⟩
    rw [PF.same hsl] at hu'
    have hg2 := hg.trans (tryBlk_geo P' c' ((P'.turn + k) % c.nb) kind era)
    refine ⟨_, rfl, br_eq (fun h0 => ?_) fun h0 => ?_⟩
    · rw [if_pos (by omega)] at htg
      refine store_of hp2.head (by simp) fun w₇ hput => ?_
      have e3 : IntKind.i64.wrap ((((P'.turn + k) % c.nb : Nat) : Int) + 1) = (((P'.turn + k) % c.nb + 1 : Nat) : Int) := w64 (by omega) (by omega)
      have h7 := hp2.rehead (Put.upd1 hput) (last := (tryBlk P' c' ((P'.turn + k) % c.nb) kind era).1.last) (turn := (P'.turn + k) % c.nb + 1) (by rw [hg2.1]; exact hmod) (by
        have := hput.get
        rw [this, e3]; rfl)
      rw [htg]
      exact ⟨by trivial, (hu.trans hu').trans ((Put.upd1 hput).mono fun x _ hx => .inl hx), L2, hsl.trans hs2, h7⟩
    rw [if_neg (by omega)] at htg
    refine br_eq (fun h10 => ?_) fun h10 => ?_
    · rw [if_pos (by omega)] at htg
      rw [htg, h10]
      exact ⟨by trivial, hu.trans hu', L2, hsl.trans hs2, hp2⟩
    · rw [if_neg (by omega)] at htg
      exact hnext (hu.trans hu') (hsl.trans hs2) hg2 hp2 htg
  · have : k = c.nb := by omega
    subst this
    rw [List.drop_of_length_le (by simp)] at htg
    rw [htg]
    exact ⟨by trivial, hu, L', hsl, hp⟩

theorem pool_Free_spec {w : World} {M : PLoc} {P : Pool} {c : Chip} {L : Loc} {G : Nat → Prop} (h : PC w M P c L G) (i : Int) :
    CallsR prog K.pool_Pool_Free #[.pointer (some ⟨M.q, 0, none⟩), .int .i64 i] w fun v w' =>
      v = .int .i64 ((freePool P c i).2.2 : Nat) ∧ Upd (PF M L) w w' ∧ ∃ L', SameLoc L L' ∧ PC w' M (freePool P c i).1 (freePool P c i).2.1 L' G := by
  apply pool_Pool_Free.sh
  unfold pool_Pool_Free.body
  refine (pool_off_spec h).mono ?_
  rintro _ _ ⟨rfl, rfl⟩
  rename_i w
  refine ⟨_, rfl, ?_⟩
  simp only [br_false, nilC_some', add_lit]
  have hno : (i < 0 ∨ i ≥ c.nb ∨ (P.blk i.toNat).what ≠ 2 ∨ c.isBad i.toNat = true) → freePool P c i = (P, c, 12) := fun hc => by unfold freePool; rw [if_pos hc]
  refine br_dec (fun h1 => ?_) fun h1 => ?_
  · rw [hno (.inl h1)]; exact ⟨by trivial, Upd.refl _ _, L, SameLoc.refl _, h⟩
  refine ⟨_, _, _, cell_of h.head rfl, br_dec (fun h2 => ?_) fun h2 => ?_⟩
  · rw [hno (.inr (.inl h2))]; exact ⟨by trivial, Upd.refl _ _, L, SameLoc.refl _, h⟩
  obtain ⟨j, rfl⟩ : ∃ j : Nat, i = j := ⟨i.toNat, by omega⟩
  have hj : j < c.nb := by omega
  simp only [Int.toNat_natCast] at hno
  refine ⟨_, _, _, cell_of h.head rfl, h.idx hj fun hr => ?_⟩
  obtain ⟨b', o', hab, hc⟩ := RowAt.cell hr (i := 0) (v := .int .i64 (P.blk j).what) rfl
  cases hab
  refine ⟨_, hc, br_ne (fun h3 => ?_) fun h3 => ?_⟩
  · rw [hno (.inr (.inr (.inl (by omega))))]; exact ⟨by trivial, Upd.refl _ _, L, SameLoc.refl _, h⟩
  refine ⟨_, cell_of h.head rfl, ?_⟩
  refine (nand_Bad_spec h.chip _).mono ?_
  rintro _ _ ⟨rfl, rfl⟩
  rename_i w
  have hd0 : decide ((0 : Int) ≤ ((j : Nat) : Int)) = true := decide_eq_true (by omega)
  refine ⟨_, rfl, ?_⟩
  rw [hd0, Bool.true_and, Int.toNat_natCast]
  refine br_intro (fun h4 => ?_) fun h4 => ?_
  · rw [hno (.inr (.inr (.inr h4)))]; exact ⟨by trivial, Upd.refl _ _, L, SameLoc.refl _, h⟩
  have hf : freePool P c (j : Int) = (P.relook (c.erase j).1 j, (c.erase j).1, if (c.erase j).2 = 9 then 0 else (c.erase j).2) := by
    unfold freePool
    rw [if_neg (by
      rw [Int.toNat_natCast, h4]
      rintro (h | h | h | h)
      · omega
      · omega
      · omega
      · cases h)]
    simp only [Int.toNat_natCast]
  rw [hf]
  refine ⟨_, cell_of h.head rfl, ?_⟩
  refine (nand_Erase_spec h.chip (j : Int)).mono ?_
  rintro _ w₁ ⟨hu1, L1, hs1, hc1, rfl⟩
  have hg := Chip.erase_geo c (j : Int)
  have hp1 : PC w₁ M P _ L1 G := h.rechip hu1 hc1 hs1 hg (fun x hx => (h.apart x hx).2)
  refine ⟨_, rfl, ?_⟩
  refine (pool_look_spec hp1 (by rw [hg.1]; exact hj)).mono ?_
  rintro _ w₂ ⟨rfl, hu2, hp2⟩
  have hu12 : Upd (PF M L) w w₂ := (hu1.mono fun x _ hx => .inr (.inr hx)).trans (hu2.mono fun x _ hx => .inr (.inl hx))
  refine ⟨rfl, br_eq (fun h9 => ?_) fun h9 => ?_⟩
  · rw [if_pos (by omega)]
    exact ⟨by trivial, hu12, L1, hs1, hp2⟩
  · rw [if_neg (by omega)]
    exact ⟨by trivial, hu12, L1, hs1, hp2⟩

theorem pool_Last_spec {w : World} {M : PLoc} {P : Pool} {c : Chip} {L : Loc} {G : Nat → Prop} (h : PC w M P c L G) :
    CallsR prog K.pool_Pool_Last #[.pointer (some ⟨M.q, 0, none⟩)] w fun v w' => v = .int .u64 (P.last : Nat) ∧ w' = w := by
  apply pool_Pool_Last.sh
  unfold pool_Pool_Last.body
  refine (pool_off_spec h).mono ?_
  rintro _ _ ⟨rfl, rfl⟩
  refine ⟨_, rfl, ?_⟩
  simp only [br_false, nilC_some', add_lit]
  exact ⟨_, cell_of h.head rfl, by trivial, by trivial⟩

theorem pool_Chip_spec {w : World} {M : PLoc} {P : Pool} {c : Chip} {L : Loc} {G : Nat → Prop} (h : PC w M P c L G) :
    CallsR prog K.pool_Pool_Chip #[.pointer (some ⟨M.q, 0, none⟩)] w fun v w' => v = .pointer (some ⟨M.p, 0, none⟩) ∧ w' = w := by
  apply pool_Pool_Chip.sh
  unfold pool_Pool_Chip.body
  refine (pool_off_spec h).mono ?_
  rintro _ _ ⟨rfl, rfl⟩
  refine ⟨_, rfl, ?_⟩
  simp only [br_false, nilC_some', add_lit]
  exact ⟨_, cell_of h.head rfl, by trivial, by trivial⟩

theorem pool_Blanks_spec {w : World} {M : PLoc} {P : Pool} {c : Chip} {L : Loc} {G : Nat → Prop} (h : PC w M P c L G) :
    CallsR prog K.pool_Pool_Blanks #[.pointer (some ⟨M.q, 0, none⟩)] w fun v w' => v = .int .i64 (blanksPool P c : Nat) ∧ Ext w w' := by
  apply pool_Pool_Blanks.sh
  unfold pool_Pool_Blanks.body
  refine (pool_off_spec h).mono ?_
  rintro _ _ ⟨rfl, rfl⟩
  rename_i w
  refine ⟨_, rfl, ?_⟩
  simp only [br_false, nilC_some', add_lit]
  have hnb2 := h.chip.ok.nb2
  refine ⟨_, _, _, cell_of h.head rfl, ?_⟩
  refine ⟨fun x y u => ∃ i : Nat, y = i ∧ i ≤ c.nb ∧ Ext w u ∧ x = (((List.range i).filter fun i => decide ((P.blk i).what ≠ 2) && !c.isBad i).length : Nat), fun _ y _ => (c.nb - y).toNat, ⟨0, rfl, by omega, Upd.refl _ _, rfl⟩, ?_⟩
  rintro x y u ⟨i, rfl, hi, hu, rfl⟩
  have hpu := h.ext hu
  refine br_dec (fun hlt => ?_) fun hge => ?_
  · have hi' : i < c.nb := by omega
    have e1 : IntKind.i64.wrap ((i : Int) + 1) = ((i + 1 : Nat) : Int) := w64 (by omega) (by omega)
    have hle : ((List.range i).filter fun i => decide ((P.blk i).what ≠ 2) && !c.isBad i).length ≤ i := Nat.le_trans (List.length_filter_le _ _) (by simp)
    refine hpu.idx hi' fun hr => ?_
    refine ⟨(P.blk i).what, (P.blk i).head.kind.toNat, (P.blk i).head.era, (P.blk i).head.seq, RowAt.cells hr, fun B w₃ hn3 => ?_⟩
    refine store_of hn3.get (by simp) fun w₄ hput4 => ?_
    have hB : B = u.heap.size := hn3.num
    have e4 : Ext w w₄ := Put.upd (hu.trans hn3.upd) hput4 (.inl (by have := hu.size; omega))
    have hg4 := hput4.get
    have hp4 := h.ext e4
    refine ⟨(P.blk i).what, ?_, ?_⟩
    · refine cell_of hg4 ?_
      rw [splice_all _ _ (by simp)]; rfl
    have hrs : ∀ b : Bool, (decide ((P.blk i).what ≠ 2) && !c.isBad i) = b → (((List.range (i + 1)).filter fun i => decide ((P.blk i).what ≠ 2) && !c.isBad i).length : Nat) = ((List.range i).filter fun i => decide ((P.blk i).what ≠ 2) && !c.isBad i).length + if b then 1 else 0 := by
      intro b hb
      rw [List.range_succ, List.filter_append, List.length_append]
      simp only [List.filter_cons, hb, List.filter_nil]
      cases b <;> rfl
    refine br_ne (fun hne => ?_) fun heq => ?_
    · refine ⟨_, cell_of hp4.head rfl, ?_⟩
      refine (nand_Bad_spec hp4.chip _).mono ?_
      rintro _ _ ⟨rfl, rfl⟩
      rename_i w₄
      have hd0 : decide ((0 : Int) ≤ ((i : Nat) : Int)) = true := decide_eq_true (by omega)
      have hd1 : decide ((P.blk i).what ≠ 2) = true := decide_eq_true (by omega)
      refine ⟨_, rfl, ?_⟩
      rw [hd0, Bool.true_and, Int.toNat_natCast, e1]
      refine br_intro (fun hb => ?_) fun hb => ?_
      · have := hrs true (by rw [hd1, hb]; rfl)
        refine ⟨⟨i + 1, rfl, hi', e4, ?_⟩, meas hi'⟩
        rw [this, w64 (by omega) (by omega)]
        simp
      · have := hrs false (by rw [hd1, hb]; rfl)
        refine ⟨⟨i + 1, rfl, hi', e4, ?_⟩, meas hi'⟩
        rw [this]
        simp
    · rw [e1]
      have hd1 : decide ((P.blk i).what ≠ 2) = false := decide_eq_false (by omega)
      have := hrs false (by rw [hd1]; rfl)
      refine ⟨⟨i + 1, rfl, hi', e4, ?_⟩, meas hi'⟩
      rw [this]
      simp
  · have : i = c.nb := by omega
    subst this
    exact ⟨by trivial, hu⟩

end Go.Den
