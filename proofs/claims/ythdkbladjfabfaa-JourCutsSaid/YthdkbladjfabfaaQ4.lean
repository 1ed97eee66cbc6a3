/- Layer 4's law: played. (Merged by program: SPool2 SPool3 SPool4 SRef4 MLaw4a SLaw4 Rep4 MBerger MHead MDeed MPlay MPlay2 MPlay3 MPlay4 MRises MCuts MPage MJour MJour2 SJour SJour2 SPlay SPlay2.) -/
import Derived.Test.YthdkbladjfabfaaQ3
section
set_option linter.unusedVariables false
set_option linter.unusedSimpArgs false
set_option maxRecDepth 4000
namespace Go.Den
theorem ChipRep.lt {w : World} {p : Nat} {c : Chip} {L : Loc} {G : Nat → Prop} (h : ChipRep w p c L G) : ∀ x, x ∈ p :: L.bb :: L.locs → x < w.heap.size := by
  intro x hx
  simp only [List.mem_cons] at hx
  rcases hx with rfl | rfl | hx
  · exact (Array.getElem?_eq_some_iff.1 h.head).1
  · exact OwnAt.blk h.bad rfl
  · obtain ⟨j, hj, e⟩ := List.getElem_of_mem hx
    obtain ⟨vs0, _, hv0⟩ := h.rows
    obtain ⟨l, cap, hl, _, hbi⟩ := hv0 j (by rw [← h.len]; exact hj)
    rw [List.getElem?_eq_getElem hj, e] at hl
    cases hl
    exact OwnAt.blk hbi rfl
theorem write_half {w : World} {M : PLoc} {P : Pool} {c : Chip} {L : Loc} {G : Nat → Prop} (h : PC w M P c L G) {i : Nat} (hi : i < c.nb) {kind : UInt8} {era : Nat} (hera : era < 4294967296) {R : Value → World → Prop}
    (hR : ∀ w' L', Upd (PF M L) w w' → SameLoc L L' → PC w' M (writeHead P c i kind era).1 (writeHead P c i kind era).2.1 L' G → R (.int .i64 ((writeHead P c i kind era).2.2 : Nat)) w') :
    ∃ x11 : Int, World.cell? w ⟨M.q, 0 + 2, none⟩ = some (Value.int .u64 x11) ∧
    storeP w ⟨M.q, 0 + 2, none⟩ [Value.int .u64 (IntKind.u64.wrap (x11 + 1))] fun w9 =>
    ∀ w10 : World, Drew w9 w10 →
    ∃ S2 : World → Prop, S2 w10 ∧
    ∃ p4 : Option Addr, (∀ u3, S2 u3 → World.cell? u3 ⟨M.q, 0, none⟩ = some (Value.pointer p4)) ∧
    ∃ x12 : Int, (∀ u4, S2 u4 → World.cell? u4 ⟨M.q, 0 + 2, none⟩ = some (Value.int .u64 x12)) ∧
    CallsR prog K.nand_Chip_Geo #[Value.pointer p4] w10 fun v7 w11 =>
    ∃ x13 : Int, ∃ x14 : Int, ∃ x15 : Int, ∃ x16 : Int, v7 = Value.agg #[Value.int .i64 x13, Value.int .i64 x14, Value.int .i64 x15, Value.int .i64 x16] ∧ S2 w11 ∧
    CallsR prog K.pool_PutHead #[Value.int .i64 x15, Value.agg #[Value.int .u8 (kind.toNat : Int), Value.int .u32 (era : Int), Value.int .u64 x12]] w11 fun v8 w12 =>
    ∃ (a3 : Option Addr) (l3 c3 : Nat), ∃ x17 : Int, v8 = Value.tuple #[Value.slice a3 l3 c3, Value.int .i64 x17] ∧ S2 w12 ∧
    ∃ p5 : Option Addr, World.cell? w12 ⟨M.q, 0, none⟩ = some (Value.pointer p5) ∧
    CallsR prog K.nand_Chip_Program #[Value.pointer p5, Value.int .i64 (i : Int), Value.int .i64 0, Value.slice a3 l3 c3] w12 fun v9 w13 =>
    ∃ x18 : Int, v9 = Value.int .i64 x18 ∧
    CallsR prog K.pool_Pool_look #[Value.pointer (some ⟨M.q, 0, none⟩), Value.int .i64 (i : Int)] w13 fun v10 w14 => v10 = Value.tuple #[] ∧ R (Value.int .i64 x18) w14 := by
  refine ⟨_, cell_of h.head rfl, store_of h.head (by simp) fun w₉ hput => ?_⟩
  have hq : IntKind.u64.wrap ((P.last : Int) + 1) = ((P.raise.last : Nat) : Int) := by
    rw [wu64_mod]; rfl
  have hlast : P.raise.last < 18446744073709551616 := Nat.mod_lt _ (by omega)
  have h9 : PC w₉ M P.raise c L G := h.rehead (Put.upd1 hput) (last := P.raise.last) (turn := P.turn) h.turn (by
    have := hput.get
    rw [this, hq]; rfl)
  intro w₁₀ hd10
  have h10 := h9.ext hd10.upd
  have hu10 : Upd (· = M.q) w w₁₀ := (Put.upd1 hput).then hd10.upd
  refine ⟨fun u => Ext w₁₀ u, Upd.refl _ _, _, fun u hu => cell_of (h10.ext hu).head rfl, _, fun u hu => cell_of (h10.ext hu).head rfl, ?_⟩
  refine (nand_Geo_spec h10.chip).mono ?_
  rintro _ w₁₁ ⟨rfl, he11⟩
  refine ⟨_, _, _, _, rfl, he11, ?_⟩
  refine (pool_PutHead_spec (c.sz : Nat) ⟨kind, era, P.raise.last⟩ ⟨hera, hlast⟩ w₁₁).mono ?_
  rintro _ w₁₂ ⟨he12, a3, c3, rfl, hb3, hf3, _⟩
  have e12 := he11.trans he12
  have h12 := h10.ext e12
  have h11 := h10.ext he11
  refine ⟨_, _, _, _, rfl, e12, _, cell_of h12.head rfl, ?_⟩
  refine (nand_Program_spec h12.chip (i : Int) 0 (cp := c3) hb3 (fun p hp hm => ?_)).mono ?_
  · have h1 := hf3 p hp
    have h2 := h11.chip.lt p.block (by
      simp only [List.mem_cons] at hm ⊢
      rcases hm with hm | hm
      · exact .inl hm
      · exact .inr (.inr hm))
    omega
  rintro _ w₁₃ ⟨hu13, L', hs13, h13, rfl⟩
  have hpc13 : PC w₁₃ M P.raise _ L' G := h12.rechip hu13 h13 hs13 (Chip.program_geo _ _ _ _) (fun x hx => (h.apart x hx).2)
  refine ⟨_, rfl, ?_⟩
  refine (pool_look_spec hpc13 (by rw [(Chip.program_geo c (i : Int) 0 _).1]; exact hi)).mono ?_
  rintro _ w₁₄ ⟨rfl, hu14, h14⟩
  refine ⟨rfl, hR w₁₄ L' ?_ hs13 h14⟩
  refine (((hu10.mono fun x _ hx => .inl hx).then e12).trans (hu13.mono fun x _ hx => .inr (.inr hx))).trans (hu14.mono fun x _ hx => .inr (.inl hx))
theorem pool_try_spec {w : World} {M : PLoc} {P : Pool} {c : Chip} {L : Loc} {G : Nat → Prop} (h : PC w M P c L G) {i : Nat} (hi : i < c.nb) {kind : UInt8} {era : Nat} (hera : era < 4294967296) :
    CallsR prog K.pool_Pool_try #[.pointer (some ⟨M.q, 0, none⟩), .int .i64 i, bv kind, .int .u32 era] w fun v w' => v = .int .i64 ((tryBlk P c i kind era).2.2 : Nat) ∧ Upd (PF M L) w w' ∧ ∃ L', SameLoc L L' ∧ PC w' M (tryBlk P c i kind era).1 (tryBlk P c i kind era).2.1 L' G := by
  apply pool_Pool_try.sh
  simp only [pool_Pool_try.body, nilC_some', add_lit]
  refine ⟨_, _, _, cell_of h.head rfl, ?_⟩
  refine h.idx hi fun hr => ?_
  have hc := RowAt.cell hr (i := 0) (v := .int .i64 (P.blk i).what) rfl
  obtain ⟨b, o, hab, hc⟩ := hc
  cases hab
  refine ⟨_, hc, br_eq (fun h1 => ?_) fun h1 => ?_⟩
  · have ht : tryBlk P c i kind era = if (c.erase i).2 ≠ 0 then (P.relook (c.erase i).1 i, (c.erase i).1, (c.erase i).2) else writeHead (P.relook (c.erase i).1 i) (c.erase i).1 i kind era := by
      unfold tryBlk; rw [if_pos (by omega)]
    rw [ht]
    refine ⟨_, cell_of h.head rfl, ?_⟩
    refine (nand_Erase_spec h.chip (i : Int)).mono ?_
    rintro _ w₁ ⟨hu1, L1, hs1, hc1, rfl⟩
    have hg := Chip.erase_geo c (i : Int)
    have hp1 : PC w₁ M P _ L1 G := h.rechip hu1 hc1 hs1 hg (fun x hx => (h.apart x hx).2)
    refine ⟨_, rfl, ?_⟩
    refine (pool_look_spec hp1 (by rw [hg.1]; exact hi)).mono ?_
    rintro _ w₂ ⟨rfl, hu2, hp2⟩
    refine ⟨rfl, ?_⟩
    have hu12 : Upd (PF M L) w w₂ := (hu1.mono fun x _ hx => .inr (.inr hx)).trans (hu2.mono fun x _ hx => .inr (.inl hx))
    refine br_ne (fun hne => ?_) fun heq => ?_
    · rw [if_pos (by omega)]
      exact ⟨by trivial, hu12, L1, hs1, hp2⟩
    · rw [if_neg (by omega)]
      refine write_half (kind := kind) hp2 (by rw [hg.1]; exact hi) hera (R := fun v w' => v = .int .i64 ((writeHead (P.relook (c.erase i).1 i) (c.erase i).1 i kind era).2.2 : Nat) ∧ Upd (PF M L) w w' ∧ ∃ L', SameLoc L L' ∧ PC w' M (writeHead (P.relook (c.erase i).1 i) (c.erase i).1 i kind era).1 (writeHead (P.relook (c.erase i).1 i) (c.erase i).1 i kind era).2.1 L' G) fun w' L' hu' hs' hp' => ⟨by trivial, hu12.trans (by rw [PF.same hs1] at hu'; exact hu'), L', hs1.trans hs', hp'⟩
  · have ht : tryBlk P c i kind era = writeHead P c i kind era := by unfold tryBlk; rw [if_neg (by omega)]
    rw [ht]
    exact write_half (kind := kind) h hi hera (R := fun v w' => v = .int .i64 ((writeHead P c i kind era).2.2 : Nat) ∧ Upd (PF M L) w w' ∧ ∃ L', SameLoc L L' ∧ PC w' M (writeHead P c i kind era).1 (writeHead P c i kind era).2.1 L' G) fun w' L' hu' hs' hp' => ⟨by trivial, hu', L', hs', hp'⟩
theorem SameLoc.symm {A B : Loc} (h : SameLoc A B) : SameLoc B A := by
  obtain ⟨a, b, c, d, e⟩ := h
  exact ⟨a.symm, b.symm, c.symm, d.symm, e.symm⟩
theorem tryBlk_geo (P : Pool) (c : Chip) (i : Nat) (kind : UInt8) (era : Nat) : c.SameGeo (tryBlk P c i kind era).2.1 := by
  unfold tryBlk writeHead
  split
  · split
    · exact Chip.erase_geo _ _
    · exact (Chip.erase_geo _ _).trans (Chip.program_geo _ _ _ _)
  · exact Chip.program_geo _ _ _ _
theorem pool_Take_spec {w : World} {M : PLoc} {P : Pool} {c : Chip} {L : Loc} {G : Nat → Prop} (h : PC w M P c L G) {kind : UInt8} {era : Nat} (hera : era < 4294967296) :
    CallsR prog K.pool_Pool_Take #[.pointer (some ⟨M.q, 0, none⟩), bv kind, .int .u32 era] w fun v w' =>
      v = .tuple #[.int .i64 ((takePool P c kind era).block : Nat), .int .i64 ((takePool P c kind era).err : Nat)] ∧ Upd (PF M L) w w' ∧ ∃ L', SameLoc L L' ∧ PC w' M (takePool P c kind era).pool (takePool P c kind era).chip L' G := by
  apply pool_Pool_Take.sh
  unfold pool_Pool_Take.body
  refine (pool_off_spec h).mono ?_
  rintro _ _ ⟨rfl, rfl⟩
  rename_i w
  refine ⟨_, rfl, ?_⟩
  simp only [br_false, nilC_some', add_lit]
  have hno : (kind.toNat < 1 ∨ kind.toNat > 3 ∨ era < 1) → takePool P c kind era = ⟨P, c, 0, 2⟩ := fun hc => by unfold takePool; rw [if_pos hc]
  refine ⟨fun u => u = w ∧ ¬ (kind.toNat < 1 ∨ kind.toNat > 3 ∨ era < 1), ?_, ?_⟩
  · refine br_dec (fun h1 => ?_) fun h1 => br_dec (fun h2 => ?_) fun h2 => br_dec (fun h3 => ?_) fun h3 => ⟨by trivial, by omega⟩
    · rw [hno (by omega)]; exact ⟨by trivial, Upd.refl _ _, L, SameLoc.refl _, h⟩
    · rw [hno (by omega)]; exact ⟨by trivial, Upd.refl _ _, L, SameLoc.refl _, h⟩
    · rw [hno (by omega)]; exact ⟨by trivial, Upd.refl _ _, L, SameLoc.refl _, h⟩
  rintro w₂ ⟨rfl, hcond⟩
  refine (pool_alive_spec h).mono ?_
  rintro _ w₃ ⟨rfl, he3⟩
  refine ⟨_, rfl, br_ne (fun hne => ?_) fun heq => ?_⟩
  · have : takePool P c kind era = ⟨P, c, 0, c.ask 0 0⟩ := by unfold takePool; rw [if_neg hcond, if_pos (by omega)]
    rw [this]
    exact ⟨by trivial, Upd.ext he3, L, SameLoc.refl _, h.ext he3⟩
  have ht : takePool P c kind era = takeGo kind era P c (List.range c.nb) := by unfold takePool; rw [if_neg hcond, if_neg (by omega)]
  rw [ht]
  have h3 := h.ext he3
  have hnb1 := h.chip.ok.nb1
  have hnb2 := h.chip.ok.nb2
  refine ⟨_, _, _, cell_of h3.head rfl, ?_⟩
  refine ⟨fun x u => ∃ (k : Nat) (P' : Pool) (c' : Chip) (L' : Loc), x = k ∧ k ≤ c.nb ∧ Upd (PF M L) w₂ u ∧ SameLoc L L' ∧ c.SameGeo c' ∧ PC u M P' c' L' G ∧ takeGo kind era P c (List.range c.nb) = takeGo kind era P' c' ((List.range c.nb).drop k),
    fun x _ => (c.nb - x).toNat, ⟨0, P, c, L, rfl, by omega, Upd.ext he3, SameLoc.refl _, .refl _, h3, by simp⟩, ?_⟩
  rintro x u ⟨k, P', c', L', rfl, hk, hu, hsl, hg, hp, htg⟩
  refine br_dec (fun hlt => ?_) fun hge => ?_
  · have hk' : k < c.nb := by omega
    have hturn := hp.turn
    rw [hg.1] at hturn
    have hdrop : (List.range c.nb).drop k = k :: (List.range c.nb).drop (k + 1) := by
      rw [List.drop_eq_getElem_cons (by simpa using hk')]; simp
    have hmod : (P'.turn + k) % c.nb < c.nb := Nat.mod_lt _ (by omega)
    have e1 : IntKind.i64.wrap ((k : Int) + 1) = ((k + 1 : Nat) : Int) := w64 (by omega) (by omega)
    have e2 : IntKind.i64.wrap ((P'.turn : Int) + (k : Int)) = ((P'.turn + k : Nat) : Int) := w64 (by omega) (by omega)
    have hnext : ∀ {u' : World} {P2 : Pool} {c2 : Chip} {L2 : Loc}, Upd (PF M L) w₂ u' → SameLoc L L2 → c.SameGeo c2 → PC u' M P2 c2 L2 G → takeGo kind era P c (List.range c.nb) = takeGo kind era P2 c2 ((List.range c.nb).drop (k + 1)) →
        (∃ (k' : Nat) (P' : Pool) (c' : Chip) (L' : Loc), IntKind.i64.wrap ((k : Int) + 1) = k' ∧ k' ≤ c.nb ∧ Upd (PF M L) w₂ u' ∧ SameLoc L L' ∧ c.SameGeo c' ∧ PC u' M P' c' L' G ∧ takeGo kind era P c (List.range c.nb) = takeGo kind era P' c' ((List.range c.nb).drop k')) ∧
          ((c.nb : Int) - IntKind.i64.wrap ((k : Int) + 1)).toNat < ((c.nb : Int) - (k : Int)).toNat := by
      intro u' P2 c2 L2 a1 a2 a3 a4 a5
      rw [e1]
      exact ⟨⟨k + 1, P2, c2, L2, rfl, hk', a1, a2, a3, a4, a5⟩, by omega⟩
    refine ⟨_, cell_of hp.head rfl, by omega, _, cell_of hp.head rfl, ?_⟩
    rw [e2, tmod_nat]
    rw [hdrop] at htg
    refine (nand_Bad_spec hp.chip _).mono ?_
    rintro _ _ ⟨rfl, rfl⟩
    rename_i u
    have hd0 : decide ((0 : Int) ≤ (((P'.turn + k) % c.nb : Nat) : Int)) = true := decide_eq_true (by omega)
    refine ⟨_, rfl, ?_⟩
    rw [hd0, Bool.true_and, Int.toNat_natCast]
    refine br_intro (fun hb => ?_) fun hb => ?_
    · refine hnext hu hsl hg hp ?_
      rw [htg, takeGo, if_pos (.inl (by rw [hg.1]; exact hb))]
    refine ⟨_, _, _, cell_of hp.head rfl, ?_⟩
    refine hp.idx (by rw [hg.1]; exact hmod) fun hr => ?_
    obtain ⟨b', o', hab, hc⟩ := RowAt.cell hr (i := 0) (v := .int .i64 (P'.blk ((P'.turn + k) % c.nb)).what) rfl
    cases hab
    refine ⟨_, hc, br_eq (fun h2 => ?_) fun h2 => ?_⟩
    · refine hnext hu hsl hg hp ?_
      rw [htg, takeGo, if_pos (.inr (by rw [hg.1]; omega))]
    have hcnd : ¬ (c'.isBad ((P'.turn + k) % c'.nb) = true ∨ (P'.blk ((P'.turn + k) % c'.nb)).what = 2) := by
      rw [hg.1, hb]; simp; omega
    rw [takeGo, if_neg hcnd, hg.1] at htg
    refine (pool_try_spec hp (by rw [hg.1]; exact hmod) hera).mono ?_
    rintro _ u' ⟨rfl, hu', L2, hs2, hp2⟩
    rw [PF.same hsl] at hu'
    have hg2 := hg.trans (tryBlk_geo P' c' ((P'.turn + k) % c.nb) kind era)
    refine ⟨_, rfl, br_eq (fun h0 => ?_) fun h0 => ?_⟩
    · rw [if_pos (by omega)] at htg
      refine store_of hp2.head (by simp) fun w₇ hput => ?_
      have e3 : IntKind.i64.wrap ((((P'.turn + k) % c.nb : Nat) : Int) + 1) = (((P'.turn + k) % c.nb + 1 : Nat) : Int) := w64 (by omega) (by omega)
      have h7 := hp2.rehead (Put.upd1 hput) (last := (tryBlk P' c' ((P'.turn + k) % c.nb) kind era).1.last) (turn := (P'.turn + k) % c.nb + 1) (by rw [hg2.1]; exact hmod) (by
        have := hput.get
        rw [this, e3]; rfl)
      rw [htg]
      exact ⟨by trivial, (hu.trans hu').trans ((Put.upd1 hput).mono fun x _ hx => .inl hx), L2, hsl.trans hs2, h7⟩
    rw [if_neg (by omega)] at htg
    refine br_eq (fun h10 => ?_) fun h10 => ?_
    · rw [if_pos (by omega)] at htg
      rw [htg, h10]
      exact ⟨by trivial, hu.trans hu', L2, hsl.trans hs2, hp2⟩
    · rw [if_neg (by omega)] at htg
      exact hnext (hu.trans hu') (hsl.trans hs2) hg2 hp2 htg
  · have : k = c.nb := by omega
    subst this
    rw [List.drop_of_length_le (by simp)] at htg
    rw [htg]
    exact ⟨by trivial, hu, L', hsl, hp⟩
theorem pool_Free_spec {w : World} {M : PLoc} {P : Pool} {c : Chip} {L : Loc} {G : Nat → Prop} (h : PC w M P c L G) (i : Int) :
    CallsR prog K.pool_Pool_Free #[.pointer (some ⟨M.q, 0, none⟩), .int .i64 i] w fun v w' =>
      v = .int .i64 ((freePool P c i).2.2 : Nat) ∧ Upd (PF M L) w w' ∧ ∃ L', SameLoc L L' ∧ PC w' M (freePool P c i).1 (freePool P c i).2.1 L' G := by
  apply pool_Pool_Free.sh
  unfold pool_Pool_Free.body
  refine (pool_off_spec h).mono ?_
  rintro _ _ ⟨rfl, rfl⟩
  rename_i w
  refine ⟨_, rfl, ?_⟩
  simp only [br_false, nilC_some', add_lit]
  have hno : (i < 0 ∨ i ≥ c.nb ∨ (P.blk i.toNat).what ≠ 2 ∨ c.isBad i.toNat = true) → freePool P c i = (P, c, 12) := fun hc => by unfold freePool; rw [if_pos hc]
  refine br_dec (fun h1 => ?_) fun h1 => ?_
  · rw [hno (.inl h1)]; exact ⟨by trivial, Upd.refl _ _, L, SameLoc.refl _, h⟩
  refine ⟨_, _, _, cell_of h.head rfl, br_dec (fun h2 => ?_) fun h2 => ?_⟩
  · rw [hno (.inr (.inl h2))]; exact ⟨by trivial, Upd.refl _ _, L, SameLoc.refl _, h⟩
  obtain ⟨j, rfl⟩ : ∃ j : Nat, i = j := ⟨i.toNat, by omega⟩
  have hj : j < c.nb := by omega
  simp only [Int.toNat_natCast] at hno
  refine ⟨_, _, _, cell_of h.head rfl, h.idx hj fun hr => ?_⟩
  obtain ⟨b', o', hab, hc⟩ := RowAt.cell hr (i := 0) (v := .int .i64 (P.blk j).what) rfl
  cases hab
  refine ⟨_, hc, br_ne (fun h3 => ?_) fun h3 => ?_⟩
  · rw [hno (.inr (.inr (.inl (by omega))))]; exact ⟨by trivial, Upd.refl _ _, L, SameLoc.refl _, h⟩
  refine ⟨_, cell_of h.head rfl, ?_⟩
  refine (nand_Bad_spec h.chip _).mono ?_
  rintro _ _ ⟨rfl, rfl⟩
  rename_i w
  have hd0 : decide ((0 : Int) ≤ ((j : Nat) : Int)) = true := decide_eq_true (by omega)
  refine ⟨_, rfl, ?_⟩
  rw [hd0, Bool.true_and, Int.toNat_natCast]
  refine br_intro (fun h4 => ?_) fun h4 => ?_
  · rw [hno (.inr (.inr (.inr h4)))]; exact ⟨by trivial, Upd.refl _ _, L, SameLoc.refl _, h⟩
  have hf : freePool P c (j : Int) = (P.relook (c.erase j).1 j, (c.erase j).1, if (c.erase j).2 = 9 then 0 else (c.erase j).2) := by
    unfold freePool
    rw [if_neg (by
      rw [Int.toNat_natCast, h4]
      rintro (h | h | h | h)
      · omega
      · omega
      · omega
      · cases h)]
    simp only [Int.toNat_natCast]
  rw [hf]
  refine ⟨_, cell_of h.head rfl, ?_⟩
  refine (nand_Erase_spec h.chip (j : Int)).mono ?_
  rintro _ w₁ ⟨hu1, L1, hs1, hc1, rfl⟩
  have hg := Chip.erase_geo c (j : Int)
  have hp1 : PC w₁ M P _ L1 G := h.rechip hu1 hc1 hs1 hg (fun x hx => (h.apart x hx).2)
  refine ⟨_, rfl, ?_⟩
  refine (pool_look_spec hp1 (by rw [hg.1]; exact hj)).mono ?_
  rintro _ w₂ ⟨rfl, hu2, hp2⟩
  have hu12 : Upd (PF M L) w w₂ := (hu1.mono fun x _ hx => .inr (.inr hx)).trans (hu2.mono fun x _ hx => .inr (.inl hx))
  refine ⟨rfl, br_eq (fun h9 => ?_) fun h9 => ?_⟩
  · rw [if_pos (by omega)]
    exact ⟨by trivial, hu12, L1, hs1, hp2⟩
  · rw [if_neg (by omega)]
    exact ⟨by trivial, hu12, L1, hs1, hp2⟩
theorem pool_Chip_spec {w : World} {M : PLoc} {P : Pool} {c : Chip} {L : Loc} {G : Nat → Prop} (h : PC w M P c L G) :
    CallsR prog K.pool_Pool_Chip #[.pointer (some ⟨M.q, 0, none⟩)] w fun v w' => v = .pointer (some ⟨M.p, 0, none⟩) ∧ w' = w := by
  apply pool_Pool_Chip.sh
  unfold pool_Pool_Chip.body
  refine (pool_off_spec h).mono ?_
  rintro _ _ ⟨rfl, rfl⟩
  refine ⟨_, rfl, ?_⟩
  simp only [br_false, nilC_some', add_lit]
  exact ⟨_, cell_of h.head rfl, by trivial, by trivial⟩
theorem pool_Blanks_spec {w : World} {M : PLoc} {P : Pool} {c : Chip} {L : Loc} {G : Nat → Prop} (h : PC w M P c L G) :
    CallsR prog K.pool_Pool_Blanks #[.pointer (some ⟨M.q, 0, none⟩)] w fun v w' => v = .int .i64 (blanksPool P c : Nat) ∧ Ext w w' := by
  apply pool_Pool_Blanks.sh
  unfold pool_Pool_Blanks.body
  refine (pool_off_spec h).mono ?_
  rintro _ _ ⟨rfl, rfl⟩
  rename_i w
  refine ⟨_, rfl, ?_⟩
  simp only [br_false, nilC_some', add_lit]
  have hnb2 := h.chip.ok.nb2
  refine ⟨_, _, _, cell_of h.head rfl, ?_⟩
  refine ⟨fun x y u => ∃ i : Nat, y = i ∧ i ≤ c.nb ∧ Ext w u ∧ x = (((List.range i).filter fun i => decide ((P.blk i).what ≠ 2) && !c.isBad i).length : Nat), fun _ y _ => (c.nb - y).toNat, ⟨0, rfl, by omega, Upd.refl _ _, rfl⟩, ?_⟩
  rintro x y u ⟨i, rfl, hi, hu, rfl⟩
  have hpu := h.ext hu
  refine br_dec (fun hlt => ?_) fun hge => ?_
  · have hi' : i < c.nb := by omega
    have e1 : IntKind.i64.wrap ((i : Int) + 1) = ((i + 1 : Nat) : Int) := w64 (by omega) (by omega)
    have hle : ((List.range i).filter fun i => decide ((P.blk i).what ≠ 2) && !c.isBad i).length ≤ i := Nat.le_trans (List.length_filter_le _ _) (by simp)
    refine hpu.idx hi' fun hr => ?_
    refine ⟨(P.blk i).what, (P.blk i).head.kind.toNat, (P.blk i).head.era, (P.blk i).head.seq, RowAt.cells hr, fun B w₃ hn3 => ?_⟩
    refine store_of hn3.get (by simp) fun w₄ hput4 => ?_
    have hB : B = u.heap.size := hn3.num
    have e4 : Ext w w₄ := Put.upd (hu.trans hn3.upd) hput4 (.inl (by have := hu.size; omega))
    have hg4 := hput4.get
    have hp4 := h.ext e4
    refine ⟨(P.blk i).what, ?_, ?_⟩
    · refine cell_of hg4 ?_
      rw [splice_all _ _ (by simp)]; rfl
    have hrs : ∀ b : Bool, (decide ((P.blk i).what ≠ 2) && !c.isBad i) = b → (((List.range (i + 1)).filter fun i => decide ((P.blk i).what ≠ 2) && !c.isBad i).length : Nat) = ((List.range i).filter fun i => decide ((P.blk i).what ≠ 2) && !c.isBad i).length + if b then 1 else 0 := by
      intro b hb
      rw [List.range_succ, List.filter_append, List.length_append]
      simp only [List.filter_cons, hb, List.filter_nil]
      cases b <;> rfl
    refine br_ne (fun hne => ?_) fun heq => ?_
    · refine ⟨_, cell_of hp4.head rfl, ?_⟩
      refine (nand_Bad_spec hp4.chip _).mono ?_
      rintro _ _ ⟨rfl, rfl⟩
      rename_i w₄
      have hd0 : decide ((0 : Int) ≤ ((i : Nat) : Int)) = true := decide_eq_true (by omega)
      have hd1 : decide ((P.blk i).what ≠ 2) = true := decide_eq_true (by omega)
      refine ⟨_, rfl, ?_⟩
      rw [hd0, Bool.true_and, Int.toNat_natCast, e1]
      refine br_intro (fun hb => ?_) fun hb => ?_
      · have := hrs true (by rw [hd1, hb]; rfl)
        refine ⟨⟨i + 1, rfl, hi', e4, ?_⟩, meas hi'⟩
        rw [this, w64 (by omega) (by omega)]
        simp
      · have := hrs false (by rw [hd1, hb]; rfl)
        refine ⟨⟨i + 1, rfl, hi', e4, ?_⟩, meas hi'⟩
        rw [this]
        simp
    · rw [e1]
      have hd1 : decide ((P.blk i).what ≠ 2) = false := decide_eq_false (by omega)
      have := hrs false (by rw [hd1]; rfl)
      refine ⟨⟨i + 1, rfl, hi', e4, ?_⟩, meas hi'⟩
      rw [this]
      simp
  · have : i = c.nb := by omega
    subst this
    exact ⟨by trivial, hu⟩
end Go.Den
end
section
set_option linter.unusedVariables false
set_option linter.unusedSimpArgs false
set_option maxRecDepth 4000
namespace Go.Den
theorem zerosL_flat {α : Type} (f : α → List Value) (b : α) (n : Nat) : zerosL (f b) n = (List.replicate n b).flatMap f := by
  induction n with
  | zero => rfl
  | succ n ih => simp [zerosL, List.replicate_succ] at ih ⊢; try exact ih
theorem pool_Scan_spec {w : World} {p : Nat} {c : Chip} {L : Loc} {G : Nat → Prop} (h : ChipRep w p c L G) (hG : ∀ x, G x → x < w.heap.size) :
    CallsR prog K.pool_Scan #[.pointer (some ⟨p, 0, none⟩)] w fun v w' => Ext w w' ∧
      if c.dead then v = .tuple #[.pointer none, .int .i64 10]
      else ∃ q pb, v = .tuple #[.pointer (some ⟨q, 0, none⟩), .int .i64 0] ∧ w.heap.size ≤ q ∧ w.heap.size ≤ pb ∧ q < w'.heap.size ∧ pb < w'.heap.size ∧ PC w' ⟨q, pb, c.nb, p⟩ (scanPool c) c L G := by
  have hok := h.ok
  have hnb1 := hok.nb1
  have hnb2 := hok.nb2
  apply pool_Scan.sh
  refine ⟨fun u => Ext w u, ?_, ?_⟩
  · simp only [Option.isNone_some, br_false]
    refine (nand_Geo_spec h).mono ?_
    rintro _ w₁ ⟨rfl, he1⟩
    exact ⟨_, _, _, _, rfl, br_eq (fun h => by omega) fun _ => he1⟩
  intro w₂ he2
  have h2 := h.ext he2
  refine (nand_Read_spec h2 0 0).mono ?_
  rintro v w₃ ⟨he3, hv⟩
  have e3 := he2.trans he3
  rw [ask00 hok] at hv
  rcases Bool.eq_false_or_eq_true c.dead with hd | hd
  · rw [hd] at hv
    simp only [if_true, if_neg (show ¬ (10 = 0) by omega)] at hv
    subst hv
    refine ⟨_, _, _, _, rfl, br_ne (fun _ => ⟨e3, ?_⟩) fun h => by omega⟩
    rw [if_pos hd]
    rfl
  rw [hd] at hv
  simp only [Bool.false_eq_true, if_false, if_true] at hv
  obtain ⟨a, cp, rfl, _⟩ := hv
  refine ⟨_, _, _, _, rfl, br_ne (fun h => by omega) fun _ => ?_⟩
  have h3 := h.ext e3
  refine (nand_Geo_spec h3).mono ?_
  rintro _ w₄ ⟨rfl, he4⟩
  have e4 := e3.trans he4
  refine ⟨_, _, _, _, rfl, ?_⟩
  refine ⟨by omega, by omega, by omega, by omega, rfl, fun pb w₅ hn5 q w₆ hn6 => ?_⟩
  have e6 := (e4.trans hn5.upd).trans hn6.upd
  have h6 := h.ext e6
  have hpb : pb = w₄.heap.size := hn5.num
  have hq : q = w₅.heap.size := hn6.num
  have hs4 := e4.size
  have hs5 := hn5.size
  have hs6 := hn6.size
  simp only [Int.toNat_natCast] at hn5 hn6 ⊢
  have hz : zerosL [Value.int .i64 0, Value.int .u8 0, Value.int .u32 0, Value.int .u64 0] c.nb = (List.replicate c.nb Blk.zero).flatMap Blk.vals := zerosL_flat Blk.vals Blk.zero c.nb
  rw [hz] at hn5
  have hpc6 : PC w₆ ⟨q, pb, c.nb, p⟩ (scanGo c 0) c L G := by
    refine ⟨h6, hn6.get, ?_, Nat.zero_le _, fun x hx => ?_, by show q ≠ pb; omega⟩
    · have := OwnAt.new (n := c.nb) (size := 4) hn5 (by simp [Blk.vals])
      exact OwnAt.ext this hn6.upd
    · have hxw : w.heap.size ≤ x := by
        rcases hx with hx | hx
        · have : x = q := hx
          omega
        · have : x = pb := hx
          omega
      exact ⟨fun hm => by have := h.lt x hm; omega, fun hg => by have := hG x hg; omega⟩
  simp only [add_lit]
  refine ⟨_, _, _, cell_of hn6.get rfl, ?_⟩
  refine ⟨fun x u => ∃ i : Nat, x = i ∧ i ≤ c.nb ∧ Upd (fun x => x = q ∨ x = pb) w₆ u ∧ PC u ⟨q, pb, c.nb, p⟩ (scanGo c i) c L G, fun x _ => (c.nb - x).toNat, ⟨0, rfl, by omega, Upd.refl _ _, hpc6⟩, ?_⟩
  rintro x u ⟨i, rfl, hi, hu, hp⟩
  have hfin : ∀ {u' : World}, Upd (fun x => x = q ∨ x = pb) w₆ u' → Ext w u' := fun hu' => Upd.beyond e6 hu' (fun x hx => by rcases hx with rfl | rfl <;> omega)
  refine br_dec (fun hlt => ?_) fun hge => ?_
  · have hi' : i < c.nb := by omega
    have e1 : IntKind.i64.wrap ((i : Int) + 1) = ((i + 1 : Nat) : Int) := w64 (by omega) (by omega)
    refine (pool_look_spec hp hi').mono ?_
    rintro _ w₈ ⟨rfl, hu8, hp8⟩
    have hu08 : Upd (fun x => x = q ∨ x = pb) w₆ w₈ := hu.trans (hu8.mono fun x _ hx => .inr hx)
    refine ⟨rfl, _, _, _, cell_of hp8.head rfl, hp8.idx hi' fun hr => ?_⟩
    simp only [add_lit]
    generalize hP8 : (scanGo c i).relook c i = P8 at *
    have hc1 := RowAt.cells (RowAt.drop hr 1)
    refine ⟨(P8.blk i).head.kind.toNat, (P8.blk i).head.era, (P8.blk i).head.seq, hc1, fun B w₉ hn9 => ?_⟩
    rw [head_zero] at hn9
    refine head_put (h := (P8.blk i).head) hn9.get rfl fun w₁₀ hput10 => ?_
    have hB : B = w₈.heap.size := hn9.num
    have hs8 := hu08.size
    have hu10 : Upd (fun x => x = q ∨ x = pb) w₆ w₁₀ := Put.upd (hu08.then hn9.upd) hput10 (.inl (by omega))
    intro w₁₁ hd11
    have hu11 := hu10.then hd11.upd
    have e811 : Ext w₈ w₁₁ := (Put.upd hn9.upd hput10 (.inl (by omega))).trans hd11.upd
    have hp11 := hp8.ext e811
    have hg11 := Ext.get hd11.upd hput10.get
    have hgo : scanGo c (i + 1) = if (P8.blk i).head.seq > (scanGo c i).last ∨ ((P8.blk i).head.seq = (scanGo c i).last ∧ (P8.blk i).head.seq > 0) then { P8 with last := (P8.blk i).head.seq, turn := i + 1 } else P8 := by
      rw [scanGo, hP8]
    have hl8 : P8.last = (scanGo c i).last := by rw [← hP8]; rfl
    have hset : ((P8.blk i).head.seq > (scanGo c i).last ∨ ((P8.blk i).head.seq = (scanGo c i).last ∧ (P8.blk i).head.seq > 0)) →
        storeP w₁₁ ⟨q, 0 + 2, none⟩ [Value.int .u64 ((P8.blk i).head.seq : Nat)] fun w12 =>
        storeP w12 ⟨q, 0 + 3, none⟩ [Value.int .i64 (IntKind.i64.wrap ((i : Int) + 1))] fun w13 =>
          (∃ i' : Nat, IntKind.i64.wrap ((i : Int) + 1) = i' ∧ i' ≤ c.nb ∧ Upd (fun x => x = q ∨ x = pb) w₆ w13 ∧ PC w13 ⟨q, pb, c.nb, p⟩ (scanGo c i') c L G) ∧ ((c.nb : Int) - IntKind.i64.wrap ((i : Int) + 1)).toNat < ((c.nb : Int) - (i : Int)).toNat := by
      intro hcnd
      refine store_of hp11.head (by simp) fun w₁₂ hput12 => ?_
      refine store_of hput12.get (by simp [splice]) fun w₁₃ hput13 => ?_
      rw [e1]
      have hq2 := (Put.upd1 hput12).trans (Put.upd1 hput13)
      refine ⟨⟨i + 1, rfl, hi', hu11.trans (hq2.mono fun x _ hx => .inl hx), ?_⟩, meas hi'⟩
      rw [hgo, if_pos hcnd]
      refine hp11.rehead hq2 (last := (P8.blk i).head.seq) (turn := i + 1) hi' ?_
      have := hput13.get
      rw [this, e1]; rfl
    have hkeep : ¬ ((P8.blk i).head.seq > (scanGo c i).last ∨ ((P8.blk i).head.seq = (scanGo c i).last ∧ (P8.blk i).head.seq > 0)) →
        (∃ i' : Nat, IntKind.i64.wrap ((i : Int) + 1) = i' ∧ i' ≤ c.nb ∧ Upd (fun x => x = q ∨ x = pb) w₆ w₁₁ ∧ PC w₁₁ ⟨q, pb, c.nb, p⟩ (scanGo c i') c L G) ∧ ((c.nb : Int) - IntKind.i64.wrap ((i : Int) + 1)).toNat < ((c.nb : Int) - (i : Int)).toNat := by
      intro hcnd
      rw [e1]
      refine ⟨⟨i + 1, rfl, hi', hu11, ?_⟩, meas hi'⟩
      rw [hgo, if_neg hcnd]
      exact hp11
    have hcq : World.cell? w₁₁ ⟨q, 0 + 2, none⟩ = some (.int .u64 ((scanGo c i).last : Nat)) := by rw [← hl8]; exact cell_of hp11.head rfl
    refine ⟨fun v => v = w₁₁, rfl, _, fun v hv => hv ▸ cell_of hg11 rfl, _, fun v hv => hv ▸ hcq, br_dec (fun h1 => ?_) fun h1 => ?_⟩
    · exact ⟨_, cell_of hg11 rfl, hset (.inl (by omega))⟩
    refine ⟨_, fun v hv => hv ▸ cell_of hg11 rfl, _, fun v hv => hv ▸ hcq, br_eq (fun h2 => ?_) fun h2 => hkeep (by omega)⟩
    refine ⟨_, fun v hv => hv ▸ cell_of hg11 rfl, br_dec (fun h3 => ?_) fun h3 => hkeep (by omega)⟩
    exact ⟨_, cell_of hg11 rfl, hset (.inr (by omega))⟩
  · have : i = c.nb := by omega
    subst this
    have hsu := hu.size
    refine ⟨hfin hu, ?_⟩
    rw [if_neg (by rw [hd]; simp)]
    exact ⟨q, pb, rfl, by omega, by omega, by omega, by omega, hp⟩
end Go.Den
end
section
set_option linter.unusedVariables false
set_option linter.unusedSimpArgs false
set_option maxRecDepth 4000
namespace Go.Den
/-! ### Sorting -/
def pref {α : Type} (lt : α → α → Bool) (l : List α) (i : Nat) : List α := (l.take i).foldl (fun acc x => sink lt x acc) []
theorem sink_length {α : Type} (lt : α → α → Bool) (x : α) (l : List α) : (sink lt x l).length = l.length + 1 := by
  induction l with
  | nil => rfl
  | cons y l ih => unfold sink; split <;> simp [ih]
theorem pref_succ {α : Type} (lt : α → α → Bool) (l : List α) (i : Nat) (hi : i < l.length) : pref lt l (i + 1) = sink lt l[i] (pref lt l i) := by
  unfold pref
  rw [List.take_succ_eq_append_getElem hi, List.foldl_append]
  rfl
theorem pref_length {α : Type} (lt : α → α → Bool) (l : List α) (i : Nat) (hi : i ≤ l.length) : (pref lt l i).length = i := by
  induction i with
  | zero => simp [pref]
  | succ i ih => rw [pref_succ lt l i hi, sink_length, ih (by omega)]
theorem pref_all {α : Type} (lt : α → α → Bool) (l : List α) : (pref lt l l.length).reverse = isort lt l := by simp [pref, isort]
theorem sink_mem {α : Type} (lt : α → α → Bool) (x y : α) (l : List α) : y ∈ sink lt x l ↔ y = x ∨ y ∈ l := by
  induction l with
  | nil => simp [sink]
  | cons z l ih =>
    unfold sink
    split
    · simp [ih]; constructor
      · rintro (h | h | h)
        · exact .inr (.inl h)
        · exact .inl h
        · exact .inr (.inr h)
      · rintro (h | h | h)
        · exact .inr (.inl h)
        · exact .inl h
        · exact .inr (.inr h)
    · simp
theorem isort_mem {α : Type} (lt : α → α → Bool) (y : α) (l : List α) : y ∈ isort lt l ↔ y ∈ l := by
  unfold isort
  rw [List.mem_reverse]
  have : ∀ (acc : List α), y ∈ l.foldl (fun acc x => sink lt x acc) acc ↔ y ∈ acc ∨ y ∈ l := by
    induction l with
    | nil => intro acc; simp
    | cons x l ih =>
      intro acc
      rw [List.foldl_cons, ih, sink_mem]
      simp only [List.mem_cons]
      constructor
      · rintro ((h | h) | h)
        · exact .inr (.inl h)
        · exact .inl h
        · exact .inr (.inr h)
      · rintro (h | h | h)
        · exact .inl (.inr h)
        · exact .inl (.inl h)
        · exact .inr h
  rw [this]; simp
theorem isort_length {α : Type} (lt : α → α → Bool) (l : List α) : (isort lt l).length = l.length := by
  rw [← pref_all, List.length_reverse, pref_length lt l _ (Nat.le_refl _)]
abbrev takenV (t : Taken) : Value := .agg #[.int .i64 t.block, bv t.head.kind, .int .u32 t.head.era, .int .u64 t.head.seq, .bool t.bad]
theorem pool_Taken_1_spec (a b : Taken) (ha : a.block < 1000000) (hb : b.block < 1000000) (w : World) :
    CallsR prog K.pool_Pool_Taken_1 #[takenV a, takenV b] w fun v w' => ∃ x : Int, v = .int .i64 x ∧ decide (x < 0) = takenLt a b ∧ Ext w w' := by
  apply pool_Pool_Taken_1.sh
  intro B₁ w₁ hn1 B₂ w₂ hn2
  have e2 := hn1.upd.trans hn2.upd
  have h1 := Ext.get hn2.upd hn1.get
  have h2 := hn2.get
  simp only [add_lit]
  refine ⟨_, cell_of h1 rfl, _, cell_of h2 rfl, br_dec (fun hlt => ⟨_, rfl, ?_, e2⟩) fun hge => ⟨_, cell_of h1 rfl, _, cell_of h2 rfl, br_dec (fun hgt => ⟨_, rfl, ?_, e2⟩) fun hle => ⟨_, cell_of h1 rfl, _, cell_of h2 rfl, _, rfl, ?_, e2⟩⟩⟩
  · have q : decide (a.head.seq < b.head.seq) = true := decide_eq_true (by omega)
    simp [takenLt, q]
  · have q : decide (a.head.seq < b.head.seq) = false := decide_eq_false (by omega)
    have q2 : decide (a.head.seq = b.head.seq) = false := decide_eq_false (by omega)
    simp [takenLt, q, q2]
  · have q : decide (a.head.seq < b.head.seq) = false := decide_eq_false (by omega)
    have q2 : decide (a.head.seq = b.head.seq) = true := decide_eq_true (by omega)
    rw [w64 (by omega) (by omega)]
    simp only [takenLt, q, q2, Bool.false_or, Bool.true_and]
    exact decide_eq_decide.2 (by omega)
theorem swap_list {α : Type} (A R : List α) (x y : α) : ((A ++ y :: x :: R).set (A.length + 1) y).set A.length x = A ++ x :: y :: R := by
  rw [List.set_append_right _ _ (by omega), List.set_append_right _ _ (by omega)]
  simp
/-- an element of a row of the call's own is written -/
theorem own_set {α : Type} {f : α → List Value} {k : Nat} (hf : ∀ x, (f x).length = k) {w : World} {b cap : Nat} {e : TypeId} {l : List α} (h : OwnAt w (some ⟨b, 0, none⟩) l.length cap e k (l.flatMap f)) {i : Nat} (hi : i < l.length) (x : α) {K : World → Prop}
    (hk : ∀ w', Upd (· = b) w w' → OwnAt w' (some ⟨b, 0, none⟩) (l.set i x).length cap e k ((l.set i x).flatMap f) → K w') : storeP w ⟨b, i * k, none⟩ (f x) K := by
  refine own_store h (by rw [flat_len hf, hf, ← Nat.succ_mul]; exact Nat.mul_le_mul_right _ hi) fun w' hu ho => hk w' hu ?_
  rw [hf, flat_set hf l hi x] at ho
  rw [List.length_set]
  exact ho
theorem insertionSort_spec {w : World} {a : Option Addr} {l : List Taken} {cap cp : Nat} (h : OwnAt w a l.length cap T.api_Taken 5 (l.flatMap Taken.vals)) (hb : ∀ t ∈ l, t.block < 1000000) (hl : l.length < 1000) :
    CallsR prog K.slices_insertionSortCmpFunc_api_Taken #[.slice a l.length cp, .int .i64 0, .int .i64 l.length, .func (.func K.pool_Pool_Taken_1) #[] #[]] w fun v w' => v = .tuple #[] ∧ Upd (fun b => a = some ⟨b, 0, none⟩) w w' ∧ OwnAt w' a (isort takenLt l).length cap T.api_Taken 5 ((isort takenLt l).flatMap Taken.vals) := by
  apply slices_insertionSortCmpFunc_api_Taken.sh
  have e01 : IntKind.i64.wrap ((0 : Int) + 1) = ((1 : Nat) : Int) := by decide
  unfold slices_insertionSortCmpFunc_api_Taken.body
  rw [e01]
  refine ⟨fun x u => ∃ i : Nat, x = i ∧ 1 ≤ i ∧ (i ≤ l.length ∨ i = 1) ∧ Upd (fun b => a = some ⟨b, 0, none⟩) w u ∧ OwnAt u a ((pref takenLt l i).reverse ++ l.drop i).length cap T.api_Taken 5 (((pref takenLt l i).reverse ++ l.drop i).flatMap Taken.vals),
    fun x _ => (l.length - x).toNat, ⟨1, rfl, by omega, .inr rfl, Upd.refl _ _, ?_⟩, ?_⟩
  · have : (pref takenLt l 1).reverse ++ l.drop 1 = l := by
      cases l with
      | nil => rfl
      | cons x l => rfl
    rw [this]; exact h
  rintro x u ⟨i, rfl, hi1, hi, hu, ho⟩
  refine br_dec (fun hlt => ?_) fun hge => ?_
  · have hil : i < l.length := by omega
    have hpl := pref_length takenLt l i (by omega)
    have hdrop : l.drop i = l[i] :: l.drop (i + 1) := List.drop_eq_getElem_cons hil
    have hblk : ∀ t, t ∈ pref takenLt l i → t.block < 1000000 := by
      intro t ht
      have : t ∈ isort takenLt (l.take i) := by unfold isort; exact List.mem_reverse.2 ht
      rw [isort_mem] at this
      exact hb t (List.mem_of_mem_take this)
    have hbi : l[i].block < 1000000 := hb _ (List.getElem_mem hil)
    rw [hdrop] at ho
    obtain ⟨B, rfl⟩ : ∃ B, a = some ⟨B, 0, none⟩ := by
      obtain ⟨_, _, hx⟩ := h
      rcases hx with ⟨_, hx, _⟩ | ⟨b, cur, hx, _⟩
      · omega
      · exact ⟨b, hx⟩
    have hF : ∀ {u u' : World}, Upd (· = B) u u' → Upd (fun b => (some ⟨B, 0, none⟩ : Option Addr) = some ⟨b, 0, none⟩) u u' := fun k => k.mono fun x _ hx => by rw [hx]
    have e1 : IntKind.i64.wrap ((i : Int) + 1) = ((i + 1 : Nat) : Int) := w64 (by omega) (by omega)
    -- the element's way
    refine ⟨fun x v => ∃ A D : List Taken, x = (A.length : Int) ∧ pref takenLt l i = D ++ A ∧ sink takenLt l[i] (pref takenLt l i) = D ++ sink takenLt l[i] A ∧ Upd (fun b => (some ⟨B, 0, none⟩ : Option Addr) = some ⟨b, 0, none⟩) w v ∧
        OwnAt v (some ⟨B, 0, none⟩) (A.reverse ++ l[i] :: (D.reverse ++ l.drop (i + 1))).length cap T.api_Taken 5 ((A.reverse ++ l[i] :: (D.reverse ++ l.drop (i + 1))).flatMap Taken.vals), fun x _ => x.toNat, ⟨pref takenLt l i, [], by rw [hpl], rfl, rfl, hu, ho⟩, ?_⟩
    rintro y v ⟨A, D, rfl, hAD, hsk, huv, hov⟩ w₃ hd3
    have hlen : ∀ X : Taken, (A.reverse ++ X :: (D.reverse ++ l.drop (i + 1))).length = l.length := by
      intro X
      have : D.length + A.length = i := by rw [← hpl, hAD, List.length_append]
      simp; omega
    -- the end of the way
    have hend : ∀ {v' : World}, sink takenLt l[i] A = l[i] :: A → Upd (fun b => (some ⟨B, 0, none⟩ : Option Addr) = some ⟨b, 0, none⟩) w v' →
        OwnAt v' (some ⟨B, 0, none⟩) (A.reverse ++ l[i] :: (D.reverse ++ l.drop (i + 1))).length cap T.api_Taken 5 ((A.reverse ++ l[i] :: (D.reverse ++ l.drop (i + 1))).flatMap Taken.vals) →
        (∃ i' : Nat, IntKind.i64.wrap ((i : Int) + 1) = i' ∧ 1 ≤ i' ∧ (i' ≤ l.length ∨ i' = 1) ∧ Upd (fun b => (some ⟨B, 0, none⟩ : Option Addr) = some ⟨b, 0, none⟩) w v' ∧ OwnAt v' (some ⟨B, 0, none⟩) ((pref takenLt l i').reverse ++ l.drop i').length cap T.api_Taken 5 (((pref takenLt l i').reverse ++ l.drop i').flatMap Taken.vals)) ∧
          ((l.length : Int) - IntKind.i64.wrap ((i : Int) + 1)).toNat < ((l.length : Int) - (i : Int)).toNat := by
      intro v' hs hu' ho'
      rw [e1]
      refine ⟨⟨i + 1, rfl, by omega, .inl hil, hu', ?_⟩, meas hil⟩
      have : (pref takenLt l (i + 1)).reverse ++ l.drop (i + 1) = A.reverse ++ l[i] :: (D.reverse ++ l.drop (i + 1)) := by
        rw [pref_succ takenLt l i hil, hsk, hs]
        simp
      rw [this]; exact ho'
    have hov3 := OwnAt.ext hov hd3.upd
    have huv3 := huv.then hd3.upd
    refine ⟨fun z => z = w₃, rfl, br_dec (fun hpos => ?_) fun hzero => ?_⟩
    · obtain ⟨y, A', rfl⟩ : ∃ y A', A = y :: A' := by
        cases A with
        | nil => simp at hpos
        | cons y A' => exact ⟨y, A', rfl⟩
      have hly := hlen l[i]
      simp only [List.reverse_cons, List.append_assoc, List.singleton_append, List.length_cons] at hov3 hpos hly ⊢
      generalize hR : D.reverse ++ l.drop (i + 1) = R at *
      have hA : A'.reverse.length = A'.length := List.length_reverse
      have hlx : A'.length + 1 < (A'.reverse ++ y :: l[i] :: R).length := by simp
      have hgx : (A'.reverse ++ y :: l[i] :: R)[A'.length + 1] = l[i] := by rw [List.getElem_append_right (by omega)]; simp
      have hgy : (A'.reverse ++ y :: l[i] :: R)[A'.length] = y := by rw [List.getElem_append_right (by omega)]; simp
      have em : IntKind.i64.wrap (((A'.length + 1 : Nat) : Int) - 1) = ((A'.length : Nat) : Int) := by rw [w64 (by omega) (by omega)]; omega
      rw [em]
      refine idx_flat (f := Taken.vals) (l := A'.reverse ++ y :: l[i] :: R) Taken.vals_length (by omega) hov3.row (by omega) hlx fun b o hab hr => ?_
      cases hab
      rw [hgx] at hr
      refine ⟨l[i].block, l[i].head.kind.toNat, l[i].head.era, l[i].head.seq, l[i].bad, fun z hz => hz ▸ RowAt.cells hr, ?_⟩
      refine idx_flat (f := Taken.vals) (l := A'.reverse ++ y :: l[i] :: R) Taken.vals_length (by omega) hov3.row (by omega) (by omega) fun b o hab hr => ?_
      cases hab
      rw [hgy] at hr
      refine ⟨y.block, y.head.kind.toNat, y.head.era, y.head.seq, y.bad, fun z hz => hz ▸ RowAt.cells hr, ?_⟩
      have hby : y.block < 1000000 := hblk y (by rw [hAD]; simp)
      refine ⟨rfl, ?_⟩
      refine (pool_Taken_1_spec l[i] y hbi hby w₃).mono ?_
      rintro _ w₄ ⟨x11, rfl, hx11, he4⟩
      have hov4 := OwnAt.ext hov3 he4
      have huv4 := huv3.then he4
      refine ⟨_, rfl, ?_⟩
      rw [hx11]
      refine br_intro (fun ht => ?_) fun hf => ?_
      · intro w₅ hd5
        have hov5 := OwnAt.ext hov4 hd5.upd
        have huv5 := huv4.then hd5.upd
        refine ⟨fun z => z = w₅, rfl, ?_⟩
        refine idx_flat (f := Taken.vals) (l := A'.reverse ++ y :: l[i] :: R) Taken.vals_length (by omega) hov5.row (by omega) (by omega) fun b o hab hr => ?_
        cases hab
        rw [hgy] at hr
        refine ⟨y.block, y.head.kind.toNat, y.head.era, y.head.seq, y.bad, fun z hz => hz ▸ RowAt.cells hr, ?_⟩
        refine idx_flat (f := Taken.vals) (l := A'.reverse ++ y :: l[i] :: R) Taken.vals_length (by omega) hov5.row (by omega) hlx fun b o hab hr => ?_
        cases hab
        rw [hgx] at hr
        refine ⟨l[i].block, l[i].head.kind.toNat, l[i].head.era, l[i].head.seq, l[i].bad, fun z hz => hz ▸ RowAt.cells hr, ?_⟩
        refine idx_flat (f := Taken.vals) (l := A'.reverse ++ y :: l[i] :: R) Taken.vals_length (by omega) hov5.row (by omega) hlx fun b o hab _ => ?_
        cases hab
        rw [Nat.zero_add]
        refine own_set Taken.vals_length hov5 hlx y fun w₆ hu6 ho6 => ?_
        refine idx_flat (f := Taken.vals) Taken.vals_length (by omega) ho6.row (by rw [List.length_set]; omega) (by rw [List.length_set]; omega) fun b o hab _ => ?_
        cases hab
        rw [Nat.zero_add]
        refine own_set Taken.vals_length ho6 (by rw [List.length_set]; omega) l[i] fun w₇ hu7 ho7 => ?_
        have hsw : ((A'.reverse ++ y :: l[i] :: R).set (A'.length + 1) y).set A'.length l[i] = A'.reverse ++ l[i] :: y :: R := by
          have := swap_list A'.reverse R l[i] y
          rw [hA] at this
          exact this
        rw [hsw] at ho7
        refine ⟨⟨A', D ++ [y], rfl, by rw [hAD]; simp, ?_, (huv5.trans (hF hu6)).trans (hF hu7), ?_⟩, by omega⟩
        · rw [hsk]
          have : sink takenLt l[i] (y :: A') = y :: sink takenLt l[i] A' := by rw [sink, if_pos ht]
          rw [this]; simp
        · have : A'.reverse ++ l[i] :: ((D ++ [y]).reverse ++ l.drop (i + 1)) = A'.reverse ++ l[i] :: y :: R := by rw [← hR]; simp
          rw [this]; exact ho7
      · refine hend ?_ huv4 ?_
        · rw [sink, if_neg (by rw [hf]; simp)]
        · simp only [List.reverse_cons, List.append_assoc, List.singleton_append]
          exact hov4
    · have : A = [] := List.eq_nil_of_length_eq_zero (by omega)
      subst this
      exact hend rfl huv3 hov3
  · refine ⟨by trivial, hu, ?_⟩
    rcases hi with hi | hi
    · have : i = l.length := by omega
      subst this
      rw [pref_all, List.drop_length, List.append_nil] at ho
      exact ho
    · subst hi
      have : (pref takenLt l 1).reverse ++ l.drop 1 = isort takenLt l := by
        match l, hge with
        | [], _ => rfl
        | [x], _ => rfl
        | x :: y :: l, hge => simp at hge; omega
      rw [this] at ho
      exact ho
theorem sortStable_spec {w : World} {a : Option Addr} {l : List Taken} {cap cp : Nat} (h : OwnAt w a l.length cap T.api_Taken 5 (l.flatMap Taken.vals)) (hb : ∀ t ∈ l, t.block < 1000000) (hl : l.length < 20) :
    CallsR prog K.slices_SortStableFunc_api_Taken #[.slice a l.length cp, .func (.func K.pool_Pool_Taken_1) #[] #[]] w fun v w' => v = .tuple #[] ∧ Upd (fun b => a = some ⟨b, 0, none⟩) w w' ∧ OwnAt w' a (isort takenLt l).length cap T.api_Taken 5 ((isort takenLt l).flatMap Taken.vals) := by
  apply slices_SortStableFunc_api_Taken.sh
  have key : CallsR prog K.slices_stableCmpFunc_api_Taken #[.slice a l.length cp, .int .i64 l.length, .func (.func K.pool_Pool_Taken_1) #[] #[]] w fun v w' => v = .tuple #[] ∧ Upd (fun b => a = some ⟨b, 0, none⟩) w w' ∧ OwnAt w' a (isort takenLt l).length cap T.api_Taken 5 ((isort takenLt l).flatMap Taken.vals) := by
    apply slices_stableCmpFunc_api_Taken.sh
    refine ⟨fun x y u => x = 0 ∧ y = 20 ∧ u = w, fun _ _ _ => 0, ⟨rfl, rfl, rfl⟩, ?_⟩
    rintro x y u ⟨rfl, rfl, rfl⟩
    refine br_dec (fun h => by omega) fun _ => ?_
    refine (insertionSort_spec (cp := cp) h hb (by omega)).mono ?_
    rintro _ w₃ ⟨rfl, hu, ho⟩
    refine ⟨rfl, fun x u => x = 20 ∧ u = w₃, fun _ _ => 0, ⟨rfl, rfl⟩, ?_⟩
    rintro x v ⟨rfl, rfl⟩
    exact br_dec (fun h => by omega) fun _ => ⟨by trivial, hu, ho⟩
  refine key.mono ?_
  rintro _ w' ⟨rfl, hr⟩
  exact ⟨rfl, by trivial, hr⟩
theorem takenRaw_length (P : Pool) (c : Chip) (n : Nat) : (takenRaw P c n).length ≤ n := by
  unfold takenRaw
  exact Nat.le_trans (List.length_filterMap_le _ _) (by simp)
theorem takenRaw_succ (P : Pool) (c : Chip) (n : Nat) : takenRaw P c (n + 1) = takenRaw P c n ++ if (P.blk n).what = 2 then [⟨n, (P.blk n).head, c.isBad n⟩] else [] := by
  unfold takenRaw
  rw [List.range_succ, List.filterMap_append]
  congr 1
  simp only [List.filterMap_cons, List.filterMap_nil]
  split <;> simp_all
theorem takenRaw_block {P : Pool} {c : Chip} {n : Nat} {t : Taken} (h : t ∈ takenRaw P c n) : t.block < n := by
  unfold takenRaw at h
  rw [List.mem_filterMap] at h
  obtain ⟨i, hi, h⟩ := h
  split at h
  · simp at h hi
    rw [← h]; exact hi
  · cases h
theorem pool_Taken_spec {w : World} {M : PLoc} {P : Pool} {c : Chip} {L : Loc} {G : Nat → Prop} (h : PC w M P c L G) (hnb : c.nb < 20) :
    CallsR prog K.pool_Pool_Taken #[.pointer (some ⟨M.q, 0, none⟩)] w fun v w' => Ext w w' ∧ ∃ a cap, v = .slice a (takenPool P c).length cap ∧ OwnAt w' a (takenPool P c).length cap T.api_Taken 5 ((takenPool P c).flatMap Taken.vals) ∧ Fresh w a := by
  apply pool_Pool_Taken.sh
  unfold pool_Pool_Taken.body
  refine (pool_off_spec h).mono ?_
  rintro _ _ ⟨rfl, rfl⟩
  rename_i w
  refine ⟨_, rfl, ?_⟩
  simp only [br_false, nilC_some', add_lit]
  refine ⟨_, _, _, cell_of h.head rfl, ?_⟩
  refine ⟨fun a l cap x u => ∃ i : Nat, x = i ∧ i ≤ c.nb ∧ l = (takenRaw P c i).length ∧ Ext w u ∧ OwnAt u a (takenRaw P c i).length cap T.api_Taken 5 ((takenRaw P c i).flatMap Taken.vals) ∧ Fresh w a, fun _ _ _ x _ => (c.nb - x).toNat,
    ⟨0, rfl, by omega, rfl, Upd.refl _ _, OwnAt.nil _ _ _, Fresh.none _⟩, ?_⟩
  rintro a l cap x u ⟨i, rfl, hi, rfl, hu, ho, hf⟩
  have hpu := h.ext hu
  refine br_dec (fun hlt => ?_) fun hge => ?_
  · have hi' : i < c.nb := by omega
    have e1 : IntKind.i64.wrap ((i : Int) + 1) = ((i + 1 : Nat) : Int) := w64 (by omega) (by omega)
    have hlen := takenRaw_length P c i
    have hsucc := takenRaw_succ P c i
    refine hpu.idx hi' fun hr => ?_
    refine ⟨(P.blk i).what, (P.blk i).head.kind.toNat, (P.blk i).head.era, (P.blk i).head.seq, RowAt.cells hr, fun B w₃ hn3 => ?_⟩
    refine store_of hn3.get (by simp) fun w₄ hput4 => ?_
    have hB : B = u.heap.size := hn3.num
    have hsu := hu.size
    have e34 : Ext u w₄ := Put.upd hn3.upd hput4 (.inl (by omega))
    have e4 := hu.trans e34
    have hg4 := hput4.get
    rw [splice_all _ _ (by simp)] at hg4
    have hp4 := h.ext e4
    refine ⟨(P.blk i).what, cell_of hg4 rfl, br_eq (fun h2 => ?_) fun h2 => ?_⟩
    · rw [if_pos (by omega)] at hsucc
      intro w₅ hd5
      have e5 := e4.trans hd5.upd
      have hp5 := h.ext e5
      have hg5 := Ext.get hd5.upd hg4
      have hs3 := hn3.size
      have hs4 := hput4.size
      have hown : ∀ b, a = some ⟨b, 0, none⟩ → w.heap.size ≤ b ∧ b < u.heap.size := fun b hb => ⟨hf _ hb, OwnAt.blk ho hb⟩
      have hqw : M.q < w.heap.size := (Array.getElem?_eq_some_iff.1 h.head).1
      refine ⟨fun v => Upd (fun b => a = some ⟨b, 0, none⟩) w₅ v, Upd.refl _ _, (P.blk i).head.kind.toNat, (P.blk i).head.era, (P.blk i).head.seq, fun v hv => ?_, _, fun v hv => cell_of (hv.get hp5.head (fun e => by have := hown _ e; omega)) rfl, ?_⟩
      · have := hv.get hg5 (fun e => by have := hown _ e; omega)
        exact cellsAt_of (o := 1) this (fun j v hj => by
          match j, hj with
          | 0, hj => simpa using hj
          | 1, hj => simpa using hj
          | 2, hj => simpa using hj
          | j + 3, hj => simp at hj)
      refine (nand_Bad_spec hp5.chip _).mono ?_
      rintro _ _ ⟨rfl, rfl⟩
      rename_i w₅
      have hd0 : decide ((0 : Int) ≤ ((i : Nat) : Int)) = true := decide_eq_true (by omega)
      refine ⟨_, rfl, Upd.refl _ _, ?_⟩
      rw [hd0, Bool.true_and, Int.toNat_natCast]
      intro B2 w₇ hn7
      refine ⟨Upd.ext hn7.upd, ?_⟩
      have ho7 : OwnAt w₇ a (takenRaw P c i).length cap T.api_Taken 5 ((takenRaw P c i).flatMap Taken.vals) := OwnAt.ext ho ((e34.trans hd5.upd).trans hn7.upd)
      refine append_flat (f := Taken.vals) Taken.vals_length (x := ⟨i, (P.blk i).head, c.isBad i⟩) ho7 (by simp [Taken.vals]) hn7 rfl (by intro v hv; simp [Taken.vals] at hv; rcases hv with rfl | rfl | rfl | rfl | rfl <;> rfl) rfl (by omega) (by omega) fun a' c' w₈ hu8 ho8 hf8 => ?_
      rw [← hsucc] at ho8 ⊢
      have e7 := e5.trans hn7.upd
      refine ⟨(Upd.ext hn7.upd).trans hu8, ⟨i + 1, e1, hi', rfl, Upd.beyond e7 hu8 (fun x hx => (hown x hx).1), ho8, ?_⟩, by rw [e1]; exact meas hi'⟩
      rcases hf8 with rfl | ⟨b, rfl, hb⟩
      · exact hf
      · exact Fresh.some (by have := e7.size; omega)
    · rw [if_neg (by omega), List.append_nil] at hsucc
      refine ⟨⟨i + 1, e1, hi', by rw [hsucc], e4, by rw [hsucc]; exact OwnAt.ext ho e34, hf⟩, by rw [e1]; exact meas hi'⟩
  · have : i = c.nb := by omega
    subst this
    have hlen := takenRaw_length P c c.nb
    refine (sortStable_spec (cp := cap) ho (fun t ht => by have := takenRaw_block ht; omega) (by omega)).mono ?_
    rintro _ w₉ ⟨rfl, hu9, ho9⟩
    have e9 : Ext w w₉ := Upd.beyond hu hu9 (fun x hx => hf _ hx)
    refine ⟨rfl, e9, a, cap, ?_, ho9, hf⟩
    unfold takenPool
    rw [isort_length]
end Go.Den
end
section
set_option linter.unusedVariables false
set_option linter.unusedSimpArgs false
set_option maxRecDepth 4000
namespace Go.Den
/-! ### The plain reference -/
def refHead (c : Chip) (i : Int) : Head × Bool := if c.ask i 0 ≠ 0 then (Head.none, false) else ((getHead (c.page i.toNat 0)).1, decide ((getHead (c.page i.toNat 0)).2 = 0))
/-- behind all of its Seq -/
def posOf (t : Taken) (l : List Taken) : Nat := (l.takeWhile fun x => decide (x.head.seq ≤ t.head.seq)).length
def insAt (t : Taken) (l : List Taken) : List Taken := l.take (posOf t l) ++ [t] ++ l.drop (posOf t l)
def refGo (c : Chip) : Nat → List Taken
  | 0 => []
  | i + 1 => if (refHead c i).2 then insAt ⟨i, (refHead c i).1, c.isBad i⟩ (refGo c i) else refGo c i
def refTaken (c : Chip) : List Taken := refGo c c.nb
def refBlanks (c : Chip) : Nat := ((List.range c.nb).filter fun i : Nat => !(refHead c i).2 && !c.isBad i).length
theorem insAt_length (t : Taken) (l : List Taken) : (insAt t l).length = l.length + 1 := by
  unfold insAt
  simp
  omega
theorem refGo_length (c : Chip) (i : Nat) : (refGo c i).length ≤ i := by
  induction i with
  | zero => simp [refGo]
  | succ i ih => 
    unfold refGo
    split
    · rw [insAt_length]; omega
    · omega
theorem takeWhile_at {α : Type} (p : α → Bool) : ∀ (l : List α) (k : Nat) (hk : k ≤ l.length), (∀ x ∈ l.take k, p x = true) → (∀ (h : k < l.length), p l[k] = false) → (l.takeWhile p).length = k
  | [], k, hk, _, _ => by simp at hk; simp [hk]
  | x :: l, 0, _, _, h => by
    have := h (by simp)
    have : p x = false := this
    simp [List.takeWhile_cons, this]
  | x :: l, k + 1, hk, ha, h => by
    have hx : p x = true := ha x (by simp)
    rw [List.takeWhile_cons, if_pos hx, List.length_cons]
    congr 1
    refine takeWhile_at p l k (by simpa using hk) (fun y hy => ha y (by simp [hy])) (fun hlt => ?_)
    have := h (by simpa using hlt)
    simpa using this
theorem carrackref04_Head_spec {w : World} {p : Nat} {c : Chip} {L : Loc} {G : Nat → Prop} (h : ChipRep w p c L G) (i : Int) :
    CallsR prog K.carrackref04_Head #[.pointer (some ⟨p, 0, none⟩), .int .i64 i] w fun v w' => Ext w w' ∧ v = .tuple #[headV (refHead c i).1, .bool (refHead c i).2] := by
  apply carrackref04_Head.sh
  intro B w₁ hn
  have hB : B = w.heap.size := hn.num
  rw [head_zero] at hn
  have h1 := h.ext hn.upd
  refine (nand_Read_spec h1 i 0).mono ?_
  rintro v w₂ ⟨he2, hv⟩
  have e2 := hn.upd.trans he2
  have hg2 := Ext.get he2 hn.get
  split at hv
  · rename_i h0
    obtain ⟨a, cp, rfl, hba, hcp, hfa⟩ := hv
    refine ⟨_, _, _, _, rfl, br_ne (fun h => by omega) fun _ => ?_⟩
    obtain ⟨hd, hb0, hb1, _, hp1⟩ := ask_zero h0
    have hpl : (c.page i.toNat 0).length = c.sz := page_len h.ok hb1 (by have := h.ok.np1; omega)
    simp only [tn0] at hba
    have hgh := carrackref04_GetHead_spec (c := cp) hba (by omega)
    rw [hpl] at hgh
    refine hgh.mono ?_
    rintro _ w₄ ⟨he4, rfl⟩
    have e4 := e2.trans he4
    refine ⟨_, _, _, _, rfl, fun B2 w₅ hn5 => ?_⟩
    have hB2 : B2 = w₄.heap.size := hn5.num
    rw [head_zero] at hn5
    have hs4 := e4.size
    have hs12 := hn.size
    have hs1 := he2.size
    have hs3 := he4.size
    refine head_put (h := (getHead (c.page i.toNat 0)).1) hn5.get rfl fun w₆ hput6 => ?_
    have hg6 : w₆.heap[B]? = _ := hput6.upd1.get (Ext.get hn5.upd (Ext.get he4 hg2)) (by omega)
    have e6 : Ext w w₆ := Put.upd (e4.trans hn5.upd) hput6 (.inl (by omega))
    refine ⟨_, _, _, head_cells hput6.get, head_put hg6 rfl fun w₇ hput7 => ⟨_, _, _, head_cells hput7.get, Put.upd e6 hput7 (.inl (by omega)), ?_⟩⟩
    unfold refHead
    rw [if_neg (by omega)]
    simp only [Value.tuple.injEq]
    congr 4
    rw [Bool.eq_iff_iff]
    simp
  · rename_i h0
    subst hv
    refine ⟨_, _, _, _, rfl, br_ne (fun _ => ?_) fun h => by omega⟩
    refine head_put (h := Head.none) hg2 rfl fun w₃ hput => ⟨_, _, _, head_cells hput.get, Put.upd e2 hput (.inl (by omega)), ?_⟩
    unfold refHead
    rw [if_pos h0]
theorem oneCell_taken (t : Taken) : ∀ v ∈ t.vals, v.oneCell' = true := by
  intro v hv
  simp [Taken.vals] at hv
  rcases hv with rfl | rfl | rfl | rfl | rfl <;> rfl
/-- an element comes between others -/
theorem insert_tail {w : World} {p : Nat} {c : Chip} {L : Loc} {G : Nat → Prop} (h : ChipRep w p c L G) {a : Option Addr} {out : List Taken} {cap i j B : Nat} {hd : Head} (ho : OwnAt w a out.length cap T.api_Taken 5 (out.flatMap Taken.vals)) (hl : out.length ≤ 1000) (hj : j ≤ out.length)
    (hB : w.heap[B]? = some (.cells hd.vals.toArray T.api_Head (0, 0))) {Q : Option Addr → Nat → Nat → World → Prop}
    (hk : ∀ a' c' w', Ext w w' → OwnAt w' a' (out.take j ++ [Taken.mk i hd (c.isBad i)] ++ out.drop j).length c' T.api_Taken 5 ((out.take j ++ [Taken.mk i hd (c.isBad i)] ++ out.drop j).flatMap Taken.vals) → Fresh w a' → Q a' (out.take j ++ [Taken.mk i hd (c.isBad i)] ++ out.drop j).length c' w') :
    sliceP 5 a out.length cap none (some (j : Int)) none fun a2 l2 c2 =>
        appendP T.api_Taken 5 32 [Value.int .i64 0, Value.int .u8 0, Value.int .u32 0, Value.int .u64 0, Value.bool false] none 0 0 (Value.slice a2 l2 c2) w fun a3 l3 c3 w8 =>
        ∀ w9 : World, Drew w8 w9 →
        ∃ S2 : World → Prop, S2 w9 ∧
        ∃ x12 : Int, ∃ x13 : Int, ∃ x14 : Int, (∀ u3, S2 u3 → cellsAt u3 ⟨B, 0, none⟩ [Value.int .u8 x12, Value.int .u32 x13, Value.int .u64 x14] 0) ∧
        CallsR prog K.nand_Chip_Bad #[Value.pointer (some ⟨p, 0, none⟩), Value.int .i64 (i : Int)] w9 fun v3 w10 =>
        ∃ b2 : Bool, v3 = Value.bool b2 ∧ S2 w10 ∧
        ∀ (B2 : Nat) (w11 : World), New w10 (.cells #[Value.int .i64 (i : Int), Value.int .u8 x12, Value.int .u32 x13, Value.int .u64 x14, Value.bool b2] T.api_Taken) B2 w11 → S2 w11 ∧
        appendP T.api_Taken 5 32 [Value.int .i64 0, Value.int .u8 0, Value.int .u32 0, Value.int .u64 0, Value.bool false] a3 l3 c3 (Value.slice (some ⟨B2, 0, none⟩) 1 1) w11 fun a4 l4 c4 w12 => S2 w12 ∧
        sliceP 5 a out.length cap (some (j : Int)) none none fun a5 l5 c5 =>
        appendP T.api_Taken 5 32 [Value.int .i64 0, Value.int .u8 0, Value.int .u32 0, Value.int .u64 0, Value.bool false] a4 l4 c4 (Value.slice a5 l5 c5) w12 fun a6 l6 c6 w13 => Q a6 l6 c6 w13 := by
  have hcap := ho.2.1
  refine slice_to (by omega) (by omega) hcap ?_
  rw [Int.toNat_natCast]
  have hr1 : RowAt w a ((out.take j).flatMap Taken.vals) := by rw [← flat_take Taken.vals_length]; exact RowAt.take ho.row _
  refine append_rows (f := Taken.vals) Taken.vals_length (l := []) (xs := out.take j) (OwnAt.nil _ _ _) hr1 rfl (by simp; omega) (fun x _ => oneCell_taken x) rfl (by simp; omega) (by omega) fun a3 c3 w₈ hu8 ho8 hf8 => ?_
  have e8 : Ext w w₈ := hu8.mono (fun x _ hx => by cases hx)
  have hf8' : Fresh w a3 := by
    rcases hf8 with rfl | ⟨b, rfl, hb⟩
    · exact Fresh.none _
    · exact Fresh.some hb
  intro w₉ hd9
  have e9 := e8.trans hd9.upd
  have h9 := h.ext e9
  have hg9 := Ext.get e9 hB
  have hBw : B < w.heap.size := (Array.getElem?_eq_some_iff.1 hB).1
  refine ⟨fun u => u.heap[B]? = some (.cells hd.vals.toArray T.api_Head (0, 0)), hg9, hd.kind.toNat, hd.era, hd.seq, fun u hu => head_cells hu, ?_⟩
  refine (nand_Bad_spec h9 _).mono ?_
  rintro _ _ ⟨rfl, rfl⟩
  rename_i w₉
  have hd0 : decide ((0 : Int) ≤ ((i : Nat) : Int)) = true := decide_eq_true (by omega)
  refine ⟨_, rfl, hg9, ?_⟩
  rw [hd0, Bool.true_and, Int.toNat_natCast]
  intro B2 w₁₁ hn11
  have hg11 := Ext.get hn11.upd hg9
  refine ⟨hg11, ?_⟩
  have ho11 := OwnAt.ext (OwnAt.ext ho8 hd9.upd) hn11.upd
  refine append_flat (f := Taken.vals) Taken.vals_length (x := ⟨i, hd, c.isBad i⟩) ho11 (by simp [Taken.vals]) hn11 rfl (oneCell_taken _) rfl (by simp; omega) (by omega) fun a4 c4 w₁₂ hu12 ho12 hf12 => ?_
  have e11 := e9.trans hn11.upd
  have e12 : Ext w w₁₂ := Upd.beyond e11 hu12 (fun x hx => hf8' _ hx)
  have hf12' : Fresh w a4 := by
    rcases hf12 with rfl | ⟨b, rfl, hb⟩
    · exact hf8'
    · exact Fresh.some (by have := e11.size; omega)
  refine ⟨Ext.get e12 hB, ?_⟩
  refine slice_from (by omega) (by omega) hcap ?_
  rw [Int.toNat_natCast]
  have hr2 : RowAt w₁₂ (if cap = j then a else a.map (·.add (j * 5))) ((out.drop j).flatMap Taken.vals) := by
    rw [← flat_drop Taken.vals_length]; exact row_from (RowAt.ext ho.row e12) (by rw [flat_len Taken.vals_length]) hcap
  refine append_rows (f := Taken.vals) Taken.vals_length (xs := out.drop j) ho12 hr2 rfl (by simp) (fun x _ => oneCell_taken x) rfl (by simp; omega) (by omega) fun a6 c6 w₁₃ hu13 ho13 hf13 => ?_
  have e13 : Ext w w₁₃ := Upd.beyond e12 hu13 (fun x hx => hf12' _ hx)
  simp only [List.nil_append] at ho13 ⊢
  refine hk a6 c6 w₁₃ e13 ho13 ?_
  rcases hf13 with rfl | ⟨b, rfl, hb⟩
  · exact hf12'
  · exact Fresh.some (by have := e12.size; omega)
theorem carrackref04_Taken_spec {w : World} {p : Nat} {c : Chip} {L : Loc} {G : Nat → Prop} (h : ChipRep w p c L G) :
    CallsR prog K.carrackref04_Taken #[.pointer (some ⟨p, 0, none⟩)] w fun v w' => Ext w w' ∧ ∃ a cap, v = .slice a (refTaken c).length cap ∧ OwnAt w' a (refTaken c).length cap T.api_Taken 5 ((refTaken c).flatMap Taken.vals) ∧ Fresh w a := by
  apply carrackref04_Taken.sh
  have hnb := h.ok.nb2
  refine ⟨fun a l cap x u => ∃ i : Nat, x = i ∧ i ≤ c.nb ∧ l = (refGo c i).length ∧ Ext w u ∧ OwnAt u a (refGo c i).length cap T.api_Taken 5 ((refGo c i).flatMap Taken.vals) ∧ Fresh w a, fun _ _ _ x _ => (c.nb - x).toNat,
    ⟨0, rfl, by omega, rfl, Upd.refl _ _, OwnAt.nil _ _ _, Fresh.none _⟩, ?_⟩
  rintro a l cap x u ⟨i, rfl, hi, rfl, hu, ho, hf⟩
  have hlen := refGo_length c i
  refine (nand_Geo_spec (h.ext hu)).mono ?_
  rintro _ w₂ ⟨rfl, he2⟩
  have e2 := hu.trans he2
  refine ⟨_, _, _, _, rfl, br_dec (fun hlt => ?_) fun hge => ?_⟩
  · have hi' : i < c.nb := by omega
    have e1 : IntKind.i64.wrap ((i : Int) + 1) = ((i + 1 : Nat) : Int) := w64 (by omega) (by omega)
    refine (carrackref04_Head_spec (h.ext e2) (i : Int)).mono ?_
    rintro _ w₃ ⟨he3, rfl⟩
    have e3 := e2.trans he3
    refine ⟨_, _, _, _, rfl, fun B w₄ hn4 => ?_⟩
    rw [head_zero] at hn4
    refine head_put (h := (refHead c i).1) hn4.get rfl fun w₅ hput5 => ?_
    have hB : B = w₃.heap.size := hn4.num
    have hs3 := e3.size
    have e5 : Ext w w₅ := Put.upd (e3.trans hn4.upd) hput5 (.inl (by omega))
    have eu3 : Ext u w₃ := he2.trans he3
    have hsu3 := eu3.size
    have eu5 : Ext u w₅ := Put.upd (eu3.trans hn4.upd) hput5 (.inl (by omega))
    have hgo : refGo c (i + 1) = if (refHead c i).2 then insAt ⟨i, (refHead c i).1, c.isBad i⟩ (refGo c i) else refGo c i := by rw [refGo]
    cases hh : (refHead c i).2 with
    | false =>
      simp only [Bool.not_false, br_true]
      rw [hh] at hgo
      simp only [Bool.false_eq_true, if_false] at hgo
      exact ⟨⟨i + 1, e1, hi', by rw [hgo], e5, by rw [hgo]; exact OwnAt.ext ho eu5, hf⟩, by rw [e1]; exact meas hi'⟩
    | true =>
      simp only [Bool.not_true, br_false]
      rw [hh] at hgo
      simp only [if_true] at hgo
      refine ⟨fun y v => ∃ j : Nat, y = j ∧ j ≤ (refGo c i).length ∧ Ext w₅ v ∧ ∀ t ∈ (refGo c i).take j, t.head.seq ≤ (refHead c i).1.seq, fun y _ => ((refGo c i).length - y).toNat, ⟨0, rfl, by omega, Upd.refl _ _, fun t ht => by simp at ht⟩, ?_⟩
      rintro y v ⟨j, rfl, hj, hv5, hall⟩ w₇ hd7
      have e57 := hv5.trans hd7.upd
      have e7 := e5.trans e57
      have ho7 := OwnAt.ext (OwnAt.ext ho eu5) e57
      have hg7 := Ext.get e57 hput5.get
      have hins : (∀ (hlt : j < (refGo c i).length), decide ((refGo c i)[j].head.seq ≤ (refHead c i).1.seq) = false) → (refGo c i).take j ++ [⟨i, (refHead c i).1, c.isBad i⟩] ++ (refGo c i).drop j = refGo c (i + 1) := by
        intro hstop
        have hpos : posOf ⟨i, (refHead c i).1, c.isBad i⟩ (refGo c i) = j := takeWhile_at _ _ j hj (fun t ht => decide_eq_true (hall t ht)) hstop
        rw [hgo]
        unfold insAt
        rw [hpos]
      refine ⟨fun z => z = w₇, rfl, br_dec (fun hlt => ?_) fun hge => ?_⟩
      · have hj' : j < (refGo c i).length := by omega
        refine idx_flat (f := Taken.vals) Taken.vals_length (by omega) ho7.row rfl hj' fun b o hab hr => ?_
        simp only [add_lit]
        obtain ⟨b', o', hab', hc⟩ := RowAt.cell hr (i := 3) (v := .int .u64 (refGo c i)[j].head.seq) rfl
        cases hab'
        refine ⟨_, fun z hz => hz ▸ hc, _, fun z hz => hz ▸ cell_of hg7 rfl, br_dec (fun hle => ?_) fun hgt => ?_⟩
        · have e2 : IntKind.i64.wrap ((j : Int) + 1) = ((j + 1 : Nat) : Int) := w64 (by omega) (by omega)
          rw [e2]
          refine ⟨⟨j + 1, rfl, hj', e57, fun t ht => ?_⟩, meas hj'⟩
          rw [List.take_succ_eq_append_getElem hj'] at ht
          rcases List.mem_append.1 ht with ht | ht
          · exact hall t ht
          · simp at ht
            subst ht
            omega
        · have hin := hins (fun _ => decide_eq_false (by omega))
          refine insert_tail (i := i) (h.ext e7) ho7 (by omega) hj hg7 fun a6 c6 w₁₃ he13 ho13 hf13 => ?_
          rw [hin] at ho13 ⊢
          exact ⟨⟨i + 1, e1, hi', rfl, e7.trans he13, ho13, Fresh.mono hf13 e7.size⟩, by rw [e1]; exact meas hi'⟩
      · have hin := hins (fun h => by omega)
        refine insert_tail (i := i) (h.ext e7) ho7 (by omega) hj hg7 fun a6 c6 w₁₃ he13 ho13 hf13 => ?_
        rw [hin] at ho13 ⊢
        exact ⟨⟨i + 1, e1, hi', rfl, e7.trans he13, ho13, Fresh.mono hf13 e7.size⟩, by rw [e1]; exact meas hi'⟩
  · have : i = c.nb := by omega
    subst this
    exact ⟨e2, a, cap, rfl, OwnAt.ext ho he2, hf⟩
end Go.Den
end
section
set_option linter.unusedVariables false
set_option maxRecDepth 100000
namespace Go.Den
def newChip (nb np sz sp : Nat) : Chip := ⟨nb, np, sz, sp, List.replicate nb (List.replicate (np * sz) 255), List.replicate nb false, [], 0, false, 0⟩
end Go.Den
end
section
set_option linter.unusedVariables false
set_option linter.unusedSimpArgs false
set_option maxRecDepth 4000
namespace Go.Den
/-- a chip whose parts lie in F; what it reads alone lies beyond A -/
def CIn (F : Nat → Prop) (A : Nat) (w : World) (p : Nat) (c : Chip) : Prop := ∃ L G, ChipRep w p c L G ∧ (∀ x, x ∈ p :: L.bb :: L.locs → F x) ∧ ∀ x, G x → A ≤ x ∧ x < w.heap.size
def PIn (F : Nat → Prop) (A : Nat) (w : World) (M : PLoc) (P : Pool) (c : Chip) : Prop := ∃ L G, PC w M P c L G ∧ (∀ x, PF M L x → F x) ∧ ∀ x, G x → A ≤ x ∧ x < w.heap.size
abbrev Bet (A S : Nat) : Nat → Prop := fun x => A ≤ x ∧ x < S
/-- a chip whose parts lie between A and S -/
abbrev CAt (A S : Nat) (w : World) (p : Nat) (c : Chip) : Prop := CIn (Bet A S) A w p c
/-- a pool beyond A -/
abbrev PAt (A S : Nat) (w : World) (M : PLoc) (P : Pool) (c : Chip) : Prop := PIn (Bet A S) A w M P c
theorem CIn.ext {F : Nat → Prop} {A : Nat} {w w' : World} {p : Nat} {c : Chip} (h : CIn F A w p c) (k : Ext w w') : CIn F A w' p c := by
  obtain ⟨L, G, hr, hF, hG⟩ := h
  exact ⟨L, G, hr.ext k, hF, fun x hx => ⟨(hG x hx).1, Nat.lt_of_lt_of_le (hG x hx).2 k.size⟩⟩
theorem PIn.ext {F : Nat → Prop} {A : Nat} {w w' : World} {M : PLoc} {P : Pool} {c : Chip} (h : PIn F A w M P c) (k : Ext w w') : PIn F A w' M P c := by
  obtain ⟨L, G, hr, hF, hG⟩ := h
  exact ⟨L, G, hr.ext k, hF, fun x hx => ⟨(hG x hx).1, Nat.lt_of_lt_of_le (hG x hx).2 k.size⟩⟩
theorem PIn.chip {F : Nat → Prop} {A : Nat} {w : World} {M : PLoc} {P : Pool} {c : Chip} (h : PIn F A w M P c) : CIn F A w M.p c := by
  obtain ⟨L, G, hr, hF, hG⟩ := h
  exact ⟨L, G, hr.chip, fun x hx => hF x (.inr (.inr hx)), hG⟩
theorem CIn.ok {F : Nat → Prop} {A : Nat} {w : World} {p : Nat} {c : Chip} (h : CIn F A w p c) : c.Ok := by
  obtain ⟨L, G, hr, hF, hG⟩ := h
  exact hr.ok
theorem CIn.mono {F F' : Nat → Prop} {A : Nat} {w : World} {p : Nat} {c : Chip} (h : CIn F A w p c) (hf : ∀ x, F x → F' x) : CIn F' A w p c := by
  obtain ⟨L, G, hr, hF, hG⟩ := h
  exact ⟨L, G, hr, fun x hx => hf x (hF x hx), hG⟩
theorem PIn.mono {F F' : Nat → Prop} {A : Nat} {w : World} {M : PLoc} {P : Pool} {c : Chip} (h : PIn F A w M P c) (hf : ∀ x, F x → F' x) : PIn F' A w M P c := by
  obtain ⟨L, G, hr, hF, hG⟩ := h
  exact ⟨L, G, hr, fun x hx => hf x (hF x hx), hG⟩
theorem CAt.ext {A S : Nat} {w w' : World} {p : Nat} {c : Chip} (h : CAt A S w p c) (k : Ext w w') : CAt A S w' p c := by
  obtain ⟨L, G, hr, hF, hG⟩ := h
  exact ⟨L, G, hr.ext k, hF, fun x hx => ⟨(hG x hx).1, Nat.lt_of_lt_of_le (hG x hx).2 k.size⟩⟩
theorem PAt.ext {A S : Nat} {w w' : World} {M : PLoc} {P : Pool} {c : Chip} (h : PAt A S w M P c) (k : Ext w w') : PAt A S w' M P c := by
  obtain ⟨L, G, hr, hF, hG⟩ := h
  exact ⟨L, G, hr.ext k, hF, fun x hx => ⟨(hG x hx).1, Nat.lt_of_lt_of_le (hG x hx).2 k.size⟩⟩
theorem PAt.chip {A S : Nat} {w : World} {M : PLoc} {P : Pool} {c : Chip} (h : PAt A S w M P c) : CAt A S w M.p c := by
  obtain ⟨L, G, hr, hF, hG⟩ := h
  exact ⟨L, G, hr.chip, fun x hx => hF x (.inr (.inr hx)), hG⟩
theorem CAt.ok {A S : Nat} {w : World} {p : Nat} {c : Chip} (h : CAt A S w p c) : c.Ok := by
  obtain ⟨L, G, hr, hF, hG⟩ := h
  exact hr.ok
theorem PAt.size {A S : Nat} {w : World} {M : PLoc} {P : Pool} {c : Chip} (h : PAt A S w M P c) : M.q < w.heap.size := by
  obtain ⟨L, G, hr, hF, hG⟩ := h
  exact (Array.getElem?_eq_some_iff.1 hr.head).1
theorem CAt.of {w w' : World} {p : Nat} {c : Chip} {A : Nat} (h : ChipAt w' p c (fun x => w.heap.size ≤ x ∧ x < w'.heap.size)) (hA : A ≤ w.heap.size) : CAt A w'.heap.size w' p c := by
  obtain ⟨L, G, hr, hF, hG, _⟩ := h
  exact ⟨L, G, hr, fun x hx => ⟨Nat.le_trans hA (hF x hx).1, (hF x hx).2⟩, fun x hx => ⟨Nat.le_trans hA (hG x hx).1, (hG x hx).2⟩⟩
theorem cNew (w : World) {A nb np sz sp : Nat} (hA : A ≤ w.heap.size) (nb1 : 8 ≤ nb) (nb2 : nb ≤ 64) (np1 : 4 ≤ np) (np2 : np ≤ 32) (sz1 : 128 ≤ sz) (sz2 : sz ≤ 256) (sp2 : sp ≤ 4) :
    CallsR prog K.nand_New #[.agg #[.int .i64 nb, .int .i64 np, .int .i64 sz, .int .i64 sp]] w fun v w' => Ext w w' ∧ ∃ p, v = .tuple #[.pointer (some ⟨p, 0, none⟩), .int .i64 0] ∧ CAt A w'.heap.size w' p (newChip nb np sz sp) := by
  refine (nand_New_spec w nb1 nb2 np1 np2 sz1 sz2 sp2).mono ?_
  rintro v w' ⟨he, p, rfl, hc⟩
  exact ⟨he, p, rfl, CAt.of hc hA⟩
theorem cPower {F : Nat → Prop} {A : Nat} {w : World} {p : Nat} {c : Chip} (h : CIn F A w p c) (hA : A ≤ w.heap.size) :
    CallsR prog K.nand_Chip_Power #[.pointer (some ⟨p, 0, none⟩)] w fun v w' => Ext w w' ∧ ∃ p', v = .tuple #[.pointer (some ⟨p', 0, none⟩), .int .i64 0] ∧ CAt A w'.heap.size w' p' c.power := by
  obtain ⟨L, G, hr, hF, hG⟩ := h
  refine (nand_Power_spec hr).mono ?_
  rintro v w' ⟨he, p', rfl, hc⟩
  exact ⟨he, p', rfl, CAt.of hc hA⟩
theorem cScan {A S : Nat} {w : World} {p : Nat} {c : Chip} (h : CAt A S w p c) (hA : A ≤ w.heap.size) (hS : S ≤ w.heap.size) :
    CallsR prog K.pool_Scan #[.pointer (some ⟨p, 0, none⟩)] w fun v w' => Ext w w' ∧
      if c.dead then v = .tuple #[.pointer none, .int .i64 10]
      else ∃ M : PLoc, M.p = p ∧ v = .tuple #[.pointer (some ⟨M.q, 0, none⟩), .int .i64 0] ∧ PAt A w'.heap.size w' M (scanPool c) c := by
  obtain ⟨L, G, hr, hF, hG⟩ := h
  refine (pool_Scan_spec hr (fun x hx => (hG x hx).2)).mono ?_
  rintro v w' ⟨he, hv⟩
  refine ⟨he, ?_⟩
  split at hv
  · rename_i hd
    rw [if_pos hd]; exact hv
  · rename_i hd
    rw [if_neg hd]
    obtain ⟨q, pb, rfl, hq, hpb, hq', hpb', hp⟩ := hv
    refine ⟨⟨q, pb, c.nb, p⟩, rfl, rfl, L, G, hp, fun x hx => ?_, fun x hx => ⟨(hG x hx).1, Nat.lt_of_lt_of_le (hG x hx).2 he.size⟩⟩
    rcases hx with hx | hx | hx
    · have : x = q := hx
      omega
    · have : x = pb := hx
      omega
    · have := hF x hx
      have := he.size
      omega
theorem cScanF {F : Nat → Prop} {A : Nat} {w : World} {p : Nat} {c : Chip} (h : CIn F A w p c) :
    CallsR prog K.pool_Scan #[.pointer (some ⟨p, 0, none⟩)] w fun v w' => Ext w w' ∧
      if c.dead then v = .tuple #[.pointer none, .int .i64 10]
      else ∃ M : PLoc, M.p = p ∧ v = .tuple #[.pointer (some ⟨M.q, 0, none⟩), .int .i64 0] ∧ PIn (fun x => F x ∨ (w.heap.size ≤ x ∧ x < w'.heap.size)) A w' M (scanPool c) c := by
  obtain ⟨L, G, hr, hF, hG⟩ := h
  refine (pool_Scan_spec hr (fun x hx => (hG x hx).2)).mono ?_
  rintro v w' ⟨he, hv⟩
  refine ⟨he, ?_⟩
  split at hv
  · rename_i hd
    rw [if_pos hd]; exact hv
  · rename_i hd
    rw [if_neg hd]
    obtain ⟨q, pb, rfl, hq, hpb, hq', hpb', hp⟩ := hv
    refine ⟨⟨q, pb, c.nb, p⟩, rfl, rfl, L, G, hp, fun x hx => ?_, fun x hx => ⟨(hG x hx).1, Nat.lt_of_lt_of_le (hG x hx).2 he.size⟩⟩
    rcases hx with hx | hx | hx
    · have : x = q := hx
      exact .inr (by omega)
    · have : x = pb := hx
      exact .inr (by omega)
    · exact .inl (hF x hx)
theorem pTake {F : Nat → Prop} {A : Nat} {w : World} {M : PLoc} {P : Pool} {c : Chip} (h : PIn F A w M P c) {kind : UInt8} {era : Nat} (hera : era < 4294967296) {r : TakeR} (hr : takePool P c kind era = r) :
    CallsR prog K.pool_Pool_Take #[.pointer (some ⟨M.q, 0, none⟩), bv kind, .int .u32 era] w fun v w' =>
      v = .tuple #[.int .i64 (r.block : Nat), .int .i64 (r.err : Nat)] ∧ Upd (F) w w' ∧ PIn F A w' M r.pool r.chip := by
  subst hr
  obtain ⟨L, G, hr, hF, hG⟩ := h
  refine (pool_Take_spec hr hera).mono ?_
  rintro v w' ⟨rfl, hu, L', hs, hp⟩
  exact ⟨rfl, hu.mono fun x _ hx => hF x hx, L', G, hp, fun x hx => hF x (by rw [PF.same hs] at hx; exact hx), fun x hx => ⟨(hG x hx).1, Nat.lt_of_lt_of_le (hG x hx).2 hu.size⟩⟩
theorem pFree {F : Nat → Prop} {A : Nat} {w : World} {M : PLoc} {P : Pool} {c : Chip} (h : PIn F A w M P c) (i : Int) {r : Pool × Chip × Nat} (hr : freePool P c i = r) :
    CallsR prog K.pool_Pool_Free #[.pointer (some ⟨M.q, 0, none⟩), .int .i64 i] w fun v w' =>
      v = .int .i64 (r.2.2 : Nat) ∧ Upd (F) w w' ∧ PIn F A w' M r.1 r.2.1 := by
  subst hr
  obtain ⟨L, G, hr, hF, hG⟩ := h
  refine (pool_Free_spec hr i).mono ?_
  rintro v w' ⟨rfl, hu, L', hs, hp⟩
  exact ⟨rfl, hu.mono fun x _ hx => hF x hx, L', G, hp, fun x hx => hF x (by rw [PF.same hs] at hx; exact hx), fun x hx => ⟨(hG x hx).1, Nat.lt_of_lt_of_le (hG x hx).2 hu.size⟩⟩
theorem pBlanks {F : Nat → Prop} {A : Nat} {w : World} {M : PLoc} {P : Pool} {c : Chip} (h : PIn F A w M P c) :
    CallsR prog K.pool_Pool_Blanks #[.pointer (some ⟨M.q, 0, none⟩)] w fun v w' => v = .int .i64 (blanksPool P c : Nat) ∧ Ext w w' := by
  obtain ⟨L, G, hr, hF, hG⟩ := h
  exact pool_Blanks_spec hr
theorem pChip {F : Nat → Prop} {A : Nat} {w : World} {M : PLoc} {P : Pool} {c : Chip} (h : PIn F A w M P c) :
    CallsR prog K.pool_Pool_Chip #[.pointer (some ⟨M.q, 0, none⟩)] w fun v w' => v = .pointer (some ⟨M.p, 0, none⟩) ∧ w' = w := by
  obtain ⟨L, G, hr, hF, hG⟩ := h
  exact pool_Chip_spec hr
/-- a row of taken blocks, of new memory -/
def TakenAt (w w' : World) (v : Value) (l : List Taken) : Prop := ∃ a cap, v = .slice a l.length cap ∧ OwnAt w' a l.length cap T.api_Taken 5 (l.flatMap Taken.vals) ∧ Fresh w a
theorem pTaken {F : Nat → Prop} {A : Nat} {w : World} {M : PLoc} {P : Pool} {c : Chip} (h : PIn F A w M P c) (hnb : c.nb < 20) {l : List Taken} (hl : takenPool P c = l) :
    CallsR prog K.pool_Pool_Taken #[.pointer (some ⟨M.q, 0, none⟩)] w fun v w' => Ext w w' ∧ TakenAt w w' v l := by
  subst hl
  obtain ⟨L, G, hr, hF, hG⟩ := h
  exact pool_Taken_spec hr hnb
theorem rTaken {F : Nat → Prop} {A : Nat} {w : World} {p : Nat} {c : Chip} (h : CIn F A w p c) :
    CallsR prog K.carrackref04_Taken #[.pointer (some ⟨p, 0, none⟩)] w fun v w' => Ext w w' ∧ TakenAt w w' v (refTaken c) := by
  obtain ⟨L, G, hr, hF, hG⟩ := h
  exact carrackref04_Taken_spec hr
end Go.Den
end
section
set_option linter.unusedVariables false
set_option linter.unusedSimpArgs false
namespace Go.Den
theorem new_put {w : World} {cs : Array Value} {T : TypeId} {vs : List Value} {K : Nat → World → Prop} (hl : vs.length = cs.size)
    (hk : ∀ B w2, B = w.heap.size → w2.heap.size = w.heap.size + 1 → Ext w w2 → w2.heap[B]? = some (.cells vs.toArray T (0, 0)) → K B w2) :
    ∀ (B : Nat) (w1 : World), New w (.cells cs T) B w1 → storeP w1 ⟨B, 0, none⟩ vs (fun w2 => K B w2) := by
  intro B w1 hn
  refine store_of hn.get (by simp [hl]) fun w2 hp => ?_
  have hB : B = w.heap.size := hn.num
  refine hk B w2 hB (by rw [hp.size, hn.size]) (Put.upd hn.upd hp (.inl (by omega))) ?_
  have := hp.get
  rwa [splice_all _ _ hl.symm] at this
theorem cells_all {w : World} {B : Nat} {vs : List Value} {T : TypeId} {fr : Nat × Nat} (h : w.heap[B]? = some (.cells vs.toArray T fr)) : cellsAt w ⟨B, 0, none⟩ vs 0 :=
  cellsAt_of (o := 0) h fun j v hj => by simpa using hj
/-- all cells of a block become others -/
theorem put_all {w : World} {B : Nat} {cs : Array Value} {vs : List Value} {T : TypeId} {K : World → Prop} (h : w.heap[B]? = some (.cells cs T (0, 0))) (hl : vs.length = cs.size)
    (hk : ∀ w2, Upd (· = B) w w2 → w2.heap.size = w.heap.size → w2.heap[B]? = some (.cells vs.toArray T (0, 0)) → K w2) : storeP w ⟨B, 0, none⟩ vs K := by
  refine store_of h (by simp [hl]) fun w2 hp => hk w2 hp.upd1 hp.size ?_
  have := hp.get
  rwa [splice_all _ _ hl.symm] at this
theorem exists_least {Q : Nat → Prop} (h : ∃ n, Q n) : ∃ n, Q n ∧ ∀ m, Q m → n ≤ m := by
  obtain ⟨n, hn⟩ := h
  induction n using Nat.strongRecOn with
  | _ n ih =>
    by_cases hx : ∃ m, m < n ∧ Q m
    · obtain ⟨m, h1, h2⟩ := hx
      exact ih m h1 h2
    · exact ⟨n, hn, fun m hm => Nat.le_of_not_lt fun hlt => hx ⟨m, hlt, hm⟩⟩
open Classical in
noncomputable def least (Q : Nat → Prop) : Nat := if h : ∃ n, Q n then Classical.choose (exists_least h) else 0
theorem least_spec {Q : Nat → Prop} (h : ∃ n, Q n) : Q (least Q) ∧ ∀ m, Q m → least Q ≤ m := by
  unfold least
  rw [dif_pos h]
  exact Classical.choose_spec (exists_least h)
/-- a loop without variables: what is left is told by the world -/
def LJ (J' : Nat → World → Prop) : World → Prop := fun u => ∃ n, J' n u
noncomputable def Lμ (J' : Nat → World → Prop) : World → Nat := fun u => least fun n => J' n u
theorem loop_step {J' : Nat → World → Prop} {u : World} (h : LJ J' u) : ∃ n, J' n u ∧ ∀ m u', m < n → J' m u' → LJ J' u' ∧ Lμ J' u' < Lμ J' u := by
  obtain ⟨h1, _⟩ := least_spec (Q := fun n => J' n u) h
  refine ⟨_, h1, fun m u' hm hj => ⟨⟨m, hj⟩, ?_⟩⟩
  exact Nat.lt_of_le_of_lt ((least_spec (Q := fun n => J' n u') ⟨m, hj⟩).2 m hj) hm
theorem u8b (x y : UInt8) : ((x.toNat : Int) == (y.toNat : Int)) = (x == y) := by
  rw [Bool.eq_iff_iff]
  simp only [beq_iff_eq, Int.natCast_inj, UInt8.toNat_inj]
theorem u8e1 (x : UInt8) : ((x.toNat : Int) == 1) = (x == 1) := u8b x 1
theorem u8e2 (x : UInt8) : ((x.toNat : Int) == 2) = (x == 2) := u8b x 2
theorem u8i (x : UInt8) (n : Nat) (hn : n < 256) : (x.toNat : Int) = (n : Int) ↔ x = UInt8.ofNat n := by
  constructor
  · intro h
    apply UInt8.toNat_inj.1
    simp
    omega
  · rintro rfl
    simp
    omega
end Go.Den
end
section
set_option linter.unusedVariables false
set_option linter.unusedSimpArgs false
namespace Go.Den
def bit (x : UInt8) (k : Nat) : Bool := x.toBitVec.getLsbD k
theorem bit_nat (x : UInt8) (k : Nat) : bit x k = x.toNat.testBit k := rfl
theorem bit_div (x : UInt8) (k : Nat) : (x.toNat / 2 ^ k % 2 == 0) = !bit x k := by
  rw [bit_nat, Nat.testBit_eq_decide_div_mod_eq]
  have : x.toNat / 2 ^ k % 2 = 0 ∨ x.toNat / 2 ^ k % 2 = 1 := by omega
  rcases this with h | h <;> rw [h] <;> rfl
theorem bit_high (x : UInt8) {k : Nat} (h : 8 ≤ k) : bit x k = false := by
  unfold bit
  exact BitVec.getLsbD_of_ge _ _ h
theorem bit_ext {x y : UInt8} (h : ∀ k, k < 8 → bit x k = bit y k) : x = y := by
  have : x.toBitVec = y.toBitVec := BitVec.eq_of_getLsbD_eq fun k hk => h k hk
  exact UInt8.toBitVec_inj.1 this
theorem zeros8_bits (x : UInt8) : zeros8 x = ((List.range 8).filter fun k => !bit x k).length := by
  unfold zeros8
  congr 2
  funext k
  exact bit_div x k
theorem filter_le {α : Type} {p q : α → Bool} : ∀ {l : List α}, (∀ a ∈ l, p a = true → q a = true) → (l.filter p).length ≤ (l.filter q).length ∧ ((l.filter p).length = (l.filter q).length → ∀ a ∈ l, q a = true → p a = true)
  | [], _ => by simp
  | a :: l, h => by
    obtain ⟨h1, h2⟩ := filter_le (l := l) fun b hb => h b (by simp [hb])
    have ha := h a (by simp)
    simp only [List.filter_cons]
    cases hp : p a with
    | true =>
      have hq := ha hp
      simp only [hq, if_true, List.length_cons]
      refine ⟨by omega, fun he b hb hqb => ?_⟩
      rcases List.mem_cons.1 hb with rfl | hb
      · exact hp
      · exact h2 (by omega) b hb hqb
    | false =>
      cases hq : q a with
      | true =>
        simp only [Bool.false_eq_true, if_false, if_true, List.length_cons]
        exact ⟨by omega, fun he => by omega⟩
      | false =>
        simp only [Bool.false_eq_true, if_false]
        refine ⟨h1, fun he b hb hqb => ?_⟩
        rcases List.mem_cons.1 hb with rfl | hb
        · rw [hq] at hqb; cases hqb
        · exact h2 he b hb hqb
/-- y's bits are bits of x -/
def sub8 (y x : UInt8) : Prop := ∀ k, bit y k = true → bit x k = true
theorem sub8_zeros {y x : UInt8} (h : sub8 y x) : zeros8 x ≤ zeros8 y ∧ (zeros8 x = zeros8 y → x = y) := by
  rw [zeros8_bits, zeros8_bits]
  obtain ⟨h1, h2⟩ := filter_le (p := fun k => !bit x k) (q := fun k => !bit y k) (l := List.range 8) (fun k _ hk => by
    cases hy : bit y k with
    | false => rfl
    | true => rw [h k hy] at hk; cases hk)
  refine ⟨h1, fun he => bit_ext fun k hk => ?_⟩
  have := h2 he k (by simpa using hk)
  cases hy : bit y k with
  | true => exact h k hy
  | false =>
    rw [hy] at this
    simpa using this
theorem sub8_le {y x : UInt8} (h : sub8 y x) : y.toNat ≤ x.toNat := by
  have : y.toNat &&& x.toNat = y.toNat := by
    apply Nat.eq_of_testBit_eq
    intro k
    rw [Nat.testBit_and]
    have := h k
    rw [bit_nat, bit_nat] at this
    cases hy : y.toNat.testBit k with
    | false => rfl
    | true => rw [this hy]; rfl
  rw [← this]
  exact Nat.and_le_right
theorem sub8_refl (x : UInt8) : sub8 x x := fun _ h => h
theorem sub8_trans {x y z : UInt8} (h : sub8 x y) (k : sub8 y z) : sub8 x z := fun i hi => k i (h i hi)
theorem bit_mix (m o n : UInt8) {k : Nat} (hk : k < 8) : bit (mix m o n) k = ((bit o k && !bit m k) || (bit n k && bit m k)) := by
  unfold bit mix
  rw [UInt8.toBitVec_or, UInt8.toBitVec_and, UInt8.toBitVec_and, UInt8.toBitVec_not, BitVec.getLsbD_or, BitVec.getLsbD_and, BitVec.getLsbD_and, BitVec.getLsbD_not]
  simp [hk]
theorem bit_255 {k : Nat} (hk : k < 8) : bit 255 k = true := by
  match k, hk with
  | 0, _ | 1, _ | 2, _ | 3, _ | 4, _ | 5, _ | 6, _ | 7, _ => rfl
theorem sub8_erase (m o : UInt8) : sub8 o (mix m o 255) := by
  intro k hk
  by_cases h8 : k < 8
  · rw [bit_mix _ _ _ h8, hk, bit_255 h8]
    cases bit m k <;> rfl
  · rw [bit_high _ (by omega)] at hk; cases hk
theorem sub8_write (m n : UInt8) : sub8 n (mix m 255 n) := by
  intro k hk
  by_cases h8 : k < 8
  · rw [bit_mix _ _ _ h8, hk, bit_255 h8]
    cases bit m k <;> rfl
  · rw [bit_high _ (by omega)] at hk; cases hk
theorem mix_full (o n : UInt8) : mix 255 o n = n := by
  apply bit_ext
  intro k hk
  rw [bit_mix _ _ _ hk, bit_255 hk]
  simp
/-- bit by bit, of lists -/
def SubL (Q X : List UInt8) : Prop := Q.length = X.length ∧ ∀ i, i < Q.length → sub8 (Q.getD i 0) (X.getD i 0)
theorem SubL.refl (Q : List UInt8) : SubL Q Q := ⟨rfl, fun _ _ => sub8_refl _⟩
theorem SubL.trans {A B C : List UInt8} (h : SubL A B) (k : SubL B C) : SubL A C := ⟨h.1.trans k.1, fun i hi => sub8_trans (h.2 i hi) (k.2 i (by rw [← h.1]; exact hi))⟩
theorem SubL.cons {y x : UInt8} {ys xs : List UInt8} (h : SubL (y :: ys) (x :: xs)) : sub8 y x ∧ SubL ys xs := by
  obtain ⟨hl, hb⟩ := h
  refine ⟨hb 0 (by simp), by simpa using hl, fun i hi => ?_⟩
  exact hb (i + 1) (by simpa using hi)
theorem SubL.take {A B : List UInt8} (h : SubL A B) (n : Nat) : SubL (A.take n) (B.take n) := by
  refine ⟨by simp [h.1], fun i hi => ?_⟩
  have hi' : i < A.length ∧ i < n := by simp at hi; omega
  have hb := h.2 i hi'.1
  have hl := h.1
  simpa [List.getD, List.getElem?_take, hi'.2] using hb
theorem SubL.drop {A B : List UInt8} (h : SubL A B) (n : Nat) : SubL (A.drop n) (B.drop n) := by
  refine ⟨by simp [h.1], fun i hi => ?_⟩
  have hb := h.2 (n + i) (by simp at hi; omega)
  simpa [List.getD] using hb
theorem SubL.nts : ∀ {Q X : List UInt8}, SubL Q X → noughts X ≤ noughts Q ∧ (noughts X = noughts Q → X = Q)
  | [], [], _ => ⟨Nat.le_refl _, fun _ => rfl⟩
  | [], _ :: _, h => by have := h.1; simp at this
  | _ :: _, [], h => by have := h.1; simp at this
  | y :: ys, x :: xs, h => by
    obtain ⟨h1, h2⟩ := h.cons
    obtain ⟨a1, a2⟩ := sub8_zeros h1
    obtain ⟨b1, b2⟩ := SubL.nts h2
    have e1 : noughts (x :: xs) = zeros8 x + noughts xs := by simp [Go.Den.noughts]
    have e2 : noughts (y :: ys) = zeros8 y + noughts ys := by simp [Go.Den.noughts]
    rw [e1, e2]
    refine ⟨by omega, fun he => ?_⟩
    rw [a2 (by omega), b2 (by omega)]
theorem SubL.fle : ∀ {Q X : List UInt8}, SubL Q X → fromLE Q ≤ fromLE X
  | [], [], _ => Nat.le_refl _
  | [], _ :: _, h => by have := h.1; simp at this
  | _ :: _, [], h => by have := h.1; simp at this
  | y :: ys, x :: xs, h => by
    obtain ⟨h1, h2⟩ := h.cons
    have a := sub8_le h1
    have b := SubL.fle h2
    simp only [Go.Den.fromLE]
    omega
theorem SubL.antisymm {A B : List UInt8} (h : SubL A B) (k : SubL B A) : A = B := by
  have h1 := h.nts
  have h2 := k.nts
  exact (h1.2 (by omega)).symm
/-- bytes that tell their noughts -/
def Sound (Q : List UInt8) : Prop := 2 ≤ Q.length ∧ fromLE (Q.take 2) = noughts (Q.drop 2)
/-- bytes that have but bits too many -/
def Safe (X : List UInt8) : Prop := ∃ Q, Sound Q ∧ SubL Q X
theorem berger {Q X : List UInt8} (h : SubL Q X) (hq : Sound Q) (hx : Sound X) : X = Q := by
  have h1 := (h.drop 2).nts
  have h2 := (h.take 2).fle
  have e1 := hq.2
  have e2 := hx.2
  have hd : X.drop 2 = Q.drop 2 := h1.2 (by omega)
  have hf : fromLE (X.take 2) = fromLE (Q.take 2) := by rw [e1, e2, hd]
  have hl : (X.take 2).length = (Q.take 2).length := by simp [h.1]
  have ht : X.take 2 = Q.take 2 := by
    have a := leB_fromLE (X.take 2)
    have b := leB_fromLE (Q.take 2)
    rw [hf, hl, b] at a
    exact a.symm
  rw [← List.take_append_drop 2 X, ht, hd, List.take_append_drop]
theorem Safe.up {X Y : List UInt8} (h : Safe X) (k : SubL X Y) : Safe Y := by
  obtain ⟨Q, hq, hs⟩ := h
  exact ⟨Q, hq, hs.trans k⟩
theorem Safe.same {X Y : List UInt8} (h : Safe X) (k : SubL X Y) (hy : Sound Y) : Y = X := by
  obtain ⟨Q, hq, hs⟩ := h
  have e := berger (hs.trans k) hq hy
  subst e
  exact SubL.antisymm hs k
theorem getHead_sound {b : List UInt8} (h : (getHead b).2 = 0) : Sound b := by
  have hp : (getPage b).2.2 = 0 := by
    unfold getHead at h
    split at h
    · exact absurd h (by assumption)
    · rename_i hc; exact Classical.byContradiction hc
  unfold getPage at hp
  split at hp
  · cases hp
  · rename_i hs
    split at hp
    · cases hp
    · split at hp
      · cases hp
      · rename_i hn
        have hs' : isSize b.length = true := by simpa using hs
        simp [isSize] at hs'
        exact ⟨by omega, Classical.byContradiction hn⟩
theorem pageOf_sound {size : Nat} {kind : UInt8} {body : List UInt8} (hb : body.length + 5 ≤ size) (hs : size ≤ 8000) : Sound (pageOf size kind body) := by
  have hl := pageOf_length size kind body hb
  have hrl := pageRest_length size kind body hb
  have hn := noughts_le (pageRest size kind body)
  have h2 := leB_length 2 (noughts (pageRest size kind body))
  have e : (256 : Nat) ^ 2 = 65536 := by decide
  refine ⟨by omega, ?_⟩
  unfold pageOf
  rw [List.take_append_of_le_length (by omega), List.take_of_length_le (by omega), List.drop_append_of_le_length (by omega), List.drop_of_length_le (by omega), List.nil_append]
  exact fromLE_leB 2 _ (by omega)
/-! ### What a hit leaves -/
theorem mixL_getD (h : Option Hit) (old new : List UInt8) {i : Nat} (hi : i < old.length) : (mixL h old new).getD i 0 = mix (maskAt h i) (old.getD i 0) (new.getD i 0) := by
  simp [mixL, List.getD, hi]
theorem mixL_none (old new : List UInt8) (hl : new.length = old.length) : mixL none old new = new := by
  apply List.ext_getElem
  · simp [mixL_length, hl]
  · intro i h1 h2
    simp only [mixL, List.getElem_map, List.getElem_range, maskAt, mix_full]
    simp [List.getD, h2]
theorem mixL_erase (h : Option Hit) (old : List UInt8) (n : Nat) (hn : old.length ≤ n) : SubL old (mixL h old (List.replicate n 255)) := by
  refine ⟨(mixL_length _ _ _).symm, fun i hi => ?_⟩
  rw [mixL_getD _ _ _ hi]
  have : (List.replicate n (255 : UInt8)).getD i 0 = 255 := by simp [List.getD, show i < n by omega]
  rw [this]
  exact sub8_erase _ _
theorem mixL_write (h : Option Hit) (n : Nat) (new : List UInt8) (hl : new.length = n) : SubL new (mixL h (List.replicate n 255) new) := by
  refine ⟨by rw [mixL_length]; simp [hl], fun i hi => ?_⟩
  rw [mixL_getD _ _ _ (by simp; omega)]
  have : (List.replicate n (255 : UInt8)).getD i 0 = 255 := by simp [List.getD, show i < n by omega]
  rw [this]
  exact sub8_write _ _
end Go.Den
end
section
set_option linter.unusedVariables false
set_option linter.unusedSimpArgs false
namespace Go.Den
theorem isBlank_replicate (n : Nat) : isBlank (List.replicate n 255) = true := by simp [isBlank]
theorem getPage_pageOf {size : Nat} {kind : UInt8} {body : List UInt8} (hs : isSize size = true) (hk1 : ¬ kind < 1) (hk7 : ¬ kind > 7) (hb : body.length + 5 ≤ size) : getPage (pageOf size kind body) = (kind, body, 0) := by
  have hs' := hs
  simp [isSize] at hs'
  have hlen := pageOf_length size kind body hb
  have hrl := pageRest_length size kind body hb
  have hn := noughts_le (pageRest size kind body)
  have h2 := leB_length 2 (noughts (pageRest size kind body))
  have h3 := leB_length 2 body.length
  have e256 : (256 : Nat) ^ 2 = 65536 := by decide
  obtain ⟨n0, n1, hN⟩ : ∃ n0 n1, leB (noughts (pageRest size kind body)) 2 = [n0, n1] := ⟨_, _, rfl⟩
  obtain ⟨m0, m1, hM⟩ : ∃ m0 m1, leB body.length 2 = [m0, m1] := ⟨_, _, rfl⟩
  have hp : pageOf size kind body = n0 :: n1 :: kind :: m0 :: m1 :: (body ++ List.replicate (size - 5 - body.length) 255) := by
    unfold pageOf
    rw [hN]
    unfold pageRest
    rw [hM]
    simp
  have hr : pageRest size kind body = kind :: m0 :: m1 :: (body ++ List.replicate (size - 5 - body.length) 255) := by
    unfold pageRest
    rw [hM]
    simp
  have f1 : fromLE [n0, n1] = noughts (pageRest size kind body) := by rw [← hN]; exact fromLE_leB 2 _ (by omega)
  have f2 : fromLE [m0, m1] = body.length := by rw [← hM]; exact fromLE_leB 2 _ (by omega)
  have hkb : kind ≠ 255 := fun e => hk7 (by rw [e]; decide)
  have hnb : isBlank (pageOf size kind body) = false := by
    rw [hp]
    simp [isBlank, hkb]
  unfold getPage
  rw [hlen, if_neg (by rw [hs]; simp), if_neg (by rw [hnb]; simp)]
  have d2 : (pageOf size kind body).drop 2 = pageRest size kind body := by rw [hp, hr]; rfl
  have t2 : (pageOf size kind body).take 2 = [n0, n1] := by rw [hp]; rfl
  have g2 : (pageOf size kind body).getD 2 0 = kind := by rw [hp]; rfl
  have t3 : ((pageOf size kind body).drop 3).take 2 = [m0, m1] := by rw [hp]; rfl
  rw [d2, t2, f1, if_neg (by simp), g2, t3, f2]
  have d5 : (pageOf size kind body).drop (5 + body.length) = List.replicate (size - 5 - body.length) 255 := by
    rw [hp, ← List.drop_drop]
    show (body ++ List.replicate (size - 5 - body.length) 255).drop body.length = _
    simp
  have t5 : ((pageOf size kind body).take (5 + body.length)).drop 5 = body := by
    rw [hp, Nat.add_comm]
    show ((n0 :: n1 :: kind :: m0 :: m1 :: (body ++ List.replicate (size - 5 - body.length) 255)).take (body.length + 5)).drop 5 = body
    simp
  rw [d5, t5, isBlank_replicate, if_neg]
  rintro (h | h | h | h)
  · exact hk1 h
  · exact hk7 h
  · omega
  · cases h
theorem getHead_pageOf {size : Nat} {h : Head} (hs : isSize size = true) (ho : h.Ok) (hm : h.may = true) : getHead (pageOf size 1 h.body) = (h, 0) := by
  have hbl := h.body_length
  have hsz := putHead_size hs
  have hg := getPage_pageOf (kind := 1) (body := h.body) hs (by decide) (by decide) (by omega)
  unfold getHead
  rw [hg]
  simp only []
  rw [if_neg (by simp), if_neg (by rw [hbl]; simp)]
  have e4 : (256 : Nat) ^ 4 = 4294967296 := by decide
  have e8 : (256 : Nat) ^ 8 = 18446744073709551616 := by decide
  have h4 := leB_length 4 h.era
  have h8 := leB_length 8 h.seq
  have b0 : h.body.getD 0 0 = h.kind := rfl
  have b1 : (h.body.drop 1).take 4 = leB h.era 4 := by
    show (leB h.era 4 ++ leB h.seq 8).take 4 = _
    rw [List.take_append_of_le_length (by omega), List.take_of_length_le (by omega)]
  have b5 : (h.body.drop 5).take 8 = leB h.seq 8 := by
    show ((leB h.era 4 ++ leB h.seq 8).drop 4).take 8 = _
    rw [List.drop_append_of_le_length (by omega), List.drop_of_length_le (by omega), List.nil_append, List.take_of_length_le (by omega)]
  have f1 : fromLE (leB h.era 4) = h.era := fromLE_leB 4 _ (by have := ho.1; omega)
  have f2 : fromLE (leB h.seq 8) = h.seq := fromLE_leB 8 _ (by have := ho.2; omega)
  rw [b0, b1, b5, f1, f2]
  have e : (Head.mk h.kind h.era h.seq) = h := rfl
  rw [e, hm]
  rfl
end Go.Den
end
section
set_option linter.unusedVariables false
set_option linter.unusedSimpArgs false
namespace Go.Den
/-! ### Deeds -/
structure Deed (c c' : Chip) (i e : Nat) : Prop where
  geo : c.SameGeo c'
  ok : c'.Ok
  blk : ∀ j, j ≠ i → c'.blk j = c.blk j
  bad : ∀ j, j ≠ i → c'.isBad j = c.isBad j
  cases : (e = 0 ∧ c'.dead = c.dead ∧ c'.bad = c.bad) ∨ (e = 9 ∧ c'.dead = c.dead ∧ c'.isBad i = true) ∨ (e = 10 ∧ c'.dead = true ∧ c'.bad = c.bad)
  calm : (∀ t ∈ c.hits, t.fails = false) → e ≠ 9 ∧ (∀ t ∈ c'.hits, t.fails = false) ∧ c'.bad = c.bad
  quiet : c.hits = [] → e = 0 ∧ c'.hits = []
theorem strike_same (c : Chip) : c.strike.1.nb = c.nb ∧ c.strike.1.np = c.np ∧ c.strike.1.sz = c.sz ∧ c.strike.1.blocks = c.blocks ∧ c.strike.1.bad = c.bad ∧ c.strike.1.dead = c.dead ∧ (∀ t ∈ c.strike.1.hits, t ∈ c.hits) ∧ (∀ t, c.strike.2 = some t → t ∈ c.hits) ∧ (c.hits = [] → c.strike.2 = none ∧ c.strike.1.hits = []) := by
  unfold Chip.strike
  split
  · rename_i h
    exact ⟨rfl, rfl, rfl, rfl, rfl, rfl, (fun t ht => ht), (fun t ht => by cases ht), fun _ => ⟨rfl, h⟩⟩
  · rename_i t r h
    split
    · exact ⟨rfl, rfl, rfl, rfl, rfl, rfl, (fun t ht => ht), (fun t ht => by cases ht), fun h' => by rw [h] at h'; cases h'⟩
    · exact ⟨rfl, rfl, rfl, rfl, rfl, rfl, (fun t ht => by rw [h]; simp [ht]), (fun t ht => by cases ht; rw [h]; simp), fun h' => by rw [h] at h'; cases h'⟩
theorem getD_set_ne {α : Type} {l : List α} {i j : Nat} {x d : α} (h : j ≠ i) : (l.set i x).getD j d = l.getD j d := by
  simp [List.getD, List.getElem?_set_ne (Ne.symm h)]
theorem getD_set_eq {α : Type} {l : List α} {i : Nat} {x d : α} (h : i < l.length) : (l.set i x).getD i d = x := by
  simp [List.getD, h]
/-- what a deed makes of a block -/
def madeBlk (c : Chip) (b off n : Nat) (new : List UInt8) : List UInt8 := (c.blk b).take off ++ mixL c.strike.2 (((c.blk b).drop off).take n) new ++ (c.blk b).drop (off + n)
theorem done_deed {c : Chip} (h : c.Ok) {b off n : Nat} (hb : b < c.nb) (ho : off + n ≤ c.np * c.sz) (new : List UInt8) :
    Deed c (c.done b off n new).1 b (c.done b off n new).2 ∧ (c.done b off n new).1.blk b = madeBlk c b off n new ∧ (c.done b off n new).1.dead = (if (c.done b off n new).2 = 10 then true else c.dead) := by
  obtain ⟨s1, s2, s3, s4, s5, s6, s7, s8, s9⟩ := strike_same c
  have hbl := h.blk_len hb
  have hml : (madeBlk c b off n new).length = c.np * c.sz := by simp [madeBlk, mixL_length]; omega
  have hbb : b < c.blocks.length := by rw [h.bl]; exact hb
  have hbd : b < c.bad.length := by rw [h.bad]; exact hb
  have hdone : c.done b off n new = (c.strike.1.setBlk b (madeBlk c b off n new)).finish b c.strike.2 := rfl
  -- the chip ahead of the hit's end
  have hmid : ∀ (bad : List Bool) (dead : Bool), bad.length = c.nb → ({ c.strike.1.setBlk b (madeBlk c b off n new) with bad := bad, dead := dead } : Chip).Ok := by
    intro bad dead hl
    refine ⟨by show 8 ≤ c.strike.1.nb; rw [s1]; exact h.nb1, by show c.strike.1.nb ≤ 64; rw [s1]; exact h.nb2, by show 4 ≤ c.strike.1.np; rw [s2]; exact h.np1, by show c.strike.1.np ≤ 32; rw [s2]; exact h.np2, by show 128 ≤ c.strike.1.sz; rw [s3]; exact h.sz1, by show c.strike.1.sz ≤ 256; rw [s3]; exact h.sz2, ?_, ?_, ?_⟩
    · show (c.strike.1.blocks.set b _).length = c.strike.1.nb
      rw [List.length_set, s4, s1]; exact h.bl
    · intro x hx
      have hx' : x ∈ c.strike.1.blocks.set b (madeBlk c b off n new) := hx
      show x.length = c.strike.1.np * c.strike.1.sz
      rw [s2, s3]
      rw [s4] at hx'
      rcases List.mem_or_eq_of_mem_set hx' with hx' | hx'
      · exact h.bl2 x hx'
      · rw [hx']; exact hml
    · show bad.length = c.strike.1.nb
      rw [s1]; exact hl
  have hblk : ∀ (bad : List Bool) (dead : Bool) j, ({ c.strike.1.setBlk b (madeBlk c b off n new) with bad := bad, dead := dead } : Chip).blk j = if j = b then madeBlk c b off n new else c.blk j := by
    intro bad dead j
    show (c.strike.1.blocks.set b _).getD j [] = _
    rw [s4]
    split
    · rename_i e; subst e; exact getD_set_eq hbb
    · rename_i e; exact getD_set_ne e
  rw [hdone]
  cases hh : c.strike.2 with
  | none =>
    have e : (c.strike.1.setBlk b (madeBlk c b off n new)).finish b none = ({ c.strike.1.setBlk b (madeBlk c b off n new) with bad := c.strike.1.bad, dead := c.strike.1.dead }, 0) := rfl
    rw [e]
    refine ⟨⟨⟨s1, s2, s3, (c.strike_geo).2.2.2⟩, hmid _ _ (by rw [s5]; exact h.bad), fun j hj => by rw [hblk, if_neg hj], fun j hj => by show c.strike.1.bad.getD j false = _; rw [s5]; rfl, .inl ⟨rfl, s6, s5⟩, fun hc => ⟨by simp, fun t ht => hc t (s7 t ht), s5⟩, fun hq => ⟨rfl, (s9 hq).2⟩⟩, by rw [hblk, if_pos rfl], ?_⟩
    simp only [if_neg (show ¬ (0 = 10) by omega)]
    exact s6
  | some t =>
    have htm := s8 t hh
    have hnq : ¬ c.hits = [] := fun hq => by rw [(s9 hq).1] at hh; cases hh
    cases hf : t.fails with
    | true =>
      have e : (c.strike.1.setBlk b (madeBlk c b off n new)).finish b (some t) = ({ c.strike.1.setBlk b (madeBlk c b off n new) with bad := c.strike.1.bad.set b true, dead := c.strike.1.dead }, 9) := by
        simp only [Chip.finish, hf, if_true]; rfl
      rw [e]
      refine ⟨⟨⟨s1, s2, s3, (c.strike_geo).2.2.2⟩, hmid _ _ (by rw [List.length_set, s5]; exact h.bad), fun j hj => by rw [hblk, if_neg hj], fun j hj => ?_, .inr (.inl ⟨rfl, s6, ?_⟩), fun hc => ?_, fun hq => absurd hq hnq⟩, by rw [hblk, if_pos rfl], ?_⟩
      · show (c.strike.1.bad.set b true).getD j false = _
        rw [s5]; exact getD_set_ne hj
      · show (c.strike.1.bad.set b true).getD b false = true
        rw [s5]; exact getD_set_eq hbd
      · rw [hc t htm] at hf; cases hf
      · simp only [if_neg (show ¬ (9 = 10) by omega)]; exact s6
    | false =>
      have e : (c.strike.1.setBlk b (madeBlk c b off n new)).finish b (some t) = ({ c.strike.1.setBlk b (madeBlk c b off n new) with bad := c.strike.1.bad, dead := true }, 10) := by
        simp only [Chip.finish, hf]; rfl
      rw [e]
      refine ⟨⟨⟨s1, s2, s3, (c.strike_geo).2.2.2⟩, hmid _ _ (by rw [s5]; exact h.bad), fun j hj => by rw [hblk, if_neg hj], fun j hj => by show c.strike.1.bad.getD j false = _; rw [s5]; rfl, .inr (.inr ⟨rfl, rfl, s5⟩), fun hc => ⟨by simp, fun t ht => hc t (s7 t ht), s5⟩, fun hq => absurd hq hnq⟩, by rw [hblk, if_pos rfl], ?_⟩
      simp only [if_true]
/-! ### Heads, views, the invariant -/
def hd (c : Chip) (i : Nat) : Head × Nat := getHead (c.page i 0)
def isHd (c : Chip) (i : Nat) : Prop := (hd c i).2 = 0
def view (c : Chip) (i : Nat) : Blk := if (hd c i).2 = 0 then ⟨2, (hd c i).1⟩ else if isBlank (c.blk i) then ⟨0, Head.none⟩ else ⟨1, Head.none⟩
theorem lookAt_view (c : Chip) (i : Nat) (old : Blk) : lookAt c i old = if c.dead then old else view c i := rfl
theorem view_what (c : Chip) (i : Nat) : (view c i).what = 2 ↔ isHd c i := by
  unfold view isHd
  split
  · rename_i h; simp [h]
  · rename_i h; split <;> simp [h]
theorem hd_blk {c c' : Chip} (hg : c.SameGeo c') {i : Nat} (h : c'.blk i = c.blk i) : hd c' i = hd c i := by
  unfold hd Chip.page
  rw [h, hg.2.2.1]
theorem view_blk {c c' : Chip} (hg : c.SameGeo c') {i : Nat} (h : c'.blk i = c.blk i) : view c' i = view c i := by
  unfold view
  rw [hd_blk hg h, h]
structure CI (c : Chip) : Prop where
  ok : c.Ok
  safe : ∀ i, i < c.nb → Safe (c.page i 0)
  uniq : ∀ i j, i < c.nb → j < c.nb → i ≠ j → isHd c i → isHd c j → (hd c i).1.seq ≠ (hd c j).1.seq
structure Inv (P : Pool) (c : Chip) : Prop where
  ci : CI c
  len : P.blocks.length = c.nb
  known : c.dead = false → ∀ i, i < c.nb → P.blk i = view c i
  last : ∀ i, i < c.nb → isHd c i → (hd c i).1.seq ≤ P.last
theorem setBlk_blk {P : Pool} {i j : Nat} {b : Blk} (hi : i < P.blocks.length) : (P.setBlk i b).blk j = if j = i then b else P.blk j := by
  show (P.blocks.set i b).getD j Blk.zero = _
  split
  · rename_i e; subst e; exact getD_set_eq hi
  · rename_i e; exact getD_set_ne e
/-- a deed on block i, whose head is then an old one or of a Seq that is new -/
theorem Inv.deed {P P' : Pool} {c c' : Chip} {i e : Nat} (h : Inv P c) (hd0 : c.dead = false) (hi : i < c.nb) (hde : Deed c c' i e) (hs : Safe (c'.page i 0)) (hbl : P'.blocks = (P.relook c' i).blocks) (hl : P.last ≤ P'.last)
    (hnew : isHd c' i → (isHd c i ∧ hd c' i = hd c i) ∨ (P.last < (hd c' i).1.seq ∧ (hd c' i).1.seq ≤ P'.last)) : Inv P' c' := by
  have hnb := hde.geo.1
  have hoth : ∀ j, j ≠ i → hd c' j = hd c j := fun j hj => hd_blk hde.geo (hde.blk j hj)
  have hothH : ∀ j, j ≠ i → (isHd c' j ↔ isHd c j) := fun j hj => by unfold isHd; rw [hoth j hj]
  have hpg : ∀ j, j ≠ i → c'.page j 0 = c.page j 0 := fun j hj => by unfold Chip.page; rw [hde.blk j hj, hde.geo.2.2.1]
  have hil : i < P.blocks.length := by rw [h.len]; exact hi
  refine ⟨⟨hde.ok, fun j hj => ?_, fun j k hj hk hjk h1 h2 => ?_⟩, ?_, fun hd' j hj => ?_, fun j hj h1 => ?_⟩
  · by_cases hji : j = i
    · subst hji; exact hs
    · rw [hpg j hji]; exact h.ci.safe j (by rw [← hnb]; exact hj)
  · rw [hnb] at hj hk
    by_cases hji : j = i
    · subst hji
      have hkj : k ≠ j := fun e => hjk e.symm
      have h2' := (hothH k hkj).1 h2
      rw [hoth k hkj]
      rcases hnew h1 with ⟨ho, he⟩ | ⟨hlt, _⟩
      · rw [he]; exact h.ci.uniq j k hj hk hjk ho h2'
      · have := h.last k hk h2'; omega
    · by_cases hki : k = i
      · subst hki
        have h1' := (hothH j hji).1 h1
        rw [hoth j hji]
        rcases hnew h2 with ⟨ho, he⟩ | ⟨hlt, _⟩
        · rw [he]; exact h.ci.uniq j k hj hk hjk h1' ho
        · have := h.last j hj h1'; omega
      · rw [hoth j hji, hoth k hki]
        exact h.ci.uniq j k hj hk hjk ((hothH j hji).1 h1) ((hothH k hki).1 h2)
  · rw [hbl, hnb]
    show (P.blocks.set i _).length = _
    rw [List.length_set]; exact h.len
  · rw [hnb] at hj
    have : P'.blk j = (P.relook c' i).blk j := by unfold Pool.blk; rw [hbl]
    rw [this]
    unfold Pool.relook
    rw [setBlk_blk hil, lookAt_view]
    by_cases hji : j = i
    · subst hji
      rw [if_pos rfl, if_neg (by rw [hd']; simp)]
    · rw [if_neg hji, h.known hd0 j hj]
      exact (view_blk hde.geo (hde.blk j hji)).symm
  · rw [hnb] at hj
    by_cases hji : j = i
    · subst hji
      rcases hnew h1 with ⟨ho, he⟩ | ⟨_, hle⟩
      · rw [he]; have := h.last j hj ho; omega
      · exact hle
    · rw [hoth j hji]
      have := h.last j hj ((hothH j hji).1 h1)
      omega
end Go.Den
end
section
set_option linter.unusedVariables false
set_option linter.unusedSimpArgs false
namespace Go.Den
theorem done_zero {c : Chip} {b off n : Nat} {new : List UInt8} (h : (c.done b off n new).2 = 0) : c.strike.2 = none := by
  unfold Chip.done Chip.finish at h
  cases hh : c.strike.2 with
  | none => rfl
  | some t =>
    rw [hh] at h
    simp only [] at h
    split at h <;> cases h
theorem isBlank_eq {l : List UInt8} (h : isBlank l = true) : l = List.replicate l.length 255 := by
  refine List.eq_replicate_iff.2 ⟨rfl, fun b hb => ?_⟩
  simp only [isBlank, List.all_eq_true, beq_iff_eq] at h
  exact h b hb
theorem page0 {c : Chip} (i : Nat) : c.page i 0 = (c.blk i).take c.sz := by simp [Chip.page]
theorem erase_done {c : Chip} (h : c.Ok) (hd0 : c.dead = false) {i : Nat} (hi : i < c.nb) (hb : c.isBad i = false) : c.erase i = c.done i 0 (c.np * c.sz) (List.replicate (c.np * c.sz) 255) := by
  unfold Chip.erase
  have := h.np1
  have ha : c.ask i 0 = 0 := ask_ok (k := 0) hd0 hi (by omega)
  rw [if_neg (by omega)]
  simp only [Int.toNat_natCast]
  rw [if_neg (by rw [hb]; simp)]
theorem erase_inv {P : Pool} {c : Chip} (h : Inv P c) (hd0 : c.dead = false) {i : Nat} (hi : i < c.nb) (hb : c.isBad i = false) :
    Deed c (c.erase i).1 i (c.erase i).2 ∧ Inv (P.relook (c.erase i).1 i) (c.erase i).1 ∧ ((c.erase i).2 = 0 → (c.erase i).1.blk i = List.replicate (c.np * c.sz) 255) ∧ (isHd (c.erase i).1 i → isHd c i ∧ hd (c.erase i).1 i = hd c i) := by
  rw [erase_done h.ci.ok hd0 hi hb]
  obtain ⟨hde, hbl, hdd⟩ := done_deed h.ci.ok hi (off := 0) (n := c.np * c.sz) (by omega) (List.replicate (c.np * c.sz) 255)
  have hz := @done_zero c i 0 (c.np * c.sz) (List.replicate (c.np * c.sz) 255)
  generalize hr : c.done i 0 (c.np * c.sz) (List.replicate (c.np * c.sz) 255) = r at *
  have hlen := h.ci.ok.blk_len hi
  have hmb : madeBlk c i 0 (c.np * c.sz) (List.replicate (c.np * c.sz) 255) = mixL c.strike.2 (c.blk i) (List.replicate (c.np * c.sz) 255) := by
    unfold madeBlk
    rw [Nat.zero_add, List.drop_zero, List.take_zero, List.nil_append, List.take_of_length_le (show (c.blk i).length ≤ c.np * c.sz by omega), List.drop_of_length_le (show (c.blk i).length ≤ c.np * c.sz by omega), List.append_nil]
  rw [hmb] at hbl
  have hsub : SubL (c.blk i) (r.1.blk i) := by rw [hbl]; exact mixL_erase _ _ _ (by omega)
  have hsp : SubL (c.page i 0) (r.1.page i 0) := by rw [page0, page0, hde.geo.2.2.1]; exact hsub.take _
  have hsafe := h.ci.safe i hi
  have hkeep : isHd r.1 i → isHd c i ∧ hd r.1 i = hd c i := by
    intro hh
    have e := hsafe.same hsp (getHead_sound hh)
    have : hd r.1 i = hd c i := by unfold hd; rw [e]
    exact ⟨by unfold isHd; rw [← this]; exact hh, this⟩
  refine ⟨hde, h.deed hd0 hi hde (hsafe.up hsp) rfl (Nat.le_refl _) (fun hh => .inl (hkeep hh)), fun h0 => ?_, hkeep⟩
  rw [hbl, hz h0, mixL_none _ _ (by simp; omega)]
theorem view_zero {c : Chip} {i : Nat} (h : (view c i).what = 0) : isBlank (c.blk i) = true := by
  unfold view at h
  split at h
  · cases h
  · split at h
    · assumption
    · cases h
theorem view_one {c : Chip} {i : Nat} (h : (view c i).what ≠ 2) (h1 : (view c i).what ≠ 1) : (view c i).what = 0 := by
  unfold view at h h1 ⊢
  split
  · rename_i hh; rw [if_pos hh] at h; exact absurd rfl h
  · rename_i hh
    rw [if_neg hh] at h1
    split
    · rfl
    · rename_i hb; rw [if_neg hb] at h1; exact absurd rfl h1
theorem write_inv {P : Pool} {c : Chip} (h : Inv P c) (hd0 : c.dead = false) {i : Nat} (hi : i < c.nb) (hb : c.isBad i = false) (hbl : isBlank (c.blk i) = true) {kind : UInt8} {era : Nat} (hk1 : 1 ≤ kind.toNat) (hk3 : kind.toNat ≤ 3) (he1 : 1 ≤ era) (he2 : era < 4294967296) (hl : P.last + 1 < 18446744073709551616) :
    (writeHead P c i kind era).1.last = P.last + 1 ∧ (writeHead P c i kind era).1.turn = P.turn ∧ Deed c (writeHead P c i kind era).2.1 i (writeHead P c i kind era).2.2 ∧ Inv (writeHead P c i kind era).1 (writeHead P c i kind era).2.1 ∧
      ((writeHead P c i kind era).2.2 = 0 → hd (writeHead P c i kind era).2.1 i = (⟨kind, era, P.last + 1⟩, 0)) := by
  have hok := h.ci.ok
  have hlast : P.raise.last = P.last + 1 := Nat.mod_eq_of_lt hl
  have hsz : isSize (c.sz : Int) = true := by
    have := hok.sz1
    have := hok.sz2
    simp [isSize]; omega
  have hm : (Head.mk kind era (P.last + 1)).may = true := by
    simp [Head.may]; omega
  have hHok : (Head.mk kind era (P.last + 1)).Ok := ⟨he2, hl⟩
  have hput : putHead c.sz ⟨kind, era, P.raise.last⟩ = (pageOf c.sz 1 (Head.mk kind era (P.last + 1)).body, 0) := by
    unfold putHead
    rw [hlast, if_neg (by rw [hm, hsz]; simp)]
    simp
  have hbody := (Head.mk kind era (P.last + 1)).body_length
  have hpl : (pageOf c.sz 1 (Head.mk kind era (P.last + 1)).body).length = c.sz := pageOf_length _ _ _ (by have := hok.sz1; omega)
  have hpg := getHead_pageOf hsz hHok hm
  generalize hpage : pageOf c.sz 1 (Head.mk kind era (P.last + 1)).body = pg at *
  have hprog : c.program i 0 pg = c.done i 0 c.sz pg := by
    have := hok.np1
    have ha : c.ask i 0 = 0 := ask_ok (k := 0) hd0 hi (by omega)
    unfold Chip.program
    rw [if_neg (by omega), if_neg (by omega)]
    simp only [Int.toNat_natCast, tn0, Nat.zero_mul, List.drop_zero]
    rw [if_neg (by rw [hb]; simp), if_neg (by rw [hbl]; simp)]
  have hw : writeHead P c i kind era = (P.raise.relook (c.done i 0 c.sz pg).1 i, (c.done i 0 c.sz pg).1, (c.done i 0 c.sz pg).2) := by
    unfold writeHead
    rw [hput, hprog]
  rw [hw]
  have hfit : c.sz ≤ c.np * c.sz := Nat.le_mul_of_pos_left _ (by have := hok.np1; omega)
  obtain ⟨hde, hblk, hdd⟩ := done_deed hok hi (off := 0) (n := c.sz) (by omega) pg
  have hz := @done_zero c i 0 c.sz pg
  generalize hr : c.done i 0 c.sz pg = r at *
  have hlen := hok.blk_len hi
  have hrep := isBlank_eq hbl
  have htk : (c.blk i).take c.sz = List.replicate c.sz 255 := by rw [hrep, hlen, List.take_replicate, Nat.min_eq_left hfit]
  have hpage0 : r.1.page i 0 = mixL c.strike.2 (List.replicate c.sz 255) pg := by
    rw [page0, hde.geo.2.2.1, hblk]
    unfold madeBlk
    rw [Nat.zero_add, List.drop_zero, htk, List.take_zero, List.nil_append, List.take_append_of_le_length (by simp [mixL_length]), List.take_of_length_le (by simp [mixL_length])]
  have hsub : SubL pg (r.1.page i 0) := by rw [hpage0]; exact mixL_write _ _ _ hpl
  have hsound : Sound pg := by rw [← hpage]; exact pageOf_sound (by have := hok.sz1; omega) (by have := hok.sz2; omega)
  have hnew : isHd r.1 i → hd r.1 i = (⟨kind, era, P.last + 1⟩, 0) := by
    intro hh
    have e := berger hsub hsound (getHead_sound hh)
    unfold hd
    rw [e]; exact hpg
  refine ⟨hlast, rfl, hde, h.deed hd0 hi hde ⟨pg, hsound, hsub⟩ rfl (by show P.last ≤ P.raise.last; omega) (fun hh => .inr ?_), fun h0 => ?_⟩
  · rw [hnew hh]
    show P.last < P.last + 1 ∧ P.last + 1 ≤ P.raise.last
    omega
  · have e : r.1.page i 0 = pg := by rw [hpage0, hz h0, mixL_none _ _ (by simp [hpl])]
    unfold hd
    rw [e]; exact hpg
theorem Deed.trans {c c1 c2 : Chip} {i e : Nat} (h : Deed c c1 i 0) (k : Deed c1 c2 i e) : Deed c c2 i e := by
  obtain ⟨hd1, hb1⟩ : c1.dead = c.dead ∧ c1.bad = c.bad := by
    rcases h.cases with ⟨_, a, b⟩ | ⟨a, _⟩ | ⟨a, _⟩
    · exact ⟨a, b⟩
    · cases a
    · cases a
  refine ⟨h.geo.trans k.geo, k.ok, fun j hj => (k.blk j hj).trans (h.blk j hj), fun j hj => (k.bad j hj).trans (h.bad j hj), ?_, fun hc => ?_, fun hq => k.quiet (h.quiet hq).2⟩
  · rcases k.cases with ⟨a, b, d⟩ | ⟨a, b, d⟩ | ⟨a, b, d⟩
    · exact .inl ⟨a, by rw [b, hd1], by rw [d, hb1]⟩
    · exact .inr (.inl ⟨a, by rw [b, hd1], d⟩)
    · exact .inr (.inr ⟨a, b, by rw [d, hb1]⟩)
  · have h1 := h.calm hc
    have k1 := k.calm h1.2.1
    exact ⟨k1.1, k1.2.1, by rw [k1.2.2, hb1]⟩
structure TryR (P : Pool) (c : Chip) (i : Nat) (kind : UInt8) (era : Nat) (P' : Pool) (c' : Chip) (e : Nat) : Prop where
  deed : Deed c c' i e
  inv : Inv P' c'
  lo : P.last ≤ P'.last
  hi : P'.last ≤ P.last + 1
  turn : P'.turn = P.turn
  ok : e = 0 → hd c' i = (⟨kind, era, P'.last⟩, 0) ∧ P'.last = P.last + 1
theorem try_inv {P : Pool} {c : Chip} (h : Inv P c) (hd0 : c.dead = false) {i : Nat} (hi : i < c.nb) (hb : c.isBad i = false) (hw : (P.blk i).what ≠ 2) {kind : UInt8} {era : Nat} (hk1 : 1 ≤ kind.toNat) (hk3 : kind.toNat ≤ 3) (he1 : 1 ≤ era) (he2 : era < 4294967296) (hl : P.last + 1 < 18446744073709551616) :
    TryR P c i kind era (tryBlk P c i kind era).1 (tryBlk P c i kind era).2.1 (tryBlk P c i kind era).2.2 := by
  have hkn := h.known hd0 i hi
  unfold tryBlk
  split
  · rename_i h1
    obtain ⟨hde, hinv, hz, hk⟩ := erase_inv h hd0 hi hb
    split
    · rename_i hne
      exact ⟨hde, hinv, Nat.le_refl _, Nat.le_succ _, rfl, fun h0 => absurd h0 hne⟩
    · rename_i heq
      have h0 : (c.erase i).2 = 0 := Classical.byContradiction heq
      have hdd : (c.erase i).1.dead = c.dead ∧ (c.erase i).1.bad = c.bad := by
        rcases hde.cases with ⟨_, a, b⟩ | ⟨a, _⟩ | ⟨a, _⟩
        · exact ⟨a, b⟩
        · omega
        · omega
      rw [h0] at hde
      have hnb := hde.geo.1
      obtain ⟨w1, w2, w3, w4, w5⟩ := write_inv (i := i) hinv (by rw [hdd.1]; exact hd0) (by rw [hnb]; exact hi) (by unfold Chip.isBad; rw [hdd.2]; exact hb) (by rw [hz h0]; exact isBlank_replicate _) hk1 hk3 he1 he2 hl
      refine ⟨hde.trans w3, w4, by rw [w1]; exact Nat.le_succ _, by rw [w1]; exact Nat.le_refl _, w2, fun e => ⟨?_, w1⟩⟩
      rw [w5 e, w1]
  · rename_i h1
    have hbk : isBlank (c.blk i) = true := by
      rw [hkn] at h1 hw
      exact view_zero (view_one hw h1)
    obtain ⟨w1, w2, w3, w4, w5⟩ := write_inv h hd0 hi hb hbk hk1 hk3 he1 he2 hl
    exact ⟨w3, w4, by rw [w1]; exact Nat.le_succ _, by rw [w1]; exact Nat.le_refl _, w2, fun e => ⟨by rw [w5 e, w1], w1⟩⟩
end Go.Den
end
section
set_option linter.unusedVariables false
set_option linter.unusedSimpArgs false
namespace Go.Den
theorem isHd_blk {c c' : Chip} (hg : c.SameGeo c') {i : Nat} (h : c'.blk i = c.blk i) : isHd c' i ↔ isHd c i := by
  unfold isHd
  rw [hd_blk hg h]
theorem Inv.what {P : Pool} {c : Chip} (h : Inv P c) (hd0 : c.dead = false) {i : Nat} (hi : i < c.nb) : (P.blk i).what = 2 ↔ isHd c i := by
  rw [h.known hd0 i hi]; exact view_what c i
structure TakeP (kind : UInt8) (era : Nat) (ks : List Nat) (P : Pool) (c : Chip) (R : TakeR) : Prop where
  inv : Inv R.pool R.chip
  geo : c.SameGeo R.chip
  lo : P.last ≤ R.pool.last
  hi : R.pool.last ≤ P.last + ks.length
  turn : P.turn ≤ c.nb → R.pool.turn ≤ c.nb
  kept : ∀ j, j < c.nb → isHd c j → R.chip.blk j = c.blk j ∧ R.chip.isBad j = c.isBad j
  bads : ∀ j, j < c.nb → c.isBad j = true → R.chip.isBad j = true
  cases : (R.err = 0 ∧ R.chip.dead = false ∧ R.block < c.nb ∧ ¬ isHd c R.block ∧ R.chip.isBad R.block = false ∧ hd R.chip R.block = (⟨kind, era, R.pool.last⟩, 0) ∧ P.last < R.pool.last) ∨
    (R.err = 10 ∧ R.chip.dead = true) ∨ (R.err = 11 ∧ R.chip.dead = false ∧ ∀ k ∈ ks, R.chip.isBad ((P.turn + k) % c.nb) = true ∨ isHd R.chip ((P.turn + k) % c.nb))
  calm : (∀ t ∈ c.hits, t.fails = false) → (∀ t ∈ R.chip.hits, t.fails = false) ∧ R.chip.bad = c.bad ∧ ∃ i0, ∀ j, j ≠ i0 → R.chip.blk j = c.blk j
  quiet : c.hits = [] → R.chip.hits = [] ∧ R.err ≠ 10 ∧ (R.err = 11 → R.chip = c ∧ R.pool = P) ∧ (R.err = 0 → ∀ j, j ≠ R.block → R.chip.blk j = c.blk j ∧ R.chip.isBad j = c.isBad j)
theorem takeGo_inv {kind : UInt8} {era : Nat} (hk1 : 1 ≤ kind.toNat) (hk3 : kind.toNat ≤ 3) (he1 : 1 ≤ era) (he2 : era < 4294967296) : ∀ (ks : List Nat) {P : Pool} {c : Chip}, Inv P c → c.dead = false → P.last + ks.length < 18446744073709551616 → TakeP kind era ks P c (takeGo kind era P c ks)
  | [], P, c, h, hd0, hl => by
    rw [takeGo]
    exact ⟨h, .refl _, Nat.le_refl _, by simp, fun h => h, fun _ _ _ => ⟨rfl, rfl⟩, fun _ _ h => h, .inr (.inr ⟨rfl, hd0, fun k hk => by simp at hk⟩), fun hc => ⟨hc, rfl, 0, fun _ _ => rfl⟩, fun hq => ⟨hq, by simp, fun _ => ⟨rfl, rfl⟩, fun h0 => by cases h0⟩⟩
  | k :: ks, P, c, h, hd0, hl => by
    have hnb := h.ci.ok.nb1
    have hmod : (P.turn + k) % c.nb < c.nb := Nat.mod_lt _ (by omega)
    simp only [List.length_cons] at hl
    rw [takeGo]
    by_cases hcnd : c.isBad ((P.turn + k) % c.nb) = true ∨ (P.blk ((P.turn + k) % c.nb)).what = 2
    · rw [if_pos hcnd]
      have r := takeGo_inv hk1 hk3 he1 he2 ks h hd0 (by omega)
      refine ⟨r.inv, r.geo, r.lo, by have := r.hi; simp; omega, r.turn, r.kept, r.bads, ?_, r.calm, r.quiet⟩
      rcases r.cases with h0 | h10 | ⟨h1, h2, h3⟩
      · exact .inl h0
      · exact .inr (.inl h10)
      · refine .inr (.inr ⟨h1, h2, fun x hx => ?_⟩)
        rcases List.mem_cons.1 hx with rfl | hx
        · rcases hcnd with hb | hw
          · exact .inl (r.bads _ hmod hb)
          · have hh := (h.what hd0 hmod).1 hw
            exact .inr ((isHd_blk r.geo (r.kept _ hmod hh).1).2 hh)
        · exact h3 x hx
    · rw [if_neg hcnd]
      have hb : c.isBad ((P.turn + k) % c.nb) = false := by
        cases hb : c.isBad ((P.turn + k) % c.nb) with
        | false => rfl
        | true => exact absurd (.inl hb) hcnd
      have hw : (P.blk ((P.turn + k) % c.nb)).what ≠ 2 := fun hw => hcnd (.inr hw)
      have hnh : ¬ isHd c ((P.turn + k) % c.nb) := fun hh => hw ((h.what hd0 hmod).2 hh)
      have t := try_inv h hd0 hmod hb hw hk1 hk3 he1 he2 (by omega)
      generalize hi : (P.turn + k) % c.nb = i at *
      generalize hT : tryBlk P c i kind era = T at *
      have hkept : ∀ j, isHd c j → T.2.1.blk j = c.blk j ∧ T.2.1.isBad j = c.isBad j := fun j hj => by
        have hji : j ≠ i := fun e => hnh (e ▸ hj)
        exact ⟨t.deed.blk j hji, t.deed.bad j hji⟩
      have hbads : ∀ j, c.isBad j = true → T.2.1.isBad j = true := fun j hj => by
        have hji : j ≠ i := fun e => by rw [e, hb] at hj; cases hj
        rw [t.deed.bad j hji]; exact hj
      by_cases h0 : T.2.2 = 0
      · rw [if_pos h0]
        obtain ⟨hhd, hls⟩ := t.ok h0
        obtain ⟨hdd, hbad⟩ : T.2.1.dead = c.dead ∧ T.2.1.bad = c.bad := by
          rcases t.deed.cases with ⟨_, a, b⟩ | ⟨a, _⟩ | ⟨a, _⟩
          · exact ⟨a, b⟩
          · omega
          · omega
        refine ⟨⟨t.inv.ci, t.inv.len, t.inv.known, t.inv.last⟩, t.deed.geo, t.lo, by have := t.hi; simp; omega, fun _ => by show i + 1 ≤ c.nb; omega, fun j _ hj => hkept j hj, fun j _ hj => hbads j hj, .inl ⟨rfl, by rw [← hd0]; exact hdd, hmod, hnh, ?_, hhd, by show P.last < T.1.last; omega⟩, fun hc => ⟨(t.deed.calm hc).2.1, (t.deed.calm hc).2.2, i, fun j hj => t.deed.blk j hj⟩,
          fun hq => ⟨(t.deed.quiet hq).2, by simp, (fun h => by cases h), fun _ j hj => ⟨t.deed.blk j hj, t.deed.bad j hj⟩⟩⟩
        show T.2.1.isBad i = false
        unfold Chip.isBad; rw [hbad]; exact hb
      · rw [if_neg h0]
        by_cases h10 : T.2.2 = 10
        · rw [if_pos h10]
          have hdd : T.2.1.dead = true := by
            rcases t.deed.cases with ⟨a, _⟩ | ⟨a, _⟩ | ⟨_, a, _⟩
            · omega
            · omega
            · exact a
          refine ⟨t.inv, t.deed.geo, t.lo, by have := t.hi; simp; omega, fun h => by show T.1.turn ≤ c.nb; rw [t.turn]; exact h, fun j _ hj => hkept j hj, fun j _ hj => hbads j hj, .inr (.inl ⟨rfl, hdd⟩), fun hc => ⟨(t.deed.calm hc).2.1, (t.deed.calm hc).2.2, i, fun j hj => t.deed.blk j hj⟩, fun hq => absurd (t.deed.quiet hq).1 h0⟩
        · rw [if_neg h10]
          obtain ⟨h9, hdd, hbi⟩ : T.2.2 = 9 ∧ T.2.1.dead = c.dead ∧ T.2.1.isBad i = true := by
            rcases t.deed.cases with ⟨a, _⟩ | a | ⟨a, _⟩
            · exact absurd a h0
            · exact a
            · exact absurd a h10
          have r := takeGo_inv hk1 hk3 he1 he2 ks t.inv (by rw [hdd]; exact hd0) (by have := t.hi; omega)
          have hnbT : T.2.1.nb = c.nb := t.deed.geo.1
          have hhT : ∀ j, isHd c j → isHd T.2.1 j := fun j hj => (isHd_blk t.deed.geo (hkept j hj).1).2 hj
          refine ⟨r.inv, t.deed.geo.trans r.geo, Nat.le_trans t.lo r.lo, by have := r.hi; have := t.hi; simp; omega, fun h => by have := r.turn (by rw [t.turn, hnbT]; exact h); rw [hnbT] at this; exact this, fun j hj hh => ?_, fun j hj hh => r.bads j (by rw [hnbT]; exact hj) (hbads j hh), ?_, fun hc => absurd h9 (t.deed.calm hc).1, fun hq => absurd (t.deed.quiet hq).1 h0⟩
          · obtain ⟨a, b⟩ := r.kept j (by rw [hnbT]; exact hj) (hhT j hh)
            exact ⟨a.trans (hkept j hh).1, b.trans (hkept j hh).2⟩
          · rcases r.cases with ⟨a1, a2, a3, a4, a5, a6, a7⟩ | a | ⟨a1, a2, a3⟩
            · refine .inl ⟨a1, a2, by rw [← hnbT]; exact a3, fun hh => a4 (hhT _ hh), a5, a6, by have := t.lo; omega⟩
            · exact .inr (.inl a)
            · refine .inr (.inr ⟨a1, a2, fun x hx => ?_⟩)
              rcases List.mem_cons.1 hx with rfl | hx
              · rw [hi]; exact .inl (r.bads i (by rw [hnbT]; exact hmod) hbi)
              · have := a3 x hx
                rw [t.turn, hnbT] at this
                exact this
theorem mod_all {n t j : Nat} (ht : t ≤ n) (hj : j < n) : ∃ k, k < n ∧ (t + k) % n = j := by
  by_cases h : t ≤ j
  · exact ⟨j - t, by omega, by rw [show t + (j - t) = j by omega]; exact Nat.mod_eq_of_lt hj⟩
  · by_cases h2 : t = n
    · exact ⟨j, hj, by rw [h2, Nat.add_mod_left]; exact Nat.mod_eq_of_lt hj⟩
    · exact ⟨j + n - t, by omega, by rw [show t + (j + n - t) = j + n by omega, Nat.add_mod_right]; exact Nat.mod_eq_of_lt hj⟩
theorem takePool_go {P : Pool} {c : Chip} (h : c.Ok) (hd0 : c.dead = false) {kind : UInt8} {era : Nat} (hk1 : 1 ≤ kind.toNat) (hk3 : kind.toNat ≤ 3) (he1 : 1 ≤ era) : takePool P c kind era = takeGo kind era P c (List.range c.nb) := by
  unfold takePool
  rw [if_neg (by omega), if_neg (by rw [ask00 h, hd0]; simp)]
theorem takePool_bad {P : Pool} {c : Chip} {kind : UInt8} {era : Nat} (hk : kind.toNat < 1 ∨ kind.toNat > 3 ∨ era < 1) : takePool P c kind era = ⟨P, c, 0, 2⟩ := by
  unfold takePool
  rw [if_pos hk]
theorem blank_notHd {c : Chip} (h : c.Ok) {i : Nat} (hi : i < c.nb) (hb : isBlank (c.blk i) = true) : ¬ isHd c i := by
  have hlen := h.blk_len hi
  have hpg : isBlank (c.page i 0) = true := by
    rw [page0]
    simp only [isBlank, List.all_eq_true] at hb ⊢
    exact fun x hx => hb x (List.mem_of_mem_take hx)
  have hpl : (c.page i 0).length = c.sz := page_len h hi (by have := h.np1; omega)
  have hsz : isSize ((c.page i 0).length : Int) = true := by
    have := h.sz1
    have := h.sz2
    rw [hpl]; simp [isSize]; omega
  intro hh
  have hg : (getPage (c.page i 0)).2.2 = 6 := by
    unfold getPage
    rw [if_neg (by rw [hsz]; simp), if_pos hpg]
  unfold isHd hd getHead at hh
  rw [if_pos (by omega)] at hh
  omega
/-- may it be freed? -/
def Mine (c : Chip) (i : Int) : Prop := 0 ≤ i ∧ i < c.nb ∧ isHd c i.toNat ∧ c.isBad i.toNat = false
theorem free_not {P : Pool} {c : Chip} (h : Inv P c) (hd0 : c.dead = false) {i : Int} (hm : ¬ Mine c i) : freePool P c i = (P, c, 12) := by
  unfold freePool
  refine if_pos (Classical.byContradiction fun hn => hm ?_)
  have h1 : ¬ i < 0 := fun h => hn (.inl h)
  have h2 : ¬ i ≥ c.nb := fun h => hn (.inr (.inl h))
  have hlt : i.toNat < c.nb := by omega
  have h3 : (P.blk i.toNat).what = 2 := Classical.byContradiction fun h => hn (.inr (.inr (.inl h)))
  have h4 : ¬ c.isBad i.toNat = true := fun h => hn (.inr (.inr (.inr h)))
  exact ⟨by omega, by omega, (h.what hd0 hlt).1 h3, by simpa using h4⟩
structure FreeP (P : Pool) (c : Chip) (i : Nat) (r : Pool × Chip × Nat) (e : Nat) : Prop where
  deed : Deed c r.2.1 i e
  inv : Inv r.1 r.2.1
  last : r.1.last = P.last
  turn : r.1.turn = P.turn
  err : r.2.2 = if e = 9 then 0 else e
  gone : e = 0 → ¬ isHd r.2.1 i
  keep : isHd r.2.1 i → isHd c i ∧ hd r.2.1 i = hd c i
theorem free_mine {P : Pool} {c : Chip} (h : Inv P c) (hd0 : c.dead = false) {i : Int} (hm : Mine c i) : ∃ e, FreeP P c i.toNat (freePool P c i) e := by
  obtain ⟨h0, h1, h2, h3⟩ := hm
  have hlt : i.toNat < c.nb := by omega
  have hei : c.erase i = c.erase (i.toNat : Int) := by rw [Int.toNat_of_nonneg h0]
  have hf : freePool P c i = (P.relook (c.erase i).1 i.toNat, (c.erase i).1, if (c.erase i).2 = 9 then 0 else (c.erase i).2) := by
    unfold freePool
    rw [if_neg]
    rintro (a | a | a | a)
    · omega
    · omega
    · exact a ((h.what hd0 hlt).2 h2)
    · rw [h3] at a; cases a
  rw [hf, hei]
  obtain ⟨hde, hinv, hz, hk⟩ := erase_inv h hd0 hlt h3
  refine ⟨_, hde, hinv, rfl, rfl, rfl, fun h0 => ?_, hk⟩
  exact blank_notHd hde.ok (by rw [hde.geo.1]; exact hlt) (by show isBlank ((c.erase (i.toNat : Int)).1.blk i.toNat) = true; rw [hz h0]; exact isBlank_replicate _)
end Go.Den
end
section
set_option linter.unusedVariables false
set_option linter.unusedSimpArgs false
namespace Go.Den
/-! ### Rows by rising numbers -/
theorem sorted_ext {α : Type} {f : α → Nat} : ∀ {l m : List α}, l.Pairwise (fun a b => f a < f b) → m.Pairwise (fun a b => f a < f b) → (∀ x, x ∈ l ↔ x ∈ m) → l = m
  | [], [], _, _, _ => rfl
  | [], b :: m, _, _, h => by have := (h b).2 (by simp); simp at this
  | a :: l, [], _, _, h => by have := (h a).1 (by simp); simp at this
  | a :: l, b :: m, hl, hm, h => by
    obtain ⟨l1, l2⟩ := List.pairwise_cons.1 hl
    obtain ⟨m1, m2⟩ := List.pairwise_cons.1 hm
    have hab : a = b := by
      rcases List.mem_cons.1 ((h a).1 (by simp)) with e | ha
      · exact e
      · rcases List.mem_cons.1 ((h b).2 (by simp)) with e | hb
        · exact e.symm
        · have := l1 b hb; have := m1 a ha; omega
    subst hab
    rw [sorted_ext l2 m2 fun x => ?_]
    constructor
    · intro hx
      rcases List.mem_cons.1 ((h x).1 (by simp [hx])) with e | hx'
      · have := l1 x hx; rw [e] at this; omega
      · exact hx'
    · intro hx
      rcases List.mem_cons.1 ((h x).2 (by simp [hx])) with e | hx'
      · have := m1 x hx; rw [e] at this; omega
      · exact hx'
theorem sink_sorted {x : Taken} : ∀ {l : List Taken}, l.Pairwise (fun a b => b.head.seq < a.head.seq) → (∀ y ∈ l, y.head.seq ≠ x.head.seq) → (sink takenLt x l).Pairwise (fun a b => b.head.seq < a.head.seq)
  | [], _, _ => by simp [sink]
  | y :: l, hl, hx => by
    obtain ⟨l1, l2⟩ := List.pairwise_cons.1 hl
    have hyx := hx y (by simp)
    unfold sink
    split
    · rename_i hlt
      have hxy : x.head.seq < y.head.seq := by
        simp [takenLt] at hlt
        omega
      refine List.pairwise_cons.2 ⟨fun z hz => ?_, sink_sorted l2 fun z hz => hx z (by simp [hz])⟩
      rcases (sink_mem takenLt x z l).1 hz with rfl | hz
      · exact hxy
      · exact l1 z hz
    · rename_i hlt
      have hxy : y.head.seq < x.head.seq := by
        have : takenLt x y = false := by simpa using hlt
        simp [takenLt] at this
        omega
      refine List.pairwise_cons.2 ⟨fun z hz => ?_, hl⟩
      rcases List.mem_cons.1 hz with rfl | hz
      · exact hxy
      · have := l1 z hz; omega
theorem isort_sorted {l : List Taken} (h : l.Pairwise (fun a b => a.head.seq ≠ b.head.seq)) : (isort takenLt l).Pairwise (fun a b => a.head.seq < b.head.seq) := by
  unfold isort
  rw [List.pairwise_reverse]
  have key : ∀ (l acc : List Taken), acc.Pairwise (fun a b => b.head.seq < a.head.seq) → l.Pairwise (fun a b => a.head.seq ≠ b.head.seq) → (∀ a ∈ acc, ∀ b ∈ l, a.head.seq ≠ b.head.seq) → (l.foldl (fun acc x => sink takenLt x acc) acc).Pairwise (fun a b => b.head.seq < a.head.seq) := by
    intro l
    induction l with
    | nil => intro acc ha _ _; exact ha
    | cons x l ih =>
      intro acc ha hl hx
      obtain ⟨l1, l2⟩ := List.pairwise_cons.1 hl
      rw [List.foldl_cons]
      refine ih _ (sink_sorted ha fun y hy => hx y hy x (by simp)) l2 fun a ha' b hb => ?_
      rcases (sink_mem takenLt x a acc).1 ha' with rfl | ha'
      · exact l1 b hb
      · exact hx a ha' b (by simp [hb])
  exact key l [] List.Pairwise.nil h fun a ha => by simp at ha
theorem insAt_cons (t y : Taken) (l : List Taken) : insAt t (y :: l) = if y.head.seq ≤ t.head.seq then y :: insAt t l else t :: y :: l := by
  unfold insAt posOf
  rw [List.takeWhile_cons]
  split <;> rename_i h
  · have : y.head.seq ≤ t.head.seq := by simpa using h
    rw [if_pos this]; simp
  · have : ¬ y.head.seq ≤ t.head.seq := by simpa using h
    rw [if_neg this]; simp
theorem insAt_mem (t x : Taken) : ∀ (l : List Taken), x ∈ insAt t l ↔ x = t ∨ x ∈ l
  | [] => by simp [insAt, posOf]
  | y :: l => by
    rw [insAt_cons]
    split
    · simp only [List.mem_cons, insAt_mem t x l]
      constructor
      · rintro (h | h | h)
        · exact .inr (.inl h)
        · exact .inl h
        · exact .inr (.inr h)
      · rintro (h | h | h)
        · exact .inr (.inl h)
        · exact .inl h
        · exact .inr (.inr h)
    · simp
theorem insAt_sorted {t : Taken} : ∀ {l : List Taken}, l.Pairwise (fun a b => a.head.seq < b.head.seq) → (∀ y ∈ l, y.head.seq ≠ t.head.seq) → (insAt t l).Pairwise (fun a b => a.head.seq < b.head.seq)
  | [], _, _ => by simp [insAt, posOf]
  | y :: l, hl, hx => by
    obtain ⟨l1, l2⟩ := List.pairwise_cons.1 hl
    have hyt := hx y (by simp)
    rw [insAt_cons]
    split
    · refine List.pairwise_cons.2 ⟨fun z hz => ?_, insAt_sorted l2 fun z hz => hx z (by simp [hz])⟩
      rcases (insAt_mem t z l).1 hz with rfl | hz
      · omega
      · exact l1 z hz
    · refine List.pairwise_cons.2 ⟨fun z hz => ?_, hl⟩
      rcases List.mem_cons.1 hz with rfl | hz
      · omega
      · have := l1 z hz; omega
theorem view_pos {c : Chip} {i : Nat} (h : isHd c i) : view c i = ⟨2, (hd c i).1⟩ := if_pos h
theorem view_neg {c : Chip} {i : Nat} (h : ¬ isHd c i) : (view c i).head = Head.none := by
  unfold view
  rw [if_neg (show ¬ (hd c i).2 = 0 from h)]
  split <;> rfl
/-! ### Taken blocks -/
/-- a block with a head -/
def IsTaken (c : Chip) (n : Nat) (t : Taken) : Prop := t.block < n ∧ isHd c t.block ∧ t.head = (hd c t.block).1 ∧ t.bad = c.isBad t.block
theorem raw_mem {P : Pool} {c : Chip} (h : Inv P c) (hd0 : c.dead = false) {n : Nat} (hn : n ≤ c.nb) (t : Taken) : t ∈ takenRaw P c n ↔ IsTaken c n t := by
  unfold takenRaw IsTaken
  rw [List.mem_filterMap]
  constructor
  · rintro ⟨i, hi, e⟩
    have hi' : i < n := by simpa using hi
    split at e
    · rename_i hw
      cases e
      have hh := (h.what hd0 (by omega)).1 hw
      refine ⟨hi', hh, ?_, rfl⟩
      rw [h.known hd0 i (by omega), view_pos hh]
    · cases e
  · rintro ⟨h1, h2, h3, h4⟩
    refine ⟨t.block, by simpa using h1, ?_⟩
    rw [if_pos ((h.what hd0 (by omega)).2 h2)]
    obtain ⟨b, hh, bad⟩ := t
    simp only [] at h1 h2 h3 h4 ⊢
    rw [h.known hd0 b (by omega), view_pos h2, h3, h4]
theorem raw_distinct {P : Pool} {c : Chip} (h : Inv P c) (hd0 : c.dead = false) : ∀ n, n ≤ c.nb → (takenRaw P c n).Pairwise (fun a b => a.head.seq ≠ b.head.seq)
  | 0, _ => by simp [takenRaw]
  | n + 1, hn => by
    rw [takenRaw_succ]
    rw [List.pairwise_append]
    refine ⟨raw_distinct h hd0 n (by omega), ?_, fun a ha b hb => ?_⟩
    · split <;> simp
    · obtain ⟨a1, a2, a3, _⟩ := (raw_mem h hd0 (by omega) a).1 ha
      have hb' : b ∈ takenRaw P c (n + 1) := by rw [takenRaw_succ]; exact List.mem_append.2 (.inr hb)
      obtain ⟨b1, b2, b3, _⟩ := (raw_mem h hd0 hn b).1 hb'
      have hbn : b.block = n := by
        split at hb
        · simp at hb; rw [hb]
        · simp at hb
      rw [a3, b3]
      exact h.ci.uniq _ _ (by omega) (by omega) (by omega) a2 b2
theorem taken_mem {P : Pool} {c : Chip} (h : Inv P c) (hd0 : c.dead = false) (t : Taken) : t ∈ takenPool P c ↔ IsTaken c c.nb t := by
  unfold takenPool
  rw [isort_mem]
  exact raw_mem h hd0 (Nat.le_refl _) t
theorem taken_sorted {P : Pool} {c : Chip} (h : Inv P c) (hd0 : c.dead = false) : (takenPool P c).Pairwise (fun a b => a.head.seq < b.head.seq) := isort_sorted (raw_distinct h hd0 _ (Nat.le_refl _))
theorem refHead_eq {c : Chip} (h : c.Ok) (hd0 : c.dead = false) {i : Nat} (hi : i < c.nb) : refHead c i = ((hd c i).1, decide ((hd c i).2 = 0)) := by
  have := h.np1
  have ha : c.ask i 0 = 0 := ask_ok (k := 0) hd0 hi (by omega)
  unfold refHead
  rw [if_neg (by omega)]
  rfl
theorem ref_mem {c : Chip} (h : CI c) (hd0 : c.dead = false) : ∀ n, n ≤ c.nb → (∀ t, t ∈ refGo c n ↔ IsTaken c n t) ∧ (refGo c n).Pairwise (fun a b => a.head.seq < b.head.seq)
  | 0, _ => ⟨fun t => by simp [refGo, IsTaken], by simp [refGo]⟩
  | n + 1, hn => by
    obtain ⟨h1, h2⟩ := ref_mem h hd0 n (by omega)
    have hr := refHead_eq h.ok hd0 (i := n) (by omega)
    rw [refGo, hr]
    simp only [decide_eq_true_eq]
    split
    · rename_i hh
      refine ⟨fun t => ?_, insAt_sorted h2 fun y hy => ?_⟩
      · rw [insAt_mem, h1]
        constructor
        · rintro (rfl | ⟨a, b⟩)
          · exact ⟨Nat.lt_succ_self _, hh, rfl, rfl⟩
          · exact ⟨by omega, b⟩
        · rintro ⟨a, b, d, e⟩
          by_cases hb : t.block = n
          · left
            obtain ⟨tb, th, tbad⟩ := t
            simp only [] at hb d e
            subst hb
            rw [d, e]
          · exact .inr ⟨by omega, b, d, e⟩
      · obtain ⟨a, b, d, _⟩ := (h1 y).1 hy
        rw [d]
        exact h.uniq _ _ (by omega) (by omega) (by omega) b hh
    · rename_i hh
      refine ⟨fun t => ?_, h2⟩
      rw [h1]
      constructor
      · rintro ⟨a, b⟩; exact ⟨by omega, b⟩
      · rintro ⟨a, b, d⟩
        have : t.block ≠ n := fun e => hh (e ▸ b)
        exact ⟨by omega, b, d⟩
theorem taken_ref {P : Pool} {c : Chip} (h : Inv P c) (hd0 : c.dead = false) : takenPool P c = refTaken c := by
  obtain ⟨h1, h2⟩ := ref_mem h.ci hd0 c.nb (Nat.le_refl _)
  exact sorted_ext (f := fun t : Taken => t.head.seq) (taken_sorted h hd0) h2 fun t => by rw [taken_mem h hd0]; exact (h1 t).symm
theorem filter_congr' {α : Type} {p q : α → Bool} {l : List α} (h : ∀ a ∈ l, p a = q a) : l.filter p = l.filter q := by
  induction l with
  | nil => rfl
  | cons a l ih => rw [List.filter_cons, List.filter_cons, h a (by simp), ih fun b hb => h b (by simp [hb])]
theorem blanks_ref {P : Pool} {c : Chip} (h : Inv P c) (hd0 : c.dead = false) : blanksPool P c = refBlanks c := by
  unfold blanksPool refBlanks
  congr 1
  refine filter_congr' fun i hi => ?_
  have hi' : i < c.nb := by simpa using hi
  congr 1
  rw [refHead_eq h.ci.ok hd0 hi']
  have := h.what hd0 hi'
  by_cases hh : isHd c i
  · have e1 : decide ((P.blk i).what ≠ 2) = false := decide_eq_false (fun h => h (this.2 hh))
    have e2 : decide ((hd c i).2 = 0) = true := decide_eq_true hh
    rw [e1, e2]; rfl
  · have e1 : decide ((P.blk i).what ≠ 2) = true := decide_eq_true (fun h => hh (this.1 h))
    have e2 : decide ((hd c i).2 = 0) = false := decide_eq_false hh
    rw [e1, e2]; rfl
/-- none is blank -/
theorem blanks_zero {c : Chip} (h : CI c) (hd0 : c.dead = false) (hall : ∀ j, j < c.nb → c.isBad j = true ∨ isHd c j) : refBlanks c = 0 := by
  unfold refBlanks
  rw [List.length_eq_zero_iff, List.filter_eq_nil_iff]
  intro i hi
  have hi' : i < c.nb := by simpa using hi
  rw [refHead_eq h.ok hd0 hi']
  rcases hall i hi' with hb | hh
  · rw [hb]; simp
  · simp only []
    rw [decide_eq_true (show (hd c i).2 = 0 from hh)]; simp
/-! ### Scan -/
theorem scanGo_inv {c : Chip} (h : CI c) (hd0 : c.dead = false) : ∀ n, n ≤ c.nb → (scanGo c n).blocks.length = c.nb ∧ (∀ i, i < n → (scanGo c n).blk i = view c i) ∧ (∀ i, i < n → isHd c i → (hd c i).1.seq ≤ (scanGo c n).last) ∧
    ((scanGo c n).last = 0 ∨ ∃ i, i < n ∧ isHd c i ∧ (scanGo c n).last = (hd c i).1.seq)
  | 0, _ => ⟨by simp [scanGo], fun i hi => by omega, fun i hi => by omega, .inl rfl⟩
  | n + 1, hn => by
    obtain ⟨h1, h2, h3, h4⟩ := scanGo_inv h hd0 n (by omega)
    have hb : ∀ i, i < n + 1 → ((scanGo c n).relook c n).blk i = view c i := by
      intro i hi
      unfold Pool.relook
      rw [setBlk_blk (by omega), lookAt_view, hd0]
      by_cases e : i = n
      · rw [if_pos e, e]; rfl
      · rw [if_neg e]; exact h2 i (by omega)
    have hl : ((scanGo c n).relook c n).blocks.length = c.nb := by
      show ((scanGo c n).blocks.set n _).length = _
      rw [List.length_set]; exact h1
    have hbn := hb n (by omega)
    rw [scanGo, hbn]
    have hseq : isHd c n → (view c n).head.seq = (hd c n).1.seq := fun hh => by rw [view_pos hh]
    have hseq0 : ¬ isHd c n → (view c n).head.seq = 0 := fun hh => by rw [view_neg hh]; rfl
    split
    · rename_i hc
      have hh : isHd c n := Classical.byContradiction fun hn' => by rw [hseq0 hn'] at hc; omega
      refine ⟨hl, hb, fun i hi hi' => ?_, .inr ⟨n, by omega, hh, hseq hh⟩⟩
      show _ ≤ (view c n).head.seq
      rw [hseq hh]
      by_cases e : i = n
      · rw [e]; exact Nat.le_refl _
      · have := h3 i (by omega) hi'
        rw [hseq hh] at hc
        omega
    · rename_i hc
      refine ⟨hl, hb, fun i hi hi' => ?_, ?_⟩
      · show _ ≤ (scanGo c n).last
        by_cases e : i = n
        · rw [e] at hi' ⊢
          rw [hseq hi'] at hc
          omega
        · exact h3 i (by omega) hi'
      · rcases h4 with h4 | ⟨i, a, b, d⟩
        · exact .inl h4
        · exact .inr ⟨i, by omega, b, d⟩
theorem scan_inv {c : Chip} (h : CI c) (hd0 : c.dead = false) : Inv (scanPool c) c ∧ (∀ m, (∀ i, i < c.nb → isHd c i → (hd c i).1.seq ≤ m) → (scanPool c).last ≤ m) := by
  obtain ⟨h1, h2, h3, h4⟩ := scanGo_inv h hd0 c.nb (Nat.le_refl _)
  refine ⟨⟨h, h1, fun _ => h2, h3⟩, fun m hm => ?_⟩
  show (scanGo c c.nb).last ≤ m
  rcases h4 with h4 | ⟨i, a, b, d⟩
  · omega
  · rw [d]; exact hm i a b
theorem power_ci {c : Chip} (h : CI c) : CI c.power := ⟨⟨h.ok.nb1, h.ok.nb2, h.ok.np1, h.ok.np2, h.ok.sz1, h.ok.sz2, h.ok.bl, h.ok.bl2, h.ok.bad⟩, h.safe, h.uniq⟩
theorem blank_page_safe (n : Nat) (hn : 128 ≤ n) (hn2 : n ≤ 256) : Safe (List.replicate n 255) := by
  refine ⟨pageOf n 1 [], pageOf_sound (by simp; omega) (by omega), ?_⟩
  have hl := pageOf_length n 1 [] (by simp; omega)
  refine ⟨by simp [hl], fun i hi => ?_⟩
  have : (List.replicate n (255 : UInt8)).getD i 0 = 255 := by simp [List.getD, show i < n by omega]
  rw [this]
  intro k hk
  by_cases h8 : k < 8
  · exact bit_255 h8
  · rw [bit_high _ (by omega)] at hk; cases hk
theorem new_ci {nb np sz sp : Nat} (nb1 : 8 ≤ nb) (nb2 : nb ≤ 64) (np1 : 4 ≤ np) (np2 : np ≤ 32) (sz1 : 128 ≤ sz) (sz2 : sz ≤ 256) (c : Chip) (hc : c = ⟨nb, np, sz, sp, List.replicate nb (List.replicate (np * sz) 255), List.replicate nb false, [], 0, false, 0⟩) : CI c ∧ ∀ i, i < c.nb → ¬ isHd c i := by
  subst hc
  have hok : Chip.Ok ⟨nb, np, sz, sp, List.replicate nb (List.replicate (np * sz) 255), List.replicate nb false, [], 0, false, 0⟩ := by
    refine ⟨nb1, nb2, np1, np2, sz1, sz2, by simp, fun b hb => ?_, by simp⟩
    rw [List.eq_of_mem_replicate hb]; simp
  have hblk : ∀ i, i < nb → Chip.blk ⟨nb, np, sz, sp, List.replicate nb (List.replicate (np * sz) 255), List.replicate nb false, [], 0, false, 0⟩ i = List.replicate (np * sz) 255 := fun i hi => by
    simp [Chip.blk, List.getD, hi]
  have hfit : sz ≤ np * sz := Nat.le_mul_of_pos_left _ (by omega)
  have hno : ∀ i, i < nb → ¬ isHd ⟨nb, np, sz, sp, List.replicate nb (List.replicate (np * sz) 255), List.replicate nb false, [], 0, false, 0⟩ i := fun i hi => blank_notHd hok hi (by rw [hblk i hi]; exact isBlank_replicate _)
  refine ⟨⟨hok, fun i hi => ?_, fun i j hi _ _ h _ => absurd h (hno i hi)⟩, hno⟩
  rw [page0, hblk i hi]
  show Safe ((List.replicate (np * sz) 255).take sz)
  rw [List.take_replicate, Nat.min_eq_left hfit]
  exact blank_page_safe sz sz1 sz2
end Go.Den
end
section
set_option linter.unusedVariables false
set_option linter.unusedSimpArgs false
namespace Go.Den
theorem setHits_inv {P : Pool} {c : Chip} (h : Inv P c) (hs : List Hit) : Inv P (c.setHits hs).1 := by
  unfold Chip.setHits
  split
  · exact h
  · exact ⟨⟨⟨h.ci.ok.nb1, h.ci.ok.nb2, h.ci.ok.np1, h.ci.ok.np2, h.ci.ok.sz1, h.ci.ok.sz2, h.ci.ok.bl, h.ci.ok.bl2, h.ci.ok.bad⟩, h.ci.safe, h.ci.uniq⟩, h.len, h.known, h.last⟩
theorem setHits_geo (c : Chip) (hs : List Hit) : c.SameGeo (c.setHits hs).1 ∧ (c.setHits hs).1.dead = c.dead ∧ (hs = [] → c.hits = [] → (c.setHits hs).1.hits = []) := by
  unfold Chip.setHits
  split
  · exact ⟨.refl _, rfl, fun _ h => h⟩
  · exact ⟨⟨rfl, rfl, rfl, rfl⟩, rfl, fun h _ => h⟩
/-- a page behind the head's is written -/
theorem program_inv {P : Pool} {c : Chip} (h : Inv P c) {i k : Nat} (hi : i < c.nb) (hk : 1 ≤ k) (hkn : k < c.np) (hh : c.dead = false → isHd c i) (b : List UInt8) :
    Inv P (c.program i k b).1 ∧ (c.hits = [] → (c.program i k b).1.hits = [] ∧ (c.program i k b).1.dead = c.dead) := by
  have hok := h.ci.ok
  unfold Chip.program
  split
  · exact ⟨h, fun hq => ⟨hq, rfl⟩⟩
  rename_i hask
  have hask0 : c.ask i k = 0 := Classical.byContradiction hask
  obtain ⟨hd0, _⟩ := ask_zero hask0
  split
  · exact ⟨h, fun hq => ⟨hq, rfl⟩⟩
  rename_i hl
  split
  · exact ⟨h, fun hq => ⟨hq, rfl⟩⟩
  split
  · exact ⟨h, fun hq => ⟨hq, rfl⟩⟩
  simp only [Int.toNat_natCast]
  have hfit := page_in hkn
  obtain ⟨hde, hblk, hdd⟩ := done_deed hok hi (off := k * c.sz) (n := c.sz) hfit b
  generalize hr : c.done i (k * c.sz) c.sz b = r at *
  have hlen := hok.blk_len hi
  have hks : c.sz ≤ k * c.sz := Nat.le_mul_of_pos_left _ hk
  have hp0 : r.1.page i 0 = c.page i 0 := by
    rw [page0, page0, hde.geo.2.2.1, hblk]
    unfold madeBlk
    rw [List.append_assoc, List.take_append_of_le_length (by simp; omega), List.take_take, Nat.min_eq_left hks]
  have hhd : hd r.1 i = hd c i := by unfold hd; rw [hp0]
  have hisd : isHd r.1 i := by unfold isHd; rw [hhd]; exact hh hd0
  have hil : i < P.blocks.length := by rw [h.len]; exact hi
  have hinv := h.deed hd0 hi hde (by rw [hp0]; exact h.ci.safe i hi) (P' := P.relook r.1 i) rfl (Nat.le_refl _) (fun _ => .inl ⟨hh hd0, hhd⟩)
  refine ⟨⟨hinv.ci, by rw [h.len]; exact hde.geo.1.symm, fun hdr j hj => ?_, hinv.last⟩, fun hq => ⟨(hde.quiet hq).2, ?_⟩⟩
  · have := hinv.known hdr j hj
    rw [← this]
    unfold Pool.relook
    rw [setBlk_blk hil]
    split
    · rename_i e
      subst e
      rw [lookAt_view, hdr, h.known hd0 j hi, view_pos (hh hd0)]
      show _ = view r.1 j
      rw [view_pos hisd, hhd]
    · rfl
  · rw [hdd, if_neg (by have := (hde.quiet hq).1; omega)]
end Go.Den
end
section
set_option linter.unusedVariables false
namespace Go.Den
theorem Pairwise_append_one {α : Type} {R : α → α → Prop} {l : List α} {x : α} (h : l.Pairwise R) (hx : ∀ y ∈ l, R y x) : (l ++ [x]).Pairwise R := by
  rw [List.pairwise_append]
  exact ⟨h, List.pairwise_singleton _ _, fun a ha b hb => by simp at hb; subst hb; exact hx a ha⟩
/-- one is taken more -/
theorem taken_after {P : Pool} {c : Chip} (h : Inv P c) (hd0 : c.dead = false) (hq : c.hits = []) {kind : UInt8} {era : Nat} {ks : List Nat} {R : TakeR} (tp : TakeP kind era ks P c R) (h0 : R.err = 0) :
    takenPool R.pool R.chip = takenPool P c ++ [⟨R.block, ⟨kind, era, R.pool.last⟩, false⟩] := by
  obtain ⟨_, hdR, hb, hnh, hbad, hhd, hlt⟩ : R.err = 0 ∧ R.chip.dead = false ∧ R.block < c.nb ∧ ¬ isHd c R.block ∧ R.chip.isBad R.block = false ∧ hd R.chip R.block = (⟨kind, era, R.pool.last⟩, 0) ∧ P.last < R.pool.last := by
    rcases tp.cases with b | ⟨b, _⟩ | ⟨b, _⟩
    · exact b
    · omega
    · omega
  obtain ⟨_, _, _, hother⟩ := tp.quiet hq
  have hother := hother h0
  have hnb := tp.geo.1
  refine sorted_ext (f := fun t : Taken => t.head.seq) (taken_sorted tp.inv hdR) (Pairwise_append_one (taken_sorted h hd0) fun y hy => ?_) fun x => ?_
  · obtain ⟨m1, m2, m3, m4⟩ := (taken_mem h hd0 y).1 hy
    have := h.last _ m1 m2
    rw [← m3] at this
    show y.head.seq < R.pool.last
    omega
  · rw [taken_mem tp.inv hdR, List.mem_append, taken_mem h hd0, List.mem_singleton]
    constructor
    · rintro ⟨m1, m2, m3, m4⟩
      rw [hnb] at m1
      by_cases he : x.block = R.block
      · refine .inr ?_
        rw [he, hhd] at m3
        rw [he, hbad] at m4
        cases x
        simp only at he m3 m4
        subst he m3 m4
        rfl
      · obtain ⟨o1, o2⟩ := hother _ he
        have hh := hd_blk tp.geo o1
        refine .inl ⟨m1, ?_, by rw [m3, hh], by rw [m4, o2]⟩
        unfold isHd at m2 ⊢
        rw [← hh]; exact m2
    · rintro (⟨m1, m2, m3, m4⟩ | rfl)
      · have he : x.block ≠ R.block := fun e => hnh (e ▸ m2)
        obtain ⟨o1, o2⟩ := hother _ he
        have hh := hd_blk tp.geo o1
        refine ⟨by rw [hnb]; exact m1, ?_, by rw [m3, hh], by rw [m4, o2]⟩
        unfold isHd at m2 ⊢
        rw [hh]; exact m2
      · refine ⟨by rw [hnb]; exact hb, ?_, ?_, ?_⟩
        · show (hd R.chip R.block).2 = 0
          rw [hhd]
        · show _ = (hd R.chip R.block).1
          rw [hhd]
        · exact hbad.symm
/-- none is left -/
theorem none_left {P : Pool} {c : Chip} (h : Inv P c) (hd0 : c.dead = false) (hq : c.hits = []) (ht : P.turn ≤ c.nb) {kind : UInt8} {era : Nat} {R : TakeR} (tp : TakeP kind era (List.range c.nb) P c R) (h0 : R.err = 11) :
    R.pool = P ∧ R.chip = c ∧ blanksPool P c = 0 := by
  obtain ⟨_, _, h11, _⟩ := tp.quiet hq
  obtain ⟨e1, e2⟩ := h11 h0
  refine ⟨e2, e1, ?_⟩
  rw [blanks_ref h hd0]
  obtain ⟨_, hdR, hall⟩ : R.err = 11 ∧ R.chip.dead = false ∧ ∀ k ∈ List.range c.nb, R.chip.isBad ((P.turn + k) % c.nb) = true ∨ isHd R.chip ((P.turn + k) % c.nb) := by
    rcases tp.cases with ⟨b, _⟩ | ⟨b, _⟩ | b
    · omega
    · omega
    · exact b
  rw [e1] at hall
  refine blanks_zero h.ci hd0 fun j hj => ?_
  obtain ⟨k, hk, hm⟩ := mod_all ht hj
  have := hall k (by simpa using hk)
  rwa [hm] at this
/-- what is said of a chip without hits when a block is asked for -/
structure Taking (kind : UInt8) (era : Nat) (P : Pool) (c : Chip) (R : TakeR) : Prop where
  inv : Inv R.pool R.chip
  dead : R.chip.dead = false
  hits : R.chip.hits = []
  geo : c.SameGeo R.chip
  last : R.pool.last ≤ P.last + c.nb
  turn : R.pool.turn ≤ c.nb
  cases : (R.err = 0 ∧ R.block < c.nb ∧ ¬ isHd c R.block ∧ isHd R.chip R.block ∧ c.isBad R.block = false ∧ (∀ j, R.chip.isBad j = c.isBad j) ∧ (∀ j, j ≠ R.block → R.chip.blk j = c.blk j) ∧ takenPool R.pool R.chip = takenPool P c ++ [⟨R.block, ⟨kind, era, R.pool.last⟩, false⟩]) ∨
    (R.err = 11 ∧ R.pool = P ∧ R.chip = c ∧ blanksPool P c = 0)
theorem taking {P : Pool} {c : Chip} (h : Inv P c) (hd0 : c.dead = false) (hq : c.hits = []) (ht : P.turn ≤ c.nb) {kind : UInt8} {era : Nat} (hk1 : 1 ≤ kind.toNat) (hk3 : kind.toNat ≤ 3) (he1 : 1 ≤ era) (he2 : era < 4294967296) (hl : P.last < 100000) : Taking kind era P c (takePool P c kind era) := by
  have hnb2 := h.ci.ok.nb2
  rw [takePool_go h.ci.ok hd0 hk1 hk3 he1]
  have tp := takeGo_inv hk1 hk3 he1 he2 (List.range c.nb) h hd0 (by simp; omega)
  generalize takeGo kind era P c (List.range c.nb) = R at *
  obtain ⟨q1, q2, q3, q4⟩ := tp.quiet hq
  have hbad := (tp.calm (fun t ht => by rw [hq] at ht; cases ht)).2.1
  have hb : ∀ j, R.chip.isBad j = c.isBad j := fun j => by unfold Chip.isBad; rw [hbad]
  have hhi : R.pool.last ≤ P.last + c.nb := by have := tp.hi; simpa using this
  rcases tp.cases with ⟨b1, b2, b3, b4, b5, b6, b7⟩ | ⟨b, _⟩ | ⟨b1, b2, b3⟩
  · exact ⟨tp.inv, b2, q1, tp.geo, hhi, tp.turn ht, .inl ⟨b1, b3, b4, by unfold isHd; rw [b6], by rw [← hb]; exact b5, hb, fun j hj => (q4 b1 j hj).1, taken_after h hd0 hq tp b1⟩⟩
  · exact absurd b q2
  · obtain ⟨e1, e2, e3⟩ := none_left h hd0 hq ht tp b1
    exact ⟨tp.inv, b2, q1, tp.geo, hhi, tp.turn ht, .inr ⟨b1, e1, e2, e3⟩⟩
end Go.Den
end
section
set_option linter.unusedVariables false
namespace Go.Den
theorem rising_nodup {l : List Taken} (h : l.Pairwise (fun a b => a.head.seq < b.head.seq)) : l.Nodup := h.imp fun hab e => by rw [e] at hab; omega
/-- what stands on a chip whose power was cut -/
theorem now_mem {c : Chip} (h : CI c) (t : Taken) : t ∈ takenPool (scanPool c.power) c.power ↔ IsTaken c c.nb t := by
  rw [taken_mem (scan_inv (power_ci h) rfl).1 rfl]
  exact Iff.rfl
end Go.Den
end
section
set_option linter.unusedVariables false
set_option linter.unusedSimpArgs false
namespace Go.Den
theorem mul_lt_page {j k sz : Nat} (h : j < k) : j * sz + sz ≤ k * sz := by
  have := Nat.mul_le_mul_right sz (show j + 1 ≤ k by omega)
  rwa [Nat.succ_mul] at this
theorem page_made {B M : List UInt8} {k j sz : Nat} (hM : M.length = sz) (hB : k * sz + sz ≤ B.length) :
    ((B.take (k * sz) ++ M ++ B.drop (k * sz + sz)).drop (j * sz)).take sz = if j = k then M else (B.drop (j * sz)).take sz := by
  apply List.ext_getElem?
  intro x
  rw [List.getElem?_take]
  by_cases hx : x < sz
  · rw [if_pos hx, List.getElem?_drop]
    have hl : (B.take (k * sz)).length = k * sz := by simp; omega
    rcases Nat.lt_trichotomy j k with h | h | h
    · have := mul_lt_page (sz := sz) h
      rw [if_neg (by omega), List.getElem?_append_left (by simp; omega), List.getElem?_append_left (by omega), List.getElem?_take, if_pos (by omega), List.getElem?_take, if_pos hx, List.getElem?_drop]
    · subst h
      rw [if_pos rfl, List.getElem?_append_left (by simp; omega), List.getElem?_append_right (by omega), hl]
      congr 1
      omega
    · have := mul_lt_page (sz := sz) h
      rw [if_neg (by omega), List.getElem?_append_right (by simp; omega), List.getElem?_drop, List.getElem?_take, if_pos hx, List.getElem?_drop]
      congr 1
      simp
      omega
  · rw [if_neg hx]
    split
    · rw [List.getElem?_eq_none (by omega)]
    · rw [List.getElem?_take, if_neg hx]
/-- behind a page all is blank -/
def OpenFrom (c : Chip) (i k : Nat) : Prop := isBlank ((c.blk i).drop (k * c.sz)) = true
theorem OpenFrom.mono {c : Chip} {i k m : Nat} (h : OpenFrom c i k) (hkm : k ≤ m) : OpenFrom c i m := by
  unfold OpenFrom isBlank at *
  obtain ⟨d, rfl⟩ := Nat.exists_eq_add_of_le hkm
  rw [Nat.add_mul, ← List.drop_drop]
  rw [List.all_eq_true] at h ⊢
  exact fun x hx => h x (List.mem_of_mem_drop hx)
theorem OpenFrom.page {c : Chip} (ho : c.Ok) {i k m : Nat} (hi : i < c.nb) (h : OpenFrom c i k) (hkm : k ≤ m) (hm : m < c.np) : c.page i m = List.replicate c.sz 255 := by
  have h' := h.mono hkm
  have hlen := ho.blk_len hi
  have hp := page_in hm
  unfold OpenFrom at h'
  have := isBlank_eq h'
  unfold Chip.page
  rw [this, List.take_replicate, List.length_drop, hlen]
  congr 1
  omega
theorem OpenFrom.blk {c c' : Chip} (hg : c.SameGeo c') {i k : Nat} (h : OpenFrom c i k) (hb : c'.blk i = c.blk i) : OpenFrom c' i k := by
  unfold OpenFrom at *
  rw [hb, hg.2.2.1]; exact h
theorem page_blk {c c' : Chip} (hg : c.SameGeo c') {i k : Nat} (hb : c'.blk i = c.blk i) : c'.page i k = c.page i k := by
  unfold Chip.page
  rw [hb, hg.2.2.1]
theorem OpenFrom.of_blank {c : Chip} {i k : Nat} (h : isBlank (c.blk i) = true) : OpenFrom c i k := by
  have : OpenFrom c i 0 := by unfold OpenFrom; simpa using h
  exact this.mono (Nat.zero_le _)
/-- what a page's writing leaves -/
structure Wrote (c c' : Chip) (i k e : Nat) (pg : List UInt8) : Prop where
  deed : Deed c c' i e
  dead : c'.dead = if e = 10 then true else c.dead
  sub : SubL pg (c'.page i k)
  ok : e = 0 → c'.page i k = pg
  other : ∀ j, j ≠ k → c'.page i j = c.page i j
  open_ : OpenFrom c' i (k + 1)
  hits : c'.hits.length ≤ c.hits.length
  less : e ≠ 0 → c'.hits.length < c.hits.length
theorem strike_hits (c : Chip) : c.strike.1.hits.length ≤ c.hits.length ∧ (c.strike.2 ≠ none → c.strike.1.hits.length < c.hits.length) := by
  unfold Chip.strike
  split
  · simp
  · rename_i h r he
    split
    · simp
    · simp [he]
theorem finish_hits (c : Chip) (b : Nat) (h : Option Hit) : (c.finish b h).1.hits = c.hits ∧ ((c.finish b h).2 ≠ 0 → h ≠ none) := by
  unfold Chip.finish
  split
  · simp
  · split <;> simp
theorem done_hits (c : Chip) (b off n : Nat) (new : List UInt8) : (c.done b off n new).1.hits.length ≤ c.hits.length ∧ ((c.done b off n new).2 ≠ 0 → (c.done b off n new).1.hits.length < c.hits.length) := by
  unfold Chip.done
  obtain ⟨h1, h2⟩ := strike_hits c
  obtain ⟨f1, f2⟩ := finish_hits (c.strike.1.setBlk b ((c.blk b).take off ++ mixL c.strike.2 (((c.blk b).drop off).take n) new ++ (c.blk b).drop (off + n))) b c.strike.2
  rw [f1]
  exact ⟨h1, fun h => h2 (f2 h)⟩
theorem program_done {c : Chip} (hd0 : c.dead = false) {i k : Nat} (hi : i < c.nb) (hk : k < c.np) (hb : c.isBad i = false) (hop : OpenFrom c i k) {pg : List UInt8} (hl : pg.length = c.sz) : c.program i k pg = c.done i (k * c.sz) c.sz pg := by
  have ha : c.ask i k = 0 := ask_ok hd0 hi hk
  unfold OpenFrom at hop
  unfold Chip.program
  rw [if_neg (by omega), if_neg (by omega)]
  simp only [Int.toNat_natCast]
  rw [if_neg (by rw [hb]; simp), if_neg (by rw [hop]; simp)]
theorem program_wrote {c : Chip} (hok : c.Ok) (hd0 : c.dead = false) {i k : Nat} (hi : i < c.nb) (hk : k < c.np) (hb : c.isBad i = false) (hop : OpenFrom c i k) {pg : List UInt8} (hl : pg.length = c.sz) :
    Wrote c (c.program i k pg).1 i k (c.program i k pg).2 pg := by
  rw [program_done hd0 hi hk hb hop hl]
  obtain ⟨hde, hblk, hdd⟩ := done_deed hok hi (off := k * c.sz) (n := c.sz) (page_in hk) pg
  have hz := @done_zero c i (k * c.sz) c.sz pg
  obtain ⟨hh1, hh2⟩ := done_hits c i (k * c.sz) c.sz pg
  generalize hr : c.done i (k * c.sz) c.sz pg = r at *
  have hlen := hok.blk_len hi
  have hin := page_in hk
  have hpo := hop.page hok hi (Nat.le_refl _) hk
  have hold : ((c.blk i).drop (k * c.sz)).take c.sz = List.replicate c.sz 255 := hpo
  have hml : (mixL c.strike.2 (List.replicate c.sz 255) pg).length = c.sz := by simp [mixL_length]
  have hb' : r.1.blk i = (c.blk i).take (k * c.sz) ++ mixL c.strike.2 (List.replicate c.sz 255) pg ++ (c.blk i).drop (k * c.sz + c.sz) := by
    rw [hblk]
    unfold madeBlk
    rw [hold]
  have hpg : ∀ j, r.1.page i j = if j = k then mixL c.strike.2 (List.replicate c.sz 255) pg else c.page i j := by
    intro j
    show ((r.1.blk i).drop (j * r.1.sz)).take r.1.sz = _
    rw [hde.geo.2.2.1, hb', page_made hml (by omega)]
    rfl
  refine ⟨hde, hdd, ?_, fun h0 => ?_, fun j hj => by rw [hpg, if_neg hj], ?_, hh1, hh2⟩
  · rw [hpg, if_pos rfl]; exact mixL_write _ _ _ hl
  · rw [hpg, if_pos rfl, hz h0, mixL_none _ _ (by simp [hl])]
  · unfold OpenFrom
    rw [hde.geo.2.2.1, hb', Nat.succ_mul, List.drop_append_of_le_length (by simp; omega), List.drop_of_length_le (by simp; omega), List.nil_append]
    have := hop.mono (Nat.le_succ k)
    unfold OpenFrom at this
    rwa [Nat.succ_mul] at this
/-- a block that was tried is blank behind its head -/
theorem write_open {P : Pool} {c : Chip} (hok : c.Ok) (hd0 : c.dead = false) {i : Nat} (hi : i < c.nb) (hb : c.isBad i = false) (hbl : isBlank (c.blk i) = true) (kind : UInt8) (era : Nat) (hp : (putHead c.sz ⟨kind, era, P.raise.last⟩).1.length = c.sz) :
    OpenFrom (writeHead P c i kind era).2.1 i 1 ∧ (writeHead P c i kind era).2.1.hits.length ≤ c.hits.length := by
  have hnp := hok.np1
  have w := program_wrote hok hd0 hi (k := 0) (by omega) hb (OpenFrom.of_blank hbl) hp
  exact ⟨w.open_, w.hits⟩
theorem putHead_len {c : Chip} (hok : c.Ok) {P : Pool} {kind : UInt8} {era : Nat} (hk1 : 1 ≤ kind.toNat) (hk3 : kind.toNat ≤ 3) (he1 : 1 ≤ era) (hl : P.last + 1 < 18446744073709551616) : (putHead c.sz ⟨kind, era, P.raise.last⟩).1.length = c.sz := by
  have hlast : P.raise.last = P.last + 1 := Nat.mod_eq_of_lt hl
  have hsz : isSize (c.sz : Int) = true := by
    have := hok.sz1
    have := hok.sz2
    simp [isSize]; omega
  have hm : (Head.mk kind era (P.last + 1)).may = true := by
    simp [Head.may]; omega
  have hput : putHead c.sz ⟨kind, era, P.raise.last⟩ = (pageOf c.sz 1 (Head.mk kind era (P.last + 1)).body, 0) := by
    unfold putHead
    rw [hlast, if_neg (by rw [hm, hsz]; simp)]
    simp
  have hbody := (Head.mk kind era (P.last + 1)).body_length
  rw [hput]
  exact pageOf_length _ _ _ (by have := hok.sz1; omega)
theorem erase_hits {c : Chip} (hok : c.Ok) (hd0 : c.dead = false) {i : Nat} (hi : i < c.nb) (hb : c.isBad i = false) : (c.erase i).1.hits.length ≤ c.hits.length := by
  rw [erase_done hok hd0 hi hb]
  exact (done_hits _ _ _ _ _).1
theorem try_open {P : Pool} {c : Chip} (h : Inv P c) (hd0 : c.dead = false) {i : Nat} (hi : i < c.nb) (hb : c.isBad i = false) (hw : (P.blk i).what ≠ 2) {kind : UInt8} {era : Nat} (hk1 : 1 ≤ kind.toNat) (hk3 : kind.toNat ≤ 3) (he1 : 1 ≤ era) (hl : P.last + 1 < 18446744073709551616) :
    (isHd (tryBlk P c i kind era).2.1 i → OpenFrom (tryBlk P c i kind era).2.1 i 1) ∧ (tryBlk P c i kind era).2.1.hits.length ≤ c.hits.length := by
  have hkn := h.known hd0 i hi
  have hnh : ¬ isHd c i := fun e => hw ((h.what hd0 hi).2 e)
  unfold tryBlk
  split
  · rename_i h1
    obtain ⟨hde, hinv, hz, hk⟩ := erase_inv h hd0 hi hb
    have hhe := erase_hits h.ci.ok hd0 hi hb
    split
    · rename_i hne
      exact ⟨fun e => absurd (hk e).1 hnh, hhe⟩
    · rename_i heq
      have h0 : (c.erase i).2 = 0 := Classical.byContradiction heq
      have hdd : (c.erase i).1.dead = c.dead ∧ (c.erase i).1.bad = c.bad := by
        rcases hde.cases with ⟨_, a, b⟩ | ⟨a, _⟩ | ⟨a, _⟩
        · exact ⟨a, b⟩
        · omega
        · omega
      have hnb := hde.geo.1
      have hsz := hde.geo.2.2.1
      have hh := putHead_len (c := (c.erase i).1) (P := P.relook (c.erase i).1 i) (kind := kind) (era := era) hde.ok hk1 hk3 he1 hl
      obtain ⟨w1, w2⟩ := write_open (P := P.relook (c.erase i).1 i) hde.ok (by rw [hdd.1]; exact hd0) (by rw [hnb]; exact hi) (by unfold Chip.isBad; rw [hdd.2]; exact hb) (by rw [hz h0]; exact isBlank_replicate _) kind era hh
      exact ⟨fun _ => w1, Nat.le_trans w2 hhe⟩
  · rename_i h1
    have hbk : isBlank (c.blk i) = true := by
      rw [hkn] at h1 hw
      exact view_zero (view_one hw h1)
    obtain ⟨w1, w2⟩ := write_open (P := P) h.ci.ok hd0 hi hb hbk kind era (putHead_len h.ci.ok hk1 hk3 he1 hl)
    exact ⟨fun _ => w1, w2⟩
/-- a block that became a head is blank behind it -/
theorem takeGo_open {kind : UInt8} {era : Nat} (hk1 : 1 ≤ kind.toNat) (hk3 : kind.toNat ≤ 3) (he1 : 1 ≤ era) (he2 : era < 4294967296) : ∀ (ks : List Nat) {P : Pool} {c : Chip}, Inv P c → c.dead = false → P.last + ks.length < 18446744073709551616 →
    (∀ j, j < c.nb → ¬ isHd c j → isHd (takeGo kind era P c ks).chip j → OpenFrom (takeGo kind era P c ks).chip j 1) ∧ (takeGo kind era P c ks).chip.hits.length ≤ c.hits.length
  | [], P, c, h, hd0, hl => ⟨fun j _ hn hh => absurd hh hn, Nat.le_refl _⟩
  | k :: ks, P, c, h, hd0, hl => by
    have hnb := h.ci.ok.nb1
    have hmod : (P.turn + k) % c.nb < c.nb := Nat.mod_lt _ (by omega)
    simp only [List.length_cons] at hl
    unfold takeGo
    split
    · exact takeGo_open hk1 hk3 he1 he2 ks h hd0 (by omega)
    · rename_i hno
      have hb : c.isBad ((P.turn + k) % c.nb) = false := by
        cases hbb : c.isBad ((P.turn + k) % c.nb) with
        | false => rfl
        | true => exact absurd (.inl hbb) hno
      have hw : (P.blk ((P.turn + k) % c.nb)).what ≠ 2 := fun e => hno (.inr e)
      obtain ⟨o1, o2⟩ := try_open h hd0 hmod hb hw hk1 hk3 he1 (by omega)
      have tr := try_inv h hd0 hmod hb hw hk1 hk3 he1 he2 (by omega)
      generalize hi : (P.turn + k) % c.nb = i at *
      generalize hT : tryBlk P c i kind era = T at *
      have one : ∀ j, j < c.nb → ¬ isHd c j → isHd T.2.1 j → OpenFrom T.2.1 j 1 := by
        intro j hj hn hh
        by_cases e : j = i
        · subst e; exact o1 hh
        · exact absurd ((isHd_blk tr.deed.geo (tr.deed.blk j e)).1 hh) hn
      split
      · exact ⟨one, o2⟩
      split
      · exact ⟨one, o2⟩
      · rename_i h0 h10
        have hd1 : T.2.1.dead = false := by
          rcases tr.deed.cases with ⟨_, a, _⟩ | ⟨_, a, _⟩ | ⟨a, _⟩
          · rw [a]; exact hd0
          · rw [a]; exact hd0
          · exact absurd a h10
        have hhi := tr.hi
        obtain ⟨r1, r2⟩ := takeGo_open hk1 hk3 he1 he2 ks tr.inv hd1 (by omega)
        have tp := takeGo_inv hk1 hk3 he1 he2 ks tr.inv hd1 (by omega)
        refine ⟨fun j hj hn hh => ?_, Nat.le_trans r2 o2⟩
        have hj1 : j < T.2.1.nb := by rw [tr.deed.geo.1]; exact hj
        by_cases hh1 : isHd T.2.1 j
        · exact (one j hj hn hh1).blk tp.geo (tp.kept j hj1 hh1).1
        · exact r1 j hj1 hh1 hh
end Go.Den
end
section
set_option linter.unusedVariables false
set_option linter.unusedSimpArgs false
namespace Go.Den
structure Turn where
  from_ : UInt8
  to : UInt8
  phase : UInt8
  deriving DecidableEq
namespace Turn
def zero : Turn := ⟨0, 0, 0⟩
def body (t : Turn) : List UInt8 := [t.from_, t.to, t.phase]
def vals (t : Turn) : List Value := [bv t.from_, bv t.to, bv t.phase]
def may (t : Turn) : Bool := ((t.from_ == 1 && t.to == 2) || (t.from_ == 2 && t.to == 1)) && (t.phase == 1 || t.phase == 2)
end Turn
abbrev turnV (t : Turn) : Value := .agg #[bv t.from_, bv t.to, bv t.phase]
def putTurn (size : Int) (t : Turn) : List UInt8 × Nat :=
  if t.may = false ∨ isSize size = false then ([], 2) else (pageOf size.toNat 7 t.body, 0)
def getTurn (b : List UInt8) : Turn × Nat :=
  if b.length ≠ 3 then (Turn.zero, 5)
  else if (Turn.mk (b.getD 0 0) (b.getD 1 0) (b.getD 2 0)).may = false then (Turn.zero, 5) else (⟨b.getD 0 0, b.getD 1 0, b.getD 2 0⟩, 0)
/-- what a journal says -/
structure Saying where
  begun : Bool
  done : Bool
  turn : Turn
def Saying.zero : Saying := ⟨false, false, Turn.zero⟩
def sayTurn (s : Saying) (t : Turn) : Saying := ⟨true, s.done || t.phase == 2, if s.begun then s.turn else ⟨t.from_, t.to, 0⟩⟩
def sayPage (s : Saying) (pg : List UInt8) : Saying :=
  if (getPage pg).2.2 ≠ 0 ∨ (getPage pg).1 ≠ 7 then s
  else if (getTurn (getPage pg).2.1).2 ≠ 0 then s else sayTurn s (getTurn (getPage pg).2.1).1
/-- the pages of a block, behind its head, the first n -/
def sayBlk (c : Chip) (i n : Nat) (s : Saying) : Saying := (List.range n).foldl (fun s k => sayPage s (c.page i (k + 1))) s
def isJour (era : Nat) (t : Taken) : Bool := decide (t.head.kind = 3) && decide (t.head.era = era)
def saysL (c : Chip) (era : Nat) (l : List Taken) : Saying := l.foldl (fun s x => if isJour era x then sayBlk c x.block (c.np - 1) s else s) Saying.zero
def jourSays (c : Chip) (era : Nat) : Saying := saysL c era (takenPool (scanPool c) c)
def refSays (c : Chip) (era : Nat) : Saying := ((refTaken c).filter (isJour era)).foldl (fun s x => sayBlk c x.block (c.np - 1) s) Saying.zero
/-- the writing of a page: a block is taken till the page stands -/
def writeJ (era : Nat) (pg : List UInt8) : Nat → Pool → Chip → Pool × Chip × Nat
  | 0, P, c => (P, c, 0)
  | n + 1, P, c =>
    if (takePool P c 3 era).err ≠ 0 then ((takePool P c 3 era).pool, (takePool P c 3 era).chip, (takePool P c 3 era).err)
    else if ((takePool P c 3 era).chip.program (takePool P c 3 era).block 1 pg).2 ≠ 9 then
      ((takePool P c 3 era).pool, ((takePool P c 3 era).chip.program (takePool P c 3 era).block 1 pg).1, ((takePool P c 3 era).chip.program (takePool P c 3 era).block 1 pg).2)
    else writeJ era pg n (takePool P c 3 era).pool ((takePool P c 3 era).chip.program (takePool P c 3 era).block 1 pg).1
def jourWrite (P : Pool) (c : Chip) (era : Nat) (t : Turn) : Pool × Chip × Nat :=
  if c.ask 0 0 ≠ 0 then (P, c, c.ask 0 0) else if (putTurn c.sz t).2 ≠ 0 ∨ era = 0 then (P, c, 2) else writeJ era (putTurn c.sz t).1 (c.hits.length + 1) P c
def awayJ : List Taken → Pool → Chip → Pool × Chip × Nat
  | [], P, c => (P, c, 0)
  | x :: l, P, c =>
    if x.head.kind ≠ 3 ∨ x.bad = true then awayJ l P c
    else if (freePool P c x.block).2.2 ≠ 0 then freePool P c x.block
    else awayJ l (freePool P c x.block).1 (freePool P c x.block).2.1
def jourAway (P : Pool) (c : Chip) : Pool × Chip × Nat :=
  if c.ask 0 0 ≠ 0 then (P, c, c.ask 0 0) else awayJ (takenPool P c) P c
/-! ### What is said -/
theorem foldl_if {α β : Type} (p : α → Bool) (f : β → α → β) : ∀ (l : List α) (s : β), l.foldl (fun s x => if p x then f s x else s) s = (l.filter p).foldl f s
  | [], s => rfl
  | x :: l, s => by
    rw [List.foldl_cons, foldl_if p f l, List.filter_cons]
    split <;> simp
theorem says_ref {c : Chip} (h : CI c) (hd0 : c.dead = false) (era : Nat) : jourSays c era = refSays c era := by
  unfold jourSays saysL refSays
  rw [taken_ref (scan_inv h hd0).1 hd0]
  exact foldl_if _ _ _ _
theorem getTurn_body {t : Turn} (h : t.may = true) : getTurn t.body = (t, 0) := by
  unfold getTurn Turn.body
  obtain ⟨a, b, c⟩ := t
  rw [if_neg (by simp)]
  simp only [List.getD_cons_zero, List.getD_cons_succ]
  rw [if_neg (by rw [h]; simp)]
theorem putTurn_ok {c : Chip} (ho : c.Ok) {t : Turn} (h : t.may = true) : putTurn c.sz t = (pageOf c.sz 7 t.body, 0) ∧ (pageOf c.sz 7 t.body).length = c.sz ∧ Sound (pageOf c.sz 7 t.body) ∧ getPage (pageOf c.sz 7 t.body) = (7, t.body, 0) := by
  have h1 := ho.sz1
  have h2 := ho.sz2
  have hb : t.body.length = 3 := rfl
  have hsz : isSize (c.sz : Int) = true := by simp [isSize]; omega
  refine ⟨?_, pageOf_length _ _ _ (by omega), pageOf_sound (by omega) (by omega), getPage_pageOf hsz (by decide) (by decide) (by omega)⟩
  unfold putTurn
  rw [if_neg (by rw [h, hsz]; simp)]
  rfl
theorem sayPage_turn {c : Chip} (ho : c.Ok) {t : Turn} (h : t.may = true) (s : Saying) : sayPage s (pageOf c.sz 7 t.body) = sayTurn s t := by
  obtain ⟨_, _, _, hg⟩ := putTurn_ok ho h
  unfold sayPage
  rw [hg]
  simp only []
  rw [getTurn_body h, if_neg (by simp), if_neg (by simp)]
theorem sayPage_blank (s : Saying) (n : Nat) : sayPage s (List.replicate n 255) = s := by
  unfold sayPage
  have : (getPage (List.replicate n 255)).2.2 ≠ 0 := by
    unfold getPage
    split
    · simp
    · rw [if_pos (isBlank_replicate n)]; simp
  rw [if_pos (.inl this)]
theorem getPage_sound {b : List UInt8} (hp : (getPage b).2.2 = 0) : Sound b := by
  unfold getPage at hp
  split at hp
  · cases hp
  · rename_i hs
    split at hp
    · cases hp
    · split at hp
      · cases hp
      · rename_i hn
        have hs' : isSize b.length = true := by simpa using hs
        simp [isSize] at hs'
        exact ⟨by omega, Classical.byContradiction hn⟩
/-- a page that is torn says it all, or nothing -/
theorem sayPage_sub {c : Chip} (ho : c.Ok) {t : Turn} (h : t.may = true) {X : List UInt8} (hX : SubL (pageOf c.sz 7 t.body) X) (s : Saying) : sayPage s X = s ∨ sayPage s X = sayTurn s t := by
  obtain ⟨_, _, hs, hg⟩ := putTurn_ok ho h
  by_cases h0 : (getPage X).2.2 = 0
  · have hsx : Sound X := by
      exact getPage_sound h0
    have e := berger hX hs hsx
    right
    rw [e]; exact sayPage_turn ho h s
  · left
    unfold sayPage
    rw [if_pos (.inl h0)]
structure Saying.Le (s s' : Saying) : Prop where
  begun : s.begun = true → s'.begun = true ∧ s'.turn = s.turn
  done : s.done = true → s'.done = true
  zero : s.turn.phase = 0 → s'.turn.phase = 0
theorem Saying.Le.refl (s : Saying) : s.Le s := ⟨fun h => ⟨h, rfl⟩, fun h => h, fun h => h⟩
theorem Saying.Le.trans {a b c : Saying} (h : a.Le b) (k : b.Le c) : a.Le c :=
  ⟨fun e => ⟨(k.begun (h.begun e).1).1, ((k.begun (h.begun e).1).2).trans (h.begun e).2⟩, fun e => k.done (h.done e), fun e => k.zero (h.zero e)⟩
theorem sayTurn_le (s : Saying) (t : Turn) : s.Le (sayTurn s t) := by
  refine ⟨fun h => ⟨rfl, by simp [sayTurn, h]⟩, fun h => by simp [sayTurn, h], fun h => ?_⟩
  unfold sayTurn
  split
  · exact h
  · rfl
theorem sayPage_le (s : Saying) (pg : List UInt8) : s.Le (sayPage s pg) := by
  unfold sayPage
  split
  · exact .refl _
  split
  · exact .refl _
  · exact sayTurn_le _ _
theorem sayBlk_succ (c : Chip) (i n : Nat) (s : Saying) : sayBlk c i (n + 1) s = sayPage (sayBlk c i n s) (c.page i (n + 1)) := by
  unfold sayBlk
  rw [List.range_succ, List.foldl_append]
  rfl
theorem sayBlk_le (c : Chip) (i : Nat) : ∀ n (s : Saying), s.Le (sayBlk c i n s)
  | 0, s => .refl _
  | n + 1, s => by
    rw [sayBlk_succ]
    exact (sayBlk_le c i n s).trans (sayPage_le _ _)
theorem sayBlk_at (c : Chip) (i : Nat) {k : Nat} : ∀ n (s : Saying), k < n → ∃ s0, (sayPage s0 (c.page i (k + 1))).Le (sayBlk c i n s)
  | n + 1, s, hk => by
    rw [sayBlk_succ]
    by_cases e : k = n
    · subst e
      exact ⟨_, .refl _⟩
    · obtain ⟨s0, h0⟩ := sayBlk_at c i (k := k) n s (by omega)
      exact ⟨s0, h0.trans (sayPage_le _ _)⟩
theorem saysFold_le (c : Chip) (era : Nat) : ∀ (l : List Taken) (s : Saying), s.Le (l.foldl (fun s x => if isJour era x then sayBlk c x.block (c.np - 1) s else s) s)
  | [], s => .refl _
  | x :: l, s => by
    rw [List.foldl_cons]
    refine Saying.Le.trans ?_ (saysFold_le c era l _)
    split
    · exact sayBlk_le _ _ _ _
    · exact .refl _
theorem saysFold_at (c : Chip) (era : Nat) {x : Taken} (hx : isJour era x = true) {k : Nat} (hk : k < c.np - 1) : ∀ (l : List Taken) (s : Saying), x ∈ l → ∃ s0, (sayPage s0 (c.page x.block (k + 1))).Le (l.foldl (fun s x => if isJour era x then sayBlk c x.block (c.np - 1) s else s) s)
  | y :: l, s, hm => by
    rw [List.foldl_cons]
    rcases List.mem_cons.1 hm with rfl | hm
    · rw [if_pos hx]
      obtain ⟨s0, h0⟩ := sayBlk_at c x.block (c.np - 1) s hk
      exact ⟨s0, h0.trans (saysFold_le c era l _)⟩
    · exact saysFold_at c era hx hk l _ hm
theorem sayBlk_congr {c c' : Chip} {i : Nat} : ∀ {n : Nat} (s : Saying), (∀ k, k < n → c'.page i (k + 1) = c.page i (k + 1)) → sayBlk c' i n s = sayBlk c i n s
  | 0, s, _ => rfl
  | n + 1, s, h => by
    rw [sayBlk_succ, sayBlk_succ, sayBlk_congr s fun k hk => h k (by omega), h n (by omega)]
theorem saysFold_congr {c c' : Chip} (hn : c'.np = c.np) (era : Nat) : ∀ {l : List Taken} (s : Saying), (∀ x ∈ l, isJour era x = true → ∀ k, c'.page x.block k = c.page x.block k) →
    l.foldl (fun s x => if isJour era x then sayBlk c' x.block (c'.np - 1) s else s) s = l.foldl (fun s x => if isJour era x then sayBlk c x.block (c.np - 1) s else s) s
  | [], s, _ => rfl
  | x :: l, s, h => by
    rw [List.foldl_cons, List.foldl_cons]
    have : (if isJour era x then sayBlk c' x.block (c'.np - 1) s else s) = (if isJour era x then sayBlk c x.block (c.np - 1) s else s) := by
      split
      · rename_i hj
        rw [hn]
        exact sayBlk_congr s fun k _ => h x (by simp) hj (k + 1)
      · rfl
    rw [this]
    exact saysFold_congr hn era _ fun y hy => h y (by simp [hy])
end Go.Den
end
section
set_option linter.unusedVariables false
set_option linter.unusedSimpArgs false
namespace Go.Den
theorem write_new {P : Pool} {c : Chip} (hok : c.Ok) (hd0 : c.dead = false) {i : Nat} (hi : i < c.nb) (hb : c.isBad i = false) (hbl : isBlank (c.blk i) = true) {kind : UInt8} {era : Nat} (hk1 : 1 ≤ kind.toNat) (hk3 : kind.toNat ≤ 3) (he1 : 1 ≤ era) (he2 : era < 4294967296) (hl : P.last + 1 < 18446744073709551616)
    (hh : isHd (writeHead P c i kind era).2.1 i) : (hd (writeHead P c i kind era).2.1 i).1 = ⟨kind, era, P.last + 1⟩ := by
  have hnp := hok.np1
  have hlast : P.raise.last = P.last + 1 := Nat.mod_eq_of_lt hl
  have hsz : isSize (c.sz : Int) = true := by
    have := hok.sz1
    have := hok.sz2
    simp [isSize]; omega
  have hm : (Head.mk kind era (P.last + 1)).may = true := by
    simp [Head.may]; omega
  have hput : putHead c.sz ⟨kind, era, P.raise.last⟩ = (pageOf c.sz 1 (Head.mk kind era (P.last + 1)).body, 0) := by
    unfold putHead
    rw [hlast, if_neg (by rw [hm, hsz]; simp)]
    simp
  have hbody := (Head.mk kind era (P.last + 1)).body_length
  have w := program_wrote hok hd0 hi (k := 0) (by omega) hb (OpenFrom.of_blank hbl) (putHead_len hok (P := P) hk1 hk3 he1 hl)
  have e : (writeHead P c i kind era).2.1 = (c.program i ((0 : Nat) : Int) (putHead c.sz ⟨kind, era, P.raise.last⟩).1).1 := rfl
  rw [e] at hh ⊢
  have hsub := w.sub
  rw [hput] at hsub hh ⊢
  have hsound : Sound (pageOf c.sz 1 (Head.mk kind era (P.last + 1)).body) := pageOf_sound (by have := hok.sz1; omega) (by have := hok.sz2; omega)
  have e2 := berger hsub hsound (getHead_sound hh)
  have hhd := getHead_pageOf hsz ⟨he2, hl⟩ hm
  show (getHead _).1 = _
  rw [e2, show (pageOf c.sz 1 (Head.mk kind era (P.last + 1)).body) = pageOf (c.sz : Int).toNat 1 (Head.mk kind era (P.last + 1)).body from rfl]
  exact congrArg Prod.fst hhd
theorem try_new {P : Pool} {c : Chip} (h : Inv P c) (hd0 : c.dead = false) {i : Nat} (hi : i < c.nb) (hb : c.isBad i = false) (hw : (P.blk i).what ≠ 2) {kind : UInt8} {era : Nat} (hk1 : 1 ≤ kind.toNat) (hk3 : kind.toNat ≤ 3) (he1 : 1 ≤ era) (he2 : era < 4294967296) (hl : P.last + 1 < 18446744073709551616)
    (hh : isHd (tryBlk P c i kind era).2.1 i) : (hd (tryBlk P c i kind era).2.1 i).1 = ⟨kind, era, P.last + 1⟩ := by
  have hkn := h.known hd0 i hi
  have hnh : ¬ isHd c i := fun e => hw ((h.what hd0 hi).2 e)
  revert hh
  unfold tryBlk
  split
  · rename_i h1
    obtain ⟨hde, hinv, hz, hk⟩ := erase_inv h hd0 hi hb
    split
    · rename_i hne
      exact fun e => absurd (hk e).1 hnh
    · rename_i heq
      have h0 : (c.erase i).2 = 0 := Classical.byContradiction heq
      have hdd : (c.erase i).1.dead = c.dead ∧ (c.erase i).1.bad = c.bad := by
        rcases hde.cases with ⟨_, a, b⟩ | ⟨a, _⟩ | ⟨a, _⟩
        · exact ⟨a, b⟩
        · omega
        · omega
      have hnb := hde.geo.1
      exact write_new (P := P.relook (c.erase i).1 i) hde.ok (by rw [hdd.1]; exact hd0) (by rw [hnb]; exact hi) (by unfold Chip.isBad; rw [hdd.2]; exact hb) (by rw [hz h0]; exact isBlank_replicate _) hk1 hk3 he1 he2 hl
  · rename_i h1
    have hbk : isBlank (c.blk i) = true := by
      rw [hkn] at h1 hw
      exact view_zero (view_one hw h1)
    exact write_new h.ci.ok hd0 hi hb hbk hk1 hk3 he1 he2 hl
/-- a block that became a head has the head that was asked for, and a greater Seq -/
theorem takeGo_new {kind : UInt8} {era : Nat} (hk1 : 1 ≤ kind.toNat) (hk3 : kind.toNat ≤ 3) (he1 : 1 ≤ era) (he2 : era < 4294967296) : ∀ (ks : List Nat) {P : Pool} {c : Chip}, Inv P c → c.dead = false → P.last + ks.length < 18446744073709551616 →
    ∀ j, j < c.nb → ¬ isHd c j → isHd (takeGo kind era P c ks).chip j → (hd (takeGo kind era P c ks).chip j).1.kind = kind ∧ (hd (takeGo kind era P c ks).chip j).1.era = era ∧ P.last < (hd (takeGo kind era P c ks).chip j).1.seq
  | [], P, c, h, hd0, hl => fun j _ hn hh => absurd hh hn
  | k :: ks, P, c, h, hd0, hl => by
    have hnb := h.ci.ok.nb1
    have hmod : (P.turn + k) % c.nb < c.nb := Nat.mod_lt _ (by omega)
    simp only [List.length_cons] at hl
    unfold takeGo
    split
    · exact takeGo_new hk1 hk3 he1 he2 ks h hd0 (by omega)
    · rename_i hno
      have hb : c.isBad ((P.turn + k) % c.nb) = false := by
        cases hbb : c.isBad ((P.turn + k) % c.nb) with
        | false => rfl
        | true => exact absurd (.inl hbb) hno
      have hw : (P.blk ((P.turn + k) % c.nb)).what ≠ 2 := fun e => hno (.inr e)
      have o1 := try_new h hd0 hmod hb hw hk1 hk3 he1 he2 (by omega)
      have tr := try_inv h hd0 hmod hb hw hk1 hk3 he1 he2 (by omega)
      generalize hi : (P.turn + k) % c.nb = i at *
      generalize hT : tryBlk P c i kind era = T at *
      have one : ∀ j, j < c.nb → ¬ isHd c j → isHd T.2.1 j → (hd T.2.1 j).1.kind = kind ∧ (hd T.2.1 j).1.era = era ∧ P.last < (hd T.2.1 j).1.seq := by
        intro j hj hn hh
        by_cases e : j = i
        · subst e
          rw [o1 hh]
          exact ⟨rfl, rfl, Nat.lt_succ_self _⟩
        · exact absurd ((isHd_blk tr.deed.geo (tr.deed.blk j e)).1 hh) hn
      split
      · exact one
      split
      · exact one
      · rename_i h0 h10
        have hd1 : T.2.1.dead = false := by
          rcases tr.deed.cases with ⟨_, a, _⟩ | ⟨_, a, _⟩ | ⟨a, _⟩
          · rw [a]; exact hd0
          · rw [a]; exact hd0
          · exact absurd a h10
        have hhi := tr.hi
        have hlo := tr.lo
        have r1 := takeGo_new hk1 hk3 he1 he2 ks tr.inv hd1 (by omega)
        have tp := takeGo_inv hk1 hk3 he1 he2 ks tr.inv hd1 (by omega)
        intro j hj hn hh
        have hj1 : j < T.2.1.nb := by rw [tr.deed.geo.1]; exact hj
        by_cases hh1 : isHd T.2.1 j
        · have e := hd_blk tp.geo (tp.kept j hj1 hh1).1
          rw [e]
          exact one j hj hn hh1
        · obtain ⟨a, b, d⟩ := r1 j hj1 hh1 hh
          exact ⟨a, b, by omega⟩
/-- whatever strikes: what a writing leaves -/
theorem writeJ_inv {era : Nat} (he1 : 1 ≤ era) (he2 : era < 4294967296) {pg : List UInt8} : ∀ (n : Nat) {P : Pool} {c : Chip}, Inv P c → c.dead = false → pg.length = c.sz → c.hits.length < n → P.last + c.nb * n < 18446744073709551616 → P.turn ≤ c.nb →
    Inv (writeJ era pg n P c).1 (writeJ era pg n P c).2.1 ∧ c.SameGeo (writeJ era pg n P c).2.1 ∧ (writeJ era pg n P c).1.last ≤ P.last + c.nb * n ∧ (writeJ era pg n P c).1.turn ≤ c.nb ∧ (writeJ era pg n P c).2.1.hits.length ≤ c.hits.length
  | 0, P, c, _, _, _, hh, _, _ => by omega
  | n + 1, P, c, h, hd0, hpl, hh, hl, ht => by
    have hnb := h.ci.ok.nb1
    have hnp := h.ci.ok.np1
    rw [Nat.mul_succ] at hl
    have hlen : (List.range c.nb).length = c.nb := by simp
    have hgo := takePool_go (P := P) h.ci.ok hd0 (kind := 3) (era := era) (by decide) (by decide) he1
    have tp := takeGo_inv (kind := 3) (by decide) (by decide) he1 he2 (List.range c.nb) h hd0 (by omega)
    obtain ⟨op, hhi⟩ := takeGo_open (kind := 3) (by decide) (by decide) he1 he2 (List.range c.nb) h hd0 (by omega)
    have hhi2 := tp.hi
    rw [hlen] at hhi2
    unfold writeJ
    rw [hgo]
    generalize takeGo 3 era P c (List.range c.nb) = R at *
    split
    · exact ⟨tp.inv, tp.geo, by show R.pool.last ≤ _; rw [Nat.mul_succ]; omega, tp.turn ht, hhi⟩
    · rename_i herr
      have h0 : R.err = 0 := Classical.byContradiction herr
      obtain ⟨_, hdR, hb, hnh, hbad, hhd, hlt⟩ : R.err = 0 ∧ R.chip.dead = false ∧ R.block < c.nb ∧ ¬ isHd c R.block ∧ R.chip.isBad R.block = false ∧ hd R.chip R.block = (⟨3, era, R.pool.last⟩, 0) ∧ P.last < R.pool.last := by
        rcases tp.cases with b | ⟨b, _⟩ | ⟨b, _⟩
        · exact b
        · omega
        · omega
      have hisd : isHd R.chip R.block := by unfold isHd; rw [hhd]
      have hop := op _ hb hnh hisd
      have gnb := tp.geo.1
      have gnp := tp.geo.2.1
      have gsz := tp.geo.2.2.1
      have w := program_wrote tp.inv.ci.ok hdR (by rw [gnb]; exact hb) (k := 1) (by omega) hbad hop (by rw [gsz]; exact hpl)
      obtain ⟨pi, _⟩ := program_inv tp.inv (i := R.block) (k := 1) (by rw [gnb]; exact hb) (by omega) (by omega) (fun _ => hisd) pg
      have e1 : ((1 : Nat) : Int) = 1 := rfl
      rw [e1] at w pi
      generalize R.chip.program R.block 1 pg = r at *
      have hgeo := tp.geo.trans w.deed.geo
      split
      · exact ⟨pi, hgeo, by show R.pool.last ≤ _; rw [Nat.mul_succ]; omega, tp.turn ht, Nat.le_trans w.hits hhi⟩
      · rename_i h9
        have h9' : r.2 = 9 := Classical.byContradiction h9
        have hd9 : r.1.dead = false := by rw [w.dead, if_neg (by omega)]; exact hdR
        have hless := w.less (by omega)
        have g1 := hgeo.1
        obtain ⟨r1, r2, r3, r4, r5⟩ := writeJ_inv he1 he2 n (P := R.pool) (c := r.1) pi hd9 (by rw [hgeo.2.2.1]; exact hpl) (by omega) (by rw [g1]; omega) (by rw [g1]; exact tp.turn ht)
        rw [g1] at r3 r4
        exact ⟨r1, hgeo.trans r2, by rw [Nat.mul_succ]; omega, r4, by omega⟩
theorem jourWrite_inv {P : Pool} {c : Chip} (h : Inv P c) {era : Nat} (he2 : era < 4294967296) (t : Turn) (hl : P.last + c.nb * (c.hits.length + 1) < 18446744073709551616) (ht : P.turn ≤ c.nb) :
    Inv (jourWrite P c era t).1 (jourWrite P c era t).2.1 ∧ c.SameGeo (jourWrite P c era t).2.1 ∧ (jourWrite P c era t).1.last ≤ P.last + c.nb * (c.hits.length + 1) ∧ (jourWrite P c era t).2.1.hits.length ≤ c.hits.length := by
  have hnb := h.ci.ok.nb1
  have hnp := h.ci.ok.np1
  unfold jourWrite
  split
  · exact ⟨h, .refl _, by show P.last ≤ _; omega, Nat.le_refl _⟩
  rename_i hask
  have hask0 : c.ask 0 0 = 0 := Classical.byContradiction hask
  obtain ⟨hd0, _⟩ := ask_zero hask0
  split
  · exact ⟨h, .refl _, by show P.last ≤ _; omega, Nat.le_refl _⟩
  rename_i hput
  have hmay : t.may = true := by
    cases hm : t.may with
    | true => rfl
    | false => exact absurd (.inl (by unfold putTurn; rw [if_pos (.inl hm)]; simp)) hput
  obtain ⟨e, hpl, _⟩ := putTurn_ok h.ci.ok hmay
  rw [e] at hput ⊢
  obtain ⟨r1, r2, r3, r4, r5⟩ := writeJ_inv (era := era) (by omega) he2 (c.hits.length + 1) h hd0 hpl (by omega) hl ht
  exact ⟨r1, r2, r3, r5⟩
/-- whatever strikes: what an away leaves -/
theorem awayJ_inv : ∀ (l : List Taken) {P : Pool} {c : Chip}, Inv P c → c.dead = false → Inv (awayJ l P c).1 (awayJ l P c).2.1 ∧ c.SameGeo (awayJ l P c).2.1 ∧ (awayJ l P c).1.last = P.last ∧ (awayJ l P c).1.turn = P.turn
  | [], P, c, h, hd0 => ⟨h, .refl _, rfl, rfl⟩
  | x :: l, P, c, h, hd0 => by
    unfold awayJ
    split
    · exact awayJ_inv l h hd0
    · by_cases hm : Mine c x.block
      · obtain ⟨e, fp⟩ := free_mine h hd0 hm
        generalize freePool P c x.block = r at *
        split
        · exact ⟨fp.inv, fp.deed.geo, fp.last, fp.turn⟩
        · rename_i he
          have he' : r.2.2 = 0 := Classical.byContradiction he
          have hd1 : r.2.1.dead = false := by
            rcases fp.deed.cases with ⟨_, a, _⟩ | ⟨_, a, _⟩ | ⟨a, _⟩
            · rw [a]; exact hd0
            · rw [a]; exact hd0
            · have := fp.err
              rw [a] at this
              simp at this
              omega
          obtain ⟨r1, r2, r3, r4⟩ := awayJ_inv l fp.inv hd1
          exact ⟨r1, fp.deed.geo.trans r2, r3.trans fp.last, r4.trans fp.turn⟩
      · rw [free_not h hd0 hm, if_pos (by simp)]
        exact ⟨h, .refl _, rfl, rfl⟩
theorem jourAway_inv {P : Pool} {c : Chip} (h : Inv P c) : Inv (jourAway P c).1 (jourAway P c).2.1 ∧ c.SameGeo (jourAway P c).2.1 ∧ (jourAway P c).1.last = P.last := by
  unfold jourAway
  split
  · exact ⟨h, .refl _, rfl⟩
  rename_i hask
  have hask0 : c.ask 0 0 = 0 := Classical.byContradiction hask
  obtain ⟨hd0, _⟩ := ask_zero hask0
  obtain ⟨r1, r2, r3, r4⟩ := awayJ_inv (takenPool P c) h hd0
  exact ⟨r1, r2, r3⟩
theorem free_hits {P : Pool} {c : Chip} (h : Inv P c) (hd0 : c.dead = false) (i : Int) : (freePool P c i).2.1.hits.length ≤ c.hits.length := by
  by_cases hm : Mine c i
  · unfold freePool
    split
    · exact Nat.le_refl _
    · have e : i = (i.toNat : Int) := by have := hm.1; omega
      rw [e]
      exact erase_hits h.ci.ok hd0 (by have := hm.2.1; omega) hm.2.2.2
  · rw [free_not h hd0 hm]
    exact Nat.le_refl _
theorem awayJ_hits : ∀ (l : List Taken) {P : Pool} {c : Chip}, Inv P c → c.dead = false → (awayJ l P c).2.1.hits.length ≤ c.hits.length
  | [], P, c, h, hd0 => Nat.le_refl _
  | x :: l, P, c, h, hd0 => by
    unfold awayJ
    split
    · exact awayJ_hits l h hd0
    · have hf := free_hits h hd0 x.block
      by_cases hm : Mine c x.block
      · obtain ⟨e, fp⟩ := free_mine h hd0 hm
        generalize freePool P c x.block = r at *
        split
        · exact hf
        · rename_i he
          have he' : r.2.2 = 0 := Classical.byContradiction he
          have hd1 : r.2.1.dead = false := by
            rcases fp.deed.cases with ⟨_, a, _⟩ | ⟨_, a, _⟩ | ⟨a, _⟩
            · rw [a]; exact hd0
            · rw [a]; exact hd0
            · have := fp.err
              rw [a] at this
              simp at this
              omega
          exact Nat.le_trans (awayJ_hits l fp.inv hd1) hf
      · rw [free_not h hd0 hm, if_pos (by simp)]
        exact Nat.le_refl _
theorem jourAway_hits {P : Pool} {c : Chip} (h : Inv P c) : (jourAway P c).2.1.hits.length ≤ c.hits.length := by
  unfold jourAway
  split
  · exact Nat.le_refl _
  rename_i hask
  have hask0 : c.ask 0 0 = 0 := Classical.byContradiction hask
  exact awayJ_hits _ h (ask_zero hask0).1
/-! ### A writing without hits -/
theorem write_said {P : Pool} {c : Chip} (h : Inv P c) (hd0 : c.dead = false) (hq : c.hits = []) (ht : P.turn ≤ c.nb) (hl : P.last < 100000) {era : Nat} (he1 : 1 ≤ era) (he2 : era < 4294967296) {t : Turn} (hm : t.may = true) :
    ((jourWrite P c era t).2.2 = 11 ∧ blanksPool P c = 0 ∧ (jourWrite P c era t).2.1.dead = false) ∨ ((jourWrite P c era t).2.2 = 0 ∧ (jourWrite P c era t).2.1.dead = false ∧ CI (jourWrite P c era t).2.1 ∧
      (jourSays (jourWrite P c era t).2.1 era).begun = true ∧ (t.phase = 2 → (jourSays (jourWrite P c era t).2.1 era).done = true) ∧ (jourSays (jourWrite P c era t).2.1 era).turn.phase = 0) := by
  have hnb := h.ci.ok.nb1
  have hnb2 := h.ci.ok.nb2
  have hnp := h.ci.ok.np1
  obtain ⟨e, hpl, hsd, hgp⟩ := putTurn_ok h.ci.ok hm
  have hask : c.ask 0 0 = 0 := ask_ok (i := 0) (k := 0) hd0 (by omega) (by omega)
  unfold jourWrite
  rw [if_neg (by omega), e, if_neg (by simp; omega), hq]
  have tk := taking h hd0 hq ht (kind := 3) (era := era) (by decide) (by decide) he1 he2 hl
  have tpo := takeGo_open (kind := 3) (by decide) (by decide) he1 he2 (List.range c.nb) h hd0 (by simp; omega)
  rw [← takePool_go h.ci.ok hd0 (by decide) (by decide) he1] at tpo
  obtain ⟨op, _⟩ := tpo
  unfold writeJ
  generalize takePool P c 3 era = R at *
  rcases tk.cases with ⟨b1, b2, b3, b4, b5, b6, b7, b8⟩ | ⟨b1, b2, b3, b4⟩
  · right
    rw [if_neg (by omega)]
    have gnb := tk.geo.1
    have gnp := tk.geo.2.1
    have gsz := tk.geo.2.2.1
    have hbad : R.chip.isBad R.block = false := by rw [b6]; exact b5
    have w := program_wrote tk.inv.ci.ok tk.dead (by rw [gnb]; exact b2) (k := 1) (by omega) hbad (op _ b2 b3 b4) (by rw [gsz]; exact hpl)
    obtain ⟨pi, _⟩ := program_inv tk.inv (i := R.block) (k := 1) (by rw [gnb]; exact b2) (by omega) (by omega) (fun _ => b4) (pageOf c.sz 7 t.body)
    have e1 : ((1 : Nat) : Int) = 1 := rfl
    rw [e1] at w pi
    generalize R.chip.program R.block 1 (pageOf c.sz 7 t.body) = r at *
    obtain ⟨q1, q2⟩ := w.deed.quiet tk.hits
    rw [if_pos (by omega)]
    have hdr : r.1.dead = false := by rw [w.dead, if_neg (by omega)]; exact tk.dead
    have hpg := w.ok q1
    have hgeo := tk.geo.trans w.deed.geo
    have hhd0 : r.1.page R.block 0 = R.chip.page R.block 0 := w.other 0 (by omega)
    have hisd : isHd r.1 R.block := by
      unfold isHd hd at b4 ⊢
      rw [hhd0]; exact b4
    have hbadr : r.1.isBad R.block = false := by
      have := (w.deed.calm (by rw [tk.hits]; simp)).2.2
      unfold Chip.isBad at hbad ⊢
      rw [this]; exact hbad
    obtain ⟨si, _⟩ := scan_inv pi.ci hdr
    have hhdx : (hd r.1 R.block).1 = ⟨3, era, R.pool.last⟩ := by
      have hx : (⟨R.block, ⟨3, era, R.pool.last⟩, false⟩ : Taken) ∈ takenPool R.pool R.chip := by rw [b8]; simp
      obtain ⟨m1, m2, m3, m4⟩ := (taken_mem tk.inv tk.dead _).1 hx
      have : hd r.1 R.block = hd R.chip R.block := by unfold hd; rw [hhd0]
      rw [this, ← m3]
    have hx : (⟨R.block, ⟨3, era, R.pool.last⟩, false⟩ : Taken) ∈ takenPool (scanPool r.1) r.1 := by
      rw [taken_mem si hdr]
      exact ⟨by rw [hgeo.1]; exact b2, hisd, hhdx.symm, hbadr.symm⟩
    have hle := saysFold_le r.1 era (takenPool (scanPool r.1) r.1) Saying.zero
    obtain ⟨s0, hs0⟩ := saysFold_at r.1 era (x := ⟨R.block, ⟨3, era, R.pool.last⟩, false⟩) (by simp [isJour]) (k := 0) (by rw [hgeo.2.1]; omega) _ Saying.zero hx
    have hsp : sayPage s0 (r.1.page R.block (0 + 1)) = sayTurn s0 t := by
      rw [Nat.zero_add, hpg]
      exact sayPage_turn h.ci.ok hm s0
    have hs0' : (sayTurn s0 t).Le (jourSays r.1 era) := by rw [← hsp]; exact hs0
    refine ⟨q1, hdr, pi.ci, (hs0'.begun rfl).1, fun h2 => hs0'.done ?_, hle.zero rfl⟩
    unfold sayTurn
    rw [h2]
    simp
  · left
    rw [b1]
    exact ⟨rfl, b4, by rw [if_pos (by omega)]; show R.chip.dead = false; rw [b3]; exact hd0⟩
/-! ### A writing that is cut -/
/-- the heads, if one block alone became another -/
theorem heads_ext {P : Pool} {c c' : Chip} (h : Inv P c) (hd0 : c.dead = false) (h' : CI c') (hg : c.SameGeo c') (hb : ∀ j, c'.isBad j = c.isBad j) {i0 : Nat} (hoth : ∀ j, j ≠ i0 → c'.blk j = c.blk j) (hk : isHd c i0 → c'.blk i0 = c.blk i0)
    (hnew : i0 < c.nb → ¬ isHd c i0 → isHd c' i0 → P.last < (hd c' i0).1.seq) :
    takenPool (scanPool c'.power) c'.power = takenPool P c ∨ (i0 < c.nb ∧ ¬ isHd c i0 ∧ isHd c' i0 ∧ takenPool (scanPool c'.power) c'.power = takenPool P c ++ [⟨i0, (hd c' i0).1, c'.isBad i0⟩]) := by
  have hs' := taken_sorted (scan_inv (power_ci h') rfl).1 rfl
  have hs := taken_sorted h hd0
  by_cases hc : i0 < c.nb ∧ ¬ isHd c i0 ∧ isHd c' i0
  · right
    refine ⟨hc.1, hc.2.1, hc.2.2, sorted_ext (f := fun t : Taken => t.head.seq) hs' (Pairwise_append_one hs fun y hy => ?_) fun x => ?_⟩
    · obtain ⟨m1, m2, m3, m4⟩ := (taken_mem h hd0 y).1 hy
      have := h.last _ m1 m2
      rw [← m3] at this
      have := hnew hc.1 hc.2.1 hc.2.2
      show y.head.seq < (hd c' i0).1.seq
      omega
    · rw [now_mem h', List.mem_append, taken_mem h hd0, List.mem_singleton]
      constructor
      · rintro ⟨m1, m2, m3, m4⟩
        rw [hg.1] at m1
        by_cases he : x.block = i0
        · refine .inr ?_
          cases x
          simp only at he m3 m4
          subst he
          rw [m3, m4]
        · have hh := hd_blk hg (hoth _ he)
          exact .inl ⟨m1, (isHd_blk hg (hoth _ he)).1 m2, by rw [m3, hh], by rw [m4, hb]⟩
      · rintro (⟨m1, m2, m3, m4⟩ | rfl)
        · have he : x.block ≠ i0 := fun e => hc.2.1 (e ▸ m2)
          have hh := hd_blk hg (hoth _ he)
          exact ⟨by rw [hg.1]; exact m1, (isHd_blk hg (hoth _ he)).2 m2, by rw [m3, hh], by rw [m4, hb]⟩
        · exact ⟨by rw [hg.1]; exact hc.1, hc.2.2, rfl, rfl⟩
  · left
    have key : ∀ j, j < c.nb → (isHd c' j ↔ isHd c j) ∧ (isHd c j → hd c' j = hd c j) := by
      intro j hj
      by_cases he : j = i0
      · subst he
        by_cases hh : isHd c j
        · have := hk hh
          exact ⟨isHd_blk hg this, fun _ => hd_blk hg this⟩
        · exact ⟨⟨fun h' => absurd ⟨hj, hh, h'⟩ hc, fun h' => absurd h' hh⟩, fun h' => absurd h' hh⟩
      · exact ⟨isHd_blk hg (hoth _ he), fun _ => hd_blk hg (hoth _ he)⟩
    refine sorted_ext (f := fun t : Taken => t.head.seq) hs' hs fun x => ?_
    rw [now_mem h', taken_mem h hd0]
    constructor
    · rintro ⟨m1, m2, m3, m4⟩
      rw [hg.1] at m1
      obtain ⟨k1, k2⟩ := key _ m1
      exact ⟨m1, k1.1 m2, by rw [m3, k2 (k1.1 m2)], by rw [m4, hb]⟩
    · rintro ⟨m1, m2, m3, m4⟩
      obtain ⟨k1, k2⟩ := key _ m1
      exact ⟨by rw [hg.1]; exact m1, k1.2 m2, by rw [m3, k2 m2], by rw [m4, hb]⟩
theorem sayBlk_open {c : Chip} (ho : c.Ok) {i : Nat} (hi : i < c.nb) : ∀ {m : Nat} {n : Nat} (s : Saying), OpenFrom c i (m + 1) → n < c.np → m ≤ n → sayBlk c i n s = sayBlk c i m s
  | m, 0, s, _, _, hm => by
    have : m = 0 := by omega
    subst this; rfl
  | m, n + 1, s, h, hn, hm => by
    by_cases e : m = n + 1
    · subst e; rfl
    · rw [sayBlk_succ, sayBlk_open ho hi s h (by omega) (by omega), h.page ho hi (by omega) hn, sayPage_blank]
theorem fold_power (c : Chip) (era : Nat) (l : List Taken) (s : Saying) : l.foldl (fun s x => if isJour era x then sayBlk c.power x.block (c.power.np - 1) s else s) s = l.foldl (fun s x => if isJour era x then sayBlk c x.block (c.np - 1) s else s) s := rfl
theorem cut_said {P : Pool} {c : Chip} (h : Inv P c) (hd0 : c.dead = false) (hcalm : ∀ t ∈ c.hits, t.fails = false) (ht : P.turn ≤ c.nb) (hl : P.last < 100000) (hh : c.hits.length ≤ 1000) {era : Nat} (he1 : 1 ≤ era) (he2 : era < 4294967296) {t : Turn} (hm : t.may = true) {s : Saying} (hs : s = saysL c era (takenPool P c)) :
    jourSays (jourWrite P c era t).2.1.power era = s ∨ jourSays (jourWrite P c era t).2.1.power era = sayTurn s t := by
  have hnb := h.ci.ok.nb1
  have hnb2 := h.ci.ok.nb2
  have hnp := h.ci.ok.np1
  obtain ⟨e, hpl, hsd, hgp⟩ := putTurn_ok h.ci.ok hm
  have hask : c.ask 0 0 = 0 := ask_ok (i := 0) (k := 0) hd0 (by omega) (by omega)
  unfold jourWrite
  rw [if_neg (by omega), e, if_neg (by simp; omega)]
  have hgo := takePool_go (P := P) h.ci.ok hd0 (kind := 3) (era := era) (by decide) (by decide) he1
  have tp := takeGo_inv (kind := 3) (by decide) (by decide) he1 he2 (List.range c.nb) h hd0 (by simp; omega)
  obtain ⟨op, _⟩ := takeGo_open (kind := 3) (by decide) (by decide) he1 he2 (List.range c.nb) h hd0 (by simp; omega)
  have nw := takeGo_new (kind := 3) (by decide) (by decide) he1 he2 (List.range c.nb) h hd0 (by simp; omega)
  unfold writeJ
  rw [hgo]
  generalize takeGo 3 era P c (List.range c.nb) = R at *
  obtain ⟨hcalm1, hbad1, i0, hoth⟩ := tp.calm hcalm
  have hb1 : ∀ j, R.chip.isBad j = c.isBad j := fun j => by unfold Chip.isBad; rw [hbad1]
  -- what is said of a chip in which the block i0 alone is another
  have fin : ∀ {c' : Chip}, CI c' → c.SameGeo c' → (∀ j, c'.isBad j = c.isBad j) → (∀ j, j ≠ i0 → c'.blk j = c.blk j) → (isHd c i0 → c'.blk i0 = c.blk i0) → (i0 < c.nb → ¬ isHd c i0 → isHd c' i0 → P.last < (hd c' i0).1.seq) →
      (i0 < c.nb → ¬ isHd c i0 → isHd c' i0 → OpenFrom c' i0 2 ∧ (c'.page i0 1 = List.replicate c.sz 255 ∨ SubL (pageOf c.sz 7 t.body) (c'.page i0 1))) → jourSays c'.power era = s ∨ jourSays c'.power era = sayTurn s t := by
    intro c' hci hg hb ho hk hn hpage
    have hpre : ∀ z, (takenPool P c).foldl (fun s x => if isJour era x then sayBlk c' x.block (c'.np - 1) s else s) z = (takenPool P c).foldl (fun s x => if isJour era x then sayBlk c x.block (c.np - 1) s else s) z := by
      intro z
      refine saysFold_congr hg.2.1 era z fun x hx _ k => page_blk hg ?_
      by_cases he : x.block = i0
      · obtain ⟨_, m2, _⟩ := (taken_mem h hd0 x).1 hx
        rw [he] at m2 ⊢
        exact hk m2
      · exact ho _ he
    have hsay : jourSays c'.power era = (takenPool (scanPool c'.power) c'.power).foldl (fun s x => if isJour era x then sayBlk c' x.block (c'.np - 1) s else s) Saying.zero := fold_power c' era _ _
    rw [hsay]
    rcases heads_ext h hd0 hci hg hb ho hk hn with e | ⟨c1, c2, c3, e⟩
    · left
      rw [e, hpre, hs]
      rfl
    · rw [e, List.foldl_append, hpre]
      have hz : (takenPool P c).foldl (fun s x => if isJour era x then sayBlk c x.block (c.np - 1) s else s) Saying.zero = s := hs.symm
      rw [hz]
      simp only [List.foldl_cons, List.foldl_nil]
      obtain ⟨p1, p2⟩ := hpage c1 c2 c3
      split
      · have hi' : i0 < c'.nb := by rw [hg.1]; exact c1
        have hnp' := hg.2.1
        have e1 : sayBlk c' i0 (c'.np - 1) s = sayPage s (c'.page i0 1) := by
          rw [sayBlk_open hci.ok hi' (m := 1) s p1 (by omega) (by omega), sayBlk_succ]
          rfl
        rw [e1]
        rcases p2 with p2 | p2
        · left; rw [p2, sayPage_blank]
        · exact sayPage_sub h.ci.ok hm p2 s
      · exact .inl rfl
  have take_fin : jourSays R.chip.power era = s ∨ jourSays R.chip.power era = sayTurn s t :=
    fin tp.inv.ci tp.geo hb1 hoth (fun hh' => by
      by_cases hi : i0 < c.nb
      · exact (tp.kept i0 hi hh').1
      · have e1 : R.chip.blk i0 = [] := by unfold Chip.blk; rw [List.getD, List.getElem?_eq_none (by rw [tp.inv.ci.ok.bl, tp.geo.1]; omega)]; rfl
        have e2 : c.blk i0 = [] := by unfold Chip.blk; rw [List.getD, List.getElem?_eq_none (by rw [h.ci.ok.bl]; omega)]; rfl
        rw [e1, e2]) (fun hi h1 h2 => (nw i0 hi h1 h2).2.2) (fun hi h1 h2 => by
      have hop := op i0 hi h1 h2
      have g := tp.geo.2.2.1
      have := hop.page tp.inv.ci.ok (by rw [tp.geo.1]; exact hi) (Nat.le_refl _) (by rw [tp.geo.2.1]; omega)
      rw [g] at this
      exact ⟨hop.mono (by omega), .inl this⟩)
  split
  · exact take_fin
  · rename_i herr
    have h0 : R.err = 0 := Classical.byContradiction herr
    obtain ⟨_, hdR, hb, hnh, hbad, hhd, hlt⟩ : R.err = 0 ∧ R.chip.dead = false ∧ R.block < c.nb ∧ ¬ isHd c R.block ∧ R.chip.isBad R.block = false ∧ hd R.chip R.block = (⟨3, era, R.pool.last⟩, 0) ∧ P.last < R.pool.last := by
      rcases tp.cases with b | ⟨b, _⟩ | ⟨b, _⟩
      · exact b
      · omega
      · omega
    have hisd : isHd R.chip R.block := by unfold isHd; rw [hhd]
    have hbi : R.block = i0 := by
      by_cases e : R.block = i0
      · exact e
      · exact absurd ((isHd_blk tp.geo (hoth _ e)).1 hisd) hnh
    have hop := op _ hb hnh hisd
    have gnb := tp.geo.1
    have gnp := tp.geo.2.1
    have gsz := tp.geo.2.2.1
    have w := program_wrote tp.inv.ci.ok hdR (by rw [gnb]; exact hb) (k := 1) (by omega) hbad hop (by rw [gsz]; exact hpl)
    obtain ⟨pi, _⟩ := program_inv tp.inv (i := R.block) (k := 1) (by rw [gnb]; exact hb) (by omega) (by omega) (fun _ => hisd) (pageOf c.sz 7 t.body)
    have e1 : ((1 : Nat) : Int) = 1 := rfl
    rw [e1] at w pi
    generalize R.chip.program R.block 1 (pageOf c.sz 7 t.body) = r at *
    obtain ⟨n9, _, hbad2⟩ := w.deed.calm hcalm1
    rw [if_pos n9]
    have hhd0 : r.1.page R.block 0 = R.chip.page R.block 0 := w.other 0 (by omega)
    rw [← hbi] at fin hoth
    have hhdr : hd r.1 R.block = hd R.chip R.block := by unfold hd; rw [hhd0]
    refine fin pi.ci (tp.geo.trans w.deed.geo) (fun j => by unfold Chip.isBad; rw [hbad2, hbad1]) (fun j hj => by rw [w.deed.blk j hj, hoth j hj]) (fun h' => absurd h' hnh) (fun _ _ _ => ?_) (fun _ _ _ => ⟨w.open_, .inr w.sub⟩)
    rw [hhdr, hhd]
    exact hlt
/-! ### Away without hits -/
def isAway (x : Taken) : Bool := decide (x.head.kind = 3) && !x.bad
theorem free_taken {P : Pool} {c : Chip} (h : Inv P c) (hd0 : c.dead = false) (hq : c.hits = []) {x : Taken} (hx : x ∈ takenPool P c) (hb : x.bad = false) :
    Inv (freePool P c x.block).1 (freePool P c x.block).2.1 ∧ (freePool P c x.block).2.1.dead = false ∧ (freePool P c x.block).2.1.hits = [] ∧ (freePool P c x.block).2.2 = 0 ∧ c.SameGeo (freePool P c x.block).2.1 ∧
      takenPool (freePool P c x.block).1 (freePool P c x.block).2.1 = (takenPool P c).filter fun y => !decide (y.block = x.block) := by
  obtain ⟨m1, m2, m3, m4⟩ := (taken_mem h hd0 x).1 hx
  have hm : Mine c x.block := ⟨by omega, by omega, by simpa using m2, by simpa [hb] using m4.symm⟩
  obtain ⟨e, fp⟩ := free_mine h hd0 hm
  rw [Int.toNat_natCast] at fp
  generalize freePool P c x.block = r at *
  obtain ⟨q1, q2⟩ := fp.deed.quiet hq
  have hdr : r.2.1.dead = false := by
    rcases fp.deed.cases with ⟨_, a, _⟩ | ⟨_, a, _⟩ | ⟨a, _⟩
    · rw [a]; exact hd0
    · rw [a]; exact hd0
    · omega
  have hbad := (fp.deed.calm (by rw [hq]; simp)).2.2
  have hbb : ∀ j, r.2.1.isBad j = c.isBad j := fun j => by unfold Chip.isBad; rw [hbad]
  refine ⟨fp.inv, hdr, q2, by rw [fp.err, if_neg (by omega)]; exact q1, fp.deed.geo, ?_⟩
  refine sorted_ext (f := fun t : Taken => t.head.seq) (taken_sorted fp.inv hdr) ((taken_sorted h hd0).filter _) fun y => ?_
  rw [taken_mem fp.inv hdr, List.mem_filter, taken_mem h hd0]
  constructor
  · rintro ⟨k1, k2, k3, k4⟩
    rw [fp.deed.geo.1] at k1
    have hne : y.block ≠ x.block := fun e' => fp.gone q1 (e' ▸ k2)
    have hh := hd_blk fp.deed.geo (fp.deed.blk _ hne)
    exact ⟨⟨k1, (isHd_blk fp.deed.geo (fp.deed.blk _ hne)).1 k2, by rw [k3, hh], by rw [k4, hbb]⟩, by simp [hne]⟩
  · rintro ⟨⟨k1, k2, k3, k4⟩, hne⟩
    have hne : y.block ≠ x.block := by simpa using hne
    have hh := hd_blk fp.deed.geo (fp.deed.blk _ hne)
    exact ⟨by rw [fp.deed.geo.1]; exact k1, (isHd_blk fp.deed.geo (fp.deed.blk _ hne)).2 k2, by rw [k3, hh], by rw [k4, hbb]⟩
theorem filter_all {α : Type} {p : α → Bool} {l : List α} (h : ∀ a ∈ l, p a = true) : l.filter p = l := List.filter_eq_self.2 h
theorem awayJ_said : ∀ (l : List Taken) {P : Pool} {c : Chip}, Inv P c → c.dead = false → c.hits = [] → (∀ x ∈ l, x ∈ takenPool P c) → l.Nodup →
    Inv (awayJ l P c).1 (awayJ l P c).2.1 ∧ (awayJ l P c).2.1.dead = false ∧ (awayJ l P c).2.2 = 0 ∧ takenPool (awayJ l P c).1 (awayJ l P c).2.1 = (takenPool P c).filter fun y => !(l.any fun x => isAway x && decide (y.block = x.block))
  | [], P, c, h, hd0, hq, hl, hn => ⟨h, hd0, rfl, (filter_all (by simp)).symm⟩
  | x :: l, P, c, h, hd0, hq, hl, hn => by
    obtain ⟨n1, n2⟩ := List.nodup_cons.1 hn
    unfold awayJ
    by_cases ha : isAway x = true
    · have ha' := ha
      simp only [isAway, Bool.and_eq_true, decide_eq_true_eq, Bool.not_eq_true'] at ha'
      rw [if_neg (by rintro (e | e); exact e ha'.1; rw [ha'.2] at e; cases e)]
      obtain ⟨f1, f2, f3, f4, f5, f6⟩ := free_taken h hd0 hq (hl x (by simp)) ha'.2
      generalize freePool P c x.block = r at *
      rw [if_neg (by omega)]
      have hsub : ∀ y ∈ l, y ∈ takenPool r.1 r.2.1 := by
        intro y hy
        rw [f6, List.mem_filter]
        refine ⟨hl y (by simp [hy]), ?_⟩
        have hne : y.block ≠ x.block := by
          intro e
          obtain ⟨_, _, y3, y4⟩ := (taken_mem h hd0 y).1 (hl y (by simp [hy]))
          obtain ⟨_, _, x3, x4⟩ := (taken_mem h hd0 x).1 (hl x (by simp))
          refine n1 ?_
          have : x = y := by
            rw [e, ← x3] at y3
            rw [e, ← x4] at y4
            cases x
            cases y
            simp only at e y3 y4
            subst e y3 y4
            rfl
          rw [this]; exact hy
        simp [hne]
      obtain ⟨r1, r2, r3, r4⟩ := awayJ_said l f1 f2 f3 hsub n2
      refine ⟨r1, r2, r3, ?_⟩
      rw [r4, f6, List.filter_filter]
      refine List.filter_congr fun y hy => ?_
      rw [List.any_cons, ha]
      cases decide (y.block = x.block) <;> simp
    · have ha' : isAway x = false := by simpa using ha
      rw [if_pos]
      · obtain ⟨r1, r2, r3, r4⟩ := awayJ_said l h hd0 hq (fun y hy => hl y (by simp [hy])) n2
        refine ⟨r1, r2, r3, ?_⟩
        rw [r4]
        refine List.filter_congr fun y hy => ?_
        rw [List.any_cons, ha']
        simp
      · cases hb : x.bad with
        | true => exact .inr rfl
        | false =>
          left
          intro e
          rw [isAway, hb, decide_eq_true e] at ha'
          cases ha'
theorem jourAway_said {P : Pool} {c : Chip} (h : Inv P c) (hd0 : c.dead = false) (hq : c.hits = []) :
    Inv (jourAway P c).1 (jourAway P c).2.1 ∧ (jourAway P c).2.1.dead = false ∧ (jourAway P c).2.2 = 0 ∧ takenPool (jourAway P c).1 (jourAway P c).2.1 = (takenPool P c).filter fun y => !isAway y := by
  have hnb := h.ci.ok.nb1
  have hnp := h.ci.ok.np1
  have hask : c.ask 0 0 = 0 := ask_ok (i := 0) (k := 0) hd0 (by omega) (by omega)
  unfold jourAway
  rw [if_neg (by omega)]
  obtain ⟨r1, r2, r3, r4⟩ := awayJ_said (takenPool P c) h hd0 hq (fun x hx => hx) (rising_nodup (taken_sorted h hd0))
  refine ⟨r1, r2, r3, ?_⟩
  rw [r4]
  refine List.filter_congr fun y hy => ?_
  congr 1
  cases ha : isAway y with
  | true =>
    rw [List.any_eq_true]
    exact ⟨y, hy, by rw [ha]; simp⟩
  | false =>
    rw [List.any_eq_false]
    intro x hx hh
    simp only [Bool.and_eq_true, decide_eq_true_eq] at hh
    obtain ⟨_, _, y3, y4⟩ := (taken_mem h hd0 y).1 hy
    obtain ⟨_, _, x3, x4⟩ := (taken_mem h hd0 x).1 hx
    rw [hh.2] at y3 y4
    rw [isAway, y3, y4, ← x3, ← x4] at ha
    rw [isAway] at hh
    rw [hh.1] at ha
    cases ha
end Go.Den
end
section
set_option linter.unusedVariables false
set_option linter.unusedSimpArgs false
set_option maxRecDepth 4000
namespace Go.Den
theorem jour_may_spec (t : Turn) (w : World) : CallsR prog K.jour_may #[turnV t] w fun v w' => v = .bool t.may ∧ Ext w w' := by
  apply jour_may.sh
  unfold jour_may.body
  simp only [add_lit, Nat.zero_add]
  intro B1 w1 hn1
  refine ⟨_, cell_of hn1.get rfl, new_put rfl fun B2 w3 hB2 hs3 he3 hg3 => ?_⟩
  have g3 := he3.get hn1.get
  refine ⟨_, cell_of g3 rfl, new_put rfl fun B3 w5 hB5 hs5 he5 hg5 => ?_⟩
  have g5 := he5.get g3
  have hE : Ext w w5 := (hn1.upd.trans he3).trans he5
  refine ⟨_, _, _, cells_all g5, _, _, _, cells_all (he5.get hg3), ?_⟩
  have e : t.may = (((t.from_ == 1) && (t.to == 2) || (t.from_ == 2) && (t.to == 1)) && ((t.phase == 1) || (t.phase == 2))) := rfl
  simp only [u8e1, u8e2, u8b, beq_self_eq_true, Bool.and_true, e]
  refine br_intro (fun h => ?_) fun h => ?_
  · rw [h]
    refine ⟨_, cell_of g5 rfl, ?_⟩
    rw [u8e1]
    refine br_intro (fun h1 => ?_) fun h1 => ?_
    · rw [h1]; exact ⟨rfl, hE⟩
    · refine ⟨_, cell_of g5 rfl, ?_⟩
      rw [u8e2, h1]
      exact ⟨by simp, hE⟩
  · refine ⟨_, _, _, cells_all g5, _, _, _, cells_all hg5, ?_⟩
    simp only [u8e1, u8e2, u8b, beq_self_eq_true, Bool.and_true]
    rw [h]
    refine br_intro (fun h2 => ?_) fun h2 => ?_
    · rw [h2]
      refine ⟨_, cell_of g5 rfl, ?_⟩
      rw [u8e1]
      refine br_intro (fun h1 => ?_) fun h1 => ?_
      · rw [h1]; exact ⟨rfl, hE⟩
      · refine ⟨_, cell_of g5 rfl, ?_⟩
        rw [u8e2, h1]
        exact ⟨by simp, hE⟩
    · rw [h2]
      exact ⟨rfl, hE⟩
theorem carrackref22_May_spec (t : Turn) (w : World) : CallsR prog K.carrackref22_May #[turnV t] w fun v w' => v = .bool t.may ∧ Ext w w' := by
  apply carrackref22_May.sh
  unfold carrackref22_May.body
  simp only [add_lit, Nat.zero_add]
  intro B1 w1 hn1
  have g := hn1.get
  have hE := hn1.upd
  have e : t.may = (((t.from_ == 1) && (t.to == 2) || (t.from_ == 2) && (t.to == 1)) && ((t.phase == 1) || (t.phase == 2))) := rfl
  have fin : ∀ {y : Bool}, y = true → (∃ x : Int, World.cell? w1 ⟨B1, 2, none⟩ = some (Value.int .u8 x) ∧ br (x == 1) ((fun v w' => v = .bool ((y) && ((t.phase == 1) || (t.phase == 2))) ∧ Ext w w') (Value.bool true) w1)
      (∃ x : Int, World.cell? w1 ⟨B1, 2, none⟩ = some (Value.int .u8 x) ∧ (fun v w' => v = .bool (y && ((t.phase == 1) || (t.phase == 2))) ∧ Ext w w') (Value.bool (x == 2)) w1)) := by
    rintro y rfl
    refine ⟨_, cell_of g rfl, ?_⟩
    rw [u8e1]
    refine br_intro (fun h1 => ?_) fun h1 => ?_
    · rw [h1]; exact ⟨rfl, hE⟩
    · refine ⟨_, cell_of g rfl, ?_⟩
      rw [u8e2, h1]
      exact ⟨by simp, hE⟩
  simp only [e]
  refine ⟨_, cell_of g rfl, ?_⟩
  rw [u8e1]
  refine br_intro (fun h1 => ?_) fun h1 => ?_
  · refine ⟨_, cell_of g rfl, ?_⟩
    rw [u8e2]
    refine br_intro (fun h2 => fin (by rw [h1, h2]; rfl)) fun h2 => ?_
    refine ⟨_, cell_of g rfl, ?_⟩
    rw [u8e2]
    refine br_intro (fun h3 => ?_) fun h3 => ?_
    · rw [beq_iff_eq] at h1 h3
      rw [h1] at h3
      cases h3
    · rw [h1, h2, h3]; exact ⟨by simp, hE⟩
  · refine ⟨_, cell_of g rfl, ?_⟩
    rw [u8e2]
    refine br_intro (fun h2 => ?_) fun h2 => ?_
    · refine ⟨_, cell_of g rfl, ?_⟩
      rw [u8e1]
      refine br_intro (fun h3 => fin (by rw [h1, h2, h3]; rfl)) fun h3 => ?_
      rw [h1, h2, h3]; exact ⟨by simp, hE⟩
    · rw [h1, h2]; exact ⟨by simp, hE⟩
/-- what seal.Put gives of a turn's body -/
theorem put_turn_is {size : Int} {t : Turn} (hm : t.may = true) {w w₀ w' : World} {v : Value} (hf : w₀.heap.size ≤ w.heap.size)
    (h : if isSize size = false ∨ (7 : UInt8) < 1 ∨ (7 : UInt8) > 7 then v = .tuple #[.slice none 0 0, .int .i64 2]
      else if (t.body.length : Int) > size - 5 then v = .tuple #[.slice none 0 0, .int .i64 3]
      else ∃ a c, v = .tuple #[.slice a size.toNat c, .int .i64 0] ∧ BytesAt w' a (pageOf size.toNat 7 t.body) ∧ Fresh w a ∧ size.toNat ≤ c) : PutIs w₀ w' v (putTurn size t) := by
  unfold putTurn
  cases hs : isSize size with
  | false =>
    rw [hs, if_pos (.inl rfl)] at h
    rw [if_pos (.inr rfl)]
    exact ⟨none, 0, h, BytesAt.nil _ _, Fresh.none _, Nat.le_refl _⟩
  | true =>
    have hb : t.body.length = 3 := rfl
    have hs' := hs
    simp [isSize] at hs'
    rw [hs, if_neg (by decide), if_neg (by rw [hb]; omega)] at h
    rw [if_neg (by rw [hm]; simp)]
    obtain ⟨a, c, rfl, h1, h2, h3⟩ := h
    have hl : (pageOf size.toNat 7 t.body).length = size.toNat := pageOf_length _ _ _ (by rw [hb]; omega)
    refine ⟨a, c, ?_, h1, h2.mono hf, by show (pageOf size.toNat 7 t.body).length ≤ c; rw [hl]; exact h3⟩
    show _ = Value.tuple #[.slice a (pageOf size.toNat 7 t.body).length c, _]
    rw [hl]
    rfl
theorem jour_Put_spec (size : Int) (t : Turn) (w : World) : CallsR prog K.jour_Put #[.int .i64 size, turnV t] w fun v w' => Ext w w' ∧ PutIs w w' v (putTurn size t) := by
  apply jour_Put.sh
  unfold jour_Put.body
  simp only [add_lit, Nat.zero_add]
  intro B1 w1 hn1
  refine ⟨_, _, _, cells_all hn1.get, ?_⟩
  refine (jour_may_spec t w1).mono ?_
  rintro _ w2 ⟨rfl, he2⟩
  refine ⟨_, rfl, ?_⟩
  have e2 := hn1.upd.trans he2
  have g2 := he2.get hn1.get
  refine br_intro (fun h => ?_) fun h => ?_
  · refine ⟨e2, none, 0, ?_, ?_⟩
    · unfold putTurn
      rw [if_pos (.inl (by simpa using h))]
      rfl
    · unfold putTurn
      rw [if_pos (.inl (by simpa using h))]
      exact ⟨BytesAt.nil _ _, Fresh.none _, Nat.le_refl _⟩
  · have hm : t.may = true := by simpa using h
    refine ⟨_, cell_of g2 rfl, _, cell_of g2 rfl, _, cell_of g2 rfl, fun B2 w3 hn3 => ?_⟩
    have hb : BytesAt w3 (some ⟨B2, 0, none⟩) t.body := RowAt.of hn3.get fun j v hj => by
      unfold Turn.body at hj
      simpa using hj
    refine (seal_Put_spec size 7 7 rfl (c := 3) hb (by show 3 ≤ _; omega)).mono ?_
    rintro _ w4 ⟨he4, hv⟩
    have hs3 := (e2.trans hn3.upd).size
    obtain ⟨a, c, rfl, h1, h2, h3⟩ := put_turn_is hm (w₀ := w) hs3 hv
    exact ⟨_, _, _, _, rfl, (e2.trans hn3.upd).trans he4, a, c, rfl, h1, h2, h3⟩
theorem carrackref22_Put_spec (size : Int) (t : Turn) (w : World) (hsz : size < 9223372036854775808) (hsz0 : -9223372036854775808 ≤ size) : CallsR prog K.carrackref22_Put #[.int .i64 size, turnV t] w fun v w' => Ext w w' ∧ PutIs w w' v (putTurn size t) := by
  apply carrackref22_Put.sh
  unfold carrackref22_Put.body
  simp only [add_lit, Nat.zero_add]
  intro B1 w1 hn1
  refine ⟨_, _, _, cells_all hn1.get, ?_⟩
  refine (carrackref22_May_spec t w1).mono ?_
  rintro _ w2 ⟨rfl, he2⟩
  refine ⟨_, rfl, ?_⟩
  have e2 := hn1.upd.trans he2
  have g2 := he2.get hn1.get
  refine br_intro (fun h => ?_) fun h => ?_
  · refine ⟨e2, none, 0, ?_, ?_⟩
    · unfold putTurn
      rw [if_pos (.inl (by simpa using h))]
      rfl
    · unfold putTurn
      rw [if_pos (.inl (by simpa using h))]
      exact ⟨BytesAt.nil _ _, Fresh.none _, Nat.le_refl _⟩
  · have hm : t.may = true := by simpa using h
    refine ⟨_, cell_of g2 rfl, _, cell_of g2 rfl, _, cell_of g2 rfl, fun B2 w3 hn3 => ?_⟩
    have hb : BytesAt w3 (some ⟨B2, 0, none⟩) t.body := RowAt.of hn3.get fun j v hj => by
      unfold Turn.body at hj
      simpa using hj
    refine (carrackref02_Put_spec size 7 7 rfl (c := 3) hb (by show 3 ≤ _; omega) hsz hsz0).mono ?_
    rintro _ w4 ⟨he4, hv⟩
    have hs3 := (e2.trans hn3.upd).size
    obtain ⟨a, c, rfl, h1, h2, h3⟩ := put_turn_is hm (w₀ := w) hs3 hv
    exact ⟨_, _, _, _, rfl, (e2.trans hn3.upd).trans he4, a, c, rfl, h1, h2, h3⟩
theorem getTurn_three {b : List UInt8} (h : b.length = 3) : getTurn b = if (Turn.mk (b.getD 0 0) (b.getD 1 0) (b.getD 2 0)).may = false then (Turn.zero, 5) else (⟨b.getD 0 0, b.getD 1 0, b.getD 2 0⟩, 0) := by
  unfold getTurn
  rw [if_neg (by omega)]
theorem jour_Get_spec {a : Option Addr} {b : List UInt8} {c : Nat} {w : World} (h : BytesAt w a b) :
    CallsR prog K.jour_Get #[.slice a b.length c] w fun v w' => Ext w w' ∧ v = .tuple #[turnV (getTurn b).1, .int .i64 ((getTurn b).2 : Nat)] := by
  apply jour_Get.sh
  unfold jour_Get.body
  intro B1 w1 hn1
  refine br_ne (fun hne => ?_) fun heq => ?_
  · refine put_all hn1.get rfl fun w2 hu2 hs2 hg2 => ?_
    refine ⟨_, _, _, cells_all hg2, Upd.beyond hn1.upd hu2 (fun x hx => by have := hn1.num; omega), ?_⟩
    unfold getTurn
    rw [if_pos (by omega)]
    rfl
  · have hl : b.length = 3 := by omega
    intro w3 hd3
    have hb3 := RowAt.ext (RowAt.ext h hn1.upd) hd3.upd
    refine ⟨fun u => Ext w3 u, Upd.refl _ _, ?_⟩
    have hS : ∃ u, (fun u => Ext w3 u) u := ⟨w3, Upd.refl _ _⟩
    refine idx_byteS (l := b) (fun u hu => RowAt.ext hb3 hu) hS (by omega) (by omega) ?_
    refine idx_byteS (l := b) (fun u hu => RowAt.ext hb3 hu) hS (by omega) (by omega) ?_
    refine idx_byteS (l := b) (fun u hu => RowAt.ext hb3 hu) hS (by omega) (by omega) ?_
    intro B2 w4 hn4
    refine ⟨hn4.upd, ?_⟩
    refine put_all hn4.get rfl fun w5 hu5 hs5 hg5 => ?_
    have e5 : Ext w3 w5 := Upd.beyond hn4.upd hu5 (fun x hx => by have := hn4.num; omega)
    have e5' : Ext w w5 := (hn1.upd.trans hd3.upd).trans e5
    refine ⟨_, _, _, cells_all hg5, ?_⟩
    refine (jour_may_spec ⟨b.getD 0 0, b.getD 1 0, b.getD 2 0⟩ w5).mono ?_
    rintro _ w6 ⟨rfl, he6⟩
    refine ⟨_, rfl, ?_⟩
    have g6 : w6.heap[B1]? = _ := he6.get (e5.get (Ext.get hd3.upd hn1.get))
    have e6 := e5'.trans he6
    have hB1 : B1 = w.heap.size := hn1.num
    rw [getTurn_three hl]
    refine br_intro (fun hm => ?_) fun hm => ?_
    · refine put_all g6 rfl fun w7 hu7 hs7 hg7 => ?_
      refine ⟨_, _, _, cells_all hg7, Upd.beyond e6 hu7 (fun x hx => by omega), ?_⟩
      rw [if_pos (by simpa using hm)]
      rfl
    · refine ⟨_, _, _, cells_all (he6.get hg5), ?_⟩
      refine put_all g6 rfl fun w8 hu8 hs8 hg8 => ?_
      refine ⟨_, _, _, cells_all hg8, Upd.beyond e6 hu8 (fun x hx => by omega), ?_⟩
      rw [if_neg (by have : Turn.may ⟨b.getD 0 0, b.getD 1 0, b.getD 2 0⟩ = true := by simpa using hm
                     rw [this]; simp)]
      rfl
theorem carrackref22_Get_spec {a : Option Addr} {b : List UInt8} {c : Nat} {w : World} (h : BytesAt w a b) :
    CallsR prog K.carrackref22_Get #[.slice a b.length c] w fun v w' => Ext w w' ∧ v = .tuple #[turnV (getTurn b).1, .int .i64 ((getTurn b).2 : Nat)] := by
  apply carrackref22_Get.sh
  unfold carrackref22_Get.body
  intro B1 w1 hn1
  refine br_ne (fun hne => ?_) fun heq => ?_
  · refine put_all hn1.get rfl fun w2 hu2 hs2 hg2 => ?_
    refine ⟨_, _, _, cells_all hg2, Upd.beyond hn1.upd hu2 (fun x hx => by have := hn1.num; omega), ?_⟩
    unfold getTurn
    rw [if_pos (by omega)]
    rfl
  · have hl : b.length = 3 := by omega
    intro w3 hd3
    have hb3 := RowAt.ext (RowAt.ext h hn1.upd) hd3.upd
    refine ⟨fun u => Ext w3 u, Upd.refl _ _, ?_⟩
    have hS : ∃ u, (fun u => Ext w3 u) u := ⟨w3, Upd.refl _ _⟩
    refine idx_byteS (l := b) (fun u hu => RowAt.ext hb3 hu) hS (by omega) (by omega) ?_
    refine idx_byteS (l := b) (fun u hu => RowAt.ext hb3 hu) hS (by omega) (by omega) ?_
    refine idx_byteS (l := b) (fun u hu => RowAt.ext hb3 hu) hS (by omega) (by omega) ?_
    intro B2 w4 hn4
    refine ⟨hn4.upd, ?_⟩
    refine put_all hn4.get rfl fun w5 hu5 hs5 hg5 => ?_
    have e5 : Ext w3 w5 := Upd.beyond hn4.upd hu5 (fun x hx => by have := hn4.num; omega)
    have e5' : Ext w w5 := (hn1.upd.trans hd3.upd).trans e5
    refine ⟨_, _, _, cells_all hg5, ?_⟩
    refine (carrackref22_May_spec ⟨b.getD 0 0, b.getD 1 0, b.getD 2 0⟩ w5).mono ?_
    rintro _ w6 ⟨rfl, he6⟩
    refine ⟨_, rfl, ?_⟩
    have g6 : w6.heap[B1]? = _ := he6.get (e5.get (Ext.get hd3.upd hn1.get))
    have e6 := e5'.trans he6
    have hB1 : B1 = w.heap.size := hn1.num
    rw [getTurn_three hl]
    refine br_intro (fun hm => ?_) fun hm => ?_
    · refine put_all g6 rfl fun w7 hu7 hs7 hg7 => ?_
      refine ⟨_, _, _, cells_all hg7, Upd.beyond e6 hu7 (fun x hx => by omega), ?_⟩
      rw [if_pos (by simpa using hm)]
      rfl
    · refine ⟨_, _, _, cells_all (he6.get hg5), ?_⟩
      refine put_all g6 rfl fun w8 hu8 hs8 hg8 => ?_
      refine ⟨_, _, _, cells_all hg8, Upd.beyond e6 hu8 (fun x hx => by omega), ?_⟩
      rw [if_neg (by have : Turn.may ⟨b.getD 0 0, b.getD 1 0, b.getD 2 0⟩ = true := by simpa using hm
                     rw [this]; simp)]
      rfl
end Go.Den
end
section
set_option linter.unusedVariables false
set_option linter.unusedSimpArgs false
set_option maxRecDepth 4000
namespace Go.Den
theorem cGeo {F : Nat → Prop} {A : Nat} {w : World} {p : Nat} {c : Chip} (h : CIn F A w p c) :
    CallsR prog K.nand_Chip_Geo #[.pointer (some ⟨p, 0, none⟩)] w fun v w' => v = .agg #[.int .i64 c.nb, .int .i64 c.np, .int .i64 c.sz, .int .i64 c.sp] ∧ Ext w w' := by
  obtain ⟨L, G, hr, _⟩ := h
  exact nand_Geo_spec hr
theorem cReadAt {F : Nat → Prop} {A : Nat} {w : World} {p : Nat} {c : Chip} (h : CIn F A w p c) (block page : Int) :
    CallsR prog K.nand_Chip_Read #[.pointer (some ⟨p, 0, none⟩), .int .i64 block, .int .i64 page] w fun v w' => Ext w w' ∧
      if c.ask block page = 0 then ∃ a cp, v = .tuple #[.slice a c.sz cp, .int .i64 0] ∧ BytesAt w' a (c.page block.toNat page.toNat) ∧ c.sz ≤ cp ∧ Fresh w a
      else v = .tuple #[.slice none 0 0, .int .i64 (c.ask block page : Nat)] := by
  obtain ⟨L, G, hr, _⟩ := h
  exact nand_Read_spec hr block page
/-- a page that is there -/
theorem cPage {F : Nat → Prop} {A : Nat} {w : World} {p : Nat} {c : Chip} (h : CIn F A w p c) (hd0 : c.dead = false) {i k : Nat} (hi : i < c.nb) (hk : k < c.np) :
    CallsR prog K.nand_Chip_Read #[.pointer (some ⟨p, 0, none⟩), .int .i64 i, .int .i64 k] w fun v w' => Ext w w' ∧ ∃ a cp, v = .tuple #[.slice a (c.page i k).length cp, .int .i64 0] ∧ BytesAt w' a (c.page i k) ∧ (c.page i k).length ≤ cp ∧ Fresh w a := by
  refine (cReadAt h i k).mono ?_
  rintro v w' ⟨he, hv⟩
  rw [if_pos (ask_ok hd0 hi hk)] at hv
  obtain ⟨a, cp, rfl, hb, hc, hf⟩ := hv
  simp only [Int.toNat_natCast] at hb
  rw [← page_len h.ok hi hk]
  exact ⟨he, a, cp, rfl, hb, by rw [page_len h.ok hi hk]; exact hc, hf⟩
/-- a saying lies in a block -/
abbrev SayAt (u : World) (B : Nat) (t : Turn) : Prop := u.heap[B]? = some (.cells t.vals.toArray T.api_Turn (0, 0))
theorem taken_fold (c : Chip) (era : Nat) {l : List Taken} {i : Nat} (hi : i < l.length) (s : Saying) :
    (l.take (i + 1)).foldl (fun s x => if isJour era x then sayBlk c x.block (c.np - 1) s else s) s = (if isJour era l[i] then sayBlk c l[i].block (c.np - 1) ((l.take i).foldl (fun s x => if isJour era x then sayBlk c x.block (c.np - 1) s else s) s) else ((l.take i).foldl (fun s x => if isJour era x then sayBlk c x.block (c.np - 1) s else s) s)) := by
  rw [List.take_succ_eq_append_getElem hi, List.foldl_append]
  rfl
/-- what the page tells -/
theorem say_cases (s : Saying) (pg : List UInt8) {J : Saying → Prop} (h : J (sayPage s pg)) :
    ((getPage pg).2.2 ≠ 0 → J s) ∧ ((getPage pg).2.2 = 0 → (getPage pg).1 ≠ 7 → J s) ∧ ((getPage pg).2.2 = 0 → (getPage pg).1 = 7 → (getTurn (getPage pg).2.1).2 ≠ 0 → J s) ∧ ((getPage pg).2.2 = 0 → (getPage pg).1 = 7 → (getTurn (getPage pg).2.1).2 = 0 → J (sayTurn s (getTurn (getPage pg).2.1).1)) := by
  unfold sayPage at h
  refine ⟨fun h1 => ?_, fun h1 h2 => ?_, fun h1 h2 h3 => ?_, fun h1 h2 h3 => ?_⟩
  · rwa [if_pos (.inl h1)] at h
  · rwa [if_pos (.inr h2)] at h
  · rwa [if_neg (by rintro (e | e); exact e h1; exact e h2), if_pos h3] at h
  · rwa [if_neg (by rintro (e | e); exact e h1; exact e h2), if_neg (by omega)] at h
def saysErr (c : Chip) (era : Nat) : Nat := if c.dead then 10 else if era = 0 then 2 else 0
def saysOut (c : Chip) (era : Nat) : Saying := if c.dead = true ∨ era = 0 then Saying.zero else jourSays c era
theorem jour_Says_spec {F : Nat → Prop} {A : Nat} {w : World} {p : Nat} {c : Chip} (h : CIn F A w p c) (hnb : c.nb < 20) (era : Nat) :
    CallsR prog K.jour_Says #[.pointer (some ⟨p, 0, none⟩), .int .u32 era] w fun v w' => Ext w w' ∧ v = .tuple #[.bool (saysOut c era).begun, .bool (saysOut c era).done, turnV (saysOut c era).turn, .int .i64 (saysErr c era : Nat)] := by
  apply jour_Says.sh
  unfold jour_Says.body
  simp only [add_lit, Nat.zero_add]
  intro B1 w1 hn1
  have hB1 : B1 = w.heap.size := hn1.num
  have hs1 := hn1.size
  have hnp := h.ok.np1
  have hnp2 := h.ok.np2
  have hzero : ∀ {u : World} {t : Turn}, Ext w u → SayAt u B1 t → ∀ (b1 b2 : Bool) (e : Int), b1 = (saysOut c era).begun → b2 = (saysOut c era).done → t = (saysOut c era).turn → e = (saysErr c era : Nat) →
      ∀ w3 : World, Drew u w3 → ∃ S1 : World → Prop, S1 w3 ∧ ∃ x2 : Int, ∃ x3 : Int, ∃ x4 : Int, (∀ u1, S1 u1 → cellsAt u1 ⟨B1, 0, none⟩ [Value.int .u8 x2, Value.int .u8 x3, Value.int .u8 x4] 0) ∧
        storeP w3 ⟨B1, 0, none⟩ [Value.int .u8 x2, Value.int .u8 x3, Value.int .u8 x4] fun w4 => ∃ x5 : Int, ∃ x6 : Int, ∃ x7 : Int, cellsAt w4 ⟨B1, 0, none⟩ [Value.int .u8 x5, Value.int .u8 x6, Value.int .u8 x7] 0 ∧
          (Ext w w4 ∧ Value.tuple #[Value.bool b1, Value.bool b2, Value.agg #[Value.int .u8 x5, Value.int .u8 x6, Value.int .u8 x7], Value.int .i64 e] = .tuple #[.bool (saysOut c era).begun, .bool (saysOut c era).done, turnV (saysOut c era).turn, .int .i64 (saysErr c era : Nat)]) := by
    intro u t hu ht b1 b2 e h1 h2 h3 h4 w3 hd3
    have g3 : SayAt w3 B1 t := Ext.get hd3.upd ht
    refine ⟨fun v => v = w3, rfl, t.from_.toNat, t.to.toNat, t.phase.toNat, fun v hv => hv ▸ cells_all g3, ?_⟩
    refine put_all (vs := t.vals) g3 (by simp) fun w4 hu4 hs4 hg4 => ?_
    refine ⟨_, _, _, cells_all (vs := t.vals) hg4, Upd.beyond (hu.trans hd3.upd) hu4 (fun x hx => by omega), ?_⟩
    rw [h1, h2, h4, ← h3]
  have h1 := h.ext hn1.upd
  refine (cScanF h1).mono ?_
  rintro _ w2 ⟨he2, hv⟩
  have hs2 := he2.size
  have e2 : Ext w w2 := hn1.upd.trans he2
  have g2 : SayAt w2 B1 Turn.zero := he2.get hn1.get
  split at hv
  · rename_i hd
    subst hv
    refine ⟨_, _, rfl, br_ne (fun _ => ?_) fun h => by cases h⟩
    exact hzero e2 g2 false false 10 (by rw [saysOut, if_pos (.inl hd)]; rfl) (by rw [saysOut, if_pos (.inl hd)]; rfl) (by rw [saysOut, if_pos (.inl hd)]; rfl) (by rw [saysErr, if_pos hd]; rfl)
  rename_i hd
  have hd0 : c.dead = false := by simpa using hd
  obtain ⟨M, rfl, rfl, hp2⟩ := hv
  refine ⟨_, _, rfl, br_ne (fun h => (h rfl).elim) fun _ => ?_⟩
  refine br_eq (fun he0 => ?_) fun he0 => ?_
  · have he0' : era = 0 := by omega
    exact hzero e2 g2 false false 2 (by rw [saysOut, if_pos (.inr he0')]; rfl) (by rw [saysOut, if_pos (.inr he0')]; rfl) (by rw [saysOut, if_pos (.inr he0')]; rfl) (by rw [saysErr, if_neg hd, if_pos he0']; rfl)
  have he0' : era ≠ 0 := by omega
  have hout : saysOut c era = jourSays c era := by rw [saysOut, if_neg (by rintro (e | e); exact hd e; exact he0' e)]
  have herr : saysErr c era = 0 := by rw [saysErr, if_neg hd, if_neg he0']
  refine (pTaken hp2 hnb rfl).mono ?_
  rintro _ w7 ⟨he7, a1, c1, rfl, ho7, hf7⟩
  have e7 : Ext w w7 := e2.trans he7
  have g7 : SayAt w7 B1 Turn.zero := he7.get g2
  have hll : (takenPool (scanPool c) c).length ≤ c.nb := by
    unfold takenPool
    rw [isort_length]
    exact takenRaw_length _ _ _
  have hlb : ∀ x ∈ takenPool (scanPool c) c, x.block < c.nb := by
    intro x hx
    unfold takenPool at hx
    rw [isort_mem] at hx
    exact takenRaw_block hx
  have hsay : jourSays c era = saysL c era (takenPool (scanPool c) c) := rfl
  generalize takenPool (scanPool c) c = l at *
  have hfold : ∀ i, (l.take i).foldl (fun s x => if isJour era x then sayBlk c x.block (c.np - 1) s else s) Saying.zero = saysL c era (l.take i) := fun i => rfl
  have hrow : ∀ {u : World}, Upd (· = B1) w7 u → RowAt u a1 (l.flatMap Taken.vals) := fun hu => RowAt.upd ho7.row hu (fun q hq hb => by have := hf7 q hq; omega)
  have hchip : ∀ {u : World}, Upd (· = B1) w7 u → CIn F A u M.p c := fun hu => h.ext (Upd.beyond e7 hu (fun x hx => by omega))
  refine ⟨_, _, _, rfl, fun b1 b2 x u => ∃ i : Nat, x = i ∧ i ≤ l.length ∧ Upd (· = B1) w7 u ∧ b1 = (saysL c era (l.take i)).begun ∧ b2 = (saysL c era (l.take i)).done ∧ SayAt u B1 (saysL c era (l.take i)).turn, fun _ _ x _ => (l.length - x).toNat,
    ⟨0, rfl, by omega, Upd.refl _ _, rfl, rfl, g7⟩, ?_⟩
  rintro b1 b2 x u ⟨i, rfl, hil, hu, rfl, rfl, hg⟩
  refine br_dec (fun hlt => ?_) fun hge => ?_
  · have hi' : i < l.length := by omega
    have e1 : IntKind.i64.wrap ((i : Int) + 1) = ((i + 1 : Nat) : Int) := w64 (by omega) (by omega)
    rw [e1]
    have hlbi := hlb _ (List.getElem_mem hi')
    have hsucc := taken_fold c era hi' Saying.zero
    rw [hfold, hfold] at hsucc
    refine idx_flat (f := Taken.vals) Taken.vals_length (by omega) (hrow hu) rfl hi' fun b o hab hr => ?_
    refine ⟨l[i].block, l[i].head.kind.toNat, l[i].head.era, l[i].head.seq, l[i].bad, RowAt.cells hr, ?_⟩
    refine new_put rfl fun B2 w10 hB2 hs10 he10 hg10 => ?_
    have hsu := hu.size
    have hu10 : Upd (· = B1) w7 w10 := hu.then he10
    have gB10 : SayAt w10 B1 (saysL c era (l.take i)).turn := he10.get hg
    refine ⟨_, cell_of hg10 rfl, ?_⟩
    refine br_ne (fun hk => ?_) fun hk => ?_
    · rw [if_neg (by rw [isJour, decide_eq_false (fun e => hk (by rw [e]; rfl))]; simp)] at hsucc
      rw [← hsucc] at gB10 ⊢
      exact ⟨⟨i + 1, rfl, hi', hu10, rfl, rfl, gB10⟩, meas hi'⟩
    refine ⟨_, cell_of hg10 rfl, ?_⟩
    refine br_ne (fun hk2 => ?_) fun hk2 => ?_
    · rw [if_neg (by rw [isJour, decide_eq_false (p := l[i].head.era = era) (fun e => hk2 (by rw [e]))]; simp)] at hsucc
      rw [← hsucc] at gB10 ⊢
      exact ⟨⟨i + 1, rfl, hi', hu10, rfl, rfl, gB10⟩, meas hi'⟩
    have hk' : l[i].head.kind = 3 := (u8i _ 3 (by omega)).1 hk
    have hj : isJour era l[i] = true := by rw [isJour, decide_eq_true hk', decide_eq_true (by omega)]; rfl
    rw [if_pos hj] at hsucc
    generalize saysL c era (l.take i) = s0 at *
    -- the pages of the block
    refine ⟨fun b4 b5 x u => ∃ k : Nat, x = (k : Int) + 1 ∧ k ≤ c.np - 1 ∧ Upd (· = B1) w7 u ∧ u.heap[B2]? = some (.cells l[i].vals.toArray T.api_Taken (0, 0)) ∧ b4 = (sayBlk c l[i].block k s0).begun ∧ b5 = (sayBlk c l[i].block k s0).done ∧ SayAt u B1 (sayBlk c l[i].block k s0).turn,
      fun _ _ x _ => (c.np - x).toNat, ⟨0, rfl, by omega, hu10, hg10, rfl, rfl, gB10⟩, ?_⟩
    rintro b4 b5 x u ⟨k, rfl, hk1, hu, hgt, rfl, rfl, hgs⟩
    refine (cGeo (hchip hu)).mono ?_
    rintro _ w12 ⟨rfl, he12⟩
    refine ⟨_, _, _, _, rfl, ?_⟩
    have hu12 : Upd (· = B1) w7 w12 := hu.then he12
    refine br_dec (fun hlt2 => ?_) fun hge2 => ?_
    · have hknp : k + 1 < c.np := by omega
      have ek : (k : Int) + 1 = ((k + 1 : Nat) : Int) := by omega
      have ek2 : IntKind.i64.wrap ((k : Int) + 1 + 1) = ((k + 1 : Nat) : Int) + 1 := by rw [w64 (by omega) (by omega)]; omega
      rw [ek2]
      refine ⟨_, cell_of (he12.get hgt) rfl, ?_⟩
      rw [ek]
      refine (cPage (hchip hu12) hd0 hlbi hknp).mono ?_
      rintro _ w13 ⟨he13, a2, cp2, rfl, hb13, hc13, hf13⟩
      refine ⟨_, _, _, _, rfl, ?_⟩
      refine (seal_Get_spec hb13 hc13).mono ?_
      rintro _ w14 ⟨he14, a3, cp3, rfl, hb14, hc14⟩
      refine ⟨_, _, _, _, _, rfl, ?_⟩
      have hss := sayBlk_succ c l[i].block k s0
      generalize sayBlk c l[i].block k s0 = s at *
      have hcs := say_cases s (c.page l[i].block (k + 1)) (J := fun z => sayBlk c l[i].block (k + 1) s0 = z) hss
      generalize getPage (c.page l[i].block (k + 1)) = r at *
      have hu14 : Upd (· = B1) w7 w14 := (hu12.then he13).then he14
      have gt14 := he14.get (he13.get (he12.get hgt))
      have gs14 : SayAt w14 B1 s.turn := he14.get (he13.get (he12.get hgs))
      have hmm : ((c.np : Int) - (((k + 1 : Nat) : Int) + 1)).toNat < ((c.np : Int) - ((k + 1 : Nat) : Int)).toNat := by omega
      have same : ∀ {u : World}, Upd (· = B1) w7 u → u.heap[B2]? = some (.cells l[i].vals.toArray T.api_Taken (0, 0)) → SayAt u B1 s.turn → sayBlk c l[i].block (k + 1) s0 = s →
          (∃ k' : Nat, ((k + 1 : Nat) : Int) + 1 = (k' : Int) + 1 ∧ k' ≤ c.np - 1 ∧ Upd (· = B1) w7 u ∧ u.heap[B2]? = some (.cells l[i].vals.toArray T.api_Taken (0, 0)) ∧ s.begun = (sayBlk c l[i].block k' s0).begun ∧ s.done = (sayBlk c l[i].block k' s0).done ∧ SayAt u B1 (sayBlk c l[i].block k' s0).turn) ∧ ((c.np : Int) - (((k + 1 : Nat) : Int) + 1)).toNat < ((c.np : Int) - ((k + 1 : Nat) : Int)).toNat := by
        intro u hu ht hg e
        exact ⟨⟨k + 1, rfl, by omega, hu, ht, by rw [e], by rw [e], by rw [e]; exact hg⟩, hmm⟩
      refine br_ne (fun hr => same hu14 gt14 gs14 (hcs.1 (by omega))) fun hr => ?_
      have hr0 : r.2.2 = 0 := by omega
      refine br_ne (fun hr7 => same hu14 gt14 gs14 (hcs.2.1 hr0 (fun e => hr7 (by rw [e]; rfl)))) fun hr7 => ?_
      have hr7' : r.1 = 7 := (u8i _ 7 (by omega)).1 hr7
      refine (jour_Get_spec (c := cp3) hb14).mono ?_
      rintro _ w15 ⟨he15, rfl⟩
      refine ⟨_, _, _, _, rfl, ?_⟩
      have hcs3 := hcs.2.2.1 hr0 hr7'
      have hcs4 := hcs.2.2.2 hr0 hr7'
      generalize getTurn r.2.1 = y at *
      refine new_put rfl fun B3 w17 hB3 hs17 he17 hg17 => ?_
      have e1417 : Ext w14 w17 := he15.trans he17
      have hu17 := hu14.then e1417
      refine br_eq (fun hy => ?_) fun hy => same hu17 (e1417.get gt14) (e1417.get gs14) (hcs3 (by omega))
      have hst := hcs4 (by omega)
      have gs17 : SayAt w17 B1 s.turn := e1417.get gs14
      have fin : ∀ {u v : World}, Upd (· = B1) w7 u → u.heap[B2]? = some (.cells l[i].vals.toArray T.api_Taken (0, 0)) → SayAt u B1 (sayTurn s y.1).turn → u.heap[B3]? = some (.cells y.1.vals.toArray T.api_Turn (0, 0)) → Drew u v → ∃ S3 : World → Prop, S3 v ∧
          br s.done ((∃ k' : Nat, ((k + 1 : Nat) : Int) + 1 = (k' : Int) + 1 ∧ k' ≤ c.np - 1 ∧ Upd (· = B1) w7 v ∧ v.heap[B2]? = some (.cells l[i].vals.toArray T.api_Taken (0, 0)) ∧ true = (sayBlk c l[i].block k' s0).begun ∧ true = (sayBlk c l[i].block k' s0).done ∧ SayAt v B1 (sayBlk c l[i].block k' s0).turn) ∧ ((c.np : Int) - (((k + 1 : Nat) : Int) + 1)).toNat < ((c.np : Int) - ((k + 1 : Nat) : Int)).toNat)
            (∃ x36 : Int, (∀ u3, S3 u3 → World.cell? u3 ⟨B3, 2, none⟩ = some (Value.int .u8 x36)) ∧ (∃ k' : Nat, ((k + 1 : Nat) : Int) + 1 = (k' : Int) + 1 ∧ k' ≤ c.np - 1 ∧ Upd (· = B1) w7 v ∧ v.heap[B2]? = some (.cells l[i].vals.toArray T.api_Taken (0, 0)) ∧ true = (sayBlk c l[i].block k' s0).begun ∧ (x36 == 2) = (sayBlk c l[i].block k' s0).done ∧ SayAt v B1 (sayBlk c l[i].block k' s0).turn) ∧ ((c.np : Int) - (((k + 1 : Nat) : Int) + 1)).toNat < ((c.np : Int) - ((k + 1 : Nat) : Int)).toNat) := by
        intro u v hu ht hg hy' hd
        have gv : SayAt v B1 (sayTurn s y.1).turn := Ext.get hd.upd hg
        have tv := Ext.get hd.upd ht
        refine ⟨fun z => z = v, rfl, br_intro (fun hdn => ⟨⟨k + 1, rfl, by omega, hu.then hd.upd, tv, by rw [hst]; rfl, by rw [hst]; unfold sayTurn; rw [hdn]; rfl, by rw [hst]; exact gv⟩, hmm⟩) fun hdn => ?_⟩
        refine ⟨_, fun z hz => hz ▸ cell_of (Ext.get hd.upd hy') rfl, ⟨k + 1, rfl, by omega, hu.then hd.upd, tv, by rw [hst]; rfl, ?_, by rw [hst]; exact gv⟩, hmm⟩
        rw [u8e2, hst]
        unfold sayTurn
        rw [hdn]; rfl
      refine br_intro (fun hnb => ?_) fun hb => ?_
      · have hnb' : s.begun = false := by simpa using hnb
        refine ⟨_, cell_of hg17 rfl, _, cell_of hg17 rfl, ?_⟩
        refine put_all (vs := (⟨y.1.from_, y.1.to, 0⟩ : Turn).vals) gs17 (by simp [Turn.vals]) fun w18 hu18 hs18 hg18 => ?_
        intro w19 hd19
        have hne2 : B2 ≠ B1 := by have := he7.size; omega
        have hne3 : B3 ≠ B1 := by have := he7.size; have := hu14.size; have := he15.size; omega
        refine fin (hu17.trans hu18) (hu18.get (e1417.get gt14) hne2) ?_ (hu18.get hg17 hne3) hd19
        unfold sayTurn
        rw [if_neg (by rw [hnb']; simp)]
        exact hg18
      · have hb' : s.begun = true := by simpa using hb
        intro w20 hd20
        refine fin hu17 (e1417.get gt14) ?_ hg17 hd20
        unfold sayTurn
        rw [if_pos hb']
        exact gs17
    · have hkk : k = c.np - 1 := by omega
      subst hkk
      rw [← hsucc] at hgs ⊢
      exact ⟨⟨i + 1, rfl, hi', hu12, rfl, rfl, he12.get hgs⟩, meas hi'⟩
  · have hil' : i = l.length := by omega
    subst hil'
    rw [List.take_length] at hg ⊢
    exact hzero (Upd.beyond e7 hu (fun x hx => by omega)) hg _ _ 0 (by rw [hout, hsay]) (by rw [hout, hsay]) (by rw [hout, hsay]) (by rw [herr]; rfl)
end Go.Den
end
section
set_option linter.unusedVariables false
set_option linter.unusedSimpArgs false
set_option maxRecDepth 4000
namespace Go.Den
structure Act where
  act : Int
  kind : UInt8
  era : Nat
  block : Int
  page : Int
  fill : UInt8
namespace Act
def vals (a : Act) : List Value := [.int .i64 a.act, bv a.kind, .int .u32 a.era, .int .i64 a.block, .int .i64 a.page, bv a.fill]
end Act
/-- a row of taken blocks that stays -/
theorem TakenAt.row {w w' : World} {v : Value} {l : List Taken} (h : TakenAt w w' v l) : ∃ a cap, v = .slice a l.length cap ∧ RowAt w' a (l.flatMap Taken.vals) ∧ Fresh w a := by
  obtain ⟨a, cap, rfl, ho, hf⟩ := h
  exact ⟨a, cap, rfl, ho.row, hf⟩
end Go.Den
end
section
set_option linter.unusedVariables false
set_option linter.unusedSimpArgs false
set_option maxRecDepth 4000
namespace Go.Den
theorem PAt.turn {A S : Nat} {w : World} {M : PLoc} {P : Pool} {c : Chip} (h : PAt A S w M P c) : P.turn ≤ c.nb := by
  obtain ⟨L, G, hr, _⟩ := h
  exact hr.turn
theorem PAt.low {A S : Nat} {w : World} {M : PLoc} {P : Pool} {c : Chip} (h : PAt A S w M P c) : A ≤ M.p ∧ M.p < S := by
  obtain ⟨L, G, hr, hF, _⟩ := h
  exact hF M.p (.inr (.inr (by simp)))
theorem pHitsF {F : Nat → Prop} {A : Nat} {w : World} {M : PLoc} {P : Pool} {c : Chip} (h : PIn F A w M P c) (hA : A ≤ w.heap.size) {Gin : Nat → Prop} {a : Option Addr} {vs : List Value} {hs : List Hit} {cp : Nat} (hr : RowAt w a vs) (hh : HitRow w Gin vs hs)
    (hG : ∀ x, Gin x → ¬ F x) (hap : hs ≠ [] → ∀ q, a = some q → ¬ F q.block) (hn : hs.length ≤ 100000) (hm : ∀ t ∈ hs, t.mask.length ≤ 140737488355232) :
    CallsR prog K.nand_Chip_Hits #[.pointer (some ⟨M.p, 0, none⟩), .slice a hs.length cp] w fun v w' => v = .int .i64 ((c.setHits hs).2 : Nat) ∧ Upd (F) w w' ∧ PIn F A w' M P (c.setHits hs).1 := by
  obtain ⟨L, G, hp, hF, hGG⟩ := h
  have hpF : F M.p := hF M.p (.inr (.inr (by simp)))
  refine (nand_Hits_spec hp.chip hr hh (fun x hx e => hG x hx (e ▸ hpF)) (fun hne q hq e => hap hne q hq (e ▸ hpF)) hn hm).mono ?_
  rintro _ w' ⟨hu, L', G', hs', hc, hG', rfl⟩
  have hnew : ∀ x, G' x → A ≤ x ∧ x < w'.heap.size := fun x hx => by
    rcases hG' x hx with hx | hx
    · have := hGG x hx; have := hu.size; omega
    · omega
  refine ⟨rfl, hu.mono fun x _ hx => by rw [hx]; exact hpF, L', G', hp.rechip (hu.mono fun x _ hx => by rw [hx]; simp) hc hs' (setHits_geo c hs).1 (fun x hx hg => ?_), fun x hx => hF x (by rw [PF.same hs'] at hx; exact hx), hnew⟩
  rcases hG' x hg with hg | hg
  · exact (hp.apart x hx).2 hg
  · have hxq : x < w.heap.size := by
      rcases hx with rfl | rfl
      · exact (Array.getElem?_eq_some_iff.1 hp.head).1
      · exact OwnAt.blk hp.own rfl
    omega
/-- a page is written, beside the pool -/
theorem pProgram {F : Nat → Prop} {A : Nat} {w : World} {M : PLoc} {P : Pool} {c : Chip} (h : PIn F A w M P c) (block page : Int) {a : Option Addr} {b : List UInt8} {cp : Nat} (hb : BytesAt w a b) (hap : ∀ q, a = some q → ¬ F q.block) :
    CallsR prog K.nand_Chip_Program #[.pointer (some ⟨M.p, 0, none⟩), .int .i64 block, .int .i64 page, .slice a b.length cp] w fun v w' => v = .int .i64 ((c.program block page b).2 : Nat) ∧ Upd (F) w w' ∧ PIn F A w' M P (c.program block page b).1 := by
  obtain ⟨L, G, hp, hF, hGG⟩ := h
  refine (nand_Program_spec hp.chip block page hb (fun q hq hm => ?_)).mono ?_
  · exact hap q hq (hF q.block (.inr (.inr (by
      simp only [List.mem_cons] at hm ⊢
      rcases hm with hm | hm
      · exact .inl hm
      · exact .inr (.inr hm)))))
  rintro _ w' ⟨hu, L', hs', hc, rfl⟩
  exact ⟨rfl, hu.mono fun x _ hx => hF x (.inr (.inr hx)), L', G, hp.rechip hu hc hs' (Chip.program_geo _ _ _ _) (fun x hx => (hp.apart x hx).2), fun x hx => hF x (by rw [PF.same hs'] at hx; exact hx), fun x hx => ⟨(hGG x hx).1, Nat.lt_of_lt_of_le (hGG x hx).2 hu.size⟩⟩
end Go.Den
end
