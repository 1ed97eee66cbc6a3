/- Contracts of layer 3 (nand): looks and reads. -/
import Derived.Test.YtljaocdmeoheaaaRNand
set_option linter.unusedVariables false
set_option linter.unusedSimpArgs false
namespace Go.Den

theorem nand_off_spec {w : World} {p : Nat} {c : Chip} {L : Loc} {G : Nat → Prop} (h : ChipRep w p c L G) :
    CallsR prog K.nand_Chip_off #[.pointer (some ⟨p, 0, none⟩)] w fun v w' => v = .bool false ∧ w' = w := by
  apply nand_Chip_off.sh
  simp only [nand_Chip_off.body, Option.isNone_some, br_false, nilC_some', add_lit]
  exact ⟨_, _, _, cell_of h.head rfl, rfl, by trivial⟩

theorem nand_ask_spec {w : World} {p : Nat} {c : Chip} {L : Loc} {G : Nat → Prop} (h : ChipRep w p c L G) (block page : Int) :
    CallsR prog K.nand_Chip_ask #[.pointer (some ⟨p, 0, none⟩), .int .i64 block, .int .i64 page] w fun v w' => v = .int .i64 (c.ask block page : Nat) ∧ w' = w := by
  apply nand_Chip_ask.sh
  unfold nand_Chip_ask.body
  refine (nand_off_spec h).mono ?_
  rintro _ _ ⟨rfl, rfl⟩
  refine ⟨_, rfl, ?_⟩
  simp only [br_false, nilC_some', add_lit]
  refine ⟨c.dead, cell_of h.head rfl, ?_⟩
  unfold Chip.ask
  cases hd : c.dead with
  | true => simp
  | false =>
    simp only [br_false, Bool.false_eq_true, if_false]
    refine br_dec (fun h1 => ⟨by rw [if_pos (by omega)]; rfl, by trivial⟩) fun h1 => ⟨_, cell_of h.head rfl, br_dec (fun h2 => ⟨by rw [if_pos (by omega)]; rfl, by trivial⟩) fun h2 => br_dec (fun h3 => ⟨by rw [if_pos (by omega)]; rfl, by trivial⟩) fun h3 => ⟨_, cell_of h.head rfl, br_dec (fun h4 => ⟨by rw [if_pos (by omega)]; rfl, by trivial⟩) fun h4 => ⟨by rw [if_neg (by omega)]; rfl, by trivial⟩⟩⟩

theorem ask_zero {c : Chip} {block page : Int} (h : c.ask block page = 0) : c.dead = false ∧ 0 ≤ block ∧ block.toNat < c.nb ∧ 0 ≤ page ∧ page.toNat < c.np := by
  unfold Chip.ask at h
  split at h
  · cases h
  · rename_i hd
    split at h
    · cases h
    · exact ⟨by simpa using hd, by omega, by omega, by omega, by omega⟩

theorem nand_Geo_spec {w : World} {p : Nat} {c : Chip} {L : Loc} {G : Nat → Prop} (h : ChipRep w p c L G) :
    CallsR prog K.nand_Chip_Geo #[.pointer (some ⟨p, 0, none⟩)] w fun v w' => v = .agg #[.int .i64 c.nb, .int .i64 c.np, .int .i64 c.sz, .int .i64 c.sp] ∧ Ext w w' := by
  apply nand_Chip_Geo.sh
  intro B w₁ hnew
  have h1 := h.ext hnew.upd
  refine (nand_off_spec h1).mono ?_
  rintro _ _ ⟨rfl, rfl⟩
  rename_i w₁
  refine ⟨_, rfl, ?_⟩
  simp only [br_false, nilC_some']
  refine ⟨c.nb, c.np, c.sz, c.sp, cellsAt_of (o := 0) h1.head (fun j v hj => ?_), ?_⟩
  · match j, hj with
    | 0, hj => simpa [chipCells] using hj
    | 1, hj => simpa [chipCells] using hj
    | 2, hj => simpa [chipCells] using hj
    | 3, hj => simpa [chipCells] using hj
    | j + 4, hj => simp at hj
  · refine store_of hnew.get (by simp) fun w₂ hput => ?_
    refine ⟨c.nb, c.np, c.sz, c.sp, cellsAt_of (o := 0) hput.get (fun j v hj => ?_), rfl, Put.upd hnew.upd hput (.inl (by rw [hnew.num]; exact Nat.le_refl _))⟩
    rw [splice_all _ _ (by simp)]
    simpa using hj

/-- a page's bytes, as they stand in their block -/
theorem nand_page_spec {w : World} {p : Nat} {c : Chip} {L : Loc} {G : Nat → Prop} (h : ChipRep w p c L G) (block page : Nat) (hb : block < c.nb) (hp : page < c.np) :
    CallsR prog K.nand_Chip_page #[.pointer (some ⟨p, 0, none⟩), .int .i64 block, .int .i64 page] w fun v w' => Ext w w' ∧ ∃ l, L.locs[block]? = some l ∧ v = .slice (some ⟨l, page * c.sz, none⟩) c.sz c.sz := by
  apply nand_Chip_page.sh
  intro w₁ hdrew
  have h1 := h.ext hdrew.upd
  refine ⟨fun u => Ext w u, hdrew.upd, ?_⟩
  simp only [nilC_some', add_lit]
  refine ⟨c.sz, fun u hu => cell_of (h.ext hu).head rfl, c.sz, fun u hu => cell_of (h.ext hu).head rfl, _, _, _, cell_of h1.head rfl, ?_⟩
  obtain ⟨vs, ho, hv⟩ := h1.rows
  obtain ⟨l, cap, hl, hvi, hbi⟩ := hv block hb
  refine ⟨by omega, by omega, ?_⟩
  obtain ⟨b', o', hab, hc⟩ := RowAt.cell ho.row hvi
  cases hab
  simp only [nilC_some', add_lit, Nat.mul_one, Int.toNat_natCast]
  refine ⟨_, _, _, hc, ?_⟩
  have hok := h.ok
  have hnp := hok.np2
  have hsz := hok.sz2
  have hsz1 := hok.sz1
  have hps := page_in hp
  have hle := hok.size_le
  have hcap := hbi.2.1
  have e1 : IntKind.i64.wrap ((page : Int) * (c.sz : Int)) = ((page * c.sz : Nat) : Int) := by
    rw [← Int.natCast_mul]; exact w64 (by omega) (by omega)
  have e0 : IntKind.i64.wrap ((page : Int) + 1) = ((page + 1 : Nat) : Int) := w64 (by omega) (by omega)
  have e2 : IntKind.i64.wrap (((page + 1 : Nat) : Int) * (c.sz : Int)) = (((page + 1) * c.sz : Nat) : Int) := by
    rw [← Int.natCast_mul]; rw [Nat.succ_mul]; exact w64 (by omega) (by omega)
  rw [e0, e1, e2]
  rw [Nat.succ_mul]
  refine ⟨by simp; omega, by simp; omega, by simp; omega, by simp, by simp; omega, by simp; omega, by simp, ?_⟩
  refine ⟨hdrew.upd, l, hl, ?_⟩
  simp only [Option.getD_some, Int.toNat_natCast]
  rw [if_neg (by omega)]
  simp

theorem slices_Clone_byte_spec {a : Option Addr} {l : List UInt8} {c : Nat} {w : World} (h : BytesAt w a l) (hn : l.length ≤ 10000000000) :
    CallsR prog K.slices_Clone_byte #[.slice a l.length c] w fun v w' => Ext w w' ∧ ∃ a' c', v = .slice a' l.length c' ∧ OwnAt w' a' l.length c' T.uint8 1 (l.map bv) ∧ Fresh w a' := by
  apply slices_Clone_byte.sh
  unfold slices_Clone_byte.body
  refine br_intro (fun ha => ?_) fun ha => ?_
  · have : a = none := by simpa using ha
    subst this
    have : l = [] := by
      rcases h with h | ⟨b, o, cur, T, fr, h, _⟩
      · simpa using h
      · cases h
    subst this
    exact ⟨Upd.refl _ _, none, 0, rfl, OwnAt.nil _ _ _, Fresh.none _⟩
  · intro B w₁ hnew
    have ho : OwnAt w₁ (some ⟨B, 0, none⟩) ([] : List UInt8).length 0 T.uint8 1 (([] : List UInt8).map bv) := by
      have := OwnAt.new (n := 0) (size := 1) hnew (by simp)
      simpa using this
    have hB : w.heap.size = B := by rw [hnew.num]
    refine append_bytes (l := []) ho (h.ext hnew.upd) (by simp; omega) fun a' c' w₂ hu ho' hf => ?_
    simp only [List.nil_append] at ho' ⊢
    refine ⟨Upd.beyond hnew.upd hu fun x hx => by cases hx; omega, a', c', rfl, ho', ?_⟩
    rcases hf with rfl | ⟨b, rfl, hb⟩
    · exact Fresh.some (by omega)
    · exact Fresh.some (by have := hnew.size; omega)

/-- a page's bytes read as they stand -/
theorem page_bytes {w : World} {p : Nat} {c : Chip} {L : Loc} {G : Nat → Prop} (h : ChipRep w p c L G) {block page l : Nat} (hb : block < c.nb) (hp : page < c.np) (hl : L.locs[block]? = some l) :
    BytesAt w (some ⟨l, page * c.sz, none⟩) (c.page block page) ∧ (c.page block page).length = c.sz := by
  obtain ⟨vs, ho, hv⟩ := h.rows
  obtain ⟨l', cap, hl', hvi, hbi⟩ := hv block hb
  rw [hl] at hl'
  cases hl'
  have hlen := h.ok.blk_len hb
  have hps := page_in hp
  refine ⟨?_, by simp [Chip.page, hlen]; omega⟩
  have := BytesAt.take (BytesAt.drop (o := 0) hbi.row (page * c.sz)) c.sz
  simpa [Chip.page] using this

theorem nand_Read_spec {w : World} {p : Nat} {c : Chip} {L : Loc} {G : Nat → Prop} (h : ChipRep w p c L G) (block page : Int) :
    CallsR prog K.nand_Chip_Read #[.pointer (some ⟨p, 0, none⟩), .int .i64 block, .int .i64 page] w fun v w' => Ext w w' ∧
      if c.ask block page = 0 then ∃ a cp, v = .tuple #[.slice a c.sz cp, .int .i64 0] ∧ BytesAt w' a (c.page block.toNat page.toNat) ∧ c.sz ≤ cp ∧ Fresh w a
      else v = .tuple #[.slice none 0 0, .int .i64 (c.ask block page : Nat)] := by
  apply nand_Chip_Read.sh
  unfold nand_Chip_Read.body
  refine (nand_ask_spec h block page).mono ?_
  rintro _ _ ⟨rfl, rfl⟩
  rename_i w
  refine ⟨_, rfl, br_ne (fun hne => ⟨Upd.refl _ _, ?_⟩) fun heq => ?_⟩
  · rw [if_neg (by omega)]
  · have h0 : c.ask block page = 0 := by omega
    obtain ⟨hd, hb0, hb1, hp0, hp1⟩ := ask_zero h0
    have eb : block = (block.toNat : Int) := by omega
    have ep : page = (page.toNat : Int) := by omega
    rw [eb, ep]
    refine (nand_page_spec h block.toNat page.toNat hb1 hp1).mono ?_
    rintro _ w₁ ⟨he, l, hl, rfl⟩
    refine ⟨_, _, _, rfl, ?_⟩
    obtain ⟨hpb, hplen⟩ := page_bytes (h.ext he) hb1 hp1 hl
    have hsz := h.ok.sz2
    have hcl := slices_Clone_byte_spec (c := c.sz) hpb (by omega)
    rw [hplen] at hcl
    refine hcl.mono ?_
    rintro _ w₂ ⟨he2, a', c', rfl, ho, hf⟩
    refine ⟨_, _, _, rfl, he.trans he2, ?_⟩
    rw [← eb, ← ep, if_pos h0]
    exact ⟨a', c', rfl, ho.row, ho.2.1, Fresh.mono hf he.size⟩

theorem nand_Bad_spec {w : World} {p : Nat} {c : Chip} {L : Loc} {G : Nat → Prop} (h : ChipRep w p c L G) (block : Int) :
    CallsR prog K.nand_Chip_Bad #[.pointer (some ⟨p, 0, none⟩), .int .i64 block] w fun v w' => v = .bool (decide (0 ≤ block) && c.isBad block.toNat) ∧ w' = w := by
  apply nand_Chip_Bad.sh
  unfold nand_Chip_Bad.body
  refine (nand_off_spec h).mono ?_
  rintro _ _ ⟨rfl, rfl⟩
  refine ⟨_, rfl, ?_⟩
  simp only [Bool.not_false, br_true, nilC_some', add_lit]
  refine br_dec (fun h0 => ⟨_, cell_of h.head rfl, br_dec (fun h1 => ?_) fun h1 => ?_⟩) fun h0 => ?_
  · refine ⟨_, _, _, cell_of h.head rfl, h0, h1, ?_⟩
    simp only [nilC_some', add_lit, Nat.mul_one]
    have hlt : block.toNat < c.bad.length := by rw [h.ok.bad]; omega
    have hg : (c.bad.map Value.bool)[block.toNat]? = some (.bool c.bad[block.toNat]) := by simp [hlt]
    obtain ⟨b', o', hab, hc⟩ := RowAt.cell h.bad.row hg
    cases hab
    refine ⟨_, hc, ?_, by trivial⟩
    have : decide (0 ≤ block) = true := by simpa using h0
    rw [this]
    simp [Chip.isBad, List.getD, hlt]
  · have hge : c.bad.length ≤ block.toNat := by rw [h.ok.bad]; omega
    refine ⟨?_, by trivial⟩
    simp [Chip.isBad, List.getD, List.getElem?_eq_none hge]
  · refine ⟨?_, by trivial⟩
    have : decide (0 ≤ block) = false := by simpa using h0
    rw [this]
    rfl

end Go.Den
