/- Contracts of layer 3 (nand): Program, Erase. -/
import Derived.Test.YtljaocdmeoheaaaSNand3
set_option linter.unusedVariables false
set_option linter.unusedSimpArgs false
namespace Go.Den

theorem nand_Program_1_spec {w : World} {B : Nat} {a : Option Addr} {b : List UInt8} {cp i : Nat} (hc : w.cell? ⟨B, 0, none⟩ = some (.slice a b.length cp)) (hb : BytesAt w a b) (hi : i < b.length) :
    CallsR prog K.nand_Chip_Program_1 #[.int .i64 i, .pointer (some ⟨B, 0, none⟩)] w fun v w' => v = bv (b.getD i 0) ∧ w' = w := by
  apply nand_Chip_Program_1.sh
  refine ⟨a, b.length, cp, hc, idx_byte hb (by omega) (by omega) ?_⟩
  simp only [Int.toNat_natCast]
  exact ⟨by trivial, by trivial⟩

theorem nand_Program_spec {w : World} {p : Nat} {c : Chip} {L : Loc} {G : Nat → Prop} (h : ChipRep w p c L G) (block page : Int) {a : Option Addr} {b : List UInt8} {cp : Nat} (hb : BytesAt w a b) (hap : ∀ q, a = some q → q.block ∉ p :: L.locs) :
    CallsR prog K.nand_Chip_Program #[.pointer (some ⟨p, 0, none⟩), .int .i64 block, .int .i64 page, .slice a b.length cp] w fun v w' =>
      Upd (fun x => x ∈ p :: L.bb :: L.locs) w w' ∧ ∃ L', SameLoc L L' ∧ ChipRep w' p (c.program block page b).1 L' G ∧ v = .int .i64 ((c.program block page b).2 : Nat) := by
  apply nand_Chip_Program.sh
  intro B w₁ hnew
  have hBs : B = w.heap.size := hnew.num
  have h1 := h.ext hnew.upd
  refine (nand_ask_spec h1 block page).mono ?_
  rintro _ _ ⟨rfl, rfl⟩
  rename_i w₁
  refine ⟨_, rfl, br_ne (fun hne => ?_) fun heq => ?_⟩
  · have e : c.program block page b = (c, c.ask block page) := by unfold Chip.program; rw [if_pos (by omega)]
    rw [e]
    exact ⟨Upd.ext hnew.upd, L, SameLoc.refl _, h1, rfl⟩
  have h0 : c.ask block page = 0 := by omega
  obtain ⟨hd, hb0, hb1, hp0, hp1⟩ := ask_zero h0
  intro w₃ hd3
  have e3 : Ext w w₃ := hnew.upd.trans hd3.upd
  have h3 := h.ext e3
  have hcell3 : w₃.heap[B]? = some (.cells #[.slice a b.length cp] T.L_uint8 (0, 0)) := Ext.get hd3.upd hnew.get
  refine ⟨fun u => u = w₃, rfl, _, _, _, fun u hu => hu ▸ cell_of hcell3 rfl, ?_⟩
  simp only [nilC_some', add_lit]
  refine ⟨_, fun u hu => hu ▸ cell_of h3.head rfl, br_ne (fun hne => ?_) fun hbl => ?_⟩
  · have e : c.program block page b = (c, 2) := by unfold Chip.program; rw [if_neg (by omega), if_pos (by omega)]
    rw [e]
    exact ⟨Upd.ext e3, L, SameLoc.refl _, h3, rfl⟩
  have hbl : b.length = c.sz := by omega
  refine ⟨_, _, _, cell_of h3.head rfl, hb0, by omega, ?_⟩
  simp only [nilC_some', add_lit, Nat.mul_one, Nat.zero_add]
  have hlt : block.toNat < c.bad.length := by rw [h.ok.bad]; omega
  obtain ⟨b', o', hab, hc⟩ := RowAt.cell h3.bad.row (i := block.toNat) (v := .bool c.bad[block.toNat]) (by simp [hlt])
  cases hab
  simp only [Nat.zero_add] at hc
  have hbad : c.isBad block.toNat = c.bad[block.toNat] := by simp [Chip.isBad, List.getD, hlt]
  refine ⟨_, hc, br_intro (fun ht => ?_) fun hf => ?_⟩
  · have e : c.program block page b = (c, 9) := by unfold Chip.program; rw [if_neg (by omega), if_neg (by omega), if_pos (by rw [hbad]; exact ht)]
    rw [e]
    exact ⟨Upd.ext e3, L, SameLoc.refl _, h3, rfl⟩
  intro w₄ hd4
  have e4 : Ext w w₄ := e3.trans hd4.upd
  have h4 := h.ext e4
  have hcell4 := Ext.get hd4.upd hcell3
  obtain ⟨vs, ho, hv⟩ := h4.rows
  obtain ⟨l, cap, hl, hvi, hbi⟩ := hv block.toNat hb1
  refine ⟨fun u => u = w₄, rfl, _, _, _, fun u hu => hu ▸ cell_of h4.head rfl, hb0, by omega, ?_⟩
  obtain ⟨b', o', hab, hc'⟩ := RowAt.cell ho.row hvi
  cases hab
  simp only [Nat.zero_add] at hc'
  simp only [nilC_some', add_lit, Nat.mul_one, Nat.zero_add]
  refine ⟨_, _, _, fun u hu => hu ▸ hc', _, fun u hu => hu ▸ cell_of h4.head rfl, ?_⟩
  have hps := page_in hp1
  have hsz8 := h.ok.size_le
  have hblen := h.ok.blk_len hb1
  have e1 : IntKind.i64.wrap (page * (c.sz : Int)) = ((page.toNat * c.sz : Nat) : Int) := by
    have : page * (c.sz : Int) = ((page.toNat * c.sz : Nat) : Int) := by rw [Int.natCast_mul]; congr 1; omega
    rw [this]; exact w64 (by omega) (by omega)
  rw [e1]
  have hbb : BytesAt w₄ (some ⟨l, 0, none⟩) (c.blk block.toNat) := hbi.row
  have hcap := hbi.2.1
  rw [← hblen]
  refine slice_bytes_from hbb (by omega) (by omega) (by omega) fun a' c' ha' _ _ _ _ => ?_
  simp only [Int.toNat_natCast] at ha' ⊢
  refine (seal_Blank_spec ha' (by simp; omega)).mono ?_
  rintro _ _ ⟨rfl, rfl⟩
  rename_i w₄
  refine ⟨_, rfl, rfl, ?_⟩
  cases hbk : isBlank ((c.blk block.toNat).drop (page.toNat * c.sz)) with
  | false =>
    have e : c.program block page b = (c, 8) := by unfold Chip.program; rw [if_neg (by omega), if_neg (by omega), if_neg (by rw [hbad]; simp [hf]), if_pos hbk]
    rw [e]
    simp only [Bool.not_false, br_true]
    exact ⟨Upd.ext e4, L, SameLoc.refl _, h4, rfl⟩
  | true =>
    have e : c.program block page b = c.done block.toNat (page.toNat * c.sz) c.sz b := by unfold Chip.program; rw [if_neg (by omega), if_neg (by omega), if_neg (by rw [hbad]; simp [hf]), if_neg (by rw [hbk]; simp)]
    rw [e]
    simp only [Bool.not_true, br_false]
    have eb : block = (block.toNat : Int) := by omega
    have ep : page = (page.toNat : Int) := by omega
    rw [eb, ep]
    refine (nand_page_spec h4 block.toNat page.toNat hb1 hp1).mono ?_
    rintro _ w₆ ⟨he6, l', hl', rfl⟩
    rw [hl] at hl'
    cases hl'
    refine ⟨_, _, _, rfl, ?_⟩
    have h6 := h4.ext he6
    have hcell6 := Ext.get he6 hcell4
    have hb6 : BytesAt w₆ a b := RowAt.ext (RowAt.ext hb e4) he6
    have hlm := List.mem_of_getElem? hl
    have hpw : p < w.heap.size := (Array.getElem?_eq_some_iff.1 h.head).1
    have hlw : l < w.heap.size := by
      obtain ⟨vs0, _, hv0⟩ := h.rows
      obtain ⟨l3, cap3, hl3, _, hbi3⟩ := hv0 block.toNat hb1
      rw [hl] at hl3
      cases hl3
      exact OwnAt.blk hbi3 rfl
    refine (nand_done_spec h6 hb1 hps hl b fun i hi u hu => ?_).mono ?_
    · refine ⟨rfl, ?_⟩
      refine nand_Program_1_spec (cell_of (hu.get hcell6 (by omega)) rfl) (RowAt.upd hb6 hu fun q hq hq' => ?_) (by omega)
      have := hap q hq
      rcases hq' with hq' | hq'
      · exact this (by simp [hq'])
      · exact this (by rw [hq']; simp [hlm])
    · rintro _ w₇ ⟨hu7, L', hs7, h7, rfl⟩
      refine ⟨_, rfl, (Upd.ext (e4.trans he6)).trans (hu7.mono fun x _ hx => ?_), L', hs7, h7, ?_⟩
      · rcases hx with rfl | rfl | rfl
        · simp
        · simp
        · simp [hlm]
      · rfl

theorem nand_Erase_spec {w : World} {p : Nat} {c : Chip} {L : Loc} {G : Nat → Prop} (h : ChipRep w p c L G) (block : Int) :
    CallsR prog K.nand_Chip_Erase #[.pointer (some ⟨p, 0, none⟩), .int .i64 block] w fun v w' =>
      Upd (fun x => x ∈ p :: L.bb :: L.locs) w w' ∧ ∃ L', SameLoc L L' ∧ ChipRep w' p (c.erase block).1 L' G ∧ v = .int .i64 ((c.erase block).2 : Nat) := by
  apply nand_Chip_Erase.sh
  unfold nand_Chip_Erase.body
  refine (nand_ask_spec h block 0).mono ?_
  rintro _ _ ⟨rfl, rfl⟩
  rename_i w
  refine ⟨_, rfl, br_ne (fun hne => ?_) fun heq => ?_⟩
  · have e : c.erase block = (c, c.ask block 0) := by unfold Chip.erase; rw [if_pos (by omega)]
    rw [e]
    exact ⟨Upd.refl _ _, L, SameLoc.refl _, h, rfl⟩
  have h0 : c.ask block 0 = 0 := by omega
  obtain ⟨hd, hb0, hb1, hp0, hp1⟩ := ask_zero h0
  simp only [nilC_some', add_lit]
  refine ⟨_, _, _, cell_of h.head rfl, hb0, by omega, ?_⟩
  simp only [nilC_some', add_lit, Nat.mul_one, Nat.zero_add]
  have hlt : block.toNat < c.bad.length := by rw [h.ok.bad]; omega
  obtain ⟨b', o', hab, hc⟩ := RowAt.cell h.bad.row (i := block.toNat) (v := .bool c.bad[block.toNat]) (by simp [hlt])
  cases hab
  simp only [Nat.zero_add] at hc
  have hbad : c.isBad block.toNat = c.bad[block.toNat] := by simp [Chip.isBad, List.getD, hlt]
  refine ⟨_, hc, br_intro (fun ht => ?_) fun hf => ?_⟩
  · have e : c.erase block = (c, 9) := by unfold Chip.erase; rw [if_neg (by omega), if_pos (by rw [hbad]; exact ht)]
    rw [e]
    exact ⟨Upd.refl _ _, L, SameLoc.refl _, h, rfl⟩
  obtain ⟨vs, ho, hv⟩ := h.rows
  obtain ⟨l, cap, hl, hvi, hbi⟩ := hv block.toNat hb1
  refine ⟨_, _, _, cell_of h.head rfl, hb0, by omega, ?_⟩
  obtain ⟨b', o', hab, hc'⟩ := RowAt.cell ho.row hvi
  cases hab
  simp only [Nat.zero_add] at hc'
  simp only [nilC_some', add_lit, Nat.mul_one, Nat.zero_add]
  refine ⟨_, _, _, hc', ?_⟩
  have e : c.erase block = c.done block.toNat 0 (c.np * c.sz) (List.replicate (c.np * c.sz) 255) := by unfold Chip.erase; rw [if_neg (by omega), if_neg (by rw [hbad]; simp [hf])]
  rw [e]
  have eb : block = (block.toNat : Int) := by omega
  have hlm := List.mem_of_getElem? hl
  rw [eb]
  refine (nand_done_spec h hb1 (off := 0) (by omega) hl (List.replicate (c.np * c.sz) 255) fun i hi u hu => ?_).mono ?_
  · refine ⟨rfl, ?_⟩
    apply nand_Chip_Erase_1.sh
    refine ⟨?_, by trivial⟩
    simp [List.getD, hi]
  · rintro _ w₇ ⟨hu7, L', hs7, h7, rfl⟩
    refine ⟨_, rfl, hu7.mono fun x _ hx => ?_, L', hs7, h7, rfl⟩
    rcases hx with rfl | rfl | rfl
    · simp
    · simp
    · simp [hlm]

end Go.Den
