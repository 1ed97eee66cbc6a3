/- Contracts of layer 3 (nand): deeds. -/
import Derived.Test.YtljaocdmeoheaaaSNand
set_option linter.unusedVariables false
set_option linter.unusedSimpArgs false
namespace Go.Den

theorem callT.mono {f : Value} {args : List Value} {w : World} {R R' : Value → World → Prop} (h : callT f args w R) (hr : ∀ v w', R v w' → R' v w') : callT f args w R' := by
  unfold callT at h ⊢
  split at h
  · exact ⟨h.1, h.2.mono hr⟩
  · exact h.elim

theorem OwnAt.cap_eq {w : World} {b len cap cap' : Nat} {e : TypeId} {x y : List Value} (h : OwnAt w (some ⟨b, 0, none⟩) len cap e 1 x) (k : OwnAt w (some ⟨b, 0, none⟩) len cap' e 1 y) : cap = cap' := by
  obtain ⟨_, _, h⟩ := h
  obtain ⟨_, _, k⟩ := k
  rcases h with ⟨h, _⟩ | ⟨b1, cur1, h, hb1, hs1, _⟩
  · cases h
  · rcases k with ⟨k, _⟩ | ⟨b2, cur2, k, hb2, hs2, _⟩
    · cases k
    · cases h; cases k
      rw [hb1] at hb2
      cases hb2
      omega

/-- a cell of a row of the call's own is written -/
theorem own_store {w : World} {b len cap size : Nat} {e : TypeId} {cells : List Value} (h : OwnAt w (some ⟨b, 0, none⟩) len cap e size cells) {o : Nat} {vs : List Value} (ho : o + vs.length ≤ cells.length) {K : World → Prop}
    (hk : ∀ w', Upd (· = b) w w' → OwnAt w' (some ⟨b, 0, none⟩) len cap e size (cells.take o ++ vs ++ cells.drop (o + vs.length)) → K w') : storeP w ⟨b, o, none⟩ vs K := by
  obtain ⟨hl, hc, h⟩ := h
  rcases h with ⟨h, _⟩ | ⟨b1, cur, h, hb, hs, ht⟩
  · cases h
  · cases h
    have hle : len * size ≤ cap * size := Nat.mul_le_mul_right _ hc
    refine store_of hb (by omega) fun w' hput => hk w' (Put.upd1 hput) ⟨by simp; omega, hc, .inr ⟨b, _, rfl, hput.get, by rw [splice_size _ _ _ (by omega), hs], ?_⟩⟩
    simp only [splice]
    subst ht
    rw [List.take_take, Nat.min_eq_left (by omega)]
    simp only [List.length_take, Array.length_toList] at hl ho ⊢
    rw [List.drop_take]
    rw [List.take_append, List.take_of_length_le (by simp; omega)]
    simp only [List.append_assoc]
    simp only [List.length_append, List.length_take, Array.length_toList]
    congr 3
    omega

def SameLoc (L L' : Loc) : Prop := L'.bb = L.bb ∧ L'.cbad = L.cbad ∧ L'.pb = L.pb ∧ L'.cb = L.cb ∧ L'.locs = L.locs
theorem SameLoc.refl (L : Loc) : SameLoc L L := ⟨rfl, rfl, rfl, rfl, rfl⟩
theorem SameLoc.trans {A B C : Loc} (h : SameLoc A B) (k : SameLoc B C) : SameLoc A C := by
  obtain ⟨a, b, c, d, e⟩ := h
  obtain ⟨a', b', c', d', e'⟩ := k
  exact ⟨by rw [a', a], by rw [b', b], by rw [c', c], by rw [d', d], by rw [e', e]⟩

/-- the chip's numbers of deeds and hits become others -/
theorem ChipRep.reh {w w' : World} {p : Nat} {c : Chip} {L : Loc} {G : Nat → Prop} (h : ChipRep w p c L G) (k : Upd (· = p) w w') (hs : List Hit) (since : Int) (dead : Bool) (deeds : Int) (ha : Option Addr) (ch : Nat)
    (hd : w'.heap[p]? = some (.cells (chipCells { c with hits := hs, since := since, dead := dead, deeds := deeds } { L with ha := ha, ch := ch }) T.nand_Chip (0, 0)))
    (hh : ∃ vs, RowAt w ha vs ∧ HitRow w G vs hs ∧ hs.length ≤ ch ∧ ∀ a, ha = some a → G a.block) : ChipRep w' p { c with hits := hs, since := since, dead := dead, deeds := deeds } { L with ha := ha, ch := ch } G := by
  have hnd := h.nodup
  have hne : ∀ x, x ∈ L.bb :: L.locs → x ≠ p := fun x hx e => by subst e; exact (List.nodup_cons.1 hnd).1 hx
  have hgp : ∀ x, G x → x ≠ p := fun x hx e => by subst e; exact h.apart _ (by simp) hx
  refine ⟨⟨h.ok.nb1, h.ok.nb2, h.ok.np1, h.ok.np2, h.ok.sz1, h.ok.sz2, h.ok.bl, h.ok.bl2, h.ok.bad⟩, hd, OwnAt.upd h.bad k (fun b hb => by cases hb; exact hne _ (by simp)), ?_, ?_, h.len, h.nodup, h.apart, h.pbG⟩
  · obtain ⟨vs, ho, hv⟩ := h.rows
    refine ⟨vs, OwnAt.upd ho k (fun b hb => by cases hb; exact hgp _ h.pbG), fun i hi => ?_⟩
    obtain ⟨l, cap, hl, hvi, hbi⟩ := hv i hi
    exact ⟨l, cap, hl, hvi, OwnAt.upd hbi k (fun b hb => by cases hb; exact hne _ (by simp [List.mem_of_getElem? hl]))⟩
  · obtain ⟨vs, hr, hh, hc, ha⟩ := hh
    exact ⟨vs, RowAt.upd hr k (fun a e => hgp _ (ha a e)), HitRow.upd k hgp hh, hc, ha⟩

/-- a block becomes another -/
theorem ChipRep.reblk {w w' : World} {p : Nat} {c : Chip} {L : Loc} {G : Nat → Prop} (h : ChipRep w p c L G) {i l cap : Nat} (k : Upd (· = l) w w') (hi : i < c.nb) (hl : L.locs[i]? = some l) {b : List UInt8} (hb : b.length = c.np * c.sz)
    (ho : OwnAt w (some ⟨l, 0, none⟩) (c.np * c.sz) cap T.uint8 1 ((c.blk i).map bv)) (hn : OwnAt w' (some ⟨l, 0, none⟩) (c.np * c.sz) cap T.uint8 1 (b.map bv)) : ChipRep w' p (c.setBlk i b) L G := by
  have hnd := h.nodup
  have hlm := List.mem_of_getElem? hl
  have hpl : p ≠ l := fun e => by subst e; exact (List.nodup_cons.1 hnd).1 (by simp [hlm])
  have hnd2 := (List.nodup_cons.1 hnd).2
  have hbl : L.bb ≠ l := fun e => by rw [e] at hnd2; exact (List.nodup_cons.1 hnd2).1 hlm
  have hgl : ∀ x, G x → x ≠ l := fun x hx e => by subst e; exact h.apart _ (by simp [hlm]) hx
  have hib : i < c.blocks.length := by rw [h.ok.bl]; exact hi
  refine ⟨⟨h.ok.nb1, h.ok.nb2, h.ok.np1, h.ok.np2, h.ok.sz1, h.ok.sz2, by simp [Chip.setBlk, h.ok.bl], fun x hx => ?_, h.ok.bad⟩, k.get h.head hpl, OwnAt.upd h.bad k (fun b hb => by cases hb; exact hbl), ?_, ?_, h.len, h.nodup, h.apart, h.pbG⟩
  · rcases List.mem_or_eq_of_mem_set hx with hx | hx
    · exact h.ok.bl2 x hx
    · rw [hx]; exact hb
  · obtain ⟨vs, hvo, hv⟩ := h.rows
    refine ⟨vs, OwnAt.upd hvo k (fun b hb => by cases hb; exact hgl _ h.pbG), fun j hj => ?_⟩
    obtain ⟨l', cap', hl', hvj, hbj⟩ := hv j hj
    refine ⟨l', cap', hl', hvj, ?_⟩
    by_cases hij : i = j
    · subst hij
      rw [hl] at hl'
      cases hl'
      have hc := OwnAt.cap_eq ho hbj
      subst hc
      have : (c.setBlk i b).blk i = b := by simp [Chip.setBlk, Chip.blk, List.getD, hib]
      rw [this]; exact hn
    · have : (c.setBlk i b).blk j = c.blk j := by simp [Chip.setBlk, Chip.blk, List.getD, hij]
      rw [this]
      refine OwnAt.upd hbj k (fun b hb => by
        cases hb
        intro e
        subst e
        have hnd3 := (List.nodup_cons.1 hnd2).2
        have h1 := (List.getElem?_eq_some_iff.1 hl)
        have h2 := (List.getElem?_eq_some_iff.1 hl')
        obtain ⟨p1, e1⟩ := h1
        obtain ⟨p2, e2⟩ := h2
        rcases Nat.lt_or_gt_of_ne hij with hlt | hlt
        · exact List.pairwise_iff_getElem.1 hnd3 i j p1 p2 hlt (e1.trans e2.symm)
        · exact List.pairwise_iff_getElem.1 hnd3 j i p2 p1 hlt (e2.trans e1.symm))
  · obtain ⟨vs, hr, hh, hc, ha⟩ := h.hits
    exact ⟨vs, RowAt.upd hr k (fun a e => hgl _ (ha a e)), HitRow.upd k hgl hh, hc, ha⟩

/-- a block becomes bad -/
theorem ChipRep.rebad {w w' : World} {p : Nat} {c : Chip} {L : Loc} {G : Nat → Prop} (h : ChipRep w p c L G) (k : Upd (· = L.bb) w w') {b : List Bool} (hb : b.length = c.nb)
    (hn : OwnAt w' (some ⟨L.bb, 0, none⟩) c.nb L.cbad T.bool 1 (b.map Value.bool)) : ChipRep w' p { c with bad := b } L G := by
  have hnd := h.nodup
  have hpl : p ≠ L.bb := fun e => (List.nodup_cons.1 hnd).1 (by simp [e])
  have hnd2 := (List.nodup_cons.1 hnd).2
  have hgl : ∀ x, G x → x ≠ L.bb := fun x hx e => by subst e; exact h.apart _ (by simp) hx
  refine ⟨⟨h.ok.nb1, h.ok.nb2, h.ok.np1, h.ok.np2, h.ok.sz1, h.ok.sz2, h.ok.bl, h.ok.bl2, hb⟩, k.get h.head hpl, hn, ?_, ?_, h.len, h.nodup, h.apart, h.pbG⟩
  · obtain ⟨vs, hvo, hv⟩ := h.rows
    refine ⟨vs, OwnAt.upd hvo k (fun b hb => by cases hb; exact hgl _ h.pbG), fun j hj => ?_⟩
    obtain ⟨l', cap', hl', hvj, hbj⟩ := hv j hj
    refine ⟨l', cap', hl', hvj, OwnAt.upd hbj k (fun b hb => by
      cases hb
      intro e
      rw [← e] at hnd2
      exact (List.nodup_cons.1 hnd2).1 (List.mem_of_getElem? hl'))⟩
  · obtain ⟨vs, hr, hh, hc, ha⟩ := h.hits
    exact ⟨vs, RowAt.upd hr k (fun a e => hgl _ (ha a e)), HitRow.upd k hgl hh, hc, ha⟩

theorem nand_strike_spec {w : World} {p : Nat} {c : Chip} {L : Loc} {G : Nat → Prop} (h : ChipRep w p c L G) :
    CallsR prog K.nand_Chip_strike #[.pointer (some ⟨p, 0, none⟩)] w fun v w' => Upd (· = p) w w' ∧ ∃ L', SameLoc L L' ∧ ChipRep w' p c.strike.1 L' G ∧
      match c.strike.2 with
      | none => v = .pointer none
      | some t => ∃ B m cp, w.heap.size ≤ B ∧ v = .pointer (some ⟨B, 0, none⟩) ∧ w'.heap[B]? = some (.cells #[.int .i64 t.after, .bool t.fails, .slice m t.mask.length cp] T.api_Hit (0, 0)) ∧ BytesAt w' m t.mask ∧ ∀ q, m = some q → G q.block := by
  apply nand_Chip_strike.sh
  simp only [nand_Chip_strike.body, nilC_some', add_lit]
  refine ⟨_, cell_of h.head rfl, store_of h.head (by simp [chipCells]) fun w₁ hput => ?_⟩
  have h1 := h.reh (Put.upd1 hput) c.hits c.since c.dead (IntKind.i64.wrap (c.deeds + 1)) L.ha L.ch hput.get h.hits
  refine ⟨_, _, _, cell_of h1.head rfl, br_eq (fun h0 => ?_) fun h0 => ?_⟩
  · have hn : c.hits = [] := List.eq_nil_of_length_eq_zero (by simpa using h0)
    have e : c.strike = ({ c with deeds := IntKind.i64.wrap (c.deeds + 1) }, none) := by unfold Chip.strike; rw [hn]
    rw [e]
    exact ⟨Put.upd1 hput, _, SameLoc.refl _, h1, trivial⟩
  · obtain ⟨t, r, hr⟩ : ∃ t r, c.hits = t :: r := by
      cases hc : c.hits with
      | nil => rw [hc] at h0; simp at h0
      | cons t r => exact ⟨t, r, rfl⟩
    intro w₂ hdrew
    have h2 := h1.ext hdrew.upd
    obtain ⟨vs, hrow, hhit, hch, hag⟩ := h2.hits
    simp only [hr] at hhit
    obtain ⟨m, cp, rr, hvs, hmb, hmg, hrr⟩ := hhit
    refine ⟨fun u => u = w₂, rfl, _, fun u hu => hu ▸ cell_of h2.head rfl, _, _, _, fun u hu => hu ▸ cell_of h2.head rfl, ?_⟩
    have hlen : c.hits.length = r.length + 1 := by rw [hr]; rfl
    refine ⟨Int.le_refl 0, by simp [hlen], ?_⟩
    have hca := RowAt.cell hrow (i := 0) (v := .int .i64 t.after) (by rw [hvs]; rfl)
    obtain ⟨hb, ho, hab, hc⟩ := hca
    simp only [] at hab
    simp only [hab, nilC_some', tn0, Nat.zero_mul, add_lit, Nat.add_zero]
    refine ⟨_, fun u hu => hu ▸ hc, br_dec (fun hlt => ?_) fun hge => ?_⟩
    · refine ⟨_, cell_of h2.head rfl, store_of h2.head (by simp [chipCells]) fun w₃ hput3 => ?_⟩
      have h3 := h2.reh (Put.upd1 hput3) c.hits (IntKind.i64.wrap (c.since + 1)) c.dead (IntKind.i64.wrap (c.deeds + 1)) L.ha L.ch hput3.get h2.hits
      have e : c.strike = ({ c with deeds := IntKind.i64.wrap (c.deeds + 1), since := IntKind.i64.wrap (c.since + 1) }, none) := by
        unfold Chip.strike; rw [hr]; simp only []; rw [if_pos (by simpa using hlt)]
      rw [e]
      exact ⟨Upd.trans (Put.upd1 hput) ((Upd.ext hdrew.upd).trans (Put.upd1 hput3)), _, SameLoc.refl _, h3, trivial⟩
    · have e : c.strike = ({ c with deeds := IntKind.i64.wrap (c.deeds + 1), since := 0, hits := r }, some t) := by
        unfold Chip.strike; rw [hr]; simp only []; rw [if_neg (by simpa using hge)]
      refine ⟨L.ha, c.hits.length, L.ch, cell_of h2.head rfl, ?_⟩
      refine ⟨Int.le_refl 0, by simp [hlen], ?_⟩
      simp only [hab, nilC_some', tn0, Nat.zero_mul, add_lit, Nat.add_zero]
      have hrow0 : RowAt w₂ (some ⟨hb, ho, none⟩) vs := by have := hrow; simp only [hab] at this; exact this
      have hcs := RowAt.cells hrow0
      rw [hvs] at hcs
      refine ⟨t.after, t.fails, m, t.mask.length, cp, ?_, ?_⟩
      · exact ⟨hcs.1, hcs.2.1, hcs.2.2.1, trivial⟩
      intro B w₄ hnew
      refine store_of hnew.get (by simp) fun w₅ hput5 => ?_
      have hB : B = w₂.heap.size := hnew.num
      have e5 : Ext w₂ w₅ := Put.upd hnew.upd hput5 (.inl (by omega))
      have h5 := h2.ext e5
      refine ⟨L.ha, c.hits.length, L.ch, cell_of h5.head rfl, ?_⟩
      have hr3 : RowAt w₅ (if L.ch = (1 : Int).toNat then L.ha else L.ha.map (·.add ((1 : Int).toNat * 3))) rr := by
        split
        · rename_i hc1
          simp at hc1
          have : rr = [] := by
            have hr0 : r = [] := List.eq_nil_of_length_eq_zero (by have := hch; simp only [] at this; omega)
            subst hr0
            exact hrr
          rw [this]; exact RowAt.nil _ _
        · rw [hab]
          have := RowAt.drop hrow0 3
          rw [hvs] at this
          simpa using RowAt.ext this e5
      refine slice_from (by omega) (by simp [hlen]; omega) (by simpa using hch) ?_
      refine store_of h5.head (by simp [chipCells]) fun w₆ hput6 => ?_
      generalize hna : (if L.ch = (1 : Int).toNat then L.ha else L.ha.map (·.add ((1 : Int).toNat * 3))) = na at hr3 hput6
      have hnag : ∀ a, na = some a → G a.block := by
        intro a ha
        rw [← hna] at ha
        split at ha
        · exact hag a ha
        · rw [hab] at ha
          simp at ha
          have := hag ⟨hb, ho, none⟩ hab
          rw [← ha]; exact this
      have h6 := h5.reh (Put.upd1 hput6) r c.since c.dead (IntKind.i64.wrap (c.deeds + 1)) na (L.ch - 1) (by
        have := hput6.get
        rw [this, hlen]; rfl) ⟨rr, hr3, HitRow.upd e5 (fun _ _ hf => hf) hrr, by simp only [] at hch; omega, hnag⟩
      refine store_of h6.head (by simp [chipCells]) fun w₇ hput7 => ?_
      have h7 := h6.reh (Put.upd1 hput7) r 0 c.dead (IntKind.i64.wrap (c.deeds + 1)) na (L.ch - 1) hput7.get h6.hits
      rw [e]
      have hpB : p ≠ B := by
        have := (Array.getElem?_eq_some_iff.1 h2.head).1
        omega
      have e67 : Upd (· = p) w₅ w₇ := (Put.upd1 hput6).trans (Put.upd1 hput7)
      refine ⟨Upd.trans (Put.upd1 hput) ((Upd.ext hdrew.upd).trans ((Upd.ext e5).trans e67)), _, ?_, h7, ?_⟩
      · exact ⟨rfl, rfl, rfl, rfl, rfl⟩
      · have hgp : ∀ x, G x → x ≠ p := fun x hx e => by subst e; exact h.apart _ (by simp) hx
        refine ⟨B, m, cp, ?_, rfl, ?_, ?_, hmg⟩
        · have a1 := hput.size
          have a2 := hdrew.heap
          rw [hB, a2, a1]; omega
        · refine e67.get ?_ (fun e => hpB e.symm)
          have := hput5.get
          rw [this]
          rfl
        · exact RowAt.upd (RowAt.ext hmb e5) e67 (fun q hq => hgp _ (hmg q hq))

end Go.Den
