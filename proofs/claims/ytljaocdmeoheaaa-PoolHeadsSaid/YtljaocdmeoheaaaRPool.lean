/- How a pool lies in memory, beside its chip. -/
import Derived.Test.YtljaocdmeoheaaaMPool
set_option linter.unusedVariables false
set_option linter.unusedSimpArgs false
namespace Go.Den

theorem Blk.vals_length (b : Blk) : b.vals.length = 4 := rfl
theorem Taken.vals_length (b : Taken) : b.vals.length = 5 := rfl

/-- where a pool and its chip lie -/
structure PLoc where
  q : Nat
  pb : Nat
  cap : Nat
  p : Nat
abbrev poolCells (P : Pool) (c : Chip) (M : PLoc) : Array Value := #[.pointer (some ⟨M.p, 0, none⟩), .slice (some ⟨M.pb, 0, none⟩) c.nb M.cap, .int .u64 P.last, .int .i64 P.turn]

structure PC (w : World) (M : PLoc) (P : Pool) (c : Chip) (L : Loc) (G : Nat → Prop) : Prop where
  chip : ChipRep w M.p c L G
  head : w.heap[M.q]? = some (.cells (poolCells P c M) T.pool_Pool (0, 0))
  own : OwnAt w (some ⟨M.pb, 0, none⟩) c.nb M.cap T.pool_block 4 (P.blocks.flatMap Blk.vals)
  turn : P.turn ≤ c.nb
  apart : ∀ x, x = M.q ∨ x = M.pb → x ∉ M.p :: L.bb :: L.locs ∧ ¬ G x
  ne : M.q ≠ M.pb

/-- the blocks that a pool's deeds write -/
def PF (M : PLoc) (L : Loc) : Nat → Prop := fun x => x = M.q ∨ x = M.pb ∨ x ∈ M.p :: L.bb :: L.locs
theorem PF.same {M : PLoc} {L L' : Loc} (h : SameLoc L L') : PF M L' = PF M L := by
  unfold PF
  rw [h.1, h.2.2.2.2]

theorem PC.len {w : World} {M : PLoc} {P : Pool} {c : Chip} {L : Loc} {G : Nat → Prop} (h : PC w M P c L G) : P.blocks.length = c.nb := by
  have := h.own.1
  rw [flat_len Blk.vals_length] at this
  exact Nat.eq_of_mul_eq_mul_right (by omega) this
theorem PC.upd {F : Nat → Prop} {w w' : World} {M : PLoc} {P : Pool} {c : Chip} {L : Loc} {G : Nat → Prop} (h : PC w M P c L G) (k : Upd F w w') (hf : ∀ x, PF M L x → ¬ F x) (hg : ∀ x, G x → ¬ F x) : PC w' M P c L G :=
  ⟨h.chip.upd k (fun x hx => hf x (.inr (.inr hx))) hg, k.get h.head (hf _ (.inl rfl)), OwnAt.upd h.own k (fun b hb => by cases hb; exact hf _ (.inr (.inl rfl))), h.turn, h.apart, h.ne⟩
theorem PC.ext {w w' : World} {M : PLoc} {P : Pool} {c : Chip} {L : Loc} {G : Nat → Prop} (h : PC w M P c L G) (k : Ext w w') : PC w' M P c L G := h.upd k (fun _ _ hf => hf) (fun _ _ hf => hf)
/-- the chip became another -/
theorem PC.rechip {w w' : World} {M : PLoc} {P : Pool} {c c' : Chip} {L L' : Loc} {G G' : Nat → Prop} (h : PC w M P c L G) (k : Upd (fun x => x ∈ M.p :: L.bb :: L.locs) w w') (hc : ChipRep w' M.p c' L' G') (hs : SameLoc L L') (hg : c.SameGeo c')
    (hG : ∀ x, x = M.q ∨ x = M.pb → ¬ G' x) : PC w' M P c' L' G' := by
  refine ⟨hc, ?_, ?_, by rw [hg.1]; exact h.turn, fun x hx => ⟨?_, hG x hx⟩, h.ne⟩
  · have := k.get h.head (h.apart _ (.inl rfl)).1
    rw [this]
    simp only [poolCells, hg.1]
  · rw [hg.1]; exact OwnAt.upd h.own k (fun b hb => by cases hb; exact (h.apart _ (.inr rfl)).1)
  · rw [hs.1, hs.2.2.2.2]; exact (h.apart x hx).1
/-- last and turn become others -/
theorem PC.rehead {w w' : World} {M : PLoc} {P : Pool} {c : Chip} {L : Loc} {G : Nat → Prop} (h : PC w M P c L G) (k : Upd (· = M.q) w w') {last turn : Nat} (ht : turn ≤ c.nb)
    (hd : w'.heap[M.q]? = some (.cells (poolCells { P with last := last, turn := turn } c M) T.pool_Pool (0, 0))) : PC w' M { P with last := last, turn := turn } c L G := by
  have ha := h.apart _ (.inl rfl)
  exact ⟨h.chip.upd k (fun x hx e => ha.1 (e ▸ hx)) (fun x hx e => ha.2 (e ▸ hx)), hd, OwnAt.upd h.own k (fun b hb => by cases hb; exact fun e => h.ne e.symm), ht, h.apart, h.ne⟩
/-- a block is known anew -/
theorem PC.reblk {w w' : World} {M : PLoc} {P : Pool} {c : Chip} {L : Loc} {G : Nat → Prop} (h : PC w M P c L G) (k : Upd (· = M.pb) w w') {i : Nat} {b : Blk}
    (ho : OwnAt w' (some ⟨M.pb, 0, none⟩) c.nb M.cap T.pool_block 4 ((P.setBlk i b).blocks.flatMap Blk.vals)) : PC w' M (P.setBlk i b) c L G := by
  have ha := h.apart _ (.inr rfl)
  exact ⟨h.chip.upd k (fun x hx e => ha.1 (e ▸ hx)) (fun x hx e => ha.2 (e ▸ hx)), k.get h.head h.ne, ho, h.turn, h.apart, h.ne⟩
theorem PC.blk {w : World} {M : PLoc} {P : Pool} {c : Chip} {L : Loc} {G : Nat → Prop} (h : PC w M P c L G) {i : Nat} (hi : i < c.nb) : ∃ hl : i < P.blocks.length, P.blk i = P.blocks[i] := by
  have hl : i < P.blocks.length := by rw [h.len]; exact hi
  exact ⟨hl, by simp [Pool.blk, List.getD, hl]⟩
/-- a block's cells are pointed at -/
theorem PC.idx {w : World} {M : PLoc} {P : Pool} {c : Chip} {L : Loc} {G : Nat → Prop} (h : PC w M P c L G) {i : Nat} (hi : i < c.nb) {K : Addr → Prop}
    (hk : RowAt w (some ⟨M.pb, i * 4, none⟩) (P.blk i).vals → K ⟨M.pb, i * 4, none⟩) : idxP (some ⟨M.pb, 0, none⟩) c.nb (i : Int) 4 K := by
  obtain ⟨hl, e⟩ := h.blk hi
  refine idx_flat (f := Blk.vals) Blk.vals_length (by omega) h.own.row h.len.symm hl fun b o ha hr => ?_
  cases ha
  rw [Nat.zero_add] at hr ⊢
  rw [← e] at hr
  exact hk hr
/-- a block is written -/
theorem PC.store {w : World} {M : PLoc} {P : Pool} {c : Chip} {L : Loc} {G : Nat → Prop} (h : PC w M P c L G) {i : Nat} (hi : i < c.nb) (b : Blk) {K : World → Prop}
    (hk : ∀ w', Upd (· = M.pb) w w' → PC w' M (P.setBlk i b) c L G → K w') : storeP w ⟨M.pb, i * 4, none⟩ b.vals K := by
  obtain ⟨hl, _⟩ := h.blk hi
  refine own_store h.own (by rw [flat_len Blk.vals_length, Blk.vals_length]; omega) fun w' hu ho => hk w' hu (h.reblk hu ?_)
  have := flat_set Blk.vals_length P.blocks hl b
  rw [Blk.vals_length] at ho
  rw [this] at ho
  exact ho

end Go.Den
