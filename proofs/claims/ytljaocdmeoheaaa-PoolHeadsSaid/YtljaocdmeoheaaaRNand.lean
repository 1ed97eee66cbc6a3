/- How a chip lies in memory; what stays of it. -/
import Derived.Test.YtljaocdmeoheaaaMNand
set_option linter.unusedVariables false
set_option linter.unusedSimpArgs false
namespace Go.Den

/-- hits, three cells each; their masks -/
def HitRow (w : World) (G : Nat → Prop) : List Value → List Hit → Prop
  | vs, [] => vs = []
  | vs, h :: hs => ∃ m c r, vs = Value.int .i64 h.after :: Value.bool h.fails :: Value.slice m h.mask.length c :: r ∧ BytesAt w m h.mask ∧ (∀ p, m = some p → G p.block) ∧ HitRow w G r hs
theorem HitRow.upd {G F : Nat → Prop} {w w' : World} (k : Upd F w w') (hf : ∀ x, G x → ¬ F x) : ∀ {hs : List Hit} {vs : List Value}, HitRow w G vs hs → HitRow w' G vs hs
  | [], vs, h => h
  | h :: hs, vs, ⟨m, c, r, e, hb, hg, hr⟩ => ⟨m, c, r, e, RowAt.upd hb k (fun p hp => hf _ (hg p hp)), hg, HitRow.upd k hf hr⟩
theorem HitRow.length {w : World} {G : Nat → Prop} : ∀ {hs : List Hit} {vs : List Value}, HitRow w G vs hs → vs.length = hs.length * 3
  | [], vs, h => by cases h; rfl
  | h :: hs, vs, ⟨m, c, r, e, hb, hg, hr⟩ => by rw [e]; simp [HitRow.length hr]; omega
theorem HitRow.mono {w : World} {G H : Nat → Prop} (hgh : ∀ x, G x → H x) : ∀ {hs : List Hit} {vs : List Value}, HitRow w G vs hs → HitRow w H vs hs
  | [], vs, h => h
  | h :: hs, vs, ⟨m, c, r, e, hb, hg, hr⟩ => ⟨m, c, r, e, hb, fun p hp => hgh _ (hg p hp), HitRow.mono hgh hr⟩

/-- where a chip's parts lie -/
structure Loc where
  bb : Nat
  cbad : Nat
  pb : Nat
  cb : Nat
  ha : Option Addr
  ch : Nat
  locs : List Nat

def chipCells (c : Chip) (L : Loc) : Array Value :=
  #[.int .i64 c.nb, .int .i64 c.np, .int .i64 c.sz, .int .i64 c.sp, .slice (some ⟨L.pb, 0, none⟩) c.nb L.cb, .slice (some ⟨L.bb, 0, none⟩) c.nb L.cbad, .slice L.ha c.hits.length L.ch,
    .int .i64 c.since, .bool c.dead, .int .i64 c.deeds]

/-- the chip c lies at p, its parts at L; what it reads alone in G -/
structure ChipRep (w : World) (p : Nat) (c : Chip) (L : Loc) (G : Nat → Prop) : Prop where
  ok : c.Ok
  head : w.heap[p]? = some (.cells (chipCells c L) T.nand_Chip (0, 0))
  bad : OwnAt w (some ⟨L.bb, 0, none⟩) c.nb L.cbad T.bool 1 (c.bad.map Value.bool)
  rows : ∃ vs, OwnAt w (some ⟨L.pb, 0, none⟩) c.nb L.cb T.L_uint8 1 vs ∧ ∀ i, i < c.nb → ∃ l cap, L.locs[i]? = some l ∧ vs[i]? = some (.slice (some ⟨l, 0, none⟩) (c.np * c.sz) cap) ∧ OwnAt w (some ⟨l, 0, none⟩) (c.np * c.sz) cap T.uint8 1 ((c.blk i).map bv)
  hits : ∃ vs, RowAt w L.ha vs ∧ HitRow w G vs c.hits ∧ c.hits.length ≤ L.ch ∧ ∀ a, L.ha = some a → G a.block
  len : L.locs.length = c.nb
  nodup : (p :: L.bb :: L.locs).Nodup
  apart : ∀ x, x ∈ p :: L.bb :: L.locs → ¬ G x
  pbG : G L.pb

/-- the chip c lies at p, in the blocks F -/
def ChipAt (w : World) (p : Nat) (c : Chip) (F : Nat → Prop) : Prop :=
  ∃ L G, ChipRep w p c L G ∧ (∀ x, x ∈ p :: L.bb :: L.locs → F x) ∧ (∀ x, G x → F x) ∧ ∀ x, F x → x < w.heap.size

theorem ChipRep.upd {F G : Nat → Prop} {w w' : World} {p : Nat} {c : Chip} {L : Loc} (h : ChipRep w p c L G) (k : Upd F w w') (hm : ∀ x, x ∈ p :: L.bb :: L.locs → ¬ F x) (hg : ∀ x, G x → ¬ F x) : ChipRep w' p c L G := by
  refine ⟨h.ok, k.get h.head (hm _ (by simp)), OwnAt.upd h.bad k (fun b hb => by cases hb; exact hm _ (by simp)), ?_, ?_, h.len, h.nodup, h.apart, h.pbG⟩
  · obtain ⟨vs, ho, hv⟩ := h.rows
    refine ⟨vs, OwnAt.upd ho k (fun b hb => by cases hb; exact hg _ h.pbG), fun i hi => ?_⟩
    obtain ⟨l, cap, hl, hvi, hbi⟩ := hv i hi
    exact ⟨l, cap, hl, hvi, OwnAt.upd hbi k (fun b hb => by cases hb; exact hm _ (by simp [List.mem_of_getElem? hl]))⟩
  · obtain ⟨vs, hr, hh, hc, ha⟩ := h.hits
    exact ⟨vs, RowAt.upd hr k (fun a e => hg _ (ha a e)), HitRow.upd k hg hh, hc, ha⟩
theorem ChipRep.ext {G : Nat → Prop} {w w' : World} {p : Nat} {c : Chip} {L : Loc} (h : ChipRep w p c L G) (k : Ext w w') : ChipRep w' p c L G := h.upd k (fun _ _ hf => hf) (fun _ _ hf => hf)
theorem ChipAt.upd {F H : Nat → Prop} {w w' : World} {p : Nat} {c : Chip} (h : ChipAt w p c F) (k : Upd H w w') (hd : ∀ x, F x → ¬ H x) : ChipAt w' p c F := by
  obtain ⟨L, G, hr, hm, hg, hs⟩ := h
  exact ⟨L, G, hr.upd k (fun x hx => hd x (hm x hx)) (fun x hx => hd x (hg x hx)), hm, hg, fun x hx => Nat.lt_of_lt_of_le (hs x hx) k.size⟩
theorem ChipAt.ext {F : Nat → Prop} {w w' : World} {p : Nat} {c : Chip} (h : ChipAt w p c F) (k : Ext w w') : ChipAt w' p c F := h.upd k fun _ _ hf => hf
theorem ChipAt.mono {F H : Nat → Prop} {w : World} {p : Nat} {c : Chip} (h : ChipAt w p c F) (hs : ∀ x, F x → H x) (hl : ∀ x, H x → x < w.heap.size) : ChipAt w p c H := by
  obtain ⟨L, G, hr, hm, hg, _⟩ := h
  exact ⟨L, G, hr, fun x hx => hs x (hm x hx), fun x hx => hs x (hg x hx), hl⟩
theorem ChipAt.ok {F : Nat → Prop} {w : World} {p : Nat} {c : Chip} (h : ChipAt w p c F) : c.Ok := by
  obtain ⟨_, _, hr, _⟩ := h
  exact hr.ok
theorem ChipAt.at_ {F : Nat → Prop} {w : World} {p : Nat} {c : Chip} (h : ChipAt w p c F) : F p ∧ p < w.heap.size := by
  obtain ⟨L, G, hr, hm, _, hs⟩ := h
  exact ⟨hm p (by simp), hs p (hm p (by simp))⟩

theorem Chip.Ok.blk_len {c : Chip} (h : c.Ok) {i : Nat} (hi : i < c.nb) : (c.blk i).length = c.np * c.sz := by
  have hl : i < c.blocks.length := by rw [h.bl]; exact hi
  have : c.blk i = c.blocks[i] := by simp [Chip.blk, List.getD, hl]
  rw [this]
  exact h.bl2 _ (List.getElem_mem hl)
theorem Chip.Ok.size_le {c : Chip} (h : c.Ok) : c.np * c.sz ≤ 8192 := by
  have := Nat.mul_le_mul h.np2 h.sz2
  omega
theorem page_in {c : Chip} {k : Nat} (hk : k < c.np) : k * c.sz + c.sz ≤ c.np * c.sz := by
  have : (k + 1) * c.sz ≤ c.np * c.sz := Nat.mul_le_mul_right _ hk
  rwa [Nat.succ_mul] at this

end Go.Den
