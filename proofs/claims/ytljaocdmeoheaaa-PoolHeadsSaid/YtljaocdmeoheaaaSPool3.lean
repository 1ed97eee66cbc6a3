/- Contracts of layer 4 (pool): Scan. -/
import Derived.Test.YtljaocdmeoheaaaSPool2
set_option linter.unusedVariables false
set_option linter.unusedSimpArgs false
set_option maxRecDepth 4000
namespace Go.Den

theorem zerosL_flat {α : Type} (f : α → List Value) (b : α) (n : Nat) : zerosL (f b) n = (List.replicate n b).flatMap f := by
  induction n with
  | zero => rfl
  | succ n ih => simp [zerosL, List.replicate_succ] at ih ⊢; try exact ih

theorem scanGo_turn (c : Chip) (i : Nat) : (scanGo c i).turn ≤ i := by
  induction i with
  | zero => exact Nat.le_refl _
  | succ i ih =>
    unfold scanGo
    split
    · exact Nat.le_refl _
    · show (scanGo c i).turn ≤ _; omega

theorem pool_Scan_spec {w : World} {p : Nat} {c : Chip} {L : Loc} {G : Nat → Prop} (h : ChipRep w p c L G) (hG : ∀ x, G x → x < w.heap.size) :
    CallsR prog K.pool_Scan #[.pointer (some ⟨p, 0, none⟩)] w fun v w' => Ext w w' ∧
      if c.dead then v = .tuple #[.pointer none, .int .i64 10]
      else ∃ q pb, v = .tuple #[.pointer (some ⟨q, 0, none⟩), .int .i64 0] ∧ w.heap.size ≤ q ∧ w.heap.size ≤ pb ∧ q < w'.heap.size ∧ pb < w'.heap.size ∧ PC w' ⟨q, pb, c.nb, p⟩ (scanPool c) c L G := by
  have hok := h.ok
  have hnb1 := hok.nb1
  have hnb2 := hok.nb2
  apply pool_Scan.sh
  refine ⟨fun u => Ext w u, ?_, ?_⟩
  · simp only [Option.isNone_some, br_false]
    refine (nand_Geo_spec h).mono ?_
    rintro _ w₁ ⟨rfl, he1⟩
    exact ⟨_, _, _, _, rfl, br_eq (fun h => by omega) fun _ => he1⟩
  intro w₂ he2
  have h2 := h.ext he2
  refine (nand_Read_spec h2 0 0).mono ?_
  rintro v w₃ ⟨he3, hv⟩
  have e3 := he2.trans he3
  rw [ask00 hok] at hv
  rcases Bool.eq_false_or_eq_true c.dead with hd | hd
  · rw [hd] at hv
    simp only [if_true, if_neg (show ¬ (10 = 0) by omega)] at hv
    subst hv
    refine ⟨_, _, _, _, rfl, br_ne (fun _ => ⟨e3, ?_⟩) fun h => by omega⟩
    rw [if_pos hd]
    rfl
  rw [hd] at hv
  simp only [Bool.false_eq_true, if_false, if_true] at hv
  obtain ⟨a, cp, rfl, _⟩ := hv
  refine ⟨_, _, _, _, rfl, br_ne (fun h => by omega) fun _ => ?_⟩
  have h3 := h.ext e3
  refine (nand_Geo_spec h3).mono ?_
  rintro _ w₄ ⟨rfl, he4⟩
  have e4 := e3.trans he4
  refine ⟨_, _, _, _, rfl, ?_⟩
  refine ⟨by omega, by omega, by omega, by omega, rfl, fun pb w₅ hn5 q w₆ hn6 => ?_⟩
  have e6 := (e4.trans hn5.upd).trans hn6.upd
  have h6 := h.ext e6
  have hpb : pb = w₄.heap.size := hn5.num
  have hq : q = w₅.heap.size := hn6.num
  have hs4 := e4.size
  have hs5 := hn5.size
  have hs6 := hn6.size
  simp only [Int.toNat_natCast] at hn5 hn6 ⊢
  have hz : zerosL [Value.int .i64 0, Value.int .u8 0, Value.int .u32 0, Value.int .u64 0] c.nb = (List.replicate c.nb Blk.zero).flatMap Blk.vals := zerosL_flat Blk.vals Blk.zero c.nb
  rw [hz] at hn5
  have hpc6 : PC w₆ ⟨q, pb, c.nb, p⟩ (scanGo c 0) c L G := by
    refine ⟨h6, hn6.get, ?_, Nat.zero_le _, fun x hx => ?_, by show q ≠ pb; omega⟩
    · have := OwnAt.new (n := c.nb) (size := 4) hn5 (by simp [Blk.vals])
      exact OwnAt.ext this hn6.upd
    · have hxw : w.heap.size ≤ x := by
        rcases hx with hx | hx
        · have : x = q := hx
          omega
        · have : x = pb := hx
          omega
      exact ⟨fun hm => by have := h.lt x hm; omega, fun hg => by have := hG x hg; omega⟩
  simp only [add_lit]
  refine ⟨_, _, _, cell_of hn6.get rfl, ?_⟩
  refine ⟨fun x u => ∃ i : Nat, x = i ∧ i ≤ c.nb ∧ Upd (fun x => x = q ∨ x = pb) w₆ u ∧ PC u ⟨q, pb, c.nb, p⟩ (scanGo c i) c L G, fun x _ => (c.nb - x).toNat, ⟨0, rfl, by omega, Upd.refl _ _, hpc6⟩, ?_⟩
  rintro x u ⟨i, rfl, hi, hu, hp⟩
  have hfin : ∀ {u' : World}, Upd (fun x => x = q ∨ x = pb) w₆ u' → Ext w u' := fun hu' => Upd.beyond e6 hu' (fun x hx => by rcases hx with rfl | rfl <;> omega)
  refine br_dec (fun hlt => ?_) fun hge => ?_
  · have hi' : i < c.nb := by omega
    have e1 : IntKind.i64.wrap ((i : Int) + 1) = ((i + 1 : Nat) : Int) := w64 (by omega) (by omega)
    refine (pool_look_spec hp hi').mono ?_
    rintro _ w₈ ⟨rfl, hu8, hp8⟩
    have hu08 : Upd (fun x => x = q ∨ x = pb) w₆ w₈ := hu.trans (hu8.mono fun x _ hx => .inr hx)
    refine ⟨rfl, _, _, _, cell_of hp8.head rfl, hp8.idx hi' fun hr => ?_⟩
    simp only [add_lit]
    generalize hP8 : (scanGo c i).relook c i = P8 at *
    have hc1 := RowAt.cells (RowAt.drop hr 1)
    refine ⟨(P8.blk i).head.kind.toNat, (P8.blk i).head.era, (P8.blk i).head.seq, hc1, fun B w₉ hn9 => ?_⟩
    rw [head_zero] at hn9
    refine head_put (h := (P8.blk i).head) hn9.get rfl fun w₁₀ hput10 => ?_
    have hB : B = w₈.heap.size := hn9.num
    have hs8 := hu08.size
    have hu10 : Upd (fun x => x = q ∨ x = pb) w₆ w₁₀ := Put.upd (hu08.then hn9.upd) hput10 (.inl (by omega))
    intro w₁₁ hd11
    have hu11 := hu10.then hd11.upd
    have e811 : Ext w₈ w₁₁ := (Put.upd hn9.upd hput10 (.inl (by omega))).trans hd11.upd
    have hp11 := hp8.ext e811
    have hg11 := Ext.get hd11.upd hput10.get
    have hgo : scanGo c (i + 1) = if (P8.blk i).head.seq > (scanGo c i).last ∨ ((P8.blk i).head.seq = (scanGo c i).last ∧ (P8.blk i).head.seq > 0) then { P8 with last := (P8.blk i).head.seq, turn := i + 1 } else P8 := by
      rw [scanGo, hP8]
    have hl8 : P8.last = (scanGo c i).last := by rw [← hP8]; rfl
    have hset : ((P8.blk i).head.seq > (scanGo c i).last ∨ ((P8.blk i).head.seq = (scanGo c i).last ∧ (P8.blk i).head.seq > 0)) →
        storeP w₁₁ ⟨q, 0 + 2, none⟩ [Value.int .u64 ((P8.blk i).head.seq : Nat)] fun w12 =>
        storeP w12 ⟨q, 0 + 3, none⟩ [Value.int .i64 (IntKind.i64.wrap ((i : Int) + 1))] fun w13 =>
          (∃ i' : Nat, IntKind.i64.wrap ((i : Int) + 1) = i' ∧ i' ≤ c.nb ∧ Upd (fun x => x = q ∨ x = pb) w₆ w13 ∧ PC w13 ⟨q, pb, c.nb, p⟩ (scanGo c i') c L G) ∧ ((c.nb : Int) - IntKind.i64.wrap ((i : Int) + 1)).toNat < ((c.nb : Int) - (i : Int)).toNat := by
      intro hcnd
      refine store_of hp11.head (by simp) fun w₁₂ hput12 => ?_
      refine store_of hput12.get (by simp [splice]) fun w₁₃ hput13 => ?_
      rw [e1]
      have hq2 := (Put.upd1 hput12).trans (Put.upd1 hput13)
      refine ⟨⟨i + 1, rfl, hi', hu11.trans (hq2.mono fun x _ hx => .inl hx), ?_⟩, meas hi'⟩
      rw [hgo, if_pos hcnd]
      refine hp11.rehead hq2 (last := (P8.blk i).head.seq) (turn := i + 1) hi' ?_
      have := hput13.get
      rw [this, e1]; rfl
    have hkeep : ¬ ((P8.blk i).head.seq > (scanGo c i).last ∨ ((P8.blk i).head.seq = (scanGo c i).last ∧ (P8.blk i).head.seq > 0)) →
        (∃ i' : Nat, IntKind.i64.wrap ((i : Int) + 1) = i' ∧ i' ≤ c.nb ∧ Upd (fun x => x = q ∨ x = pb) w₆ w₁₁ ∧ PC w₁₁ ⟨q, pb, c.nb, p⟩ (scanGo c i') c L G) ∧ ((c.nb : Int) - IntKind.i64.wrap ((i : Int) + 1)).toNat < ((c.nb : Int) - (i : Int)).toNat := by
      intro hcnd
      rw [e1]
      refine ⟨⟨i + 1, rfl, hi', hu11, ?_⟩, meas hi'⟩
      rw [hgo, if_neg hcnd]
      exact hp11
    have hcq : World.cell? w₁₁ ⟨q, 0 + 2, none⟩ = some (.int .u64 ((scanGo c i).last : Nat)) := by rw [← hl8]; exact cell_of hp11.head rfl
    refine ⟨fun v => v = w₁₁, rfl, _, fun v hv => hv ▸ cell_of hg11 rfl, _, fun v hv => hv ▸ hcq, br_dec (fun h1 => ?_) fun h1 => ?_⟩
    · exact ⟨_, cell_of hg11 rfl, hset (.inl (by omega))⟩
    refine ⟨_, fun v hv => hv ▸ cell_of hg11 rfl, _, fun v hv => hv ▸ hcq, br_eq (fun h2 => ?_) fun h2 => hkeep (by omega)⟩
    refine ⟨_, fun v hv => hv ▸ cell_of hg11 rfl, br_dec (fun h3 => ?_) fun h3 => hkeep (by omega)⟩
    exact ⟨_, cell_of hg11 rfl, hset (.inr (by omega))⟩
  · have : i = c.nb := by omega
    subst this
    have hsu := hu.size
    refine ⟨hfin hu, ?_⟩
    rw [if_neg (by rw [hd]; simp)]
    exact ⟨q, pb, rfl, by omega, by omega, by omega, by omega, hp⟩

end Go.Den
