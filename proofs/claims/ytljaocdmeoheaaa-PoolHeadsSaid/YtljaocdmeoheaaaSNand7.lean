/- Contracts of layer 3 (nand): Hits, Bytes. -/
import Derived.Test.YtljaocdmeoheaaaSNand6
set_option linter.unusedVariables false
set_option linter.unusedSimpArgs false
set_option maxRecDepth 4000
namespace Go.Den

namespace Chip
def setHits (c : Chip) (hs : List Hit) : Chip × Nat := if hs.any (fun h => decide (h.after < 0)) then (c, 2) else ({ c with hits := hs, since := 0 }, 0)
end Chip

theorem HitRow.at_ {w : World} {G : Nat → Prop} : ∀ {hs : List Hit} {vs : List Value}, HitRow w G vs hs → ∀ i (hi : i < hs.length), ∃ m c r, vs.drop (i * 3) = Value.int .i64 hs[i].after :: Value.bool hs[i].fails :: Value.slice m hs[i].mask.length c :: r ∧ BytesAt w m hs[i].mask ∧ ∀ p, m = some p → G p.block
  | [], vs, h, i, hi => by simp at hi
  | t :: hs, vs, ⟨m, c, r, e, hb, hg, hr⟩, 0, hi => ⟨m, c, r, by simpa using e, hb, hg⟩
  | t :: hs, vs, ⟨m, c, r, e, hb, hg, hr⟩, i + 1, hi => by
    obtain ⟨m', c', r', e', hb', hg'⟩ := HitRow.at_ hr i (by simpa using hi)
    refine ⟨m', c', r', ?_, hb', hg'⟩
    rw [e, Nat.succ_mul]
    exact e'
theorem HitRow.snoc {w : World} {G : Nat → Prop} {t : Hit} {m : Option Addr} {c : Nat} (hb : BytesAt w m t.mask) (hg : ∀ p, m = some p → G p.block) :
    ∀ {hs : List Hit} {vs : List Value}, HitRow w G vs hs → HitRow w G (vs ++ [Value.int .i64 t.after, Value.bool t.fails, Value.slice m t.mask.length c]) (hs ++ [t])
  | [], vs, h => by
    cases h
    exact ⟨m, c, [], rfl, hb, hg, rfl⟩
  | t' :: hs, vs, ⟨m', c', r, e, hb', hg', hr⟩ => ⟨m', c', r ++ [Value.int .i64 t.after, Value.bool t.fails, Value.slice m t.mask.length c], by subst e; rfl, hb', hg', HitRow.snoc hb hg hr⟩

/-- a hit is read -/
theorem idx_hit {w : World} {G : Nat → Prop} {a : Option Addr} {vs : List Value} {hs : List Hit} {i : Nat} {K : Int → Bool → Option Addr → Nat → Nat → Prop} (hr : RowAt w a vs) (hh : HitRow w G vs hs) (hi : i < hs.length)
    (hk : ∀ m c, BytesAt w m hs[i].mask → (∀ p, m = some p → G p.block) → K hs[i].after hs[i].fails m hs[i].mask.length c) :
    idxP a hs.length (i : Int) 3 fun q => ∃ x : Int, ∃ b : Bool, ∃ (a1 : Option Addr) (l1 c1 : Nat), cellsAt w q [Value.int .i64 x, Value.bool b, Value.slice a1 l1 c1] 0 ∧ K x b a1 l1 c1 := by
  refine ⟨by omega, by omega, ?_⟩
  have hvl := HitRow.length hh
  obtain ⟨b, o, rfl, _⟩ := RowAt.blk hr (fun e => by rw [e] at hvl; simp at hvl; omega)
  obtain ⟨m, c, r, e, hb, hg⟩ := HitRow.at_ hh i hi
  simp only [nilC_some', add_lit, Int.toNat_natCast]
  have hc := RowAt.cells (RowAt.drop hr (i * 3))
  rw [e] at hc
  exact ⟨_, _, m, _, c, ⟨hc.1, hc.2.1, hc.2.2.1, trivial⟩, hk m c hb hg⟩

theorem nand_Hits_1_spec (x : Int) (b : Bool) (a : Option Addr) (l c : Nat) (w : World) :
    CallsR prog K.nand_Chip_Hits_1 #[.agg #[.int .i64 x, .bool b, .slice a l c]] w fun v w' => v = .bool (decide (x < 0)) ∧ Ext w w' := by
  apply nand_Chip_Hits_1.sh
  intro B w₁ hn
  exact ⟨x, cell_of hn.get rfl, rfl, hn.upd⟩

theorem slices_ContainsFunc_spec {w : World} {G : Nat → Prop} {a : Option Addr} {vs : List Value} {hs : List Hit} {cp : Nat} (hr : RowAt w a vs) (hh : HitRow w G vs hs) (hn : hs.length ≤ 1000000000) :
    CallsR prog K.slices_ContainsFunc_api_Hit #[.slice a hs.length cp, .func (.func K.nand_Chip_Hits_1) #[] #[]] w fun v w' => v = .bool (hs.any fun h => decide (h.after < 0)) ∧ Ext w w' := by
  apply slices_ContainsFunc_api_Hit.sh
  have key : CallsR prog K.slices_IndexFunc_api_Hit #[.slice a hs.length cp, .func (.func K.nand_Chip_Hits_1) #[] #[]] w fun v w' => ∃ x : Int, v = .int .i64 x ∧ decide (x ≥ 0) = (hs.any fun h => decide (h.after < 0)) ∧ Ext w w' := by
    apply slices_IndexFunc_api_Hit.sh
    refine ⟨fun x u => ∃ i : Nat, x = i ∧ i ≤ hs.length ∧ Ext w u ∧ (hs.take i).any (fun h => decide (h.after < 0)) = false, fun x _ => (hs.length - x).toNat, ⟨0, rfl, Nat.zero_le _, Upd.refl _ _, by simp⟩, ?_⟩
    rintro x u ⟨i, rfl, hi, he, hany⟩
    refine br_dec (fun hlt => ?_) fun hge => ?_
    · have hi' : i < hs.length := by omega
      refine idx_hit (RowAt.ext hr he) (HitRow.upd he (fun _ _ hf => hf) hh) hi' fun m c hm hg => ?_
      refine ⟨rfl, ?_⟩
      refine (nand_Hits_1_spec _ _ _ _ _ u).mono ?_
      rintro _ u' ⟨rfl, he'⟩
      refine ⟨_, rfl, br_intro (fun ht => ?_) fun hf => ?_⟩
      · refine ⟨_, rfl, ?_, he.trans he'⟩
        have h1 : hs.any (fun h => decide (h.after < 0)) = true := List.any_eq_true.2 ⟨hs[i], List.getElem_mem hi', ht⟩
        rw [h1]
        exact decide_eq_true (by omega)
      · have e : IntKind.i64.wrap ((i : Int) + 1) = ((i + 1 : Nat) : Int) := w64 (by omega) (by omega)
        rw [e]
        refine ⟨⟨i + 1, rfl, hi', he.trans he', ?_⟩, by simp only []; omega⟩
        rw [List.take_succ_eq_append_getElem hi', List.any_append, hany]
        simpa using hf
    · have : i = hs.length := by omega
      subst this
      rw [List.take_length] at hany
      refine ⟨_, rfl, ?_, he⟩
      rw [hany]
      rfl
  refine key.mono ?_
  rintro _ w' ⟨x, rfl, hx, he⟩
  exact ⟨x, rfl, by rw [hx], he⟩

theorem ChipRep.rehG {w w' : World} {p : Nat} {c : Chip} {L : Loc} {G : Nat → Prop} (h : ChipRep w p c L G) (k : Upd (· = p) w w') (hs : List Hit) (since : Int) (dead : Bool) (deeds : Int) (ha : Option Addr) (ch : Nat) {H : Nat → Prop}
    (hd : w'.heap[p]? = some (.cells (chipCells { c with hits := hs, since := since, dead := dead, deeds := deeds } { L with ha := ha, ch := ch }) T.nand_Chip (0, 0)))
    (hH : H L.pb) (hap : ∀ x, x ∈ p :: L.bb :: L.locs → ¬ H x)
    (hh : ∃ vs, RowAt w' ha vs ∧ HitRow w' H vs hs ∧ hs.length ≤ ch ∧ ∀ a, ha = some a → H a.block) : ChipRep w' p { c with hits := hs, since := since, dead := dead, deeds := deeds } { L with ha := ha, ch := ch } H := by
  have hnd := h.nodup
  have hne : ∀ x, x ∈ L.bb :: L.locs → x ≠ p := fun x hx e => by subst e; exact (List.nodup_cons.1 hnd).1 hx
  have hgp : ∀ x, G x → x ≠ p := fun x hx e => by subst e; exact h.apart _ (by simp) hx
  refine ⟨⟨h.ok.nb1, h.ok.nb2, h.ok.np1, h.ok.np2, h.ok.sz1, h.ok.sz2, h.ok.bl, h.ok.bl2, h.ok.bad⟩, hd, OwnAt.upd h.bad k (fun b hb => by cases hb; exact hne _ (by simp)), ?_, hh, h.len, h.nodup, hap, hH⟩
  obtain ⟨vs, ho, hv⟩ := h.rows
  refine ⟨vs, OwnAt.upd ho k (fun b hb => by cases hb; exact hgp _ h.pbG), fun i hi => ?_⟩
  obtain ⟨l, cap, hl, hvi, hbi⟩ := hv i hi
  exact ⟨l, cap, hl, hvi, OwnAt.upd hbi k (fun b hb => by cases hb; exact hne _ (by simp [List.mem_of_getElem? hl]))⟩

def hitCells (c : Chip) (L : Loc) (a : Option Addr) (n cap : Nat) : Array Value :=
  #[.int .i64 c.nb, .int .i64 c.np, .int .i64 c.sz, .int .i64 c.sp, .slice (some ⟨L.pb, 0, none⟩) c.nb L.cb, .slice (some ⟨L.bb, 0, none⟩) c.nb L.cbad, .slice a n cap,
    .int .i64 0, .bool c.dead, .int .i64 c.deeds]

theorem nand_Hits_spec {w : World} {p : Nat} {c : Chip} {L : Loc} {G : Nat → Prop} (h : ChipRep w p c L G) {Gin : Nat → Prop} {a : Option Addr} {vs : List Value} {hs : List Hit} {cp : Nat} (hr : RowAt w a vs) (hh : HitRow w Gin vs hs)
    (hG : ∀ x, Gin x → x ≠ p) (hap : ∀ q, a = some q → q.block ≠ p) (hn : hs.length ≤ 100000) (hm : ∀ t ∈ hs, t.mask.length ≤ 10000000000) :
    CallsR prog K.nand_Chip_Hits #[.pointer (some ⟨p, 0, none⟩), .slice a hs.length cp] w fun v w' => Upd (· = p) w w' ∧ ∃ L' G', SameLoc L L' ∧ ChipRep w' p (c.setHits hs).1 L' G' ∧
      (∀ x, G' x → G x ∨ (w.heap.size ≤ x ∧ x < w'.heap.size)) ∧ v = .int .i64 ((c.setHits hs).2 : Nat) := by
  apply nand_Chip_Hits.sh
  unfold nand_Chip_Hits.body
  refine (nand_off_spec h).mono ?_
  rintro _ _ ⟨rfl, rfl⟩
  rename_i w
  refine ⟨_, rfl, ?_⟩
  simp only [br_false, nilC_some', add_lit]
  refine (slices_ContainsFunc_spec hr hh (by omega)).mono ?_
  rintro _ w₂ ⟨rfl, he2⟩
  refine ⟨_, rfl, br_intro (fun ht => ?_) fun hf => ?_⟩
  · have e : c.setHits hs = (c, 2) := by unfold Chip.setHits; rw [if_pos ht]
    rw [e]
    exact ⟨Upd.ext he2, L, G, SameLoc.refl _, h.ext he2, fun x hx => .inl hx, rfl⟩
  have e : c.setHits hs = ({ c with hits := hs, since := 0 }, 0) := by unfold Chip.setHits; rw [if_neg (by rw [hf]; simp)]
  rw [e]
  have h2 := h.ext he2
  refine store_of h2.head (by simp [chipCells]) fun w₃ hp3 => ?_
  refine store_of hp3.get (by simp [chipCells, splice]) fun w₄ hp4 => ?_
  have hpw : p < w.heap.size := (Array.getElem?_eq_some_iff.1 h.head).1
  have hg4 : w₄.heap[p]? = some (.cells (hitCells c L none 0 0) T.nand_Chip (0, 0)) := by
    have := hp4.get
    rw [this]; rfl
  have hu4 : Upd (· = p) w w₄ := (Upd.ext he2).trans ((Put.upd1 hp3).trans (Put.upd1 hp4))
  refine ⟨fun x u => ∃ (i : Nat) (a' : Option Addr) (cap : Nat) (vs' : List Value), x = i ∧ i ≤ hs.length ∧ Upd (· = p) w u ∧ u.heap[p]? = some (.cells (hitCells c L a' i cap) T.nand_Chip (0, 0)) ∧ OwnAt u a' i cap T.api_Hit 3 vs' ∧
      HitRow u (fun x => w.heap.size ≤ x ∧ x < u.heap.size ∧ a' ≠ some ⟨x, 0, none⟩) vs' (hs.take i) ∧ (∀ b, a' = some ⟨b, 0, none⟩ → w.heap.size ≤ b), fun x _ => (hs.length - x).toNat,
    ⟨0, none, 0, [], rfl, Nat.zero_le _, hu4, hg4, OwnAt.nil _ _ _, rfl, fun b hb => by cases hb⟩, ?_⟩
  rintro x u ⟨i, a', cap, vs', rfl, hi, hu, hg, ho, hhr, hab⟩
  refine br_dec (fun hlt => ?_) fun hge => ?_
  · have hi' : i < hs.length := by omega
    refine idx_hit (RowAt.upd hr hu (fun q hq => hap q hq)) (HitRow.upd hu hG hh) hi' fun m c₁ hmb hmg => ?_
    intro B₁ w₆ hn6
    refine store_of hn6.get (by simp) fun w₇ hp7 => ?_
    have hB1 : B₁ = u.heap.size := hn6.num
    have e7 : Ext u w₇ := Put.upd hn6.upd hp7 (.inl (by omega))
    have hg7 := hp7.get
    refine ⟨m, hs[i].mask.length, c₁, ?_, ?_⟩
    · exact cell_of hg7 rfl
    refine (slices_Clone_byte_spec (c := c₁) (RowAt.ext hmb e7) (hm _ (List.getElem_mem hi'))).mono ?_
    rintro _ w₈ ⟨he8, m3, c3, rfl, ho3, hf3⟩
    refine ⟨_, _, _, rfl, ?_⟩
    simp only [add_lit]
    refine store_of (Ext.get he8 hg7) (by simp [splice]) fun w₉ hp9 => ?_
    have e9 : Ext u w₉ := Put.upd (e7.trans he8) hp9 (.inl (by omega))
    intro w₁₀ hd10
    have e10 : Ext u w₁₀ := e9.trans hd10.upd
    have hg9 : w₁₀.heap[B₁]? = some (.cells #[.int .i64 hs[i].after, .bool hs[i].fails, .slice m3 hs[i].mask.length c3] T.api_Hit (0, 0)) := Ext.get hd10.upd hp9.get
    have hs6 := hn6.size
    have hs7 := hp7.size
    have hs8 := he8.size
    have hs9 := hp9.size
    have hs10 : w₁₀.heap.size = w₉.heap.size := by rw [hd10.heap]
    have hsu := hu.size
    have hg10 := Ext.get e10 hg
    have hab' : ∀ b, a' = some ⟨b, 0, none⟩ → b < u.heap.size := fun b hb => OwnAt.blk ho hb
    refine ⟨fun v => Upd (fun b => a' = some ⟨b, 0, none⟩) w₁₀ v, Upd.refl _ _, a', i, cap, fun v hv => cell_of (hv.get hg10 (fun e => by have := hab _ e; omega)) rfl, hs[i].after, hs[i].fails, m3, hs[i].mask.length, c3, fun v hv => ?_, ?_⟩
    · have := hv.get hg9 (fun e => by have := hab' _ e; omega)
      exact cellsAt_of (o := 0) this (fun j v hj => by simpa using hj)
    intro B₂ w₁₁ hn11
    refine ⟨Upd.ext hn11.upd, ?_⟩
    have e11 : Ext u w₁₁ := e10.trans hn11.upd
    have hs11 := hn11.size
    have hrow : RowAt w₁₁ (some ⟨B₂, 0, none⟩) [Value.int .i64 hs[i].after, Value.bool hs[i].fails, Value.slice m3 hs[i].mask.length c3] := RowAt.of hn11.get fun j v hj => by simpa using hj
    refine append_own (OwnAt.ext ho e11) rfl (read_row hrow (by simp)) (by simp) (by simp; exact ⟨rfl, rfl, rfl⟩) rfl (by omega) (by omega) fun a'' c'' w₁₂ hu12 ho12 hf12 => ?_
    refine ⟨Upd.trans (Upd.ext hn11.upd) hu12, ?_⟩
    have hgp12 : w₁₂.heap[p]? = _ := hu12.get (Ext.get e11 hg) (fun e => by have := hab _ e; omega)
    refine store_of hgp12 (by simp [hitCells]) fun w₁₃ hp13 => ?_
    have e1 : IntKind.i64.wrap ((i : Int) + 1) = ((i + 1 : Nat) : Int) := w64 (by omega) (by omega)
    rw [e1]
    have hs12 := hu12.size
    have hs13 := hp13.size
    have hup : Upd (· = p) w w₁₃ := ((hu.then e11).low (hu12.mono fun x _ hx => hab x hx)).trans (Put.upd1 hp13)
    have ho3b : ∀ q, m3 = some q → w₇.heap.size ≤ q.block ∧ q.block < w₈.heap.size := by
      intro q hq
      refine ⟨hf3 q hq, ?_⟩
      obtain ⟨_, _, hx⟩ := ho3
      rcases hx with ⟨hx, _⟩ | ⟨b, cur, hx, hb, _⟩
      · rw [hx] at hq; cases hq
      · rw [hx] at hq; cases hq; exact (Array.getElem?_eq_some_iff.1 hb).1
    have hnew : ∀ b, a'' = some ⟨b, 0, none⟩ → a' = some ⟨b, 0, none⟩ ∨ w₁₁.heap.size ≤ b := by
      intro b hb
      rcases hf12 with e | ⟨b', e, hb'⟩
      · exact .inl (e ▸ hb)
      · rw [e] at hb; cases hb; exact .inr hb'
    refine ⟨⟨i + 1, a'', c'', _, rfl, by omega, hup, hp13.get, OwnAt.upd ho12 (Put.upd1 hp13) ?_, ?_, ?_⟩, by omega⟩
    · intro b hb e
      rcases hnew b hb with hx | hx
      · have := hab b hx; omega
      · omega
    · rw [List.take_succ_eq_append_getElem hi']
      refine HitRow.snoc (t := hs[i]) (m := m3) ?_ ?_ ?_
      · refine RowAt.upd (RowAt.upd (RowAt.ext (RowAt.ext (RowAt.upd ho3.row (Put.upd1 hp9) ?_) hd10.upd) hn11.upd) hu12 ?_) (Put.upd1 hp13) ?_
        · intro q hq; have := ho3b q hq; omega
        · intro q hq e; have := ho3b q hq; have := hab' _ e; omega
        · intro q hq; have := ho3b q hq; omega
      · intro q hq
        have := ho3b q hq
        refine ⟨by omega, by omega, fun e => ?_⟩
        rcases hnew _ e with hx | hx
        · have := hab' _ hx; omega
        · omega
      · refine HitRow.mono (G := fun x => w.heap.size ≤ x ∧ x < u.heap.size ∧ a' ≠ some ⟨x, 0, none⟩) (fun x hx => ⟨hx.1, by have := hx.2.1; omega, fun e => ?_⟩) (HitRow.upd (Put.upd1 hp13) (fun x hx => by have := hx.1; omega) (HitRow.upd hu12 (fun x hx => hx.2.2) (HitRow.upd e11 (fun _ _ hf => hf) hhr)))
        rcases hnew _ e with h' | h'
        · exact hx.2.2 h'
        · have := hx.2.1; omega
    · intro b hb
      rcases hnew b hb with hx | hx
      · exact hab b hx
      · omega
  · have hi' : i = hs.length := by omega
    subst hi'
    rw [List.take_length] at hhr
    refine ⟨hu, { L with ha := a', ch := cap }, fun x => x = L.pb ∨ (w.heap.size ≤ x ∧ x < u.heap.size), ⟨rfl, rfl, rfl, rfl, rfl⟩, ?_, fun x hx => ?_, rfl⟩
    · have := h.rehG (H := fun x => x = L.pb ∨ (w.heap.size ≤ x ∧ x < u.heap.size)) hu hs 0 c.dead c.deeds a' cap hg (.inl rfl) (fun x hx hH => ?_) ⟨vs', ho.row, hhr.mono (fun x hx => .inr ⟨hx.1, hx.2.1⟩), ho.2.1, fun q hq => ?_⟩
      · exact this
      · have hxw : x < w.heap.size := by
          simp only [List.mem_cons] at hx
          rcases hx with rfl | rfl | hx
          · exact hpw
          · exact OwnAt.blk h.bad rfl
          · obtain ⟨j, hj, e⟩ := List.getElem_of_mem hx
            obtain ⟨vs0, _, hv0⟩ := h.rows
            obtain ⟨l, cap, hl, _, hbi⟩ := hv0 j (by rw [← h.len]; exact hj)
            rw [List.getElem?_eq_getElem hj, e] at hl
            cases hl
            exact OwnAt.blk hbi rfl
        rcases hH with hH | hH
        · exact h.apart x hx (hH ▸ h.pbG)
        · omega
      · obtain ⟨_, _, hx⟩ := ho
        rcases hx with ⟨hx, _⟩ | ⟨b, cur, hx, hb, _⟩
        · rw [hx] at hq; cases hq
        · rw [hx] at hq; cases hq
          exact .inr ⟨hab b hx, (Array.getElem?_eq_some_iff.1 hb).1⟩
    · rcases hx with hx | hx
      · exact .inl (hx ▸ h.pbG)
      · exact .inr hx

end Go.Den
