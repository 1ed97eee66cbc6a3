/- The row of the law PoolCuts: for every input the law returns true, and its arguments read as they did. (Merged by program: LPoolCuts ZPoolCuts.) -/
import Derived.Test.YtljaocdmeoheaaaQ5
import Derived.Test.YtljaocdmeoheaaaRows
import Derived.WalkKit
section
set_option linter.unusedVariables false
set_option linter.unusedSimpArgs false
set_option maxRecDepth 4000
namespace Go.Den

theorem taken_eqb (a b : Taken) : (((a.block : Int) == (b.block : Int)) && ((((a.head.kind.toNat : Int) == (b.head.kind.toNat : Int)) && (((a.head.era : Int) == (b.head.era : Int)) && (((a.head.seq : Int) == (b.head.seq : Int)) && true))) && ((a.bad == b.bad) && true))) = decide (a = b) := by
  by_cases h : a = b
  · subst h; simp
  · rw [decide_eq_false h]
    obtain ⟨a1, ⟨a2, a3, a4⟩, a5⟩ := a
    obtain ⟨b1, ⟨b2, b3, b4⟩, b5⟩ := b
    apply Bool.eq_false_iff.2
    intro h2
    simp only [Bool.and_eq_true, beq_iff_eq, Bool.and_true, Int.natCast_inj] at h2
    obtain ⟨h1, ⟨h2, h3, h4⟩, h5⟩ := h2
    apply h
    rw [h1, UInt8.toNat_inj.1 h2, h3, h4, h5]
theorem any_take_succ {α : Type} {l : List α} {i : Nat} (hi : i < l.length) (p : α → Bool) : (l.take (i + 1)).any p = ((l.take i).any p || p l[i]) := by
  rw [List.take_succ_eq_append_getElem hi, List.any_append]
  simp

theorem carracklaw04_PoolCuts_spec {w : World} (pages : UInt8) {aa : Option Addr} {acts : List Act} {ac : Nat} (ar : RowAt w aa (acts.flatMap Act.vals)) (hera : ∀ a ∈ acts, a.era < 4294967296) (free : Bool) (block after : UInt8)
    {ma : Option Addr} {mask : List UInt8} {mc : Nat} (hmk : BytesAt w ma mask) (hml : mask.length ≤ 140737488355232) :
    CallsR prog K.carracklaw04_PoolCuts #[bv pages, .slice aa acts.length ac, .bool free, bv block, bv after, .slice ma mask.length mc] w fun v w' => v = .bool true ∧ Ext w w' := by
  apply carracklaw04_PoolCuts.sh
  unfold carracklaw04_PoolCuts.body
  refine (carracklaw04_played_spec (Gin := NoB) (ha := none) (hvs := []) (hs := []) (hc := 0) pages (RowAt.nil _ _) rfl (fun x hx => hx.elim) (fun h => (h rfl).elim) (fun t ht => by simp at ht) ar hera).mono ?_
  rintro _ w₁ ⟨he1, S, M, P, c, rfl, hS, hp, hi, hnb, hsz, hl, hq⟩
  obtain ⟨hh0, hd0⟩ := hq rfl
  have hs1 := he1.size
  refine ⟨_, _, _, rfl, ?_⟩
  refine (pTaken hp (by omega) rfl).mono ?_
  rintro _ w₂ ⟨he2, a1, c1, rfl, ho1, hf1⟩
  have hs2 := he2.size
  have hll : (takenPool P c).length ≤ 8 := by
    unfold takenPool
    rw [isort_length, ← hnb]
    exact takenRaw_length P c c.nb
  generalize hlt : takenPool P c = l at *
  refine ⟨_, _, _, rfl, by omega, fun B w₃ hn3 => ?_⟩
  have hB : B = w₂.heap.size := hn3.num
  have hs3 := hn3.size
  have hp3 := (hp.ext he2).ext hn3.upd
  have et : Int.tmod (after.toNat : Int) 3 = ((after.toNat % 3 : Nat) : Int) := tmod_nat _ 3
  have hm3 : after.toNat % 3 < 3 := Nat.mod_lt _ (by omega)
  have eaf : IntKind.i64.wrap (Int.tmod (after.toNat : Int) 3) = ((after.toNat % 3 : Nat) : Int) := by rw [et, w64 (by omega) (by omega)]
  rw [eaf] at hn3
  have hhr : HitRow w₃ (fun x => x < w.heap.size) [Value.int .i64 ((after.toNat % 3 : Nat) : Int), .bool false, .slice ma mask.length mc] [⟨((after.toNat % 3 : Nat) : Int), false, mask⟩] := by
    refine ⟨ma, mc, [], rfl, RowAt.ext hmk ((he1.trans he2).trans hn3.upd), fun hne p hp => ?_, rfl⟩
    obtain ⟨b, o, e, hlt⟩ := RowAt.blk hmk (by simpa using hne)
    rw [hp] at e
    cases e
    exact hlt
  have hdis : S ≤ B := by omega
  obtain ⟨h1, hh1, hl1⟩ : ∃ hs : List Hit, HitRow w₃ (fun x => x < w.heap.size) [Value.int .i64 ((after.toNat % 3 : Nat) : Int), .bool false, .slice ma mask.length mc] hs ∧ hs = [⟨((after.toNat % 3 : Nat) : Int), false, mask⟩] := ⟨_, hhr, rfl⟩
  have hhits := pHits (hs := h1) (cp := 1) hp3 (by omega) (a := some ⟨B, 0, none⟩) (RowAt.of hn3.get fun j v hj => by simpa using hj) hh1 (fun x hx => .inl hx) (fun _ q hq => .inr (by cases hq; exact hdis)) (by rw [hl1]; simp) (by rw [hl1]; intro t ht; simp at ht; subst ht; exact hml)
  have hcalm : ∀ t ∈ (c.setHits h1).1.hits, t.fails = false := by
    unfold Chip.setHits
    split
    · intro t ht; rw [hh0] at ht; cases ht
    · intro t ht; rw [hl1] at ht; simp at ht; subst ht; rfl
  obtain ⟨hg4, hd4, _⟩ := setHits_geo c h1
  have hi4 := setHits_inv hi h1
  have hlt4 : takenPool P (c.setHits h1).1 = l := by
    rw [← hlt]
    unfold Chip.setHits
    split <;> rfl
  have hlen1 : h1.length = 1 := by rw [hl1]; rfl
  rw [hlen1] at hhits
  refine hhits.mono ?_
  rintro _ w₄ ⟨rfl, hu4, hp4⟩
  refine ⟨_, rfl, ?_⟩
  rw [hd0] at hd4
  generalize (c.setHits h1).1 = c4 at *
  have hnb4 : c4.nb = 8 := hg4.1.trans hnb
  have hs4 := hu4.size
  have hr4 : RowAt w₄ a1 (l.flatMap Taken.vals) := RowAt.upd (RowAt.ext ho1.row hn3.upd) hu4 (fun q hq hb => by have := hf1 q hq; have := hb.2; omega)
  have e4 : Ext w w₄ := Upd.beyond ((he1.trans he2).trans hn3.upd) hu4 (fun x hx => hx.1)
  have ek : IntKind.i64.wrap (Int.tmod (block.toNat : Int) 8) = ((block.toNat % 8 : Nat) : Int) := by
    have e : Int.tmod (block.toNat : Int) 8 = ((block.toNat % 8 : Nat) : Int) := tmod_nat _ 8
    have : block.toNat % 8 < 8 := Nat.mod_lt _ (by omega)
    rw [e, w64 (by omega) (by omega)]
  rw [ek]
  generalize ((block.toNat % 8 : Nat) : Int) = mine at *
  -- behind the deed
  refine ⟨fun x u => Upd (Bet w.heap.size S) w₄ u ∧ ∃ P' c', PAt w.heap.size S u M P' c' ∧ Inv P' c' ∧ c4.SameGeo c' ∧
    (if free then x = mine ∧ (∀ t ∈ l, (t.block : Int) ≠ mine → t ∈ takenPool (scanPool c'.power) c'.power) ∧ (takenPool (scanPool c'.power) c'.power).length ≤ l.length
      else (∀ t ∈ l, t ∈ takenPool (scanPool c'.power) c'.power) ∧ (takenPool (scanPool c'.power) c'.power).length ≤ l.length + 1), ?_, ?_⟩
  · refine br_intro (fun hfr => ⟨by omega, ?_⟩) fun hfr => ?_
    · refine (pFree hp4 mine rfl).mono ?_
      rintro _ w₅ ⟨rfl, hu5, hp5⟩
      obtain ⟨k1, k2, k3, k4⟩ := cut_free hi4 hd4 hcalm mine rfl
      rw [hlt4] at k3 k4
      refine ⟨_, rfl, hu5, _, _, hp5, k1, k2, ?_⟩
      rw [if_pos hfr]
      exact ⟨rfl, k3, k4⟩
    · refine (pTake hp4 (kind := 1) (era := 9) (by omega) rfl).mono ?_
      rintro _ w₆ ⟨rfl, hu6, hp6⟩
      obtain ⟨k1, k2, k3, k4⟩ := cut_take hi4 hd4 hcalm (by omega) rfl
      rw [hlt4] at k3 k4
      refine ⟨_, _, rfl, hu6, _, _, hp6, k1, k2, ?_⟩
      rw [if_neg (by rw [hfr]; simp)]
      exact ⟨k3, k4⟩
  rintro x w₇ ⟨hu7, P7, c7, hp7, hi7, hg7, hcut⟩
  have hs7 := hu7.size
  have e7 : Ext w w₇ := Upd.beyond e4 hu7 (fun x hx => hx.1)
  have hr7 : RowAt w₇ a1 (l.flatMap Taken.vals) := RowAt.upd hr4 hu7 (fun q hq hb => by have := hf1 q hq; have := hb.2; omega)
  have hnb7 : c7.nb = 8 := hg7.1.trans hnb4
  refine (cPower hp7.chip (by omega)).mono ?_
  rintro _ w₈ ⟨he8, p', rfl, hc8⟩
  refine ⟨_, _, rfl, ?_⟩
  have hs8 := he8.size
  refine (cScan hc8 (by omega) (Nat.le_refl _)).mono ?_
  rintro _ w₉ ⟨he9, hv⟩
  rw [if_neg (by show ¬ (false = true); simp)] at hv
  obtain ⟨M1, rfl, rfl, hp9⟩ := hv
  have hs9 := he9.size
  refine ⟨_, _, rfl, fun u => u = w₉, br_ne (fun h => (h rfl).elim) fun _ => br_ne (fun h => (h rfl).elim) fun _ => rfl, ?_⟩
  rintro _ rfl
  rename_i w₉
  have hnbp : c7.power.nb = 8 := hnb7
  refine (pTaken hp9 (by omega) rfl).mono ?_
  rintro _ w₁₁ ⟨he11, a2, c2, rfl, ho11, hf11⟩
  have hml2 : (takenPool (scanPool c7.power) c7.power).length ≤ 8 := by
    unfold takenPool
    rw [isort_length, ← hnbp]
    exact takenRaw_length _ _ _
  generalize takenPool (scanPool c7.power) c7.power = m at *
  have hr11 : RowAt w₁₁ a1 (l.flatMap Taken.vals) := RowAt.ext (RowAt.ext (RowAt.ext hr7 he8) he9) he11
  have hm11 := ho11.row
  have e11 : Ext w w₁₁ := ((e7.trans he8).trans he9).trans he11
  refine ⟨_, _, _, rfl, ?_⟩
  have hidx : ∀ {u : World} {i k : Nat} (_ : Ext w₁₁ u) (hi : i < l.length) (hk : k < m.length) {K : Bool → World → Prop}, K (decide (m[k] = l[i])) u →
      idxP a2 m.length (k : Int) 5 fun q1 => ∃ x10 : Int, ∃ x11 : Int, ∃ x12 : Int, ∃ x13 : Int, ∃ b3 : Bool, (∀ u1, u1 = u → cellsAt u1 q1 [Value.int .i64 x10, Value.int .u8 x11, Value.int .u32 x12, Value.int .u64 x13, Value.bool b3] 0) ∧
        idxP a1 l.length (i : Int) 5 fun q2 => ∃ x14 : Int, ∃ x15 : Int, ∃ x16 : Int, ∃ x17 : Int, ∃ b4 : Bool, (∀ u2, u2 = u → cellsAt u2 q2 [Value.int .i64 x14, Value.int .u8 x15, Value.int .u32 x16, Value.int .u64 x17, Value.bool b4] 0) ∧
          K ((x10 == x14) && (((x11 == x15) && ((x12 == x16) && ((x13 == x17) && true))) && ((b3 == b4) && true))) u := by
    intro u i k hu hi hk K hK
    refine idx_flat (f := Taken.vals) Taken.vals_length (by omega) (RowAt.ext hm11 hu) rfl hk fun b o hab hr => ?_
    refine ⟨m[k].block, m[k].head.kind.toNat, m[k].head.era, m[k].head.seq, m[k].bad, fun v hv => hv ▸ RowAt.cells hr, ?_⟩
    refine idx_flat (f := Taken.vals) Taken.vals_length (by omega) (RowAt.ext hr11 hu) rfl hi fun b o hab hr => ?_
    refine ⟨l[i].block, l[i].head.kind.toNat, l[i].head.era, l[i].head.seq, l[i].bad, fun v hv => hv ▸ RowAt.cells hr, ?_⟩
    rw [taken_eqb]
    exact hK
  have eone : ∀ k : Nat, k < 100 → IntKind.i64.wrap ((k : Int) + 1) = ((k + 1 : Nat) : Int) := fun k hk => w64 (by omega) (by omega)
  have hwork : ∀ {u : World}, Ext w₁₁ u → CallsR prog K.carracklaw04_works #[] u fun v9 w16 => ∃ b6 : Bool, v9 = Value.bool b6 ∧ (Value.bool b6 = .bool true ∧ Ext w w16) := by
    intro u hu
    refine (carracklaw04_works_spec _).mono ?_
    rintro _ w' ⟨rfl, he⟩
    exact ⟨_, rfl, rfl, (e11.trans hu).trans he⟩
  refine br_intro (fun hfr => ?_) fun hfr => ?_
  · have hfr' : free = false := by simpa using hfr
    rw [if_neg (by rw [hfr']; simp)] at hcut
    obtain ⟨hc1, hc2⟩ := hcut
    refine ⟨fun x u => ∃ i : Nat, x = i ∧ i ≤ l.length ∧ Ext w₁₁ u, fun x _ => (l.length - x).toNat, ⟨0, rfl, by omega, Upd.refl _ _⟩, ?_⟩
    rintro x u ⟨i, rfl, hil, hu⟩
    refine br_dec (fun hlt => ?_) fun hge => br_dec (fun _ => hwork hu) fun h => absurd h (by rw [w64 (by omega) (by omega)]; omega)
    have hi' : i < l.length := by omega
    refine ⟨fun b x u => ∃ k : Nat, x = k ∧ k ≤ m.length ∧ Ext w₁₁ u ∧ b = (m.take k).any (fun t => decide (t = l[i])), fun _ x _ => (m.length - x).toNat, ⟨0, rfl, by omega, hu, by simp⟩, ?_⟩
    rintro b x u ⟨k, rfl, hkm, hu, rfl⟩
    refine br_dec (fun hlt => ?_) fun hge => ?_
    · have hk' : k < m.length := by omega
      refine ⟨fun b v => Ext w₁₁ v ∧ b = (m.take (k + 1)).any (fun t => decide (t = l[i])), ?_, ?_⟩
      · intro w₁₄ hd14
        have e14 := hu.trans hd14.upd
        refine ⟨fun v => v = w₁₄, rfl, br_intro (fun hb => ⟨e14, ?_⟩) fun hb => ?_⟩
        · rw [any_take_succ hk', hb]; rfl
        · refine hidx (K := fun b v => Ext w₁₁ v ∧ b = (m.take (k + 1)).any (fun t => decide (t = l[i]))) e14 hi' hk' ⟨e14, ?_⟩
          rw [any_take_succ hk', hb]; rfl
      · rintro b v ⟨hv, rfl⟩
        rw [eone k (by omega)]
        exact ⟨⟨k + 1, rfl, hk', hv, rfl⟩, meas hk'⟩
    · have : k = m.length := by omega
      subst this
      rw [List.take_length]
      have hany : m.any (fun t => decide (t = l[i])) = true := List.any_eq_true.2 ⟨l[i], hc1 _ (List.getElem_mem hi'), by simp⟩
      rw [hany, eone i (by omega)]
      exact ⟨⟨i + 1, rfl, hi', hu⟩, meas hi'⟩
  · have hfr' : free = true := by simpa using hfr
    rw [if_pos hfr'] at hcut
    obtain ⟨rfl, hc1, hc2⟩ := hcut
    refine ⟨fun x u => ∃ i : Nat, x = i ∧ i ≤ l.length ∧ Ext w₁₁ u, fun x _ => (l.length - x).toNat, ⟨0, rfl, by omega, Upd.refl _ _⟩, ?_⟩
    rintro x' u ⟨i, rfl, hil, hu⟩
    refine br_dec (fun hlt => ?_) fun hge => br_dec (fun _ => hwork hu) fun h => absurd h (by omega)
    have hi' : i < l.length := by omega
    refine ⟨fun b x u => ∃ k : Nat, x = k ∧ k ≤ m.length ∧ Ext w₁₁ u ∧ b = (m.take k).any (fun t => decide (t = l[i])), fun _ x _ => (m.length - x).toNat, ⟨0, rfl, by omega, hu, by simp⟩, ?_⟩
    rintro b x' u ⟨k, rfl, hkm, hu, rfl⟩
    refine br_dec (fun hlt => ?_) fun hge => ?_
    · have hk' : k < m.length := by omega
      rw [eone k (by omega)]
      intro w₁₉ hd19
      have e19 := hu.trans hd19.upd
      refine ⟨fun v => v = w₁₉, rfl, br_intro (fun hb => ⟨⟨k + 1, rfl, hk', e19, ?_⟩, meas hk'⟩) fun hb => ?_⟩
      · rw [any_take_succ hk', hb]; rfl
      · refine hidx (K := fun b v => (∃ k' : Nat, ((k + 1 : Nat) : Int) = k' ∧ k' ≤ m.length ∧ Ext w₁₁ v ∧ b = (m.take k').any (fun t => decide (t = l[i]))) ∧ ((m.length : Int) - ((k + 1 : Nat) : Int)).toNat < ((m.length : Int) - (k : Int)).toNat) e19 hi' hk' ⟨⟨k + 1, rfl, hk', e19, ?_⟩, meas hk'⟩
        rw [any_take_succ hk', hb]; rfl
    · have : k = m.length := by omega
      subst this
      rw [List.take_length, eone i (by omega)]
      refine br_intro (fun hb => ?_) fun _ => ⟨⟨i + 1, rfl, hi', hu⟩, meas hi'⟩
      refine idx_flat (f := Taken.vals) Taken.vals_length (by omega) (RowAt.ext hr11 hu) rfl hi' fun b o hab hr => ?_
      obtain ⟨b', o', hab', hcc⟩ := RowAt.cell hr (i := 0) (v := .int .i64 l[i].block) rfl
      cases hab'
      refine ⟨_, hcc, br_ne (fun hne => ?_) fun _ => ⟨⟨i + 1, rfl, hi', hu⟩, meas hi'⟩⟩
      have hany : m.any (fun t => decide (t = l[i])) = true := List.any_eq_true.2 ⟨l[i], hc1 _ (List.getElem_mem hi') hne, by simp⟩
      rw [hany] at hb
      cases hb

end Go.Den
end

section
namespace Go.Proofs.Ytljaocdmeoheaaa.poolCuts
open Go.ChangeShapes Go.WideShapes Go.ChangeAt Go.RowKit Go.Den
set_option linter.unusedVariables false
set_option linter.unusedSimpArgs false

theorem own : ownKnob Try.prog.godebug = none := by kernel_rfl
theorem laidOut : laidOutB Try.prog = true := by kernel_rfl
theorem rowed : ∀ t ∈ Try.f7.params.toList, Try.prog.readableRec t = true ∧ t < Try.prog.types.size := by
  rw [Try.params7]
  intro t ht
  simp at ht
  rcases ht with rfl | rfl | rfl | rfl | rfl | rfl <;> exact ⟨by kernel_rfl, of_decide_eq_true (by kernel_rfl)⟩

set_option maxRecDepth 100000 in
theorem lifted (os : Os) (started : os.Started) (H : Type) (enc : TypeId × Value → H) :
    ReturnsInHanded {} Try.checked os 7 .any (Rows.poolCutsSpec.pre6 enc Try.prog Try.f7 Rows.poolCutsRow.domain false) (Rows.poolCutsSpec.post enc Try.prog Try.f7 false true false false) := by
  refine returnsInHanded_of_change_sized (C := Try.checked) own started (by kernel_rfl) Try.func7
    (ChangeSpec.witness6 (enc := enc) (C := Try.checked) false ⟨#[], #[.int .u8 0, .slice none 0 0, .bool false, .int .u8 0, .int .u8 0, .slice none 0 0], []⟩ 8 (by kernel_rfl) (by kernel_rfl) (by kernel_rfl) (by kernel_rfl)) ?_
  intro W base args ds gs before hval0 hW hcnd hsz _
  have hval : ∀ (j : Nat) t v, Try.f7.params[j]? = some t → args[j]? = some v → Value.okWide Try.prog W .any base t v := hval0
  have hW' := hW
  obtain ⟨p, q, hA0, hV, hpq, hfz, hnd⟩ := hW
  have hA : DataW.TrodAll enc Try.prog W 0 (fun _ => true) true Try.f7.params.toList args.toList ds p := hA0
  rw [Try.params7] at hA hval hsz
  obtain ⟨v0, vs0, d0, ds0, p0, q0, hargs, rfl, hp0, h0, r0⟩ := trodAll_cons hA
  obtain ⟨v1, vs1, d1, ds1, p1, q1, rfl, rfl, hp1, h1, r1⟩ := trodAll_cons r0
  obtain ⟨v2, vs2, d2, ds2, p2, q2, rfl, rfl, hp2, h2, r2⟩ := trodAll_cons r1
  obtain ⟨v3, vs3, d3, ds3, p3, q3, rfl, rfl, hp3, h3, r3⟩ := trodAll_cons r2
  obtain ⟨v4, vs4, d4, ds4, p4, q4, rfl, rfl, hp4, h4, r4⟩ := trodAll_cons r3
  obtain ⟨v5, vs5, d5, ds5, p5, q5, rfl, rfl, hp5, h5, r5⟩ := trodAll_cons r4
  obtain ⟨rfl, rfl, _⟩ := trodAll_nil r5
  obtain rfl : args = #[v0, v1, v2, v3, v4, v5] := by cases args; simp_all
  obtain ⟨rfl, _⟩ := trodVars_none hV
  obtain ⟨a0, rfl, _, _, w0⟩ := open_int Try.underlying5 (hval 0 5 v0 rfl rfl) h0
  have hb0 := byte_bv w0
  obtain ⟨sa1, sl1, sc1, rfl⟩ := okWide_slice Try.underlying58 (hval 1 58 v1 rfl rfl)
  obtain ⟨fuel1, hf1⟩ := h1
  obtain ⟨aa1, al1, ac1, hcs1, har1, hera1⟩ := open_acts Try.underlying58 (by kernel_rfl) hf1
  simp [Value.cells] at hcs1
  obtain ⟨rfl, rfl, rfl⟩ := hcs1
  obtain ⟨a2, rfl, _, _⟩ := open_bool Try.underlying4 (hval 2 4 v2 rfl rfl) h2
  obtain ⟨a3, rfl, _, _, w3⟩ := open_int Try.underlying5 (hval 3 5 v3 rfl rfl) h3
  have hb3 := byte_bv w3
  obtain ⟨a4, rfl, _, _, w4⟩ := open_int Try.underlying5 (hval 4 5 v4 rfl rfl) h4
  have hb4 := byte_bv w4
  obtain ⟨sa5, sl5, sc5, rfl⟩ := okWide_slice Try.underlying26 (hval 5 26 v5 rfl rfl)
  obtain ⟨fuel5, hf5⟩ := h5
  obtain ⟨ba5, bl5, bc5, hcs5, hlc5, hby5, hbn5, hbr5⟩ := open_bytes_fit Try.underlying26 Try.underlying5 (by kernel_rfl) hf5 (fits_each hsz (j := 5) rfl rfl)
  simp [Value.cells] at hcs5
  obtain ⟨rfl, rfl, rfl⟩ := hcs5
  rw [hb0, hb3, hb4] at hW' ⊢
  refine Calls.mono (carracklaw04_PoolCuts_spec (UInt8.ofNat a0.toNat) har1 hera1 a2 (UInt8.ofNat a3.toNat) (UInt8.ofNat a4.toNat) hby5 (Nat.le_trans hbr5 (by decide))) fun e W' he => ?_
  obtain ⟨v, he, rfl, hx⟩ := he
  exact ⟨_, he, post_true laidOut hW' rfl rowed (Ext.below hx) Try.underlying4 (by kernel_rfl) rfl⟩

theorem proved : Rows.PoolCutsSaid :=
  OpenClaim.holds_of_wide 7 Try.f7 rfl rfl rfl rfl rfl rfl rfl ⟨rfl, rfl, rfl, rfl, rfl⟩ rfl rfl rfl rfl rfl (by kernel_rfl) Try.func7 (by kernel_rfl)
    (of_decide_eq_true (by kernel_rfl)) (by unfold Func.isWrapper; first | (rw [if_pos (by decide +kernel)]; kernel_rfl) | (rw [if_neg (by decide +kernel)]; exact ⟨rfl, rfl⟩))
    (fun os started H enc _ => lifted os started H enc)
end Go.Proofs.Ytljaocdmeoheaaa.poolCuts
end
