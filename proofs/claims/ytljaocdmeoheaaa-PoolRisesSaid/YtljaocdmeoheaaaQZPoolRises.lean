/- The row of the law PoolRises: for every input the law returns true, and its arguments read as they did. (Merged by program: LPoolRises ZPoolRises.) -/
import Derived.Test.YtljaocdmeoheaaaQ5
import Derived.Test.YtljaocdmeoheaaaRows
import Derived.WalkKit
section
set_option linter.unusedVariables false
set_option linter.unusedSimpArgs false
set_option maxRecDepth 4000
namespace Go.Den

theorem tmod_kind (k : UInt8) : IntKind.u8.wrap ((1 : Int) + Int.tmod (k.toNat : Int) 3) = ((1 + k.toNat % 3 : Nat) : Int) := by
  have et : Int.tmod (k.toNat : Int) 3 = ((k.toNat % 3 : Nat) : Int) := tmod_nat _ 3
  have hm3 : k.toNat % 3 < 3 := Nat.mod_lt _ (by omega)
  rw [et, wu8 (by omega) (by omega)]
  omega

theorem carracklaw04_PoolRises_spec {w : World} (pages : UInt8) {Gin : Nat → Prop} {ha aa : Option Addr} {hvs : List Value} {hs : List Hit} {acts : List Act} {hc ac : Nat} (hr : RowAt w ha hvs) (hh : HitRow w Gin hvs hs) (hG : ∀ x, Gin x → x < w.heap.size) (hap : hs ≠ [] → ∀ q, ha = some q → q.block < w.heap.size)
    (hm : ∀ t ∈ hs, t.mask.length ≤ 140737488355232) (ar : RowAt w aa (acts.flatMap Act.vals)) (hera : ∀ a ∈ acts, a.era < 4294967296) (kind : UInt8) :
    CallsR prog K.carracklaw04_PoolRises #[bv pages, .slice ha hs.length hc, .slice aa acts.length ac, bv kind] w fun v w' => v = .bool true ∧ Ext w w' := by
  apply carracklaw04_PoolRises.sh
  unfold carracklaw04_PoolRises.body
  refine (carracklaw04_played_spec pages hr hh hG hap hm ar hera).mono ?_
  rintro _ w₁ ⟨he1, S, M, P, c, rfl, hS, hp, hi, hnb, hsz, hl, _⟩
  have hs1 := he1.size
  refine ⟨_, _, _, rfl, ?_⟩
  refine (cPower hp.chip hs1).mono ?_
  rintro _ w₂ ⟨he2, p', rfl, hc2⟩
  refine ⟨_, _, rfl, ?_⟩
  have hs2 := he2.size
  refine (cScan hc2 (by omega) (Nat.le_refl _)).mono ?_
  rintro _ w₃ ⟨he3, hv⟩
  have hs3 := he3.size
  have hci := power_ci hi.ci
  have hd1 : c.power.dead = false := rfl
  have hh1 : c.power.hits = [] := rfl
  have hnb1 : c.power.nb = 8 := hnb
  obtain ⟨hsi, hsl⟩ := scan_inv hci hd1
  have hl1 := hsl _ (fun i hi' hhd => hi.last i hi' hhd)
  generalize c.power = c1 at *
  rw [if_neg (by rw [hd1]; simp)] at hv
  obtain ⟨M1, rfl, rfl, hp3⟩ := hv
  generalize scanPool c1 = P1 at *
  refine ⟨_, _, rfl, fun u => u = w₃, br_ne (fun h => (h rfl).elim) fun _ => br_ne (fun h => (h rfl).elim) fun _ => rfl, ?_⟩
  rintro _ rfl
  rename_i w₃
  refine (pTaken hp3 (by omega) rfl).mono ?_
  rintro _ w₅ ⟨he5, a1, cp1, rfl, ho5, hf5⟩
  have hp5 := hp3.ext he5
  have hso := taken_sorted hsi hd1
  have hll : (takenPool P1 c1).length ≤ 8 := by
    unfold takenPool
    rw [isort_length, ← hnb1]
    exact takenRaw_length P1 c1 c1.nb
  have tk := taking hsi hd1 hh1 hp3.turn (kind := UInt8.ofNat (1 + kind.toNat % 3)) (era := 7) (by simp; omega) (by simp; omega) (by omega) (by omega) (by omega)
  generalize hl' : takenPool P1 c1 = l at *
  refine ⟨_, _, _, rfl, fun x u => ∃ i : Nat, x = (i : Int) + 1 ∧ i ≤ l.length ∧ Ext w₅ u, fun x _ => (l.length + 1 - x).toNat, ⟨0, rfl, by omega, Upd.refl _ _⟩, ?_⟩
  rintro x u ⟨i, rfl, hil, hu⟩
  have hpu := hp5.ext hu
  refine br_dec (fun hlt => ?_) fun hge => ?_
  · intro w₇ hd7
    have e7 := hu.trans hd7.upd
    have hr7 := RowAt.ext ho5.row e7
    have hi0 : i < l.length := by omega
    have hi1 : i + 1 < l.length := by omega
    refine ⟨fun v => v = w₇, rfl, ?_⟩
    have ex : IntKind.i64.wrap ((i : Int) + 1 - 1) = ((i : Nat) : Int) := by rw [w64 (by omega) (by omega)]; omega
    have ey : (i : Int) + 1 = ((i + 1 : Nat) : Int) := by omega
    have ez : IntKind.i64.wrap ((i : Int) + 1 + 1) = ((i + 1 : Nat) : Int) + 1 := by rw [w64 (by omega) (by omega)]; omega
    rw [ex, ez]
    refine idx_flat (f := Taken.vals) Taken.vals_length (by omega) hr7 rfl hi0 fun b o hab hrr => ?_
    obtain ⟨b', o', hab', hcc⟩ := RowAt.cell hrr (i := 3) (v := .int .u64 l[i].head.seq) rfl
    cases hab'
    simp only [add_lit]
    refine ⟨_, fun v hv => hv ▸ hcc, ?_⟩
    rw [ey]
    refine idx_flat (f := Taken.vals) Taken.vals_length (by omega) hr7 rfl hi1 fun b o hab hrr => ?_
    obtain ⟨b', o', hab', hcc⟩ := RowAt.cell hrr (i := 3) (v := .int .u64 l[i + 1].head.seq) rfl
    cases hab'
    simp only [add_lit]
    refine ⟨_, fun v hv => hv ▸ hcc, br_dec (fun h => ?_) fun _ => ⟨⟨i + 1, rfl, by omega, e7⟩, by omega⟩⟩
    have := List.pairwise_iff_getElem.1 hso i (i + 1) hi0 hi1 (by omega)
    omega
  · have hk : Value.int .u8 (IntKind.u8.wrap ((1 : Int) + Int.tmod (kind.toNat : Int) 3)) = bv (UInt8.ofNat (1 + kind.toNat % 3)) := by
      rw [tmod_kind]
      simp
      omega
    have hk2 : IntKind.u8.wrap ((1 : Int) + Int.tmod (kind.toNat : Int) 3) = ((UInt8.ofNat (1 + kind.toNat % 3)).toNat : Int) := by
      rw [tmod_kind]
      simp
      omega
    refine ⟨by omega, ?_⟩
    rw [hk, hk2]
    generalize UInt8.ofNat (1 + kind.toNat % 3) = kd at *
    have hsu := hu.size
    have hs5 := he5.size
    refine (pTake hpu (kind := kd) (era := 7) (by omega) rfl).mono ?_
    rintro _ w₈ ⟨rfl, hu8, hp8⟩
    have e8 : Ext w w₈ := Upd.beyond (((he1.trans he2).trans he3).trans (he5.trans hu)) hu8 (fun x hx => hx.1)
    generalize takePool P1 c1 kd 7 = R at *
    refine ⟨_, _, rfl, ?_⟩
    rcases tk.cases with ⟨b1, b2, b3, b4, b5, b6, b7, b8⟩ | ⟨b1, b2, b3, b4⟩
    · rw [b1]
      refine br_ne (fun h => (h rfl).elim) fun _ => ?_
      refine (pTaken hp8 (by rw [tk.geo.1]; omega) b8).mono ?_
      rintro _ w₁₁ ⟨he11, a2, cp2, rfl, ho11, hf11⟩
      rw [hl'] at ho11 ⊢
      refine ⟨_, _, _, rfl, ?_⟩
      intro w₁₂ hd12
      have e12 : Ext w₈ w₁₂ := he11.trans hd12.upd
      have hr12 := RowAt.ext ho11.row hd12.upd
      have hp12 := hp8.ext e12
      have hln : (l ++ [(⟨R.block, ⟨kd, 7, R.pool.last⟩, false⟩ : Taken)]).length = l.length + 1 := by simp
      have elast : (l ++ [(⟨R.block, ⟨kd, 7, R.pool.last⟩, false⟩ : Taken)])[l.length]'(by simp) = ⟨R.block, ⟨kd, 7, R.pool.last⟩, false⟩ := by simp
      have e1 : IntKind.i64.wrap (((l.length : Nat) : Int) + 1) = ((l.length + 1 : Nat) : Int) := by rw [w64 (by omega) (by omega)]; omega
      have e2 : IntKind.i64.wrap (((l.length + 1 : Nat) : Int) - 1) = ((l.length : Nat) : Int) := by rw [w64 (by omega) (by omega)]; omega
      rw [hln, e1, e2]
      refine ⟨fun v => Ext w₁₂ v, Upd.refl _ _, br_eq (fun _ => ?_) fun h => (h rfl).elim⟩
      rw [← hln]
      refine idx_flat (f := Taken.vals) Taken.vals_length (by omega) hr12 rfl (by omega) fun b o hab hrr => ?_
      rw [elast] at hrr
      obtain ⟨b', o', hab', hcc⟩ := RowAt.cell hrr (i := 0) (v := .int .i64 R.block) rfl
      cases hab'
      refine ⟨(R.block : Int), fun v hv => ?_, ?_⟩
      · obtain ⟨b', o', hab', hcc⟩ := RowAt.cell (RowAt.ext hrr hv) (i := 0) (v := .int .i64 R.block) rfl
        cases hab'
        exact hcc
      refine br_eq (fun _ => ?_) fun h => (h rfl).elim
      refine idx_flat (f := Taken.vals) Taken.vals_length (by omega) hr12 rfl (by omega) fun b o hab hrr => ?_
      rw [elast] at hrr
      refine ⟨kd.toNat, 7, R.pool.last, fun v hv => ?_, by omega, ?_⟩
      · have h1 := RowAt.drop (RowAt.ext hrr hv) 1
        simp only [add_lit]
        exact RowAt.cells (RowAt.take h1 3)
      refine (pLast hp12).mono ?_
      rintro _ _ ⟨rfl, rfl⟩
      rename_i w₁₂
      refine ⟨_, rfl, Upd.refl _ _, ?_⟩
      simp only [beq_self_eq_true, Bool.and_self, br_true]
      refine (carracklaw04_works_spec _).mono ?_
      rintro _ w₁₄ ⟨rfl, he14⟩
      exact ⟨_, rfl, he14, rfl, (e8.trans e12).trans he14⟩
    · rw [b1]
      refine br_ne (fun _ => ?_) fun h => by cases h
      refine br_eq (fun _ => ?_) fun h => (h rfl).elim
      refine (pBlanks hp8).mono ?_
      rintro _ w₉ ⟨rfl, he9⟩
      rw [b2, b3, b4]
      refine ⟨_, rfl, br_eq (fun _ => ?_) fun h => (h rfl).elim⟩
      refine (carracklaw04_works_spec _).mono ?_
      rintro _ w₁₀ ⟨rfl, he10⟩
      exact ⟨_, rfl, rfl, (e8.trans he9).trans he10⟩

end Go.Den
end

section
namespace Go.Proofs.Ytljaocdmeoheaaa.poolRises
open Go.ChangeShapes Go.WideShapes Go.ChangeAt Go.RowKit Go.Den
set_option linter.unusedVariables false
set_option linter.unusedSimpArgs false

theorem own : ownKnob Try.prog.godebug = none := by kernel_rfl
theorem laidOut : laidOutB Try.prog = true := by kernel_rfl
theorem rowed : ∀ t ∈ Try.f6.params.toList, Try.prog.readableRec t = true ∧ t < Try.prog.types.size := by
  rw [Try.params6]
  intro t ht
  simp at ht
  rcases ht with rfl | rfl | rfl | rfl <;> exact ⟨by kernel_rfl, of_decide_eq_true (by kernel_rfl)⟩

set_option maxRecDepth 100000 in
theorem lifted (os : Os) (started : os.Started) (H : Type) (enc : TypeId × Value → H) :
    ReturnsInHanded {} Try.checked os 6 .any (Rows.poolRisesSpec.pre6 enc Try.prog Try.f6 Rows.poolRisesRow.domain false) (Rows.poolRisesSpec.post enc Try.prog Try.f6 false true false false) := by
  refine returnsInHanded_of_change_sized (C := Try.checked) own started (by kernel_rfl) Try.func6
    (ChangeSpec.witness6 (enc := enc) (C := Try.checked) false ⟨#[], #[.int .u8 0, .slice none 0 0, .slice none 0 0, .int .u8 0], []⟩ 8 (by kernel_rfl) (by kernel_rfl) (by kernel_rfl) (by kernel_rfl)) ?_
  intro W base args ds gs before hval0 hW hcnd hsz _
  have hval : ∀ (j : Nat) t v, Try.f6.params[j]? = some t → args[j]? = some v → Value.okWide Try.prog W .any base t v := hval0
  have hW' := hW
  obtain ⟨p, q, hA0, hV, hpq, hfz, hnd⟩ := hW
  have hA : DataW.TrodAll enc Try.prog W 0 (fun _ => true) true Try.f6.params.toList args.toList ds p := hA0
  rw [Try.params6] at hA hval hsz
  obtain ⟨v0, vs0, d0, ds0, p0, q0, hargs, rfl, hp0, h0, r0⟩ := trodAll_cons hA
  obtain ⟨v1, vs1, d1, ds1, p1, q1, rfl, rfl, hp1, h1, r1⟩ := trodAll_cons r0
  obtain ⟨v2, vs2, d2, ds2, p2, q2, rfl, rfl, hp2, h2, r2⟩ := trodAll_cons r1
  obtain ⟨v3, vs3, d3, ds3, p3, q3, rfl, rfl, hp3, h3, r3⟩ := trodAll_cons r2
  obtain ⟨rfl, rfl, _⟩ := trodAll_nil r3
  obtain rfl : args = #[v0, v1, v2, v3] := by cases args; simp_all
  obtain ⟨rfl, _⟩ := trodVars_none hV
  obtain ⟨a0, rfl, _, _, w0⟩ := open_int Try.underlying5 (hval 0 5 v0 rfl rfl) h0
  have hb0 := byte_bv w0
  obtain ⟨sa1, sl1, sc1, rfl⟩ := okWide_slice Try.underlying41 (hval 1 41 v1 rfl rfl)
  obtain ⟨fuel1, hf1⟩ := h1
  obtain ⟨ha1, hv1, hs1, hc1, hcs1, hrow1, hhit1, hap1, hm1⟩ := open_hits (by kernel_rfl) hf1 (fits_each hsz (j := 1) rfl rfl)
  simp [Value.cells] at hcs1
  obtain ⟨rfl, rfl, rfl⟩ := hcs1
  obtain ⟨sa2, sl2, sc2, rfl⟩ := okWide_slice Try.underlying58 (hval 2 58 v2 rfl rfl)
  obtain ⟨fuel2, hf2⟩ := h2
  obtain ⟨aa2, al2, ac2, hcs2, har2, hera2⟩ := open_acts Try.underlying58 (by kernel_rfl) hf2
  simp [Value.cells] at hcs2
  obtain ⟨rfl, rfl, rfl⟩ := hcs2
  obtain ⟨a3, rfl, _, _, w3⟩ := open_int Try.underlying5 (hval 3 5 v3 rfl rfl) h3
  have hb3 := byte_bv w3
  rw [hb0, hb3] at hW' ⊢
  refine Calls.mono (carracklaw04_PoolRises_spec (UInt8.ofNat a0.toNat) hrow1 hhit1 (fun x hx => hx) hap1 hm1 har2 hera2 (UInt8.ofNat a3.toNat)) fun e W' he => ?_
  obtain ⟨v, he, rfl, hx⟩ := he
  exact ⟨_, he, post_true laidOut hW' rfl rowed (Ext.below hx) Try.underlying4 (by kernel_rfl) rfl⟩

theorem proved : Rows.PoolRisesSaid :=
  OpenClaim.holds_of_wide 6 Try.f6 rfl rfl rfl rfl rfl rfl rfl ⟨rfl, rfl, rfl, rfl, rfl⟩ rfl rfl rfl rfl rfl (by kernel_rfl) Try.func6 (by kernel_rfl)
    (of_decide_eq_true (by kernel_rfl)) (by unfold Func.isWrapper; first | (rw [if_pos (by decide +kernel)]; kernel_rfl) | (rw [if_neg (by decide +kernel)]; exact ⟨rfl, rfl⟩))
    (fun os started H enc _ => lifted os started H enc)
end Go.Proofs.Ytljaocdmeoheaaa.poolRises
end
