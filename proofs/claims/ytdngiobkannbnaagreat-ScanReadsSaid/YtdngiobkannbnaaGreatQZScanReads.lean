/- The row of the law ScanReads: for every input the law returns true, and its arguments read as they did. (Merged by program: LScanReads ZScanReads.) -/
import Derived.Test.YtdngiobkannbnaaGreatQ6
import Derived.Test.YtdngiobkannbnaaGreatRows
import Derived.WalkKit
section
set_option linter.unusedVariables false
set_option linter.unusedSimpArgs false
set_option maxRecDepth 8000
namespace Go.Den
theorem ints_row {w : World} {G : Nat → Prop} {a : Option Addr} {l : List Int} (h : SliceAt intR w G a l) : RowAt w a (l.map (Value.int .i64)) := by
  obtain ⟨vs, h1, h2, _⟩ := h
  have key : ∀ (l : List Int) (vs : List Value), Rows intR w G vs l → vs = l.map (Value.int .i64) := by
    intro l
    induction l with
    | nil => intro vs h; exact h
    | cons x l ih =>
      rintro vs ⟨u, t, rfl, hu, ht⟩
      have hu' : u = [.int .i64 x] := hu
      rw [hu', ih t ht]; rfl
  rw [← key l vs h2]
  exact h1
theorem carracklaw12_ScanReads_spec {l : List LBlk} {bad : List Int} {w : World} {G Gb : Nat → Prop} {a ab : Option Addr} {c cb : Nat} (h : SliceAt blkR w G a l) (hs : SmallB l) (hb : SliceAt intR w Gb ab bad) (hbl : bad.length ≤ 17592186043904) (era : UInt8) :
    CallsR prog K.carracklaw12_ScanReads #[.slice a l.length c, .slice ab bad.length cb, bv era] w fun v w' => v = .bool true ∧ Ext w w' := by
  apply carracklaw12_ScanReads.sh
  suffices H : ∀ R : Value → World → Prop, (∀ v w', v = .bool true ∧ Ext w w' → R v w') → carracklaw12_ScanReads.body a l.length c ab bad.length cb (era.toNat : Int) w R from H _ fun _ _ h => h
  intro R hR
  unfold carracklaw12_ScanReads.body
  have he8 := era.toNat_lt
  have ewr : IntKind.u32.wrap (era.toNat : Int) = ((era.toNat : Nat) : Int) := wu32 (by omega) (by omega)
  rw [ewr]
  refine (carracklaw12_chip_spec h hs (ints_row hb) hbl).mono ?_
  rintro _ w₁ ⟨he1, p, d, rfl, hc, hst, _⟩
  have hc1 : CAt w.heap.size w₁.heap.size w₁ p d := CAt.of hc (Nat.le_refl _)
  have hnb : d.nb < 20 := by rw [hst.nb]; omega
  refine ⟨_, rfl, (scan_Blocks_spec hc1 hnb era.toNat).mono ?_⟩
  rintro _ w₂ ⟨a1, c1, a2, c2, rfl, hi1, hi2, he2⟩
  refine ⟨_, _, _, _, _, _, _, rfl, (scan_Facts_spec (hc1.ext he2) hnb era.toNat).mono ?_⟩
  rintro _ w₃ ⟨a3, c3, rfl, hf3, he3⟩
  have e3 := (he1.trans he2).trans he3
  refine ⟨_, _, _, _, rfl, br_eq (fun h0 => ?_) fun h0 => ?_⟩
  · have hre : readErr d era.toNat = 2 := by unfold readErr; rw [hst.dead, if_neg (by decide), if_pos (by omega)]
    have hrp : readParts d era.toNat = [] := by unfold readParts; rw [hre]; rfl
    rw [hre, hrp]
    refine br_eq (fun _ => br_eq (fun _ => br_eq (fun _ => ?_) fun h => absurd (by decide) h) fun h => absurd rfl h) fun h => absurd rfl h
    refine (carracklaw12_works_spec w₃).mono ?_
    rintro _ w₄ ⟨rfl, he4⟩
    exact ⟨_, rfl, hR _ _ ⟨rfl, e3.trans he4⟩⟩
  · have hre : readErr d era.toNat = 0 := by unfold readErr; rw [hst.dead, if_neg (by decide), if_neg (by omega)]
    have hrp : readParts d era.toNat = partsL d era.toNat (refTaken d) := by unfold readParts; rw [hre, any_taken_ref hc1.ok hst.dead]; rfl
    have hgd := factsP_good (low := lowL (readParts d era.toNat)) (readParts_good hc1.ok.np2 era.toNat) _ (Nat.le_refl _)
    have hrl := readParts_length (c := d) era.toNat
    rw [List.take_length] at hgd
    refine (carrackref12_Blocks_spec ((hc1.ext he2).ext he3) hst.dead era.toNat).mono ?_
    rw [hre]
    rw [← hrp]
    rintro _ w₅ ⟨a4, c4, a5, c5, rfl, hi4, hi5, he5⟩
    refine ⟨_, _, _, _, _, _, rfl, br_eq (fun _ => br_eq (fun _ => ?_) fun h => absurd rfl h) fun h => absurd rfl h⟩
    have hcl : (countS (lowL (readParts d era.toNat)) (readParts d era.toNat)).length ≤ (readParts d era.toNat).length := filter_map_len _ _ _
    have hdl : (dropS' (lowL (readParts d era.toNat)) (readParts d era.toNat)).length ≤ (readParts d era.toNat).length := filter_map_len _ _ _
    refine (ints_same (((hi1.ext he3).ext he5).1.row) hi4.1.row (by omega)).mono ?_
    rintro _ w₆ ⟨rfl, he6⟩
    refine ⟨_, rfl, ?_⟩
    rw [br_true]
    refine (ints_same ((((hi2.ext he3).ext he5).ext he6).1.row) ((hi5.ext he6).1.row) (by omega)).mono ?_
    rintro _ w₇ ⟨rfl, he7⟩
    refine ⟨_, rfl, ?_⟩
    rw [br_true]
    refine (carrackref12_Facts_spec (((((hc1.ext he2).ext he3).ext he5).ext he6).ext he7) hst.dead era.toNat).mono ?_
    rw [← hrp]
    rintro _ w₈ ⟨a6, c6, rfl, hf6, he8'⟩
    obtain ⟨G3, hG3, _⟩ := hf3.slice
    obtain ⟨G6, hG6, _⟩ := hf6.slice
    have e38 := ((he5.trans he6).trans he7).trans he8'
    refine ⟨_, _, _, rfl, (facts_same (hG3.ext e38) hG6 (fun x hx => by have := hgd.vals x hx; omega) (by have := hgd.len; omega)).mono ?_⟩
    rintro _ w₉ ⟨rfl, he9⟩
    refine ⟨_, rfl, ?_⟩
    rw [br_true]
    refine (carracklaw12_works_spec w₉).mono ?_
    rintro _ w₁₀ ⟨rfl, he10⟩
    exact ⟨_, rfl, hR _ _ ⟨rfl, ((e3.trans e38).trans he9).trans he10⟩⟩
end Go.Den
end
section
namespace Go.Proofs.YtdngiobkannbnaaGreat.scanReads
open Go.ChangeShapes Go.WideShapes Go.ChangeAt Go.RowKit Go.Den
set_option linter.unusedVariables false
set_option linter.unusedSimpArgs false
theorem own : ownKnob Tryz.prog.godebug = none := by kernel_rfl
theorem laidOut : laidOutB Tryz.prog = true := by kernel_rfl
theorem rowed : ∀ t ∈ Tryz.f3.params.toList, Tryz.prog.readableRec t = true ∧ t < Tryz.prog.types.size := by
  rw [Tryz.params3]
  intro t ht
  simp at ht
  rcases ht with rfl | rfl | rfl <;> exact ⟨by kernel_rfl, of_decide_eq_true (by kernel_rfl)⟩
set_option maxRecDepth 100000 in
theorem lifted (os : Os) (started : os.Started) (H : Type) (enc : TypeId × Value → H) :
    ReturnsInHanded {} Tryz.checked os 3 .any (Rows.scanReadsSpec.pre6 enc Tryz.prog Tryz.f3 Rows.scanReadsRow.domain false) (Rows.scanReadsSpec.post enc Tryz.prog Tryz.f3 false true false false) := by
  refine returnsInHanded_of_change_sized (C := Tryz.checked) own started (by kernel_rfl) Tryz.func3
    (ChangeSpec.witness6 (enc := enc) (C := Tryz.checked) false ⟨#[], #[.slice none 0 0, .slice none 0 0, .int .u8 0], []⟩ 8 (by kernel_rfl) (by kernel_rfl) (by kernel_rfl) (by kernel_rfl)) ?_
  intro W base args ds gs before hval0 hW hcnd hsz _
  have hval : ∀ (j : Nat) t v, Tryz.f3.params[j]? = some t → args[j]? = some v → Value.okWide Tryz.prog W .any base t v := hval0
  have hW' := hW
  obtain ⟨p, q, hA0, hV, hpq, hfz, hnd⟩ := hW
  have hA : DataW.TrodAll enc Tryz.prog W 0 (fun _ => true) true Tryz.f3.params.toList args.toList ds p := hA0
  rw [Tryz.params3] at hA hval hsz
  obtain ⟨v0, vs0, d0, ds0, p0, q0, hargs, rfl, hp0, h0, r0⟩ := trodAll_cons hA
  obtain ⟨v1, vs1, d1, ds1, p1, q1, rfl, rfl, hp1, h1, r1⟩ := trodAll_cons r0
  obtain ⟨v2, vs2, d2, ds2, p2, q2, rfl, rfl, hp2, h2, r2⟩ := trodAll_cons r1
  obtain ⟨rfl, rfl, _⟩ := trodAll_nil r2
  obtain rfl : args = #[v0, v1, v2] := by cases args; simp_all
  obtain ⟨rfl, _⟩ := trodVars_none hV
  obtain ⟨sa0, sl0, sc0, rfl⟩ := okWide_slice Tryz.underlying22 (hval 0 22 v0 rfl rfl)
  obtain ⟨fuel0, hf0⟩ := h0
  obtain ⟨la0, ll0, lc0, hcs0, hsl0, hsm0⟩ := open12_blks hf0 (fits_each hsz (j := 0) rfl rfl)
  simp [Value.cells] at hcs0
  obtain ⟨rfl, rfl, rfl⟩ := hcs0
  obtain ⟨sa1, sl1, sc1, rfl⟩ := okWide_slice Tryz.underlying23 (hval 1 23 v1 rfl rfl)
  obtain ⟨fuel1, hf1⟩ := h1
  obtain ⟨ia1, il1, ic1, hcs1, hsi1, hib1⟩ := open12_ints hf1 (fits_each hsz (j := 1) rfl rfl)
  simp [Value.cells] at hcs1
  obtain ⟨rfl, rfl, rfl⟩ := hcs1
  obtain ⟨a2, rfl, _, _, w2⟩ := open_int Tryz.underlying5 (hval 2 5 v2 rfl rfl) h2
  have hb2 := byte_bv w2
  rw [hb2] at hW' ⊢
  refine Calls.mono (carracklaw12_ScanReads_spec hsl0 hsm0 hsi1 hib1 (UInt8.ofNat a2.toNat)) fun e W' he => ?_
  obtain ⟨v, he, rfl, hx⟩ := he
  exact ⟨_, he, post_true laidOut hW' rfl rowed (Ext.below hx) Tryz.underlying4 (by kernel_rfl) rfl⟩
theorem proved : Rows.ScanReadsSaid :=
  OpenClaim.holds_of_wide 3 Tryz.f3 rfl rfl rfl rfl rfl rfl rfl ⟨rfl, rfl, rfl, rfl, rfl⟩ rfl rfl rfl rfl rfl (by kernel_rfl) Tryz.func3 (by kernel_rfl)
    (of_decide_eq_true (by kernel_rfl)) (by unfold Func.isWrapper; first | (rw [if_pos (by decide +kernel)]; kernel_rfl) | (rw [if_neg (by decide +kernel)]; exact ⟨rfl, rfl⟩))
    (fun os started H enc _ => lifted os started H enc)
end Go.Proofs.YtdngiobkannbnaaGreat.scanReads
end
