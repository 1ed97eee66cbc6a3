/- The row of the law ScanPages: for every input the law returns true, and its arguments read as they did. (Merged by program: LScanPages ZScanPages.) -/
import Derived.Test.YtdngiobkannbnaaGreatQ5
import Derived.Test.YtdngiobkannbnaaGreatRows
import Derived.WalkKit
section
set_option linter.unusedVariables false
set_option linter.unusedSimpArgs false
set_option maxRecDepth 8000
namespace Go.Den
theorem carracklaw12_ScanPages_spec {l : List LBlk} {w : World} {G : Nat → Prop} {a : Option Addr} {c : Nat} (h : SliceAt blkR w G a l) (hs : SmallB l) (block : Int) :
    CallsR prog K.carracklaw12_ScanPages #[.slice a l.length c, .int .i64 block] w fun v w' => v = .bool true ∧ Ext w w' := by
  apply carracklaw12_ScanPages.sh
  unfold carracklaw12_ScanPages.body
  refine (carracklaw12_chip_spec (bad := []) (ab := none) (cb := 0) h hs (RowAt.nil _ _) (by simp)).mono ?_
  rintro _ w₁ ⟨he1, p, d, rfl, hc, hst⟩
  have hc1 : CAt w.heap.size w₁.heap.size w₁ p d := CAt.of hc (Nat.le_refl _)
  have hs1 := he1.size
  refine ⟨_, rfl, (scan_Pages_spec hc1 block).mono ?_⟩
  rintro _ w₂ ⟨a1, c1, rfl, hl1, he2⟩
  have e2 := he1.trans he2
  refine ⟨_, _, _, _, rfl, fun b u => u = w₂ ∧ b = decide (block < 0 ∨ block ≥ 16), br_dec (fun h => ⟨rfl, by simp [h]⟩) fun h => ⟨rfl, by rw [Bool.eq_iff_iff]; simp; omega⟩, ?_⟩
  rintro b u ⟨rfl, rfl⟩
  refine br_dec (fun hout => ?_) fun hin => ?_
  · have hask : d.ask block 0 = 2 := by rw [hst.ask, if_pos (by omega)]
    have hpo : pagesOut d block = [] := by unfold pagesOut; rw [if_neg (by omega)]
    rw [hask, hpo]
    refine br_eq (fun _ => br_eq (fun _ => ?_) fun h => absurd rfl h) fun h => absurd rfl h
    refine (carracklaw12_works_spec u).mono ?_
    rintro _ w₄ ⟨rfl, he4⟩
    exact ⟨_, rfl, rfl, e2.trans he4⟩
  · have hask : d.ask block 0 = 0 := by rw [hst.ask, if_neg (by omega)]
    obtain ⟨i, rfl⟩ : ∃ i : Nat, block = i := ⟨block.toNat, by omega⟩
    have hpo : pagesOut d i = pagesS d i := by unfold pagesOut; rw [if_pos hask, Int.toNat_natCast]
    rw [hpo] at hl1 ⊢
    rw [hask]
    refine (carrackref12_Pages_spec (hc1.ext he2) hst.dead (i := i) (by rw [hst.nb]; omega)).mono ?_
    rintro _ w₅ ⟨a2, c2, rfl, hl2, he5⟩
    have hsm : ∀ P ∈ pagesS d i, (∀ x ∈ P.changes, x.val.length < 256) ∧ P.changes.length ≤ 255 := fun P => pagesS_small
    have hlen : (pagesS d i).length ≤ d.np := pagesTo_length d i d.np
    have hnp := hc1.ok.np2
    generalize pagesS d i = pg at *
    obtain ⟨G1, hG1, _⟩ := hl1.slice
    obtain ⟨G2, hG2, _⟩ := hl2.slice
    have e5 := e2.trans he5
    refine ⟨_, _, _, rfl, br_ne (fun h => absurd rfl h) fun _ => br_ne (fun h => absurd rfl h) fun _ => ?_⟩
    refine ⟨fun x u => ∃ k : Nat, x = k ∧ k ≤ pg.length ∧ Ext w₅ u, fun x _ => ((pg.length : Int) - x).toNat, ⟨0, rfl, by omega, Upd.refl _ _⟩, ?_⟩
    rintro x u ⟨k, rfl, hk, heu⟩
    refine br_dec (fun hlt => ?_) fun _ => ?_
    · have hk' : k < pg.length := by omega
      intro w₇ hd7
      have e7 := heu.trans hd7.upd
      have r1 : SliceAt pageR w₇ G1 a1 pg := (hG1.ext he5).ext e7
      have r2 : SliceAt pageR w₇ G2 a2 pg := hG2.ext e7
      refine ⟨fun u => Ext w₇ u, Upd.refl _ _, SliceAt.idx (r := pageR) r1 rfl hk' fun b1 o1 vs1 _ hrow1 hR1 _ => ?_⟩
      obtain ⟨_, _, rfl, _, _⟩ := pageR_elim hR1
      refine ⟨_, fun u1 hu1 => row_cell (hrow1.ext hu1) (j := 0) rfl, SliceAt.idx (r := pageR) r2 rfl hk' fun b2 o2 vs2 _ hrow2 hR2 _ => ?_⟩
      obtain ⟨_, _, rfl, _, _⟩ := pageR_elim hR2
      refine ⟨_, fun u1 hu1 => row_cell (hrow2.ext hu1) (j := 0) rfl, br_ne (fun h => absurd rfl h) fun _ => ?_⟩
      refine SliceAt.idx (r := pageR) r1 rfl hk' fun b1 o1 vs1 _ hrow1 hR1 _ => ?_
      obtain ⟨_, _, rfl, _, _⟩ := pageR_elim hR1
      simp only [add_lit]
      refine ⟨_, fun u1 hu1 => row_cell (hrow1.ext hu1) (j := 2) rfl, SliceAt.idx (r := pageR) r2 rfl hk' fun b2 o2 vs2 _ hrow2 hR2 _ => ?_⟩
      obtain ⟨_, _, rfl, _, _⟩ := pageR_elim hR2
      simp only [add_lit]
      refine ⟨_, fun u1 hu1 => row_cell (hrow2.ext hu1) (j := 2) rfl, br_ne (fun h => absurd rfl h) fun _ => ?_⟩
      refine SliceAt.idx (r := pageR) r1 rfl hk' fun b1 o1 vs1 _ hrow1 hR1 _ => ?_
      obtain ⟨ac1, cc1, rfl, _, hch1⟩ := pageR_elim hR1
      simp only [add_lit]
      refine ⟨_, _, _, fun u1 hu1 => row_cell (hrow1.ext hu1) (j := 1) rfl, SliceAt.idx (r := pageR) r2 rfl hk' fun b2 o2 vs2 _ hrow2 hR2 _ => ?_⟩
      obtain ⟨ac2, cc2, rfl, _, hch2⟩ := pageR_elim hR2
      simp only [add_lit]
      have hsmk := hsm _ (List.getElem_mem hk')
      refine ⟨_, _, _, fun u1 hu1 => row_cell (hrow2.ext hu1) (j := 1) rfl, (changes_same hch1 hch2 (fun x hx => by have := hsmk.1 x hx; omega) (by omega)).mono ?_⟩
      rintro _ w₈ ⟨rfl, he8⟩
      refine ⟨_, rfl, he8, ?_⟩
      simp only [Bool.not_true, br_false]
      rw [w64 (by omega) (by omega)]
      exact ⟨⟨k + 1, rfl, hk', e7.trans he8⟩, meas hk'⟩
    · refine (carracklaw12_works_spec u).mono ?_
      rintro _ w₉ ⟨rfl, he9⟩
      exact ⟨_, rfl, rfl, (e5.trans heu).trans he9⟩
end Go.Den
end
section
namespace Go.Proofs.YtdngiobkannbnaaGreat.scanPages
open Go.ChangeShapes Go.WideShapes Go.ChangeAt Go.RowKit Go.Den
set_option linter.unusedVariables false
set_option linter.unusedSimpArgs false
theorem own : ownKnob Tryz.prog.godebug = none := by kernel_rfl
theorem laidOut : laidOutB Tryz.prog = true := by kernel_rfl
theorem rowed : ∀ t ∈ Tryz.f4.params.toList, Tryz.prog.readableRec t = true ∧ t < Tryz.prog.types.size := by
  rw [Tryz.params4]
  intro t ht
  simp at ht
  rcases ht with rfl | rfl <;> exact ⟨by kernel_rfl, of_decide_eq_true (by kernel_rfl)⟩
set_option maxRecDepth 100000 in
theorem lifted (os : Os) (started : os.Started) (H : Type) (enc : TypeId × Value → H) :
    ReturnsInHanded {} Tryz.checked os 4 .any (Rows.scanPagesSpec.pre6 enc Tryz.prog Tryz.f4 Rows.scanPagesRow.domain false) (Rows.scanPagesSpec.post enc Tryz.prog Tryz.f4 false true false false) := by
  refine returnsInHanded_of_change_sized (C := Tryz.checked) own started (by kernel_rfl) Tryz.func4
    (ChangeSpec.witness6 (enc := enc) (C := Tryz.checked) false ⟨#[], #[.slice none 0 0, .int .i64 0], []⟩ 8 (by kernel_rfl) (by kernel_rfl) (by kernel_rfl) (by kernel_rfl)) ?_
  intro W base args ds gs before hval0 hW hcnd hsz _
  have hval : ∀ (j : Nat) t v, Tryz.f4.params[j]? = some t → args[j]? = some v → Value.okWide Tryz.prog W .any base t v := hval0
  have hW' := hW
  obtain ⟨p, q, hA0, hV, hpq, hfz, hnd⟩ := hW
  have hA : DataW.TrodAll enc Tryz.prog W 0 (fun _ => true) true Tryz.f4.params.toList args.toList ds p := hA0
  rw [Tryz.params4] at hA hval hsz
  obtain ⟨v0, vs0, d0, ds0, p0, q0, hargs, rfl, hp0, h0, r0⟩ := trodAll_cons hA
  obtain ⟨v1, vs1, d1, ds1, p1, q1, rfl, rfl, hp1, h1, r1⟩ := trodAll_cons r0
  obtain ⟨rfl, rfl, _⟩ := trodAll_nil r1
  obtain rfl : args = #[v0, v1] := by cases args; simp_all
  obtain ⟨rfl, _⟩ := trodVars_none hV
  obtain ⟨sa0, sl0, sc0, rfl⟩ := okWide_slice Tryz.underlying22 (hval 0 22 v0 rfl rfl)
  obtain ⟨fuel0, hf0⟩ := h0
  obtain ⟨la0, ll0, lc0, hcs0, hsl0, hsm0⟩ := open12_blks hf0 (fits_each hsz (j := 0) rfl rfl)
  simp [Value.cells] at hcs0
  obtain ⟨rfl, rfl, rfl⟩ := hcs0
  obtain ⟨a1, rfl, _, _, w1⟩ := open_int Tryz.underlying3 (hval 1 3 v1 rfl rfl) h1
  have b1 : -9223372036854775808 ≤ a1 ∧ a1 ≤ 9223372036854775807 := by simpa [Lit.wf, IntKind.min, IntKind.max, IntKind.signed, IntKind.bits] using w1
  refine Calls.mono (carracklaw12_ScanPages_spec hsl0 hsm0 a1) fun e W' he => ?_
  obtain ⟨v, he, rfl, hx⟩ := he
  exact ⟨_, he, post_true laidOut hW' rfl rowed (Ext.below hx) Tryz.underlying4 (by kernel_rfl) rfl⟩
theorem proved : Rows.ScanPagesSaid :=
  OpenClaim.holds_of_wide 4 Tryz.f4 rfl rfl rfl rfl rfl rfl rfl ⟨rfl, rfl, rfl, rfl, rfl⟩ rfl rfl rfl rfl rfl (by kernel_rfl) Tryz.func4 (by kernel_rfl)
    (of_decide_eq_true (by kernel_rfl)) (by unfold Func.isWrapper; first | (rw [if_pos (by decide +kernel)]; kernel_rfl) | (rw [if_neg (by decide +kernel)]; exact ⟨rfl, rfl⟩))
    (fun os started H enc _ => lifted os started H enc)
end Go.Proofs.YtdngiobkannbnaaGreat.scanPages
end
