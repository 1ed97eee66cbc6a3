/- The row of the law PoolPlays: for every input the law returns true, and its arguments read as they did. (Merged by program: LPoolPlays ZPoolPlays.) -/
import Derived.Test.YtljaocdmeoheaaaQ5
import Derived.Test.YtljaocdmeoheaaaRows
import Derived.WalkKit
section
set_option linter.unusedVariables false
set_option linter.unusedSimpArgs false
namespace Go.Den

theorem carracklaw04_PoolPlays_spec {w : World} (pages : UInt8) {Gin : Nat → Prop} {ha aa : Option Addr} {hvs : List Value} {hs : List Hit} {acts : List Act} {hc ac : Nat} (hr : RowAt w ha hvs) (hh : HitRow w Gin hvs hs) (hG : ∀ x, Gin x → x < w.heap.size) (hap : hs ≠ [] → ∀ q, ha = some q → q.block < w.heap.size)
    (hm : ∀ t ∈ hs, t.mask.length ≤ 140737488355232) (ar : RowAt w aa (acts.flatMap Act.vals)) (hera : ∀ a ∈ acts, a.era < 4294967296) :
    CallsR prog K.carracklaw04_PoolPlays #[bv pages, .slice ha hs.length hc, .slice aa acts.length ac] w fun v w' => v = .bool true ∧ Ext w w' := by
  apply carracklaw04_PoolPlays.sh
  unfold carracklaw04_PoolPlays.body
  refine (carracklaw04_played_spec pages hr hh hG hap hm ar hera).mono ?_
  rintro _ w₁ ⟨he1, S, M, P, c, rfl, _⟩
  refine ⟨_, _, _, rfl, ?_⟩
  simp only [br_true]
  refine (carracklaw04_works_spec _).mono ?_
  rintro _ w₂ ⟨rfl, he2⟩
  exact ⟨_, rfl, rfl, he1.trans he2⟩

end Go.Den
end

section
namespace Go.Proofs.Ytljaocdmeoheaaa.poolPlays
open Go.ChangeShapes Go.WideShapes Go.ChangeAt Go.RowKit Go.Den
set_option linter.unusedVariables false
set_option linter.unusedSimpArgs false

theorem own : ownKnob Try.prog.godebug = none := by kernel_rfl
theorem laidOut : laidOutB Try.prog = true := by kernel_rfl
theorem rowed : ∀ t ∈ Try.f5.params.toList, Try.prog.readableRec t = true ∧ t < Try.prog.types.size := by
  rw [Try.params5]
  intro t ht
  simp at ht
  rcases ht with rfl | rfl | rfl <;> exact ⟨by kernel_rfl, of_decide_eq_true (by kernel_rfl)⟩

set_option maxRecDepth 100000 in
theorem lifted (os : Os) (started : os.Started) (H : Type) (enc : TypeId × Value → H) :
    ReturnsInHanded {} Try.checked os 5 .any (Rows.poolPlaysSpec.pre6 enc Try.prog Try.f5 Rows.poolPlaysRow.domain false) (Rows.poolPlaysSpec.post enc Try.prog Try.f5 false true false false) := by
  refine returnsInHanded_of_change_sized (C := Try.checked) own started (by kernel_rfl) Try.func5
    (ChangeSpec.witness6 (enc := enc) (C := Try.checked) false ⟨#[], #[.int .u8 0, .slice none 0 0, .slice none 0 0], []⟩ 8 (by kernel_rfl) (by kernel_rfl) (by kernel_rfl) (by kernel_rfl)) ?_
  intro W base args ds gs before hval0 hW hcnd hsz _
  have hval : ∀ (j : Nat) t v, Try.f5.params[j]? = some t → args[j]? = some v → Value.okWide Try.prog W .any base t v := hval0
  have hW' := hW
  obtain ⟨p, q, hA0, hV, hpq, hfz, hnd⟩ := hW
  have hA : DataW.TrodAll enc Try.prog W 0 (fun _ => true) true Try.f5.params.toList args.toList ds p := hA0
  rw [Try.params5] at hA hval hsz
  obtain ⟨v0, vs0, d0, ds0, p0, q0, hargs, rfl, hp0, h0, r0⟩ := trodAll_cons hA
  obtain ⟨v1, vs1, d1, ds1, p1, q1, rfl, rfl, hp1, h1, r1⟩ := trodAll_cons r0
  obtain ⟨v2, vs2, d2, ds2, p2, q2, rfl, rfl, hp2, h2, r2⟩ := trodAll_cons r1
  obtain ⟨rfl, rfl, _⟩ := trodAll_nil r2
  obtain rfl : args = #[v0, v1, v2] := by cases args; simp_all
  obtain ⟨rfl, _⟩ := trodVars_none hV
  obtain ⟨a0, rfl, _, _, w0⟩ := open_int Try.underlying5 (hval 0 5 v0 rfl rfl) h0
  have hb0 := byte_bv w0
  obtain ⟨sa1, sl1, sc1, rfl⟩ := okWide_slice Try.underlying41 (hval 1 41 v1 rfl rfl)
  obtain ⟨fuel1, hf1⟩ := h1
  obtain ⟨ha1, hv1, hs1, hc1, hcs1, hrow1, hhit1, hap1, hm1⟩ := open_hits (by kernel_rfl) hf1 (fits_each hsz (j := 1) rfl rfl)
  simp [Value.cells] at hcs1
  obtain ⟨rfl, rfl, rfl⟩ := hcs1
  obtain ⟨sa2, sl2, sc2, rfl⟩ := okWide_slice Try.underlying58 (hval 2 58 v2 rfl rfl)
  obtain ⟨fuel2, hf2⟩ := h2
  obtain ⟨aa2, al2, ac2, hcs2, har2, hera2⟩ := open_acts Try.underlying58 (by kernel_rfl) hf2
  simp [Value.cells] at hcs2
  obtain ⟨rfl, rfl, rfl⟩ := hcs2
  rw [hb0] at hW' ⊢
  refine Calls.mono (carracklaw04_PoolPlays_spec (UInt8.ofNat a0.toNat) hrow1 hhit1 (fun x hx => hx) hap1 hm1 har2 hera2) fun e W' he => ?_
  obtain ⟨v, he, rfl, hx⟩ := he
  exact ⟨_, he, post_true laidOut hW' rfl rowed (Ext.below hx) Try.underlying4 (by kernel_rfl) rfl⟩

theorem proved : Rows.PoolPlaysSaid :=
  OpenClaim.holds_of_wide 5 Try.f5 rfl rfl rfl rfl rfl rfl rfl ⟨rfl, rfl, rfl, rfl, rfl⟩ rfl rfl rfl rfl rfl (by kernel_rfl) Try.func5 (by kernel_rfl)
    (of_decide_eq_true (by kernel_rfl)) (by unfold Func.isWrapper; first | (rw [if_pos (by decide +kernel)]; kernel_rfl) | (rw [if_neg (by decide +kernel)]; exact ⟨rfl, rfl⟩))
    (fun os started H enc _ => lifted os started H enc)
end Go.Proofs.Ytljaocdmeoheaaa.poolPlays
end
