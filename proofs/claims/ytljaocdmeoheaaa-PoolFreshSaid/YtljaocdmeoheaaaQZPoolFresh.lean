/- The row of layer 4's law PoolFresh: for every input the law returns true, and its arguments read as they did. (Merged by program: LPoolFresh Open4 ZPoolFresh.) -/
import Derived.Test.YtljaocdmeoheaaaQ5
import Derived.Test.YtljaocdmeoheaaaRows
import Derived.WalkKit
section
set_option linter.unusedVariables false
set_option linter.unusedSimpArgs false
namespace Go.Den

theorem cBytes {A S : Nat} {w : World} {p : Nat} {c : Chip} (h : CAt A S w p c) :
    CallsR prog K.nand_Chip_Bytes #[.pointer (some ⟨p, 0, none⟩)] w fun v w' => Ext w w' ∧ ∃ a' c', v = .slice a' c.blocks.flatten.length c' ∧ BytesAt w' a' c.blocks.flatten ∧ Fresh w a' := by
  obtain ⟨L, G, hr, _⟩ := h
  refine (nand_Bytes_spec hr).mono ?_
  rintro _ w' ⟨he, a, cp, rfl, ho, hf⟩
  exact ⟨he, a, cp, rfl, ho.row, hf⟩

theorem carracklaw04_PoolFresh_spec {w : World} (pages : UInt8) {aa : Option Addr} {acts : List Act} {ac : Nat} (ar : RowAt w aa (acts.flatMap Act.vals)) (hera : ∀ a ∈ acts, a.era < 4294967296) :
    CallsR prog K.carracklaw04_PoolFresh #[bv pages, .slice aa acts.length ac] w fun v w' => v = .bool true ∧ Ext w w' := by
  apply carracklaw04_PoolFresh.sh
  unfold carracklaw04_PoolFresh.body
  refine (carracklaw04_played_spec (Gin := NoB) (ha := none) (hvs := []) (hs := []) (hc := 0) pages (RowAt.nil _ _) rfl (fun x hx => hx.elim) (fun h => (h rfl).elim) (fun t ht => by simp at ht) ar hera).mono ?_
  rintro _ w₁ ⟨he1, S, M, P, c, rfl, hS, hp, hi, hnb, hsz, hl, hq⟩
  obtain ⟨hh0, hd0⟩ := hq rfl
  have hs1 := he1.size
  refine ⟨_, _, _, rfl, ?_⟩
  refine (cBytes hp.chip).mono ?_
  rintro _ w₂ ⟨he2, a1, c1, rfl, hb1, hf1⟩
  refine ⟨_, _, _, rfl, ?_⟩
  have hp2 := hp.ext he2
  refine (pTaken hp2 (by omega) rfl).mono ?_
  rintro _ w₃ ⟨he3, a2, c2, rfl, ho3, hf2⟩
  have hll : (takenPool P c).length ≤ 8 := by
    unfold takenPool
    rw [isort_length, ← hnb]
    exact takenRaw_length P c c.nb
  generalize takenPool P c = l at *
  refine ⟨_, _, _, rfl, fun x u => ∃ i : Nat, x = i ∧ i ≤ l.length ∧ Ext w₂ u ∧ ∃ cells, OwnAt u a2 l.length c2 T.api_Taken 5 cells, fun x _ => (l.length - x).toNat, ⟨0, rfl, by omega, he3, _, ho3⟩, ?_⟩
  rintro x u ⟨i, rfl, hil, hu, cells, ho⟩
  refine br_dec (fun hlt => ?_) fun hge => ?_
  · have hi' : i < l.length := by omega
    obtain ⟨b, rfl⟩ : ∃ b, a2 = some ⟨b, 0, none⟩ := by
      obtain ⟨_, _, hx⟩ := ho
      rcases hx with ⟨_, hx, _⟩ | ⟨b, cur, hx, _⟩
      · omega
      · exact ⟨b, hx⟩
    have hcl := ho.1
    have hfb := hf2 _ rfl
    refine ⟨by omega, by omega, ?_⟩
    simp only [nilC_some', add_lit, Int.toNat_natCast, Nat.zero_add]
    refine own_store ho (by simp; omega) fun w' hu' ho' => ?_
    have hfb' : w₂.heap.size ≤ b := hfb
    have e1 : IntKind.i64.wrap ((i : Int) + 1) = ((i + 1 : Nat) : Int) := w64 (by omega) (by omega)
    rw [e1]
    exact ⟨⟨i + 1, rfl, hi', Upd.beyond hu hu' (fun x hx => by omega), _, ho'⟩, meas hi'⟩
  · have hpu := hp2.ext hu
    have hsu := hu.size
    have hs2 := he2.size
    refine (cScan hpu.chip (by omega) (by omega)).mono ?_
    rintro _ w₆ ⟨he6, hv⟩
    rw [if_neg (by rw [hd0]; simp)] at hv
    obtain ⟨M', hM', rfl, hp6⟩ := hv
    refine ⟨_, _, rfl, ?_⟩
    simp only [br_true]
    refine br_eq (fun _ => ?_) fun h => (h rfl).elim
    refine (carracklaw04_same_spec (hpu.ext he6) hi hd0 (by omega)).mono ?_
    rintro _ w₇ ⟨rfl, he7⟩
    refine ⟨_, rfl, ?_⟩
    simp only [br_true]
    obtain ⟨hsi, _⟩ := scan_inv hi.ci hd0
    rw [← hM']
    refine (carracklaw04_same_spec (hp6.ext he7) hsi hd0 (by omega)).mono ?_
    rintro _ w₈ ⟨rfl, he8⟩
    refine ⟨_, rfl, ?_⟩
    simp only [br_true]
    refine (cBytes ((hp6.ext he7).ext he8).chip).mono ?_
    rintro _ w₉ ⟨he9, a3, c3, rfl, hb3, hf3⟩
    refine ⟨_, _, _, rfl, ?_⟩
    have hb1' : BytesAt w₉ a1 c.blocks.flatten := RowAt.ext hb1 ((((hu.trans he6).trans he7).trans he8).trans he9)
    refine (carrackref00_Same_spec (c := c3) (d := c1) hb3 hb1' (by have := hi.ci.ok.bytes_le; omega)).mono ?_
    rintro _ w₁₀ ⟨rfl, he10⟩
    refine ⟨_, rfl, ?_⟩
    simp only [beq_self_eq_true, br_true]
    refine (carracklaw04_works_spec _).mono ?_
    rintro _ w₁₁ ⟨rfl, he11⟩
    exact ⟨_, rfl, rfl, ((((((((he1.trans he2).trans hu).trans he6).trans he7).trans he8).trans he9).trans he10).trans he11)⟩

end Go.Den
end

section
set_option linter.unusedVariables false
set_option linter.unusedSimpArgs false
namespace Go.Den
open Go.ChangeShapes Go.WideShapes Go.ChangeAt Go.RowKit

theorem byte_bv {n : Int} (h : (Lit.int .u8 n).wf = true) : Value.int .u8 n = bv (UInt8.ofNat n.toNat) := by
  have hb : 0 ≤ n ∧ n ≤ 255 := by simpa [Lit.wf, IntKind.min, IntKind.max, IntKind.signed, IntKind.bits] using h
  simp
  omega
theorem list6 {cs : List Value} {a b c d e f : Value} (hl : cs.length = 6) (h0 : cs[0]? = some a) (h1 : cs[1]? = some b) (h2 : cs[2]? = some c) (h3 : cs[3]? = some d) (h4 : cs[4]? = some e) (h5 : cs[5]? = some f) : cs = [a, b, c, d, e, f] := by
  match cs, hl with
  | [x0, x1, x2, x3, x4, x5], _ => simp_all

section
variable {H : Type} {enc : TypeId × Value → H} {P : Program}
/-- a slice of acts -/
theorem open_acts {w : World} {base : Nat} {spare : Nat → Bool} {held : Bool} {t e : TypeId} {fuel : Nat} {cs : List Value} {x : DataW H × List MemPlace} (ht : P.underlying t = some (.slice e)) (he : numsB P e [.i64, .u8, .u32, .i64, .i64, .u8] = true) (h : DataW.trod enc P w base spare held fuel t cs = some x) :
    ∃ (a : Option Addr) (l : List Act) (cap : Nat), cs = [.slice a l.length cap] ∧ RowAt w a (l.flatMap Act.vals) ∧ ∀ y ∈ l, y.era < 4294967296 := by
  obtain ⟨a, len, cap, rows, ds, rfl, hlc, hrl, hdl, hrk, hrow, hn, hel, _⟩ := open_rows ht h
  obtain ⟨l, rfl, hq⟩ := list_choice (f := Act.vals) (Q := fun y => y.era < 4294967296) rows (fun r hr => by
    obtain ⟨i, hi, rfl⟩ := List.getElem_of_mem hr
    obtain ⟨n, d, ps, _, ht'⟩ := hel i _ (List.getElem?_eq_getElem hi)
    obtain ⟨hl, hg⟩ := open_nums he ht'
    obtain ⟨v0, g0, w0⟩ := hg 0 .i64 rfl
    obtain ⟨v1, g1, w1⟩ := hg 1 .u8 rfl
    obtain ⟨v2, g2, w2⟩ := hg 2 .u32 rfl
    obtain ⟨v3, g3, w3⟩ := hg 3 .i64 rfl
    obtain ⟨v4, g4, w4⟩ := hg 4 .i64 rfl
    obtain ⟨v5, g5, w5⟩ := hg 5 .u8 rfl
    have b2 : 0 ≤ v2 ∧ v2 ≤ 4294967295 := by simpa [Lit.wf, IntKind.min, IntKind.max, IntKind.signed, IntKind.bits] using w2
    refine ⟨⟨v0, UInt8.ofNat v1.toNat, v2.toNat, v3, v4, UInt8.ofNat v5.toNat⟩, ?_, by show v2.toNat < _; omega⟩
    rw [list6 hl g0 g1 g2 g3 g4 g5, byte_bv w1, byte_bv w5]
    simp only [Act.vals]
    rw [Int.toNat_of_nonneg b2.1])
  simp at hrl
  subst hrl
  refine ⟨a, l, cap, rfl, ?_, hq⟩
  rw [← List.flatMap_def] at hrow
  exact hrow
end

end Go.Den
end

section
namespace Go.Proofs.Ytljaocdmeoheaaa.poolFresh
open Go.ChangeShapes Go.WideShapes Go.ChangeAt Go.RowKit Go.Den
set_option linter.unusedVariables false

theorem own : ownKnob Try.prog.godebug = none := by kernel_rfl
theorem laidOut : laidOutB Try.prog = true := by kernel_rfl
theorem rowed : ∀ t ∈ Try.f9.params.toList, Try.prog.readableRec t = true ∧ t < Try.prog.types.size := by
  rw [Try.params9]
  intro t ht
  simp at ht
  rcases ht with rfl | rfl <;> exact ⟨by kernel_rfl, of_decide_eq_true (by kernel_rfl)⟩

set_option maxRecDepth 100000 in
theorem lifted (os : Os) (started : os.Started) (H : Type) (enc : TypeId × Value → H) :
    ReturnsInHanded {} Try.checked os 9 .any (Rows.poolFreshSpec.pre6 enc Try.prog Try.f9 Rows.poolFreshRow.domain false) (Rows.poolFreshSpec.post enc Try.prog Try.f9 false true false false) := by
  refine returnsInHanded_of_change (C := Try.checked) own started (by kernel_rfl) Try.func9
    (ChangeSpec.witness6 (enc := enc) (C := Try.checked) false ⟨#[], #[.int .u8 0, .slice none 0 0], []⟩ 8 (by kernel_rfl) (by kernel_rfl) (by kernel_rfl) (by kernel_rfl)) ?_
  intro W base args ds gs before hval0 hW hcnd _
  have hval : ∀ (j : Nat) t v, Try.f9.params[j]? = some t → args[j]? = some v → Value.okWide Try.prog W .any base t v := hval0
  have hW' := hW
  obtain ⟨p, q, hA0, hV, hpq, hfz, hnd⟩ := hW
  have hA : DataW.TrodAll enc Try.prog W 0 (fun _ => true) true Try.f9.params.toList args.toList ds p := hA0
  rw [Try.params9] at hA hval
  obtain ⟨v0, vs0, d0, ds0, p0, q0, hargs, rfl, hp0, h0, r0⟩ := trodAll_cons hA
  obtain ⟨v1, vs1, d1, ds1, p1, q1, rfl, rfl, hp1, h1, r1⟩ := trodAll_cons r0
  obtain ⟨rfl, rfl, _⟩ := trodAll_nil r1
  obtain rfl : args = #[v0, v1] := by cases args; simp_all
  obtain ⟨rfl, _⟩ := trodVars_none hV
  obtain ⟨a0, rfl, _, _, w0⟩ := open_int Try.underlying5 (hval 0 5 v0 rfl rfl) h0
  obtain ⟨a, len, cap, rfl⟩ := okWide_slice Try.underlying58 (hval 1 58 v1 rfl rfl)
  obtain ⟨fuel, hf⟩ := h1
  obtain ⟨a', l, cap', hcs, hrow, hera⟩ := open_acts Try.underlying58 (by kernel_rfl) hf
  simp [Value.cells] at hcs
  obtain ⟨rfl, rfl, rfl⟩ := hcs
  have hb := byte_bv w0
  rw [hb] at hW' ⊢
  refine Calls.mono (carracklaw04_PoolFresh_spec (UInt8.ofNat a0.toNat) hrow hera) fun e W' he => ?_
  obtain ⟨v, he, rfl, hx⟩ := he
  exact ⟨_, he, post_true laidOut hW' rfl rowed (Ext.below hx) Try.underlying4 (by kernel_rfl) rfl⟩

theorem proved : Rows.PoolFreshSaid :=
  OpenClaim.holds_of_wide 9 Try.f9 rfl rfl rfl rfl rfl rfl rfl ⟨rfl, rfl, rfl, rfl, rfl⟩ rfl rfl rfl rfl rfl (by kernel_rfl) Try.func9 (by kernel_rfl)
    (of_decide_eq_true (by kernel_rfl)) (by unfold Func.isWrapper; first | (rw [if_pos (by decide +kernel)]; kernel_rfl) | (rw [if_neg (by decide +kernel)]; exact ⟨rfl, rfl⟩))
    (fun os started H enc _ => lifted os started H enc)
end Go.Proofs.Ytljaocdmeoheaaa.poolFresh
end
