/- The row of the law JourNil: for every input the law returns true, and its arguments read as they did. (Merged by program: LJourPages LJourNil ZJourNil.) -/
import Derived.Test.YthdkbladjfabfaaQ5
import Derived.Test.YthdkbladjfabfaaRows
import Derived.WalkKit
section
set_option linter.unusedVariables false
set_option linter.unusedSimpArgs false
set_option maxRecDepth 4000
namespace Go.Den
theorem turn_eqb (a b : Turn) : (((a.from_.toNat : Int) == (b.from_.toNat : Int)) && (((a.to.toNat : Int) == (b.to.toNat : Int)) && (((a.phase.toNat : Int) == (b.phase.toNat : Int)) && true))) = decide (a = b) := by
  rw [u8b, u8b, u8b]
  obtain ⟨a1, a2, a3⟩ := a
  obtain ⟨b1, b2, b3⟩ := b
  rw [Bool.eq_iff_iff]
  simp
theorem turn_same (a : Turn) : (((a.from_.toNat : Int) == (a.from_.toNat : Int)) && (((a.to.toNat : Int) == (a.to.toNat : Int)) && (((a.phase.toNat : Int) == (a.phase.toNat : Int)) && true))) = true := by
  rw [turn_eqb]; simp
theorem works22 {w w' : World} (h : Ext w w') : CallsR prog K.carracklaw22_works #[] w' fun v6 w12 => ∃ b2 : Bool, v6 = Value.bool b2 ∧ (Value.bool b2 = .bool true ∧ Ext w w12) := by
  refine (carracklaw22_works_spec _).mono ?_
  rintro _ w'' ⟨rfl, he⟩
  exact ⟨_, rfl, rfl, h.trans he⟩
theorem carracklaw22_JourPages_spec {w : World} (size : Int) (hsz : size < 9223372036854775808) (hsz0 : -9223372036854775808 ≤ size) (t : Turn) {a : Option Addr} {b : List UInt8} {c : Nat} (hb : BytesAt w a b) :
    CallsR prog K.carracklaw22_JourPages #[.int .i64 size, turnV t, .slice a b.length c] w fun v w' => v = .bool true ∧ Ext w w' := by
  apply carracklaw22_JourPages.sh
  unfold carracklaw22_JourPages.body
  intro B1 w1 hn1
  refine ⟨_, _, _, cells_all (vs := t.vals) hn1.get, ?_⟩
  refine (jour_Put_spec size t w1).mono ?_
  rintro _ w2 ⟨he2, a1, c1, rfl, hb2, hf2, hc2⟩
  refine ⟨_, _, _, _, rfl, _, _, _, cells_all (vs := t.vals) (he2.get hn1.get), ?_⟩
  refine (carrackref22_Put_spec size t w2 hsz hsz0).mono ?_
  rintro _ w3 ⟨he3, a2, c2, rfl, hb3, hf3, hc3⟩
  refine ⟨_, _, _, _, rfl, ?_⟩
  have e3 := (hn1.upd.trans he2).trans he3
  refine (jour_Get_spec (c := c) (RowAt.ext hb e3)).mono ?_
  rintro _ w4 ⟨he4, rfl⟩
  refine ⟨_, _, _, _, rfl, new_put rfl fun B2 w6 hB2 hs6 he6 hg6 => ?_⟩
  have e6 := (e3.trans he4).trans he6
  refine (carrackref22_Get_spec (c := c) (RowAt.ext hb e6)).mono ?_
  rintro _ w7 ⟨he7, rfl⟩
  refine ⟨_, _, _, _, rfl, new_put rfl fun B3 w9 hB3 hs9 he9 hg9 => ?_⟩
  have e9 := (e6.trans he7).trans he9
  have e29 : Ext w2 w9 := (((he3.trans he4).trans he6).trans he7).trans he9
  have hsmall : (putTurn size t).1.length ≤ 1000000000000 := by
    unfold putTurn
    split
    · simp
    · rename_i hc
      have hs : isSize size = true := by
        cases h : isSize size with
        | true => rfl
        | false => exact absurd (.inr h) hc
      simp [isSize] at hs
      have hb : t.body.length = 3 := rfl
      rw [pageOf_length _ _ _ (by rw [hb]; omega)]
      omega
  refine ⟨fun u => Ext w9 u, ?_, fun w11 he11 => ?_⟩
  · refine (carrackref00_Same_spec (c := c1) (d := c2) (RowAt.ext hb2 e29) (RowAt.ext hb3 (((he4.trans he6).trans he7).trans he9)) hsmall).mono ?_
    rintro _ w10 ⟨rfl, he10⟩
    refine ⟨_, rfl, ?_⟩
    simp only [beq_self_eq_true, Bool.not_true, br_false]
    refine br_ne (fun h => (h rfl).elim) fun _ => ?_
    refine ⟨_, _, _, cells_all (he10.get (he9.get (he7.get hg6))), _, _, _, cells_all (he10.get hg9), ?_⟩
    rw [turn_same]
    simp only [Bool.not_true, br_false]
    exact br_ne (fun h => (h rfl).elim) fun _ => he10
  · have e11 := e9.trans he11
    refine br_ne (fun hne => works22 e11) fun hz => ?_
    have hmay : t.may = true ∧ isSize size = true := by
      have hp : (putTurn size t).2 = 0 := by omega
      unfold putTurn at hp
      split at hp
      · cases hp
      · rename_i hc
        constructor
        · cases h : t.may with
          | true => rfl
          | false => exact absurd (.inl h) hc
        · cases h : isSize size with
          | true => rfl
          | false => exact absurd (.inr h) hc
    have hp1 : (putTurn size t).1 = pageOf size.toNat 7 t.body := by
      unfold putTurn
      rw [if_neg (by rw [hmay.1, hmay.2]; simp)]
    have hs := hmay.2
    have hs' := hs
    simp [isSize] at hs'
    have hgp : getPage (pageOf size.toNat 7 t.body) = (7, t.body, 0) := getPage_pageOf (by rw [Int.toNat_of_nonneg (by omega)]; exact hs) (by decide) (by decide) (by show 3 + 5 ≤ _; omega)
    rw [hp1] at hb2 hc2 ⊢
    refine (seal_Get_spec (c := c1) (RowAt.ext hb2 (e29.trans he11)) hc2).mono ?_
    rintro _ w13 ⟨he13, a3, c3, rfl, hb13, hc13⟩
    rw [hgp] at hb13 ⊢
    refine ⟨_, _, _, _, _, rfl, ?_⟩
    refine (jour_Get_spec (c := c3) hb13).mono ?_
    rintro _ w14 ⟨he14, rfl⟩
    rw [getTurn_body hmay.1]
    refine ⟨_, _, _, _, rfl, new_put rfl fun B4 w16 hB4 hs16 he16 hg16 => ?_⟩
    have e1116 : Ext w11 w16 := (he13.trans he14).trans he16
    refine br_eq (fun _ => br_eq (fun _ => ?_) fun h => (h rfl).elim) fun h => (h rfl).elim
    refine ⟨_, _, _, cells_all hg16, _, _, _, cells_all (vs := t.vals) (e1116.get (he11.get (e29.get (he2.get hn1.get)))), ?_⟩
    rw [turn_same]
    simp only [br_true]
    exact br_eq (fun _ => works22 (e11.trans e1116)) fun h => (h rfl).elim
end Go.Den
end
section
set_option linter.unusedVariables false
set_option linter.unusedSimpArgs false
set_option maxRecDepth 4000
namespace Go.Den
theorem carracklaw22_JourNil_spec {w : World} (era : Int) (t : Turn) (zero : Bool) :
    CallsR prog K.carracklaw22_JourNil #[.int .u32 era, turnV t, .bool zero] w fun v w' => v = .bool true ∧ Ext w w' := by
  apply carracklaw22_JourNil.sh
  unfold carracklaw22_JourNil.body
  intro B1 w1 hn1
  have tail : ∀ {p q : Option Addr} {u : World}, Ext w1 u → (p = none ∨ ∃ B, p = some ⟨B, 0, none⟩ ∧ u.heap[B]? = some (.cells zeroChip T.nand_Chip (0, 0))) → NoPool u q →
      CallsR prog K.jour_Says #[Value.pointer p, Value.int .u32 era] u fun v1 w4 =>
  ∃ b1 : Bool, ∃ b2 : Bool, ∃ x1 : Int, ∃ x2 : Int, ∃ x3 : Int, ∃ x4 : Int, v1 = Value.tuple #[Value.bool b1, Value.bool b2, Value.agg #[Value.int .u8 x1, Value.int .u8 x2, Value.int .u8 x3], Value.int .i64 x4] ∧
  ∀ (B4 : Nat) (w5 : World), New w4 (.cells #[Value.int .u8 0, Value.int .u8 0, Value.int .u8 0] T.api_Turn) B4 w5 →
  storeP w5 ⟨B4, 0, none⟩ [Value.int .u8 x1, Value.int .u8 x2, Value.int .u8 x3] fun w6 =>
  br (!b1) (
    br (!b2) (
      ∃ x5 : Int, ∃ x6 : Int, ∃ x7 : Int, cellsAt w6 ⟨B4, 0, none⟩ [Value.int .u8 x5, Value.int .u8 x6, Value.int .u8 x7] 0 ∧
      br ((x5 == 0) && ((x6 == 0) && ((x7 == 0) && true))) (
        br (x4 == 1) (
          ∃ x8 : Int, ∃ x9 : Int, ∃ x10 : Int, cellsAt w6 ⟨B1, 0, none⟩ [Value.int .u8 x8, Value.int .u8 x9, Value.int .u8 x10] 0 ∧
          CallsR prog K.jour_Write #[Value.pointer q, Value.int .u32 era, Value.agg #[Value.int .u8 x8, Value.int .u8 x9, Value.int .u8 x10]] w6 fun v2 w7 =>
          ∃ x11 : Int, v2 = Value.int .i64 x11 ∧
          br (x11 == 1) (
            CallsR prog K.jour_Away #[Value.pointer q] w7 fun v3 w8 =>
            ∃ x12 : Int, v3 = Value.int .i64 x12 ∧
            br (x12 == 1) (
              CallsR prog K.carracklaw22_works #[] w8 fun v4 w9 =>
              ∃ b3 : Bool, v4 = Value.bool b3 ∧ (Value.bool b3 = .bool true ∧ Ext w w9)) (Value.bool false = .bool true ∧ Ext w w8)) (Value.bool false = .bool true ∧ Ext w w7)) (Value.bool false = .bool true ∧ Ext w w6)) (Value.bool false = .bool true ∧ Ext w w6)) (Value.bool false = .bool true ∧ Ext w w6)) (Value.bool false = .bool true ∧ Ext w w6) := by
    intro p q u hu hp hq
    refine (zero_Says hp era).mono ?_
    rintro _ w4 ⟨rfl, he4⟩
    refine ⟨_, _, _, _, _, _, rfl, new_put rfl fun B4 w6 hB4 hs6 he6 hg6 => ?_⟩
    have e6 : Ext u w6 := he4.trans he6
    refine br_intro (fun _ => br_intro (fun _ => ?_) fun h => by cases h) fun h => by cases h
    refine ⟨_, _, _, cells_all hg6, br_intro (fun _ => br_eq (fun _ => ?_) fun h => (h rfl).elim) fun h => by cases h⟩
    refine ⟨_, _, _, cells_all (vs := t.vals) (e6.get (hu.get hn1.get)), ?_⟩
    refine (zero_Write (hq.ext e6) era _ _ _).mono ?_
    rintro _ w7 ⟨rfl, he7⟩
    refine ⟨_, rfl, br_eq (fun _ => ?_) fun h => (h rfl).elim⟩
    refine (zero_Away (hq.ext (e6.trans he7))).mono ?_
    rintro _ w8 ⟨rfl, he8⟩
    exact ⟨_, rfl, br_eq (fun _ => works22 ((((hn1.upd.trans hu).trans e6).trans he7).trans he8)) fun h => (h rfl).elim⟩
  refine br_intro (fun _ => ?_) fun _ => ?_
  · intro B2 w2 hn2 B3 w3 hn3
    exact tail (hn2.upd.trans hn3.upd) (.inr ⟨B2, rfl, Ext.get hn3.upd hn2.get⟩) (.inr ⟨B3, rfl, hn3.get⟩)
  · exact tail (Upd.refl _ _) (.inl rfl) (.inl rfl)
end Go.Den
end
section
namespace Go.Proofs.Ythdkbladjfabfaa.jourNil
open Go.ChangeShapes Go.WideShapes Go.ChangeAt Go.RowKit Go.Den
set_option linter.unusedVariables false
set_option linter.unusedSimpArgs false
theorem own : ownKnob Try.prog.godebug = none := by kernel_rfl
theorem laidOut : laidOutB Try.prog = true := by kernel_rfl
theorem rowed : ∀ t ∈ Try.f4.params.toList, Try.prog.readableRec t = true ∧ t < Try.prog.types.size := by
  rw [Try.params4]
  intro t ht
  simp at ht
  rcases ht with rfl | rfl | rfl <;> exact ⟨by kernel_rfl, of_decide_eq_true (by kernel_rfl)⟩
set_option maxRecDepth 100000 in
theorem lifted (os : Os) (started : os.Started) (H : Type) (enc : TypeId × Value → H) :
    ReturnsInHanded {} Try.checked os 4 .any (Rows.jourNilSpec.pre6 enc Try.prog Try.f4 Rows.jourNilRow.domain false) (Rows.jourNilSpec.post enc Try.prog Try.f4 false true false false) := by
  refine returnsInHanded_of_change_sized (C := Try.checked) own started (by kernel_rfl) Try.func4
    (ChangeSpec.witness6 (enc := enc) (C := Try.checked) false ⟨#[], #[.int .u32 0, .agg #[.int .u8 0, .int .u8 0, .int .u8 0], .bool false], []⟩ 8 (by kernel_rfl) (by kernel_rfl) (by kernel_rfl) (by kernel_rfl)) ?_
  intro W base args ds gs before hval0 hW hcnd hsz _
  have hval : ∀ (j : Nat) t v, Try.f4.params[j]? = some t → args[j]? = some v → Value.okWide Try.prog W .any base t v := hval0
  have hW' := hW
  obtain ⟨p, q, hA0, hV, hpq, hfz, hnd⟩ := hW
  have hA : DataW.TrodAll enc Try.prog W 0 (fun _ => true) true Try.f4.params.toList args.toList ds p := hA0
  rw [Try.params4] at hA hval hsz
  obtain ⟨v0, vs0, d0, ds0, p0, q0, hargs, rfl, hp0, h0, r0⟩ := trodAll_cons hA
  obtain ⟨v1, vs1, d1, ds1, p1, q1, rfl, rfl, hp1, h1, r1⟩ := trodAll_cons r0
  obtain ⟨v2, vs2, d2, ds2, p2, q2, rfl, rfl, hp2, h2, r2⟩ := trodAll_cons r1
  obtain ⟨rfl, rfl, _⟩ := trodAll_nil r2
  obtain rfl : args = #[v0, v1, v2] := by cases args; simp_all
  obtain ⟨rfl, _⟩ := trodVars_none hV
  obtain ⟨a0, rfl, _, _, w0⟩ := open_int Try.underlying35 (hval 0 35 v0 rfl rfl) h0
  have b0 : 0 ≤ a0 ∧ a0 ≤ 4294967295 := by simpa [Lit.wf, IntKind.min, IntKind.max, IntKind.signed, IntKind.bits] using w0
  obtain ⟨n0, rfl⟩ : ∃ n : Nat, a0 = n := ⟨a0.toNat, by omega⟩
  obtain ⟨tx1, ty1, tz1, rfl, wx1, wy1, wz1⟩ := open_agg3 Try.underlying23 (by kernel_rfl) rfl rfl rfl rfl rfl rfl (by kernel_rfl) (by kernel_rfl) (by kernel_rfl) Try.underlying5 Try.underlying5 Try.underlying5 (hval 1 23 v1 rfl rfl) h1
  have hx1 := byte_bv wx1
  have hy1 := byte_bv wy1
  have hz1 := byte_bv wz1
  obtain ⟨a2, rfl, _, _⟩ := open_bool Try.underlying4 (hval 2 4 v2 rfl rfl) h2
  rw [hx1, hy1, hz1] at hW' ⊢
  refine Calls.mono (carracklaw22_JourNil_spec n0 ⟨UInt8.ofNat tx1.toNat, UInt8.ofNat ty1.toNat, UInt8.ofNat tz1.toNat⟩ a2) fun e W' he => ?_
  obtain ⟨v, he, rfl, hx⟩ := he
  exact ⟨_, he, post_true laidOut hW' rfl rowed (Ext.below hx) Try.underlying4 (by kernel_rfl) rfl⟩
theorem proved : Rows.JourNilSaid :=
  OpenClaim.holds_of_wide 4 Try.f4 rfl rfl rfl rfl rfl rfl rfl ⟨rfl, rfl, rfl, rfl, rfl⟩ rfl rfl rfl rfl rfl (by kernel_rfl) Try.func4 (by kernel_rfl)
    (of_decide_eq_true (by kernel_rfl)) (by unfold Func.isWrapper; first | (rw [if_pos (by decide +kernel)]; kernel_rfl) | (rw [if_neg (by decide +kernel)]; exact ⟨rfl, rfl⟩))
    (fun os started H enc _ => lifted os started H enc)
end Go.Proofs.Ythdkbladjfabfaa.jourNil
end
