/- The row of the law LogNil: for every input the law returns true, and its arguments read as they did. (Merged by program: LLogNil ZLogNil.) -/
import Derived.Test.YtnjiiijdgijahaaGreatQ7
import Derived.Test.YtnjiiijdgijahaaGreatRows
import Derived.WalkKit
section
set_option linter.unusedVariables false
set_option linter.unusedSimpArgs false
set_option maxRecDepth 8000
namespace Go.Den
theorem LogS.put_dead {s : LogS} (h : s.chip.dead = true) (cs : List Change) : s.put cs = (s, 10) := by
  have ha : s.chip.ask 0 0 = 10 := by unfold Chip.ask; rw [if_pos h]
  rw [LogS.put_eq, if_pos (by rw [ha]; decide), ha]
theorem LogS.tidy_dead {s : LogS} (h : s.chip.dead = true) (n : Int) : s.tidy n = (s, 10) := by
  have ha : s.chip.ask 0 0 = 10 := by unfold Chip.ask; rw [if_pos h]
  unfold LogS.tidy
  rw [if_pos (by rw [ha]; decide), ha]
theorem makeL_dead {c : Chip} (h : c.dead = true) (era : Nat) : makeL c era = (.new c era, 10) := by unfold makeL; rw [if_pos h]
theorem openL_dead {c : Chip} (h : c.dead = true) (era : Nat) : openL c era = (.new c era, 10) := by unfold openL; rw [if_pos h]
/-- the law's end: a room whose chip dies -/
theorem nil14_tail {w u : World} (hu : Ext w u) : CallsR prog K.carracklaw14_begun #[bv 0] u fun v10 w14 => ∃ p6 : Option Addr, ∃ b1 : Bool, v10 = .tuple #[.pointer p6, .bool b1] ∧
  br (!b1) ((fun v w' => v = Value.bool true ∧ Ext w w') (.bool false) w14) (nilC p6 fun q1 => ∃ p7 : Option Addr, w14.cell? q1 = some (.pointer p7) ∧
   ∀ (B3 : Nat) (w15 : World), New w14 (.cells #[.int .i64 0, .bool false, .slice none 0 0] T.api_Hit) B3 w15 →
   CallsR prog K.nand_Chip_Hits #[.pointer p7, .slice (some ⟨B3, 0, none⟩) 1 1] w15 fun v11 w16 => ∃ x7 : Int, v11 = .int .i64 x7 ∧
   ∀ w17 : World, Drew w16 w17 → ∃ S1 : World → Prop, S1 w17 ∧ nilC p6 fun q2 => ∃ p8 : Option Addr, (
    ∀ u1, S1 u1 → u1.cell? (Addr.add q2 1) = some (.pointer p8)) ∧
   CallsR prog K.carracklaw14_five #[] w17 fun v12 w18 => ∃ (a3 : Option Addr) (l3 c3 : Nat), v12 = .slice a3 l3 c3 ∧ S1 w18 ∧
   CallsR prog K.log_Log_Put #[.pointer p8, .slice a3 l3 c3] w18 fun v13 w19 => ∃ x8 : Int, v13 = .int .i64 x8 ∧
   ∀ w20 : World, Drew w19 w20 → ∃ S2 : World → Prop, S2 w20 ∧ nilC p6 fun q3 => ∃ p9 : Option Addr, (
    ∀ u2, S2 u2 → u2.cell? (Addr.add q3 1) = some (.pointer p9)) ∧ nilC p6 fun q4 => ∃ p10 : Option Addr, (
    ∀ u3, S2 u3 → u3.cell? (Addr.add q4 1) = some (.pointer p10)) ∧ nilC p6 fun q5 => ∃ p11 : Option Addr, (
    ∀ u4, S2 u4 → u4.cell? (Addr.add q5 1) = some (.pointer p11)) ∧
   CallsR prog K.carracklaw14_five #[] w20 fun v14 w21 => ∃ (a4 : Option Addr) (l4 c4 : Nat), v14 = .slice a4 l4 c4 ∧ S2 w21 ∧
   CallsR prog K.log_Log_Put #[.pointer p9, .slice a4 l4 c4] w21 fun v15 w22 => ∃ x9 : Int, v15 = .int .i64 x9 ∧ S2 w22 ∧
   CallsR prog K.log_Log_Sync #[.pointer p10] w22 fun v16 w23 => ∃ x10 : Int, v16 = .int .i64 x10 ∧ S2 w23 ∧
   CallsR prog K.log_Log_Tidy #[.pointer p11, .int .i64 16] w23 fun v17 w24 => ∃ x11 : Int, v17 = .int .i64 x11 ∧ S2 w24 ∧ nilC p6 fun q6 => ∃ p12 : Option Addr, w24.cell? q6 = some (.pointer p12) ∧
   CallsR prog K.log_Make #[.pointer p12, .int .u32 9] w24 fun v18 w25 => ∃ p13 : Option Addr, ∃ x12 : Int, v18 = .tuple #[.pointer p13, .int .i64 x12] ∧ nilC p6 fun q7 => ∃ p14 : Option Addr, w25.cell? q7 = some (.pointer p14) ∧
   CallsR prog K.log_Open #[.pointer p14, .int .u32 3] w25 fun v19 w26 => ∃ p15 : Option Addr, ∃ x13 : Int, v19 = .tuple #[.pointer p15, .int .i64 x13] ∧
   br (x8 == 10) (
    br (x9 == 10) (
     br (x10 == 10) (
      br (x11 == 10) (
       br (x12 == 10) (
        br (x13 == 10) (
         CallsR prog K.carracklaw14_works #[] w26 fun v20 w27 => ∃ b2 : Bool, v20 = .bool b2 ∧ (fun v w' => v = Value.bool true ∧ Ext w w') (.bool b2) w27) ((fun v w' => v = Value.bool true ∧ Ext w w') (.bool false) w26)) ((fun v w' => v = Value.bool true ∧ Ext w w') (.bool false) w26)) ((fun v w' => v = Value.bool true ∧ Ext w w') (.bool false) w26)) ((fun v w' => v = Value.bool true ∧ Ext w w') (.bool false) w26)) ((fun v w' => v = Value.bool true ∧ Ext w w') (.bool false) w26)) ((fun v w' => v = Value.bool true ∧ Ext w w') (.bool false) w26)) := by
  have hM := nil14_true
  simp only [nil14, Bool.and_eq_true, decide_eq_true_eq] at hM
  obtain ⟨⟨_, m1⟩, m2⟩ := hM
  obtain ⟨_, hf0, _, _, fit0⟩ := room14_fit (sp := 0) (by decide)
  have hsz := hu.size
  refine (carracklaw14_begun_spec 0 u).mono ?_
  rintro _ w14 ⟨he14, B, p, q, F, X, M, rfl, g14, rfl, h14, hF, hX, hq1, hq2, hq3⟩
  have e14 := hu.trans he14
  have hs14 := he14.size
  refine ⟨_, _, rfl, ?_⟩
  simp only [Bool.not_true, br_false, nilC_some', add_lit, Nat.zero_add]
  refine ⟨_, cell_of g14 rfl, fun B3 w15 hn15 => ?_⟩
  have hB3 := hn15.num
  have hs15 := hn15.size
  have hB14 : B < w14.heap.size := (Array.getElem?_eq_some_iff.1 g14).1
  have hrow : RowAt w15 (some ⟨B3, 0, none⟩) [.int .i64 0, .bool false, .slice none 0 0] := RowAt.of hn15.get fun j v hj => by simpa using hj
  have hlt14 := h14.lt
  refine (log_hits (Gin := NoB) (hs := [⟨0, false, []⟩]) (cp := 1) (h14.ext hn15.upd) (fun x hx => by have := hF x hx; omega) hrow ⟨none, 0, [], rfl, BytesAt.nil _ _, fun h => absurd rfl h, rfl⟩ (fun x hx => hx.elim) (fun _ p hp hx => by cases hp; have := hF _ hx; have h3 : B3 < w14.heap.size := this.2.1; omega) (by decide) (fun t ht => by simp at ht; rw [ht]; exact Nat.zero_le _)).mono ?_
  rintro _ w16 ⟨rfl, hu16, h16⟩
  have hd : ({ (room14 ((0 : UInt8).toNat % 2)).1 with chip := ((room14 ((0 : UInt8).toNat % 2)).1.chip.setHits [⟨0, false, []⟩]).1 } : LogS) = d14 := rfl
  rw [hd] at h16
  have hs16 := hu16.size
  have g16 := hu16.get (Ext.get hn15.upd g14) (fun hx => (hF B hx).2.2 rfl)
  have e16 : Ext w w16 := (e14.trans hn15.upd).beyond hu16 fun x hx => by have := hF x hx; omega
  have fd : d14.Fit := ⟨fit0.nb, fit0.np, fit0.sp, fit0.page, fit0.last⟩
  have hgd : GoodF 0 d14.facts := by
    have : d14.facts = [] := hf0
    rw [this]; exact GoodF.nil
  generalize d14 = s at *
  obtain ⟨X16, hXe⟩ : ∃ Y : Nat → Prop, Y = fun x => X x ∨ Fr w15 w16 x := ⟨_, rfl⟩
  rw [← hXe] at h16
  have hX16 : ∀ x, X16 x → u.heap.size ≤ x ∧ x < w16.heap.size ∧ x ≠ B := fun x hx => by
    rw [hXe] at hx
    rcases hx with hx | hx
    · have := hX x hx; omega
    · have h1 := hx.1; have h2 := hx.2; omega
  refine ⟨_, rfl, fun w17 hd17 => ⟨fun v => v.heap[B]? = some (.cells #[.pointer (some ⟨M.p, 0, none⟩), .pointer (some ⟨q, 0, none⟩), .slice none 0 0] T.carracklaw14_room (0, 0)), Ext.get hd17.upd g16, some ⟨q, 0, none⟩, fun v hv => cell_of hv rfl, (carracklaw14_five_spec w17).mono ?_⟩⟩
  rintro _ w18 ⟨a18, rfl, he18, hf18⟩
  have e1618 := hd17.upd.trans he18
  have hs18 := e1618.size
  refine ⟨_, _, _, rfl, Ext.get he18 (Ext.get hd17.upd g16), ?_⟩
  refine (log_Put_spec (h16.ext e1618) (fun x hx => by have := hF x hx; omega) (fun x hx => by have := hX16 x hx; omega) fd hgd (by omega) hf18 five_small (by decide)).mono ?_
  have hfp := (LogS.put_fit fd [five]).1
  have hgp := LogS.put_good fd hgd [five]
  have hdead := m2
  rw [m1]
  generalize (s.put [five]).1 = t at *
  rintro _ w19 ⟨rfl, hu19, X19, _, hX19, h19⟩
  have hs19 := hu19.size
  have hF19 : ∀ x, LogF F q x → u.heap.size ≤ x ∧ x ≠ B := fun x hx => by
    rcases hx with hx | hx
    · have := hF x hx; omega
    · omega
  have e19 : Ext w w19 := (e16.trans e1618).beyond hu19 fun x hx => by have := hF19 x hx; omega
  have g19 := hu19.get (Ext.get e1618 g16) (fun hx => (hF19 B hx).2 rfl)
  have hX19' : ∀ x, X19 x → x < w19.heap.size := fun x hx => by
    rcases hX19 x hx with hx | hx
    · have := hX16 x hx; omega
    · omega
  refine ⟨_, rfl, fun w20 hd20 => ⟨fun v => v.heap[B]? = some (.cells #[.pointer (some ⟨M.p, 0, none⟩), .pointer (some ⟨q, 0, none⟩), .slice none 0 0] T.carracklaw14_room (0, 0)), Ext.get hd20.upd g19, some ⟨q, 0, none⟩, fun v hv => cell_of hv rfl, some ⟨q, 0, none⟩, fun v hv => cell_of hv rfl, some ⟨q, 0, none⟩, fun v hv => cell_of hv rfl, (carracklaw14_five_spec w20).mono ?_⟩⟩
  rintro _ w21 ⟨a21, rfl, he21, hf21⟩
  have e21 := hd20.upd.trans he21
  have hs21 := e21.size
  have g21 := Ext.get e21 g19
  have hFs : ∀ x, F x → x < w16.heap.size := fun x hx => by have := hF x hx; omega
  refine ⟨_, _, _, rfl, g21, (log_Put_spec (h19.ext e21) (fun x hx => by have := hFs x hx; omega) (fun x hx => by have := hX19' x hx; omega) hfp hgp (by omega) hf21 five_small (by decide)).mono ?_⟩
  rw [LogS.put_dead hdead]
  rintro _ w22 ⟨rfl, hu22, X22, _, hX22, h22⟩
  have hs22 := hu22.size
  have g22 := hu22.get g21 (fun hx => (hF19 B hx).2 rfl)
  have e22 : Ext w w22 := (e19.trans e21).beyond hu22 fun x hx => by have := hF19 x hx; omega
  have ha : t.chip.ask 0 0 = 10 := by unfold Chip.ask; rw [if_pos hdead]
  refine ⟨_, rfl, g22, (log_Sync_spec h22).mono ?_⟩
  rw [ha]
  rintro _ w23 ⟨rfl, he23⟩
  have hs23 := he23.size
  have g23 := Ext.get he23 g22
  have hX22' : ∀ x, X22 x → x < w23.heap.size := fun x hx => by
    rcases hX22 x hx with hx | hx
    · have := hX19' x hx; omega
    · omega
  refine ⟨_, rfl, g23, (log_Tidy_spec (h22.ext he23) (fun x hx => by have := hFs x hx; omega) hX22' hfp hgp (by omega) 16).mono ?_⟩
  rw [LogS.tidy_dead hdead]
  rintro _ w24 ⟨rfl, hu24, h24⟩
  have hs24 := hu24.size
  have g24 := hu24.get g23 (fun hx => (hF19 B hx).2 rfl)
  have e24 : Ext w w24 := (e22.trans he23).beyond hu24 fun x hx => by have := hF19 x hx; omega
  refine ⟨_, rfl, g24, _, cell_of g24 rfl, (log_Make_spec h24.pool.chip (fun x hx => by have := hFs x hx; omega) (fun x hx => by have := hX22' x hx; omega) hfp.nb hfp.np hfp.sp (era := 9) (by decide)).mono ?_⟩
  rw [makeL_dead hdead]
  rintro _ w25 ⟨hu25, hv25, _⟩
  obtain ⟨rfl, hc25⟩ := hv25 (show (10 : Nat) ≠ 0 by decide)
  have hs25 := hu25.size
  have g25 := hu25.get g24 (fun hx => (hF B hx).2.2 rfl)
  have e25 : Ext w w25 := e24.beyond hu25 fun x hx => by have := hF x hx; omega
  refine ⟨_, _, rfl, _, cell_of g25 rfl, (log_Open_spec hc25 (fun x hx => ?_) (fun x hx => by have := hX22' x hx; omega) hfp.nb (era := 3) (by decide)).mono ?_⟩
  · rcases hx with hx | hx
    · have := hFs x hx; omega
    · exact hx.2
  have hc : (LogS.new t.chip 9).chip = t.chip := rfl
  rw [hc, openL_dead hdead]
  rintro _ w26 ⟨he26, hv26, _⟩
  obtain ⟨rfl, _⟩ := hv26 (show (10 : Nat) ≠ 0 by decide)
  have e26 := e25.trans he26
  refine ⟨_, _, rfl, br_eq (fun _ => br_eq (fun _ => br_eq (fun _ => br_eq (fun _ => br_eq (fun _ => br_eq (fun _ => ?_) fun h => absurd rfl h) fun h => absurd rfl h) fun h => absurd rfl h) fun h => absurd rfl h) fun h => absurd rfl h) fun h => absurd rfl h⟩
  refine (carracklaw14_works_spec w26).mono ?_
  rintro _ w27 ⟨rfl, he27⟩
  exact ⟨_, rfl, rfl, e26.trans he27⟩
theorem carracklaw14_LogNil_spec {w : World} (era : Nat) (blanks : Int) (zero : Bool) :
    CallsR prog K.carracklaw14_LogNil #[.int .u32 era, .int .i64 blanks, .bool zero] w fun v w' => v = .bool true ∧ Ext w w' := by
  apply carracklaw14_LogNil.sh
  unfold carracklaw14_LogNil.body
  refine ⟨fun p1 p2 u => ZeroChip u p1 ∧ NilLog u p2 ∧ Ext w u, ?_, ?_⟩
  · refine br_intro (fun _ => ?_) fun _ => ⟨.inl rfl, .inl rfl, Upd.refl _ _⟩
    intro B1 w1 hn1 B2 w2 hn2
    exact ⟨.inr ⟨B1, rfl, Ext.get hn2.upd hn1.get⟩, .inr ⟨B2, rfl, hn2.get⟩, hn1.upd.trans hn2.upd⟩
  rintro p1 p2 w3 ⟨hc, hl, e3⟩
  refine (nil_log_Make hc era).mono ?_
  rintro _ w4 ⟨rfl, he4⟩
  refine ⟨_, _, rfl, (nil_log_Open (hc.ext he4) era).mono ?_⟩
  rintro _ w5 ⟨rfl, he5⟩
  have e5 := (e3.trans he4).trans he5
  have hl5 := (hl.ext he4).ext he5
  refine ⟨_, _, rfl, fun u => Ext w u, ?_, fun w13 h13 => nil14_tail h13⟩
  refine br_ne (fun h => absurd rfl h) fun _ => br_ne (fun h => absurd rfl h) fun _ => (carracklaw14_five_spec w5).mono ?_
  rintro _ w6 ⟨a6, rfl, he6, _⟩
  have e6 := e5.trans he6
  have hl6 := hl5.ext he6
  refine ⟨_, _, _, rfl, (nil_log_Put hl6 _ _ _).mono ?_⟩
  rintro _ u ⟨rfl, hu⟩
  obtain rfl : w6 = u := hu.symm
  refine ⟨_, rfl, br_ne (fun h => absurd rfl h) fun _ => (nil_log_Sync hl6).mono ?_⟩
  rintro _ u ⟨rfl, hu⟩
  obtain rfl : w6 = u := hu.symm
  refine ⟨_, rfl, br_ne (fun h => absurd rfl h) fun _ => (nil_log_Tidy hl6 blanks).mono ?_⟩
  rintro _ u ⟨rfl, hu⟩
  obtain rfl : w6 = u := hu.symm
  refine ⟨_, rfl, br_ne (fun h => absurd rfl h) fun _ => (nil_log_Facts hl6).mono ?_⟩
  rintro _ u ⟨rfl, hu⟩
  obtain rfl : w6 = u := hu.symm
  refine ⟨_, _, _, rfl, br_ne (fun h => absurd rfl h) fun _ => (nil_log_Blanks hl6).mono ?_⟩
  rintro _ u ⟨rfl, hu⟩
  obtain rfl : w6 = u := hu.symm
  refine ⟨_, rfl, br_ne (fun h => absurd rfl h) fun _ => (nil_log_Chip hl6).mono ?_⟩
  rintro _ u ⟨rfl, hu⟩
  obtain rfl : w6 = u := hu.symm
  exact ⟨_, rfl, e6⟩
end Go.Den
end
section
namespace Go.Proofs.YtnjiiijdgijahaaGreat.logNil
open Go.ChangeShapes Go.WideShapes Go.ChangeAt Go.RowKit Go.Den
set_option linter.unusedVariables false
set_option linter.unusedSimpArgs false
theorem own : ownKnob Tryz.prog.godebug = none := by kernel_rfl
theorem laidOut : laidOutB Tryz.prog = true := by kernel_rfl
theorem rowed : ∀ t ∈ Tryz.f7.params.toList, Tryz.prog.readableRec t = true ∧ t < Tryz.prog.types.size := by
  rw [Tryz.params7]
  intro t ht
  simp at ht
  rcases ht with rfl | rfl | rfl <;> exact ⟨by kernel_rfl, of_decide_eq_true (by kernel_rfl)⟩
set_option maxRecDepth 100000 in
theorem lifted (os : Os) (started : os.Started) (H : Type) (enc : TypeId × Value → H) :
    ReturnsInHanded {} Tryz.checked os 7 .any (Rows.logNilSpec.pre6 enc Tryz.prog Tryz.f7 Rows.logNilRow.domain false) (Rows.logNilSpec.post enc Tryz.prog Tryz.f7 false true false false) := by
  refine returnsInHanded_of_change_sized (C := Tryz.checked) own started (by kernel_rfl) Tryz.func7
    (ChangeSpec.witness6 (enc := enc) (C := Tryz.checked) false ⟨#[], #[.int .u32 0, .int .i64 0, .bool false], []⟩ 8 (by kernel_rfl) (by kernel_rfl) (by kernel_rfl) (by kernel_rfl)) ?_
  intro W base args ds gs before hval0 hW hcnd hsz _
  have hval : ∀ (j : Nat) t v, Tryz.f7.params[j]? = some t → args[j]? = some v → Value.okWide Tryz.prog W .any base t v := hval0
  have hW' := hW
  obtain ⟨p, q, hA0, hV, hpq, hfz, hnd⟩ := hW
  have hA : DataW.TrodAll enc Tryz.prog W 0 (fun _ => true) true Tryz.f7.params.toList args.toList ds p := hA0
  rw [Tryz.params7] at hA hval hsz
  obtain ⟨v0, vs0, d0, ds0, p0, q0, hargs, rfl, hp0, h0, r0⟩ := trodAll_cons hA
  obtain ⟨v1, vs1, d1, ds1, p1, q1, rfl, rfl, hp1, h1, r1⟩ := trodAll_cons r0
  obtain ⟨v2, vs2, d2, ds2, p2, q2, rfl, rfl, hp2, h2, r2⟩ := trodAll_cons r1
  obtain ⟨rfl, rfl, _⟩ := trodAll_nil r2
  obtain rfl : args = #[v0, v1, v2] := by cases args; simp_all
  obtain ⟨rfl, _⟩ := trodVars_none hV
  obtain ⟨a0, rfl, _, _, w0⟩ := open_int Tryz.underlying34 (hval 0 34 v0 rfl rfl) h0
  have b0 : 0 ≤ a0 ∧ a0 ≤ 4294967295 := by simpa [Lit.wf, IntKind.min, IntKind.max, IntKind.signed, IntKind.bits] using w0
  obtain ⟨n0, rfl⟩ : ∃ n : Nat, a0 = n := ⟨a0.toNat, by omega⟩
  obtain ⟨a1, rfl, _, _, w1⟩ := open_int Tryz.underlying3 (hval 1 3 v1 rfl rfl) h1
  have b1 : -9223372036854775808 ≤ a1 ∧ a1 ≤ 9223372036854775807 := by simpa [Lit.wf, IntKind.min, IntKind.max, IntKind.signed, IntKind.bits] using w1
  obtain ⟨a2, rfl, _, _⟩ := open_bool Tryz.underlying4 (hval 2 4 v2 rfl rfl) h2
  refine Calls.mono (carracklaw14_LogNil_spec n0 a1 a2) fun e W' he => ?_
  obtain ⟨v, he, rfl, hx⟩ := he
  exact ⟨_, he, post_true laidOut hW' rfl rowed (Ext.below hx) Tryz.underlying4 (by kernel_rfl) rfl⟩
theorem proved : Rows.LogNilSaid :=
  OpenClaim.holds_of_wide 7 Tryz.f7 rfl rfl rfl rfl rfl rfl rfl ⟨rfl, rfl, rfl, rfl, rfl⟩ rfl rfl rfl rfl rfl (by kernel_rfl) Tryz.func7 (by kernel_rfl)
    (of_decide_eq_true (by kernel_rfl)) (by unfold Func.isWrapper; first | (rw [if_pos (by decide +kernel)]; kernel_rfl) | (rw [if_neg (by decide +kernel)]; exact ⟨rfl, rfl⟩))
    (fun os started H enc _ => lifted os started H enc)
end Go.Proofs.YtnjiiijdgijahaaGreat.logNil
end
