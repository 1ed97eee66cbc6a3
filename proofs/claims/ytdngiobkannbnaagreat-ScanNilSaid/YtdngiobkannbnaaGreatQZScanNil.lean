/- The row of the law ScanNil: for every input the law returns true, and its arguments read as they did. (Merged by program: LPoolNil LScanNil ZScanNil.) -/
import Derived.Test.YtdngiobkannbnaaGreatQ5
import Derived.Test.YtdngiobkannbnaaGreatRows
import Derived.WalkKit
section
set_option linter.unusedVariables false
set_option linter.unusedSimpArgs false
set_option maxRecDepth 8000
namespace Go.Den
def zeroChip : Array Value := #[Value.int .i64 0, Value.int .i64 0, Value.int .i64 0, Value.int .i64 0, Value.slice none 0 0, Value.slice none 0 0, Value.slice none 0 0, Value.int .i64 0, Value.bool false, Value.int .i64 0]
theorem zero_Scan {w : World} {p : Option Addr} (h : p = none ∨ ∃ B, p = some ⟨B, 0, none⟩ ∧ w.heap[B]? = some (.cells zeroChip T.nand_Chip (0, 0))) : CallsR prog K.pool_Scan #[.pointer p] w fun v w' => v = .tuple #[.pointer none, .int .i64 1] ∧ Ext w w' := by
  apply pool_Scan.sh
  refine ⟨fun _ => False, ?_, fun _ h => h.elim⟩
  rcases h with rfl | ⟨B, rfl, hc⟩
  · simp only [Option.isNone_none, br_true]
    exact ⟨by trivial, Upd.refl _ _⟩
  · simp only [Option.isNone_some, br_false]
    have geo : CallsR prog K.nand_Chip_Geo #[.pointer (some ⟨B, 0, none⟩)] w fun v w' => v = .agg #[.int .i64 0, .int .i64 0, .int .i64 0, .int .i64 0] ∧ Ext w w' := by
      apply nand_Chip_Geo.sh
      intro B₁ w₁ hn
      have hc1 := Ext.get hn.upd hc
      have off : CallsR prog K.nand_Chip_off #[.pointer (some ⟨B, 0, none⟩)] w₁ fun v w' => v = .bool true ∧ w' = w₁ := by
        apply nand_Chip_off.sh
        simp only [nand_Chip_off.body, Option.isNone_some, br_false, nilC_some', add_lit]
        exact ⟨none, 0, 0, cell_of hc1 rfl, rfl, by trivial⟩
      refine off.mono ?_
      rintro _ _ ⟨rfl, rfl⟩
      refine ⟨_, rfl, ?_⟩
      simp only [br_true]
      refine store_of hn.get (by simp) fun w₂ hput => ?_
      have hg := hput.get
      rw [splice_all _ _ (by simp)] at hg
      refine ⟨0, 0, 0, 0, cellsAt_of (o := 0) hg (fun j v hj => by simpa using hj), rfl, Put.upd hn.upd hput (.inl (by have := hn.num; omega))⟩
    refine geo.mono ?_
    rintro _ w₁ ⟨rfl, he⟩
    refine ⟨0, 0, 0, 0, rfl, ?_⟩
    exact br_eq (fun _ => ⟨by trivial, he⟩) fun h => (h rfl).elim
end Go.Den
end
section
set_option linter.unusedVariables false
set_option linter.unusedSimpArgs false
set_option maxRecDepth 8000
namespace Go.Den
abbrev NilChip (u : World) (p : Option Addr) : Prop := p = none ∨ ∃ B, p = some ⟨B, 0, none⟩ ∧ u.heap[B]? = some (.cells zeroChip T.nand_Chip (0, 0))
theorem NilChip.ext {u u' : World} {p : Option Addr} (h : NilChip u p) (k : Ext u u') : NilChip u' p := by
  rcases h with h | ⟨B, h1, h2⟩
  · exact .inl h
  · exact .inr ⟨B, h1, Ext.get k h2⟩
theorem nil_off {u : World} {p : Option Addr} (h : NilChip u p) : CallsR prog K.nand_Chip_off #[.pointer p] u fun v w' => v = .bool true ∧ w' = u := by
  apply nand_Chip_off.sh
  unfold nand_Chip_off.body
  rcases h with rfl | ⟨B, rfl, g⟩
  · exact ⟨rfl, rfl⟩
  · simp only [Option.isNone_some, br_false, nilC_some', add_lit, Nat.zero_add]
    exact ⟨none, 0, 0, cell_of g rfl, by simp⟩
theorem nil_ask {u : World} {p : Option Addr} (h : NilChip u p) (b k : Int) : CallsR prog K.nand_Chip_ask #[.pointer p, .int .i64 b, .int .i64 k] u fun v w' => v = .int .i64 1 ∧ w' = u := by
  apply nand_Chip_ask.sh
  unfold nand_Chip_ask.body
  refine (nil_off h).mono ?_
  rintro _ _ ⟨rfl, rfl⟩
  refine ⟨_, rfl, ?_⟩
  rw [br_true]
  exact ⟨rfl, rfl⟩
theorem nil_read {u : World} {p : Option Addr} (h : NilChip u p) (b k : Int) : CallsR prog K.nand_Chip_Read #[.pointer p, .int .i64 b, .int .i64 k] u fun v w' => v = .tuple #[.slice none 0 0, .int .i64 1] ∧ Ext u w' := by
  apply nand_Chip_Read.sh
  unfold nand_Chip_Read.body
  refine (nil_ask h b k).mono ?_
  rintro _ _ ⟨rfl, rfl⟩
  exact ⟨_, rfl, br_ne (fun _ => ⟨rfl, Upd.refl _ _⟩) fun h => by cases h⟩
theorem nil_scan_read {u : World} {p : Option Addr} (h : NilChip u p) (era : Int) : CallsR prog K.scan_read #[.pointer p, .int .u32 era] u fun v w' => v = .tuple #[.slice none 0 0, .int .u64 0, .int .i64 1] ∧ Ext u w' := by
  apply scan_read.sh
  unfold scan_read.body
  refine (zero_Scan h).mono ?_
  rintro _ w' ⟨rfl, he⟩
  exact ⟨_, _, rfl, br_ne (fun _ => ⟨rfl, he⟩) fun h => by cases h⟩
theorem nil_Blocks {u : World} {p : Option Addr} (h : NilChip u p) (era : Int) : CallsR prog K.scan_Blocks #[.pointer p, .int .u32 era] u fun v w' => v = .tuple #[.slice none 0 0, .slice none 0 0, .int .i64 1] ∧ Ext u w' := by
  apply scan_Blocks.sh
  unfold scan_Blocks.body
  refine (nil_scan_read h era).mono ?_
  rintro _ w₁ ⟨rfl, he1⟩
  refine ⟨_, _, _, _, _, rfl, fun a l c a' l' c' x u => a = none ∧ l = 0 ∧ c = 0 ∧ a' = none ∧ l' = 0 ∧ c' = 0 ∧ x = 0 ∧ u = w₁, fun _ _ _ _ _ _ _ _ => 0, ⟨rfl, rfl, rfl, rfl, rfl, rfl, rfl, rfl⟩, ?_⟩
  rintro a l c a' l' c' x u ⟨rfl, rfl, rfl, rfl, rfl, rfl, rfl, rfl⟩
  exact br_dec (fun h => absurd h (by simp)) fun _ => ⟨rfl, he1⟩
theorem nil_Facts {u : World} {p : Option Addr} (h : NilChip u p) (era : Int) : CallsR prog K.scan_Facts #[.pointer p, .int .u32 era] u fun v w' => v = .tuple #[.slice none 0 0, .int .i64 1] ∧ Ext u w' := by
  apply scan_Facts.sh
  unfold scan_Facts.body
  refine (nil_scan_read h era).mono ?_
  rintro _ w₁ ⟨rfl, he1⟩
  refine ⟨_, _, _, _, _, rfl, fun a l c x u => a = none ∧ l = 0 ∧ c = 0 ∧ x = 0 ∧ u = w₁, fun _ _ _ _ _ => 0, ⟨rfl, rfl, rfl, rfl, rfl⟩, ?_⟩
  rintro a l c' x u ⟨rfl, rfl, rfl, rfl, rfl⟩
  exact br_dec (fun h => absurd h (by simp)) fun _ => ⟨rfl, he1⟩
theorem nil_Pages {u : World} {p : Option Addr} (h : NilChip u p) (b : Int) : CallsR prog K.scan_Pages #[.pointer p, .int .i64 b] u fun v w' => v = .tuple #[.slice none 0 0, .int .i64 1] ∧ Ext u w' := by
  apply scan_Pages.sh
  unfold scan_Pages.body
  refine (nil_read h b 0).mono ?_
  rintro _ w₁ ⟨rfl, he1⟩
  exact ⟨_, _, _, _, rfl, br_ne (fun _ => ⟨rfl, he1⟩) fun h => by cases h⟩
/-- a still chip that is struck is dead -/
theorem still_dead {d : Chip} (hs : Still d 16 8 128 0) (hb : d.bad = List.replicate 16 false) : ((d.setHits [⟨0, false, []⟩]).1.erase 0).1.dead = true := by
  have h1 : (d.setHits [⟨0, false, []⟩]).1 = { d with hits := [⟨0, false, []⟩], since := 0 } := rfl
  rw [h1]
  have h2 : ({ d with hits := [⟨0, false, []⟩], since := 0 } : Chip).ask 0 0 = 0 := by
    unfold Chip.ask
    simp only [hs.dead, hs.nb, hs.np]
    rfl
  have h3 : ({ d with hits := [⟨0, false, []⟩], since := 0 } : Chip).isBad (0 : Int).toNat = false := by
    unfold Chip.isBad
    simp only [hb]
    rfl
  unfold Chip.erase
  rw [if_neg (by rw [h2]; simp), if_neg (by rw [h3]; simp)]
  rfl
theorem erase_nb (c : Chip) (b : Int) : (c.erase b).1.nb = c.nb := (Chip.erase_geo c b).1
/-- the law's end: a chip that dies, and what was told of none -/
theorem nil_tail {block : Int} {era : Nat} {u w : World} (hu : Ext w u) {Z : Int → Int → Int → World → Prop} (hZ : ∀ u', Ext w u' → Z 10 10 10 u') :
    CallsR prog K.carracklaw12_chip #[.slice none 0 0, .slice none 0 0] u fun v4 w5 => ∃ p1 : Option Addr, v4 = .pointer p1 ∧
      ∀ (B2 : Nat) (w6 : World), New w5 (.cells #[.int .i64 0, .bool false, .slice none 0 0] T.api_Hit) B2 w6 →
      CallsR prog K.nand_Chip_Hits #[.pointer p1, .slice (some ⟨B2, 0, none⟩) 1 1] w6 fun v5 w7 => ∃ x4 : Int, v5 = .int .i64 x4 ∧
      CallsR prog K.nand_Chip_Erase #[.pointer p1, .int .i64 0] w7 fun v6 w8 => ∃ x5 : Int, v6 = .int .i64 x5 ∧
      CallsR prog K.scan_Blocks #[.pointer p1, .int .u32 era] w8 fun v7 w9 => ∃ (a5 : Option Addr) (l5 c5 : Nat) (a6 : Option Addr) (l6 c6 : Nat) (x6 : Int), v7 = .tuple #[.slice a5 l5 c5, .slice a6 l6 c6, .int .i64 x6] ∧
      CallsR prog K.scan_Facts #[.pointer p1, .int .u32 era] w9 fun v8 w10 => ∃ (a7 : Option Addr) (l7 c7 : Nat) (x7 : Int), v8 = .tuple #[.slice a7 l7 c7, .int .i64 x7] ∧
      CallsR prog K.scan_Pages #[.pointer p1, .int .i64 block] w10 fun v9 w11 => ∃ (a8 : Option Addr) (l8 c8 : Nat) (x8 : Int), v9 = .tuple #[.slice a8 l8 c8, .int .i64 x8] ∧
      Z x6 x7 x8 w11 := by
  refine (carracklaw12_chip_spec (l := []) (bad := []) (a := none) (c := 0) (ab := none) (cb := 0) (G := NoB) (SliceAt.nil _ _ _) (fun b hb => by simp at hb) (RowAt.nil _ _) (by simp)).mono ?_
  rintro _ w₅ ⟨he5, p, d, rfl, hc, hst, hbad⟩
  have hc5 : CAt u.heap.size w₅.heap.size w₅ p d := CAt.of hc (Nat.le_refl _)
  have hs5 := he5.size
  refine ⟨_, rfl, fun B2 w₆ hn6 => ?_⟩
  have hB2 : B2 = w₅.heap.size := hn6.num
  have hs6 := hn6.size
  have hrow : RowAt w₆ (some ⟨B2, 0, none⟩) [.int .i64 0, .bool false, .slice none 0 0] := RowAt.of hn6.get fun j v hj => by simpa using hj
  refine (cHits (Gin := NoB) (hs := [⟨0, false, []⟩]) (cp := 1) (hc5.ext hn6.upd) (by omega) hrow ⟨none, 0, [], rfl, BytesAt.nil _ _, fun h => absurd rfl h, rfl⟩ (fun x hx => hx.elim) (fun _ q hq => by cases hq; right; show w₅.heap.size ≤ B2; omega) (by decide) (fun t ht => by simp at ht; rw [ht]; exact Nat.zero_le _)).mono ?_
  rintro _ w₇ ⟨rfl, hu7, hc7⟩
  refine ⟨_, rfl, (cEraseF hc7 0).mono ?_⟩
  rintro _ w₈ ⟨rfl, hu8, hc8⟩
  have hdead := still_dead hst (hbad rfl)
  have hnb : ((d.setHits [⟨0, false, []⟩]).1.erase 0).1.nb < 20 := by
    rw [erase_nb]
    show d.nb < 20
    rw [hst.nb]; decide
  generalize ((d.setHits [⟨0, false, []⟩]).1.erase 0).1 = e at *
  have e8 : Ext w w₈ := hu.trans (((he5.trans hn6.upd).beyond hu7 fun x hx => hx.1).beyond hu8 fun x hx => hx.1)
  have hre : readErr e era = 10 := by unfold readErr; rw [if_pos hdead]
  have hrp : readParts e era = [] := by unfold readParts; rw [hre]; rfl
  refine ⟨_, rfl, (scan_Blocks_spec hc8 hnb era).mono ?_⟩
  rw [hre]
  rintro _ w₉ ⟨a5, c5, a6, c6, rfl, _, _, he9⟩
  refine ⟨_, _, _, _, _, _, _, rfl, (scan_Facts_none (hc8.ext he9) hnb era hrp).mono ?_⟩
  rw [hre]
  rintro _ w₁₀ ⟨rfl, he10⟩
  refine ⟨_, _, _, _, rfl, (scan_Pages_spec ((hc8.ext he9).ext he10) block).mono ?_⟩
  rintro _ w₁₁ ⟨a8, c8, rfl, _, he11⟩
  have hask : e.ask block 0 = 10 := by unfold Chip.ask; rw [if_pos hdead]
  rw [hask]
  exact ⟨_, _, _, _, rfl, hZ _ (((e8.trans he9).trans he10).trans he11)⟩
theorem carracklaw12_ScanNil_spec {w : World} (block : Int) (era : Nat) (zero : Bool) :
    CallsR prog K.carracklaw12_ScanNil #[.int .i64 block, .int .u32 era, .bool zero] w fun v w' => v = .bool true ∧ Ext w w' := by
  apply carracklaw12_ScanNil.sh
  unfold carracklaw12_ScanNil.body
  have fin : ∀ {u : World}, Ext w u → CallsR prog K.carracklaw12_works #[] u fun v w' => ∃ b : Bool, v = .bool b ∧ (Value.bool b = .bool true ∧ Ext w w') := fun he => (carracklaw12_works_spec _).mono fun v w' ⟨hv, he'⟩ => ⟨true, hv, rfl, he.trans he'⟩
  refine br_intro (fun _ => ?_) fun _ => ?_
  · intro B1 w₁ hn1
    have hN : NilChip w₁ (some ⟨B1, 0, none⟩) := .inr ⟨B1, rfl, hn1.get⟩
    refine (nil_Blocks hN era).mono ?_
    rintro _ w₂ ⟨rfl, he2⟩
    refine ⟨_, _, _, _, _, _, _, rfl, (nil_Facts (hN.ext he2) era).mono ?_⟩
    rintro _ w₃ ⟨rfl, he3⟩
    refine ⟨_, _, _, _, rfl, (nil_Pages ((hN.ext he2).ext he3) block).mono ?_⟩
    rintro _ w₄ ⟨rfl, he4⟩
    refine ⟨_, _, _, _, rfl, nil_tail (w := w) (block := block) (era := era) (((hn1.upd.trans he2).trans he3).trans he4) fun u' he => ?_⟩
    exact br_eq (fun _ => br_eq (fun _ => br_eq (fun _ => br_eq (fun _ => br_eq (fun _ => br_eq (fun _ => fin he) fun h => absurd rfl h) fun h => absurd rfl h) fun h => absurd rfl h) fun h => absurd rfl h) fun h => absurd rfl h) fun h => absurd rfl h
  · have hN : NilChip w none := .inl rfl
    refine (nil_Blocks hN era).mono ?_
    rintro _ w₂ ⟨rfl, he2⟩
    refine ⟨_, _, _, _, _, _, _, rfl, (nil_Facts (hN.ext he2) era).mono ?_⟩
    rintro _ w₃ ⟨rfl, he3⟩
    refine ⟨_, _, _, _, rfl, (nil_Pages ((hN.ext he2).ext he3) block).mono ?_⟩
    rintro _ w₄ ⟨rfl, he4⟩
    refine ⟨_, _, _, _, rfl, nil_tail (w := w) (block := block) (era := era) ((he2.trans he3).trans he4) fun u' he => ?_⟩
    exact br_eq (fun _ => br_eq (fun _ => br_eq (fun _ => br_eq (fun _ => br_eq (fun _ => br_eq (fun _ => fin he) fun h => absurd rfl h) fun h => absurd rfl h) fun h => absurd rfl h) fun h => absurd rfl h) fun h => absurd rfl h) fun h => absurd rfl h
end Go.Den
end
section
namespace Go.Proofs.YtdngiobkannbnaaGreat.scanNil
open Go.ChangeShapes Go.WideShapes Go.ChangeAt Go.RowKit Go.Den
set_option linter.unusedVariables false
set_option linter.unusedSimpArgs false
theorem own : ownKnob Tryz.prog.godebug = none := by kernel_rfl
theorem laidOut : laidOutB Tryz.prog = true := by kernel_rfl
theorem rowed : ∀ t ∈ Tryz.f5.params.toList, Tryz.prog.readableRec t = true ∧ t < Tryz.prog.types.size := by
  rw [Tryz.params5]
  intro t ht
  simp at ht
  rcases ht with rfl | rfl | rfl <;> exact ⟨by kernel_rfl, of_decide_eq_true (by kernel_rfl)⟩
set_option maxRecDepth 100000 in
theorem lifted (os : Os) (started : os.Started) (H : Type) (enc : TypeId × Value → H) :
    ReturnsInHanded {} Tryz.checked os 5 .any (Rows.scanNilSpec.pre6 enc Tryz.prog Tryz.f5 Rows.scanNilRow.domain false) (Rows.scanNilSpec.post enc Tryz.prog Tryz.f5 false true false false) := by
  refine returnsInHanded_of_change_sized (C := Tryz.checked) own started (by kernel_rfl) Tryz.func5
    (ChangeSpec.witness6 (enc := enc) (C := Tryz.checked) false ⟨#[], #[.int .i64 0, .int .u32 0, .bool false], []⟩ 8 (by kernel_rfl) (by kernel_rfl) (by kernel_rfl) (by kernel_rfl)) ?_
  intro W base args ds gs before hval0 hW hcnd hsz _
  have hval : ∀ (j : Nat) t v, Tryz.f5.params[j]? = some t → args[j]? = some v → Value.okWide Tryz.prog W .any base t v := hval0
  have hW' := hW
  obtain ⟨p, q, hA0, hV, hpq, hfz, hnd⟩ := hW
  have hA : DataW.TrodAll enc Tryz.prog W 0 (fun _ => true) true Tryz.f5.params.toList args.toList ds p := hA0
  rw [Tryz.params5] at hA hval hsz
  obtain ⟨v0, vs0, d0, ds0, p0, q0, hargs, rfl, hp0, h0, r0⟩ := trodAll_cons hA
  obtain ⟨v1, vs1, d1, ds1, p1, q1, rfl, rfl, hp1, h1, r1⟩ := trodAll_cons r0
  obtain ⟨v2, vs2, d2, ds2, p2, q2, rfl, rfl, hp2, h2, r2⟩ := trodAll_cons r1
  obtain ⟨rfl, rfl, _⟩ := trodAll_nil r2
  obtain rfl : args = #[v0, v1, v2] := by cases args; simp_all
  obtain ⟨rfl, _⟩ := trodVars_none hV
  obtain ⟨a0, rfl, _, _, w0⟩ := open_int Tryz.underlying3 (hval 0 3 v0 rfl rfl) h0
  have b0 : -9223372036854775808 ≤ a0 ∧ a0 ≤ 9223372036854775807 := by simpa [Lit.wf, IntKind.min, IntKind.max, IntKind.signed, IntKind.bits] using w0
  obtain ⟨a1, rfl, _, _, w1⟩ := open_int Tryz.underlying29 (hval 1 29 v1 rfl rfl) h1
  have b1 : 0 ≤ a1 ∧ a1 ≤ 4294967295 := by simpa [Lit.wf, IntKind.min, IntKind.max, IntKind.signed, IntKind.bits] using w1
  obtain ⟨n1, rfl⟩ : ∃ n : Nat, a1 = n := ⟨a1.toNat, by omega⟩
  obtain ⟨a2, rfl, _, _⟩ := open_bool Tryz.underlying4 (hval 2 4 v2 rfl rfl) h2
  refine Calls.mono (carracklaw12_ScanNil_spec a0 n1 a2) fun e W' he => ?_
  obtain ⟨v, he, rfl, hx⟩ := he
  exact ⟨_, he, post_true laidOut hW' rfl rowed (Ext.below hx) Tryz.underlying4 (by kernel_rfl) rfl⟩
theorem proved : Rows.ScanNilSaid :=
  OpenClaim.holds_of_wide 5 Tryz.f5 rfl rfl rfl rfl rfl rfl rfl ⟨rfl, rfl, rfl, rfl, rfl⟩ rfl rfl rfl rfl rfl (by kernel_rfl) Tryz.func5 (by kernel_rfl)
    (of_decide_eq_true (by kernel_rfl)) (by unfold Func.isWrapper; first | (rw [if_pos (by decide +kernel)]; kernel_rfl) | (rw [if_neg (by decide +kernel)]; exact ⟨rfl, rfl⟩))
    (fun os started H enc _ => lifted os started H enc)
end Go.Proofs.YtdngiobkannbnaaGreat.scanNil
end
