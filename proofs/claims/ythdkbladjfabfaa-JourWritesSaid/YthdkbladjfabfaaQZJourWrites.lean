/- The row of the law JourWrites: for every input the law returns true, and its arguments read as they did. (Merged by program: LJourPages LJourSays LJourWrites ZJourWrites.) -/
import Derived.Test.YthdkbladjfabfaaQ5
import Derived.Test.YthdkbladjfabfaaRows
import Derived.WalkKit
section
set_option linter.unusedVariables false
set_option linter.unusedSimpArgs false
set_option maxRecDepth 4000
namespace Go.Den
theorem turn_eqb (a b : Turn) : (((a.from_.toNat : Int) == (b.from_.toNat : Int)) && (((a.to.toNat : Int) == (b.to.toNat : Int)) && (((a.phase.toNat : Int) == (b.phase.toNat : Int)) && true))) = decide (a = b) := by
  rw [u8b, u8b, u8b]
  obtain ⟨a1, a2, a3⟩ := a
  obtain ⟨b1, b2, b3⟩ := b
  rw [Bool.eq_iff_iff]
  simp
theorem turn_same (a : Turn) : (((a.from_.toNat : Int) == (a.from_.toNat : Int)) && (((a.to.toNat : Int) == (a.to.toNat : Int)) && (((a.phase.toNat : Int) == (a.phase.toNat : Int)) && true))) = true := by
  rw [turn_eqb]; simp
theorem works22 {w w' : World} (h : Ext w w') : CallsR prog K.carracklaw22_works #[] w' fun v6 w12 => ∃ b2 : Bool, v6 = Value.bool b2 ∧ (Value.bool b2 = .bool true ∧ Ext w w12) := by
  refine (carracklaw22_works_spec _).mono ?_
  rintro _ w'' ⟨rfl, he⟩
  exact ⟨_, rfl, rfl, h.trans he⟩
theorem carracklaw22_JourPages_spec {w : World} (size : Int) (hsz : size < 9223372036854775808) (hsz0 : -9223372036854775808 ≤ size) (t : Turn) {a : Option Addr} {b : List UInt8} {c : Nat} (hb : BytesAt w a b) :
    CallsR prog K.carracklaw22_JourPages #[.int .i64 size, turnV t, .slice a b.length c] w fun v w' => v = .bool true ∧ Ext w w' := by
  apply carracklaw22_JourPages.sh
  unfold carracklaw22_JourPages.body
  intro B1 w1 hn1
  refine ⟨_, _, _, cells_all (vs := t.vals) hn1.get, ?_⟩
  refine (jour_Put_spec size t w1).mono ?_
  rintro _ w2 ⟨he2, a1, c1, rfl, hb2, hf2, hc2⟩
  refine ⟨_, _, _, _, rfl, _, _, _, cells_all (vs := t.vals) (he2.get hn1.get), ?_⟩
  refine (carrackref22_Put_spec size t w2 hsz hsz0).mono ?_
  rintro _ w3 ⟨he3, a2, c2, rfl, hb3, hf3, hc3⟩
  refine ⟨_, _, _, _, rfl, ?_⟩
  have e3 := (hn1.upd.trans he2).trans he3
  refine (jour_Get_spec (c := c) (RowAt.ext hb e3)).mono ?_
  rintro _ w4 ⟨he4, rfl⟩
  refine ⟨_, _, _, _, rfl, new_put rfl fun B2 w6 hB2 hs6 he6 hg6 => ?_⟩
  have e6 := (e3.trans he4).trans he6
  refine (carrackref22_Get_spec (c := c) (RowAt.ext hb e6)).mono ?_
  rintro _ w7 ⟨he7, rfl⟩
  refine ⟨_, _, _, _, rfl, new_put rfl fun B3 w9 hB3 hs9 he9 hg9 => ?_⟩
  have e9 := (e6.trans he7).trans he9
  have e29 : Ext w2 w9 := (((he3.trans he4).trans he6).trans he7).trans he9
  have hsmall : (putTurn size t).1.length ≤ 1000000000000 := by
    unfold putTurn
    split
    · simp
    · rename_i hc
      have hs : isSize size = true := by
        cases h : isSize size with
        | true => rfl
        | false => exact absurd (.inr h) hc
      simp [isSize] at hs
      have hb : t.body.length = 3 := rfl
      rw [pageOf_length _ _ _ (by rw [hb]; omega)]
      omega
  refine ⟨fun u => Ext w9 u, ?_, fun w11 he11 => ?_⟩
  · refine (carrackref00_Same_spec (c := c1) (d := c2) (RowAt.ext hb2 e29) (RowAt.ext hb3 (((he4.trans he6).trans he7).trans he9)) hsmall).mono ?_
    rintro _ w10 ⟨rfl, he10⟩
    refine ⟨_, rfl, ?_⟩
    simp only [beq_self_eq_true, Bool.not_true, br_false]
    refine br_ne (fun h => (h rfl).elim) fun _ => ?_
    refine ⟨_, _, _, cells_all (he10.get (he9.get (he7.get hg6))), _, _, _, cells_all (he10.get hg9), ?_⟩
    rw [turn_same]
    simp only [Bool.not_true, br_false]
    exact br_ne (fun h => (h rfl).elim) fun _ => he10
  · have e11 := e9.trans he11
    refine br_ne (fun hne => works22 e11) fun hz => ?_
    have hmay : t.may = true ∧ isSize size = true := by
      have hp : (putTurn size t).2 = 0 := by omega
      unfold putTurn at hp
      split at hp
      · cases hp
      · rename_i hc
        constructor
        · cases h : t.may with
          | true => rfl
          | false => exact absurd (.inl h) hc
        · cases h : isSize size with
          | true => rfl
          | false => exact absurd (.inr h) hc
    have hp1 : (putTurn size t).1 = pageOf size.toNat 7 t.body := by
      unfold putTurn
      rw [if_neg (by rw [hmay.1, hmay.2]; simp)]
    have hs := hmay.2
    have hs' := hs
    simp [isSize] at hs'
    have hgp : getPage (pageOf size.toNat 7 t.body) = (7, t.body, 0) := getPage_pageOf (by rw [Int.toNat_of_nonneg (by omega)]; exact hs) (by decide) (by decide) (by show 3 + 5 ≤ _; omega)
    rw [hp1] at hb2 hc2 ⊢
    refine (seal_Get_spec (c := c1) (RowAt.ext hb2 (e29.trans he11)) hc2).mono ?_
    rintro _ w13 ⟨he13, a3, c3, rfl, hb13, hc13⟩
    rw [hgp] at hb13 ⊢
    refine ⟨_, _, _, _, _, rfl, ?_⟩
    refine (jour_Get_spec (c := c3) hb13).mono ?_
    rintro _ w14 ⟨he14, rfl⟩
    rw [getTurn_body hmay.1]
    refine ⟨_, _, _, _, rfl, new_put rfl fun B4 w16 hB4 hs16 he16 hg16 => ?_⟩
    have e1116 : Ext w11 w16 := (he13.trans he14).trans he16
    refine br_eq (fun _ => br_eq (fun _ => ?_) fun h => (h rfl).elim) fun h => (h rfl).elim
    refine ⟨_, _, _, cells_all hg16, _, _, _, cells_all (vs := t.vals) (e1116.get (he11.get (e29.get (he2.get hn1.get)))), ?_⟩
    rw [turn_same]
    simp only [br_true]
    exact br_eq (fun _ => works22 (e11.trans e1116)) fun h => (h rfl).elim
end Go.Den
end
section
set_option linter.unusedVariables false
set_option linter.unusedSimpArgs false
set_option maxRecDepth 4000
namespace Go.Den
theorem u32_byte (x : UInt8) : IntKind.u32.wrap (x.toNat : Int) = (x.toNat : Int) := by
  have := x.toNat_lt
  exact wu32 (by omega) (by omega)
theorem carracklaw22_JourSays_spec {w : World} {Gin : Nat → Prop} {ha aa : Option Addr} {hvs : List Value} {hs : List Hit} {acts : List JAct} {hc ac : Nat} (hr : RowAt w ha hvs) (hh : HitRow w Gin hvs hs) (hG : ∀ x, Gin x → x < w.heap.size) (hap : hs ≠ [] → ∀ q, ha = some q → q.block < w.heap.size)
    (hm : ∀ t ∈ hs, t.mask.length ≤ 140737488355232) (ar : RowAt w aa (acts.flatMap JAct.vals)) (era : UInt8) :
    CallsR prog K.carracklaw22_JourSays #[.slice ha hs.length hc, .slice aa acts.length ac, bv era] w fun v w' => v = .bool true ∧ Ext w w' := by
  apply carracklaw22_JourSays.sh
  unfold carracklaw22_JourSays.body
  refine (carracklaw22_played_spec hr hh hG hap hm ar).mono ?_
  rintro _ w1 ⟨he1, S, q, c, rfl, hS, hc1, hci, hnb, hnp, hsz, hd0, hq, hB⟩
  have hs1 := he1.size
  refine ⟨_, _, rfl, br_intro (fun h => by cases h) fun _ => ?_⟩
  rw [u32_byte]
  have hera := era.toNat_lt
  refine (jour_Says_spec hc1 (by omega) era.toNat).mono ?_
  rintro _ w2 ⟨he2, rfl⟩
  refine ⟨_, _, _, _, _, _, rfl, new_put rfl fun B1 w4 hB1 hs4 he4 hg4 => ?_⟩
  have e4 := (he1.trans he2).trans he4
  refine br_eq (fun h0 => ?_) fun h0 => ?_
  · have h0' : era.toNat = 0 := by omega
    have e1 : saysErr c era.toNat = 2 := by rw [saysErr, if_neg (by rw [hd0]; simp), if_pos h0']
    have e2 : saysOut c era.toNat = Saying.zero := by rw [saysOut, if_pos (.inr h0')]
    rw [e1, e2]
    exact br_eq (fun _ => br_intro (fun _ => br_intro (fun _ => works22 e4) fun h => by cases h) fun h => by cases h) fun h => (h rfl).elim
  · have h0' : era.toNat ≠ 0 := by omega
    have e1 : saysErr c era.toNat = 0 := by rw [saysErr, if_neg (by rw [hd0]; simp), if_neg h0']
    have e2 : saysOut c era.toNat = refSays c era.toNat := by rw [saysOut, if_neg (by rintro (h | h); rw [hd0] at h; cases h; exact h0' h), says_ref hci hd0]
    rw [e2] at hg4
    rw [e1, e2]
    refine (carrackref22_Says_spec ((hc1.ext he2).ext he4) hd0 (fun t ht => (((ref_mem hci hd0 c.nb (Nat.le_refl _)).1 t).1 ht).1) era.toNat).mono ?_
    rintro _ w6 ⟨he6, rfl⟩
    refine ⟨_, _, _, _, _, rfl, new_put rfl fun B2 w8 hB2 hs8 he8 hg8 => ?_⟩
    refine br_eq (fun _ => ?_) fun h => (h rfl).elim
    refine br_intro (fun _ => br_intro (fun _ => ?_) fun h => by simp at h) fun h => by simp at h
    refine ⟨_, _, _, cells_all (he8.get (he6.get hg4)), _, _, _, cells_all hg8, ?_⟩
    rw [turn_same]
    simp only [br_true]
    exact works22 ((e4.trans he6).trans he8)
end Go.Den
end
section
set_option linter.unusedVariables false
set_option linter.unusedSimpArgs false
set_option maxRecDepth 4000
namespace Go.Den
theorem carracklaw22_JourWrites_spec {w : World} {Gin : Nat → Prop} {ha aa : Option Addr} {hvs : List Value} {hs : List Hit} {acts : List JAct} {hc ac : Nat} (hr : RowAt w ha hvs) (hh : HitRow w Gin hvs hs) (hG : ∀ x, Gin x → x < w.heap.size) (hap : hs ≠ [] → ∀ q, ha = some q → q.block < w.heap.size)
    (hm : ∀ t ∈ hs, t.mask.length ≤ 140737488355232) (ar : RowAt w aa (acts.flatMap JAct.vals)) (era : UInt8) (t : Turn) :
    CallsR prog K.carracklaw22_JourWrites #[.slice ha hs.length hc, .slice aa acts.length ac, bv era, turnV t] w fun v w' => v = .bool true ∧ Ext w w' := by
  apply carracklaw22_JourWrites.sh
  unfold carracklaw22_JourWrites.body
  simp only [add_lit, Nat.zero_add]
  intro B1 w1 hn1
  have hn1s := hn1.size
  have hB1 := hn1.num
  refine (carracklaw22_played_spec (RowAt.ext hr hn1.upd) (HitRow.upd hn1.upd (fun _ _ h => h) hh) (fun x hx => by have := hG x hx; omega) (fun h q hq => by have := hap h q hq; omega) hm (RowAt.ext ar hn1.upd)).mono ?_
  rintro _ w2 ⟨he2, S, q, c, rfl, hS, hc2, hci, hnb, hnp, hsz, hd0, hq, hB⟩
  have hs2 := he2.size
  have e2 := hn1.upd.trans he2
  have hera := era.toNat_lt
  refine ⟨_, _, rfl, fun b u => u = w2 ∧ b = decide (era.toNat = 0), ?_, ?_⟩
  · refine br_intro (fun h => by cases h) fun _ => ⟨rfl, ?_⟩
    rw [Bool.eq_iff_iff]
    simp
  rintro b _ ⟨rfl, rfl⟩
  rename_i w2
  refine br_dec (fun h0 => br_intro (fun _ => works22 e2) fun h => by cases h) fun h0 => ?_
  rw [u32_byte]
  refine (cScan hc2 (by omega) hS).mono ?_
  rintro _ w5 ⟨he5, hv⟩
  rw [if_neg (by rw [hd0]; simp)] at hv
  obtain ⟨M, rfl, rfl, hp5⟩ := hv
  have hs5 := he5.size
  obtain ⟨hinv, hlast⟩ := scan_inv hci hd0
  have hl := hlast _ hB
  generalize scanPool c = P at *
  refine ⟨_, _, rfl, ?_⟩
  refine (pBlanks hp5).mono ?_
  rintro _ w6 ⟨rfl, he6⟩
  have hs6 := he6.size
  have e26 : Ext w2 w6 := he5.trans he6
  have gB6 : SayAt w6 B1 t := e26.get (he2.get hn1.get)
  refine ⟨_, rfl, _, _, _, cells_all (vs := t.vals) gB6, ?_⟩
  have hqh : c.hits.length = 0 := by rw [hq]; rfl
  refine (jour_Write_spec (hp5.ext he6) (fun x hx => by have := hx.2; omega) hinv (era := era.toNat) (by omega) t (by rw [hnb, hqh]; omega) rfl).mono ?_
  rintro _ w7 ⟨rfl, hu7, hp7⟩
  have hs7 := hu7.size
  obtain ⟨ki, kg, _⟩ := jourWrite_inv hinv (era := era.toNat) (by omega) t (by rw [hnb, hqh]; omega) hp5.turn
  have e7 : Ext w w7 := Upd.beyond (e2.trans e26) hu7 (fun x hx => by have := hx.1; omega)
  have gB7 : SayAt w7 B1 t := hu7.get gB6 (fun hb => by have := hb.1; omega)
  have hws := write_said hinv hd0 hq hp5.turn (by omega) (era := era.toNat) (t := t) (by omega) (by omega)
  have hnm : t.may = false → jourWrite P c era.toNat t = (P, c, 2) := by
    intro hm'
    have hask : c.ask 0 0 = 0 := ask_ok (i := 0) (k := 0) hd0 (by omega) (by omega)
    unfold jourWrite
    rw [if_neg (by omega), if_pos (.inl (by unfold putTurn; rw [if_pos (.inl hm')]; simp))]
  generalize jourWrite P c era.toNat t = r at *
  refine ⟨_, rfl, ?_⟩
  have hnb7 : r.2.1.nb = 16 := kg.1.trans hnb
  refine (jour_Says_spec hp7.chip (by omega) era.toNat).mono ?_
  rintro _ w8 ⟨he8, rfl⟩
  refine ⟨_, _, _, _, _, _, rfl, new_put rfl fun B2 w10 hB2 hs10 he10 hg10 => ?_⟩
  have e10 := (e7.trans he8).trans he10
  have gB10 : SayAt w10 B1 t := he10.get (he8.get gB7)
  have hdr : r.2.1.dead = false := by
    cases hmm : t.may with
    | true =>
      rcases hws hmm with ⟨_, _, h3⟩ | ⟨_, h2, _⟩
      · exact h3
      · exact h2
    | false => rw [hnm hmm]; exact hd0
  have e1 : saysErr r.2.1 era.toNat = 0 := by rw [saysErr, if_neg (by rw [hdr]; simp), if_neg h0]
  have e2' : saysOut r.2.1 era.toNat = jourSays r.2.1 era.toNat := by rw [saysOut, if_neg (by rintro (h | h); rw [hdr] at h; cases h; exact h0 h)]
  rw [e2'] at hg10
  rw [e1, e2']
  refine br_ne (fun h => (h rfl).elim) fun _ => br_ne (fun h => (h rfl).elim) fun _ => ?_
  refine ⟨_, _, _, cells_all (vs := t.vals) gB10, ?_⟩
  refine (carrackref22_May_spec t w10).mono ?_
  rintro _ w11 ⟨rfl, he11⟩
  have e11 : Ext w w11 := e10.trans he11
  refine ⟨_, rfl, br_intro (fun hn => ?_) fun hy => ?_⟩
  · rw [hnm (by simpa using hn)]
    exact br_eq (fun _ => works22 e11) fun h => (h rfl).elim
  · rcases hws (by simpa using hy) with ⟨h1, h2, _⟩ | ⟨h1, _, _, h3, h4, h5⟩
    · rw [h1, h2]
      exact br_eq (fun _ => br_eq (fun _ => works22 e11) fun h => (h rfl).elim) fun h => (h rfl).elim
    · rw [h1]
      refine br_eq (fun h => by cases h) fun _ => br_eq (fun _ => ?_) fun h => (h rfl).elim
      rw [h3]
      refine br_intro (fun _ => ?_) fun h => by cases h
      have gB2 : SayAt w11 B2 (jourSays r.2.1 era.toNat).turn := he11.get hg10
      have fin : ∃ x15 : Int, World.cell? w11 ⟨B2, 2, none⟩ = some (Value.int .u8 x15) ∧ br (x15 == 0) (CallsR prog K.carracklaw22_works #[] w11 fun v10 w14 => ∃ b9 : Bool, v10 = Value.bool b9 ∧ (Value.bool b9 = .bool true ∧ Ext w w14)) (Value.bool false = .bool true ∧ Ext w w11) := by
        refine ⟨_, cell_of gB2 rfl, br_eq (fun _ => works22 e11) fun h => ?_⟩
        rw [h5] at h
        exact (h rfl).elim
      refine ⟨_, cell_of (he11.get gB10) rfl, br_ne (fun _ => fin) fun hp2 => ?_⟩
      have hph : t.phase = 2 := (u8i _ 2 (by omega)).1 hp2
      rw [h4 hph]
      exact br_intro (fun _ => fin) fun h => by cases h
end Go.Den
end
section
namespace Go.Proofs.Ythdkbladjfabfaa.jourWrites
open Go.ChangeShapes Go.WideShapes Go.ChangeAt Go.RowKit Go.Den
set_option linter.unusedVariables false
set_option linter.unusedSimpArgs false
theorem own : ownKnob Try.prog.godebug = none := by kernel_rfl
theorem laidOut : laidOutB Try.prog = true := by kernel_rfl
theorem rowed : ∀ t ∈ Try.f8.params.toList, Try.prog.readableRec t = true ∧ t < Try.prog.types.size := by
  rw [Try.params8]
  intro t ht
  simp at ht
  rcases ht with rfl | rfl | rfl | rfl <;> exact ⟨by kernel_rfl, of_decide_eq_true (by kernel_rfl)⟩
set_option maxRecDepth 100000 in
theorem lifted (os : Os) (started : os.Started) (H : Type) (enc : TypeId × Value → H) :
    ReturnsInHanded {} Try.checked os 8 .any (Rows.jourWritesSpec.pre6 enc Try.prog Try.f8 Rows.jourWritesRow.domain false) (Rows.jourWritesSpec.post enc Try.prog Try.f8 false true false false) := by
  refine returnsInHanded_of_change_sized (C := Try.checked) own started (by kernel_rfl) Try.func8
    (ChangeSpec.witness6 (enc := enc) (C := Try.checked) false ⟨#[], #[.slice none 0 0, .slice none 0 0, .int .u8 0, .agg #[.int .u8 0, .int .u8 0, .int .u8 0]], []⟩ 8 (by kernel_rfl) (by kernel_rfl) (by kernel_rfl) (by kernel_rfl)) ?_
  intro W base args ds gs before hval0 hW hcnd hsz _
  have hval : ∀ (j : Nat) t v, Try.f8.params[j]? = some t → args[j]? = some v → Value.okWide Try.prog W .any base t v := hval0
  have hW' := hW
  obtain ⟨p, q, hA0, hV, hpq, hfz, hnd⟩ := hW
  have hA : DataW.TrodAll enc Try.prog W 0 (fun _ => true) true Try.f8.params.toList args.toList ds p := hA0
  rw [Try.params8] at hA hval hsz
  obtain ⟨v0, vs0, d0, ds0, p0, q0, hargs, rfl, hp0, h0, r0⟩ := trodAll_cons hA
  obtain ⟨v1, vs1, d1, ds1, p1, q1, rfl, rfl, hp1, h1, r1⟩ := trodAll_cons r0
  obtain ⟨v2, vs2, d2, ds2, p2, q2, rfl, rfl, hp2, h2, r2⟩ := trodAll_cons r1
  obtain ⟨v3, vs3, d3, ds3, p3, q3, rfl, rfl, hp3, h3, r3⟩ := trodAll_cons r2
  obtain ⟨rfl, rfl, _⟩ := trodAll_nil r3
  obtain rfl : args = #[v0, v1, v2, v3] := by cases args; simp_all
  obtain ⟨rfl, _⟩ := trodVars_none hV
  obtain ⟨sa0, sl0, sc0, rfl⟩ := okWide_slice Try.underlying42 (hval 0 42 v0 rfl rfl)
  obtain ⟨fuel0, hf0⟩ := h0
  obtain ⟨ha0, hv0, hs0, hc0, hcs0, hrow0, hhit0, hap0, hm0⟩ := open_hits (by kernel_rfl) hf0 (fits_each hsz (j := 0) rfl rfl)
  simp [Value.cells] at hcs0
  obtain ⟨rfl, rfl, rfl⟩ := hcs0
  obtain ⟨sa1, sl1, sc1, rfl⟩ := okWide_slice Try.underlying54 (hval 1 54 v1 rfl rfl)
  obtain ⟨fuel1, hf1⟩ := h1
  obtain ⟨aa1, al1, ac1, hcs1, har1⟩ := open_jacts Try.underlying54 (by kernel_rfl) hf1
  simp [Value.cells] at hcs1
  obtain ⟨rfl, rfl, rfl⟩ := hcs1
  obtain ⟨a2, rfl, _, _, w2⟩ := open_int Try.underlying5 (hval 2 5 v2 rfl rfl) h2
  have hb2 := byte_bv w2
  obtain ⟨tx3, ty3, tz3, rfl, wx3, wy3, wz3⟩ := open_agg3 Try.underlying23 (by kernel_rfl) rfl rfl rfl rfl rfl rfl (by kernel_rfl) (by kernel_rfl) (by kernel_rfl) Try.underlying5 Try.underlying5 Try.underlying5 (hval 3 23 v3 rfl rfl) h3
  have hx3 := byte_bv wx3
  have hy3 := byte_bv wy3
  have hz3 := byte_bv wz3
  rw [hb2, hx3, hy3, hz3] at hW' ⊢
  refine Calls.mono (carracklaw22_JourWrites_spec hrow0 hhit0 (fun x hx => hx) hap0 hm0 har1 (UInt8.ofNat a2.toNat) ⟨UInt8.ofNat tx3.toNat, UInt8.ofNat ty3.toNat, UInt8.ofNat tz3.toNat⟩) fun e W' he => ?_
  obtain ⟨v, he, rfl, hx⟩ := he
  exact ⟨_, he, post_true laidOut hW' rfl rowed (Ext.below hx) Try.underlying4 (by kernel_rfl) rfl⟩
theorem proved : Rows.JourWritesSaid :=
  OpenClaim.holds_of_wide 8 Try.f8 rfl rfl rfl rfl rfl rfl rfl ⟨rfl, rfl, rfl, rfl, rfl⟩ rfl rfl rfl rfl rfl (by kernel_rfl) Try.func8 (by kernel_rfl)
    (of_decide_eq_true (by kernel_rfl)) (by unfold Func.isWrapper; first | (rw [if_pos (by decide +kernel)]; kernel_rfl) | (rw [if_neg (by decide +kernel)]; exact ⟨rfl, rfl⟩))
    (fun os started H enc _ => lifted os started H enc)
end Go.Proofs.Ythdkbladjfabfaa.jourWrites
end
