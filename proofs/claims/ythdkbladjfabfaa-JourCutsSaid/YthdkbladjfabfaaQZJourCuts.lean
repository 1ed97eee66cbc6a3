/- The row of the law JourCuts: for every input the law returns true, and its arguments read as they did. (Merged by program: LJourPages LJourSays LJourCuts ZJourCuts.) -/
import Derived.Test.YthdkbladjfabfaaQ5
import Derived.Test.YthdkbladjfabfaaRows
import Derived.WalkKit
section
set_option linter.unusedVariables false
set_option linter.unusedSimpArgs false
set_option maxRecDepth 4000
namespace Go.Den
theorem turn_eqb (a b : Turn) : (((a.from_.toNat : Int) == (b.from_.toNat : Int)) && (((a.to.toNat : Int) == (b.to.toNat : Int)) && (((a.phase.toNat : Int) == (b.phase.toNat : Int)) && true))) = decide (a = b) := by
  rw [u8b, u8b, u8b]
  obtain ⟨a1, a2, a3⟩ := a
  obtain ⟨b1, b2, b3⟩ := b
  rw [Bool.eq_iff_iff]
  simp
theorem turn_same (a : Turn) : (((a.from_.toNat : Int) == (a.from_.toNat : Int)) && (((a.to.toNat : Int) == (a.to.toNat : Int)) && (((a.phase.toNat : Int) == (a.phase.toNat : Int)) && true))) = true := by
  rw [turn_eqb]; simp
theorem works22 {w w' : World} (h : Ext w w') : CallsR prog K.carracklaw22_works #[] w' fun v6 w12 => ∃ b2 : Bool, v6 = Value.bool b2 ∧ (Value.bool b2 = .bool true ∧ Ext w w12) := by
  refine (carracklaw22_works_spec _).mono ?_
  rintro _ w'' ⟨rfl, he⟩
  exact ⟨_, rfl, rfl, h.trans he⟩
theorem carracklaw22_JourPages_spec {w : World} (size : Int) (hsz : size < 9223372036854775808) (hsz0 : -9223372036854775808 ≤ size) (t : Turn) {a : Option Addr} {b : List UInt8} {c : Nat} (hb : BytesAt w a b) :
    CallsR prog K.carracklaw22_JourPages #[.int .i64 size, turnV t, .slice a b.length c] w fun v w' => v = .bool true ∧ Ext w w' := by
  apply carracklaw22_JourPages.sh
  unfold carracklaw22_JourPages.body
  intro B1 w1 hn1
  refine ⟨_, _, _, cells_all (vs := t.vals) hn1.get, ?_⟩
  refine (jour_Put_spec size t w1).mono ?_
  rintro _ w2 ⟨he2, a1, c1, rfl, hb2, hf2, hc2⟩
  refine ⟨_, _, _, _, rfl, _, _, _, cells_all (vs := t.vals) (he2.get hn1.get), ?_⟩
  refine (carrackref22_Put_spec size t w2 hsz hsz0).mono ?_
  rintro _ w3 ⟨he3, a2, c2, rfl, hb3, hf3, hc3⟩
  refine ⟨_, _, _, _, rfl, ?_⟩
  have e3 := (hn1.upd.trans he2).trans he3
  refine (jour_Get_spec (c := c) (RowAt.ext hb e3)).mono ?_
  rintro _ w4 ⟨he4, rfl⟩
  refine ⟨_, _, _, _, rfl, new_put rfl fun B2 w6 hB2 hs6 he6 hg6 => ?_⟩
  have e6 := (e3.trans he4).trans he6
  refine (carrackref22_Get_spec (c := c) (RowAt.ext hb e6)).mono ?_
  rintro _ w7 ⟨he7, rfl⟩
  refine ⟨_, _, _, _, rfl, new_put rfl fun B3 w9 hB3 hs9 he9 hg9 => ?_⟩
  have e9 := (e6.trans he7).trans he9
  have e29 : Ext w2 w9 := (((he3.trans he4).trans he6).trans he7).trans he9
  have hsmall : (putTurn size t).1.length ≤ 1000000000000 := by
    unfold putTurn
    split
    · simp
    · rename_i hc
      have hs : isSize size = true := by
        cases h : isSize size with
        | true => rfl
        | false => exact absurd (.inr h) hc
      simp [isSize] at hs
      have hb : t.body.length = 3 := rfl
      rw [pageOf_length _ _ _ (by rw [hb]; omega)]
      omega
  refine ⟨fun u => Ext w9 u, ?_, fun w11 he11 => ?_⟩
  · refine (carrackref00_Same_spec (c := c1) (d := c2) (RowAt.ext hb2 e29) (RowAt.ext hb3 (((he4.trans he6).trans he7).trans he9)) hsmall).mono ?_
    rintro _ w10 ⟨rfl, he10⟩
    refine ⟨_, rfl, ?_⟩
    simp only [beq_self_eq_true, Bool.not_true, br_false]
    refine br_ne (fun h => (h rfl).elim) fun _ => ?_
    refine ⟨_, _, _, cells_all (he10.get (he9.get (he7.get hg6))), _, _, _, cells_all (he10.get hg9), ?_⟩
    rw [turn_same]
    simp only [Bool.not_true, br_false]
    exact br_ne (fun h => (h rfl).elim) fun _ => he10
  · have e11 := e9.trans he11
    refine br_ne (fun hne => works22 e11) fun hz => ?_
    have hmay : t.may = true ∧ isSize size = true := by
      have hp : (putTurn size t).2 = 0 := by omega
      unfold putTurn at hp
      split at hp
      · cases hp
      · rename_i hc
        constructor
        · cases h : t.may with
          | true => rfl
          | false => exact absurd (.inl h) hc
        · cases h : isSize size with
          | true => rfl
          | false => exact absurd (.inr h) hc
    have hp1 : (putTurn size t).1 = pageOf size.toNat 7 t.body := by
      unfold putTurn
      rw [if_neg (by rw [hmay.1, hmay.2]; simp)]
    have hs := hmay.2
    have hs' := hs
    simp [isSize] at hs'
    have hgp : getPage (pageOf size.toNat 7 t.body) = (7, t.body, 0) := getPage_pageOf (by rw [Int.toNat_of_nonneg (by omega)]; exact hs) (by decide) (by decide) (by show 3 + 5 ≤ _; omega)
    rw [hp1] at hb2 hc2 ⊢
    refine (seal_Get_spec (c := c1) (RowAt.ext hb2 (e29.trans he11)) hc2).mono ?_
    rintro _ w13 ⟨he13, a3, c3, rfl, hb13, hc13⟩
    rw [hgp] at hb13 ⊢
    refine ⟨_, _, _, _, _, rfl, ?_⟩
    refine (jour_Get_spec (c := c3) hb13).mono ?_
    rintro _ w14 ⟨he14, rfl⟩
    rw [getTurn_body hmay.1]
    refine ⟨_, _, _, _, rfl, new_put rfl fun B4 w16 hB4 hs16 he16 hg16 => ?_⟩
    have e1116 : Ext w11 w16 := (he13.trans he14).trans he16
    refine br_eq (fun _ => br_eq (fun _ => ?_) fun h => (h rfl).elim) fun h => (h rfl).elim
    refine ⟨_, _, _, cells_all hg16, _, _, _, cells_all (vs := t.vals) (e1116.get (he11.get (e29.get (he2.get hn1.get)))), ?_⟩
    rw [turn_same]
    simp only [br_true]
    exact br_eq (fun _ => works22 (e11.trans e1116)) fun h => (h rfl).elim
end Go.Den
end
section
set_option linter.unusedVariables false
set_option linter.unusedSimpArgs false
set_option maxRecDepth 4000
namespace Go.Den
theorem u32_byte (x : UInt8) : IntKind.u32.wrap (x.toNat : Int) = (x.toNat : Int) := by
  have := x.toNat_lt
  exact wu32 (by omega) (by omega)
theorem carracklaw22_JourSays_spec {w : World} {Gin : Nat → Prop} {ha aa : Option Addr} {hvs : List Value} {hs : List Hit} {acts : List JAct} {hc ac : Nat} (hr : RowAt w ha hvs) (hh : HitRow w Gin hvs hs) (hG : ∀ x, Gin x → x < w.heap.size) (hap : hs ≠ [] → ∀ q, ha = some q → q.block < w.heap.size)
    (hm : ∀ t ∈ hs, t.mask.length ≤ 140737488355232) (ar : RowAt w aa (acts.flatMap JAct.vals)) (era : UInt8) :
    CallsR prog K.carracklaw22_JourSays #[.slice ha hs.length hc, .slice aa acts.length ac, bv era] w fun v w' => v = .bool true ∧ Ext w w' := by
  apply carracklaw22_JourSays.sh
  unfold carracklaw22_JourSays.body
  refine (carracklaw22_played_spec hr hh hG hap hm ar).mono ?_
  rintro _ w1 ⟨he1, S, q, c, rfl, hS, hc1, hci, hnb, hnp, hsz, hd0, hq, hB⟩
  have hs1 := he1.size
  refine ⟨_, _, rfl, br_intro (fun h => by cases h) fun _ => ?_⟩
  rw [u32_byte]
  have hera := era.toNat_lt
  refine (jour_Says_spec hc1 (by omega) era.toNat).mono ?_
  rintro _ w2 ⟨he2, rfl⟩
  refine ⟨_, _, _, _, _, _, rfl, new_put rfl fun B1 w4 hB1 hs4 he4 hg4 => ?_⟩
  have e4 := (he1.trans he2).trans he4
  refine br_eq (fun h0 => ?_) fun h0 => ?_
  · have h0' : era.toNat = 0 := by omega
    have e1 : saysErr c era.toNat = 2 := by rw [saysErr, if_neg (by rw [hd0]; simp), if_pos h0']
    have e2 : saysOut c era.toNat = Saying.zero := by rw [saysOut, if_pos (.inr h0')]
    rw [e1, e2]
    exact br_eq (fun _ => br_intro (fun _ => br_intro (fun _ => works22 e4) fun h => by cases h) fun h => by cases h) fun h => (h rfl).elim
  · have h0' : era.toNat ≠ 0 := by omega
    have e1 : saysErr c era.toNat = 0 := by rw [saysErr, if_neg (by rw [hd0]; simp), if_neg h0']
    have e2 : saysOut c era.toNat = refSays c era.toNat := by rw [saysOut, if_neg (by rintro (h | h); rw [hd0] at h; cases h; exact h0' h), says_ref hci hd0]
    rw [e2] at hg4
    rw [e1, e2]
    refine (carrackref22_Says_spec ((hc1.ext he2).ext he4) hd0 (fun t ht => (((ref_mem hci hd0 c.nb (Nat.le_refl _)).1 t).1 ht).1) era.toNat).mono ?_
    rintro _ w6 ⟨he6, rfl⟩
    refine ⟨_, _, _, _, _, rfl, new_put rfl fun B2 w8 hB2 hs8 he8 hg8 => ?_⟩
    refine br_eq (fun _ => ?_) fun h => (h rfl).elim
    refine br_intro (fun _ => br_intro (fun _ => ?_) fun h => by simp at h) fun h => by simp at h
    refine ⟨_, _, _, cells_all (he8.get (he6.get hg4)), _, _, _, cells_all hg8, ?_⟩
    rw [turn_same]
    simp only [br_true]
    exact works22 ((e4.trans he6).trans he8)
end Go.Den
end
section
set_option linter.unusedVariables false
set_option linter.unusedSimpArgs false
set_option maxRecDepth 4000
namespace Go.Den
theorem setHits_read (c : Chip) (hs : List Hit) (era : Nat) (l : List Taken) : saysL (c.setHits hs).1 era l = saysL c era l := by
  unfold Chip.setHits
  split <;> rfl
theorem setHits_taken (P : Pool) (c : Chip) (hs : List Hit) : takenPool P (c.setHits hs).1 = takenPool P c := by
  unfold Chip.setHits
  split <;> rfl
theorem carracklaw22_JourCuts_spec {w : World} {aa : Option Addr} {acts : List JAct} {ac : Nat} (ar : RowAt w aa (acts.flatMap JAct.vals)) (era : UInt8) (t : Turn) (after : UInt8) {ma : Option Addr} {mask : List UInt8} {mc : Nat} (hmk : BytesAt w ma mask) (hml : mask.length ≤ 140737488355232) :
    CallsR prog K.carracklaw22_JourCuts #[.slice aa acts.length ac, bv era, turnV t, bv after, .slice ma mask.length mc] w fun v w' => v = .bool true ∧ Ext w w' := by
  apply carracklaw22_JourCuts.sh
  unfold carracklaw22_JourCuts.body
  simp only [add_lit, Nat.zero_add]
  intro B1 w1 hn1
  have hn1s := hn1.size
  have hB1 := hn1.num
  refine (carracklaw22_played_spec (Gin := NoB) (ha := none) (hvs := []) (hs := []) (hc := 0) (RowAt.nil _ _) rfl (fun x hx => hx.elim) (fun h => (h rfl).elim) (fun t ht => by simp at ht) (RowAt.ext ar hn1.upd)).mono ?_
  rintro _ w2 ⟨he2, S, q, c, rfl, hS, hc2, hci, hnb, hnp, hsz, hd0, hq, hB⟩
  have hs2 := he2.size
  have e2 : Ext w w2 := hn1.upd.trans he2
  have hera := era.toNat_lt
  have gB2 : SayAt w2 B1 t := he2.get hn1.get
  refine ⟨_, _, rfl, fun u => Ext w2 u ∧ era.toNat ≠ 0 ∧ t.may = true, ?_, ?_⟩
  · refine br_intro (fun h => by cases h) fun _ => br_eq (fun h0 => br_intro (fun _ => works22 e2) fun h => by cases h) fun h0 => ?_
    refine ⟨_, _, _, cells_all (vs := t.vals) gB2, ?_⟩
    refine (carrackref22_May_spec t w2).mono ?_
    rintro _ w5 ⟨rfl, he5⟩
    refine ⟨_, rfl, br_intro (fun hn => br_intro (fun _ => works22 (e2.trans he5)) fun h => by cases h) fun hy => ⟨he5, by omega, by simpa using hy⟩⟩
  rintro w7 ⟨he7, h0, hmay⟩
  have hs7 := he7.size
  have hc7 := hc2.ext he7
  rw [u32_byte]
  refine (jour_Says_spec hc7 (by omega) era.toNat).mono ?_
  rintro _ w8 ⟨he8, rfl⟩
  have e1 : saysOut c era.toNat = jourSays c era.toNat := by rw [saysOut, if_neg (by rintro (h | h); rw [hd0] at h; cases h; exact h0 h)]
  rw [e1]
  have hs8 := he8.size
  refine ⟨_, _, _, _, _, _, rfl, new_put rfl fun B2 w10 hB2 hs10 he10 hg10 => ?_⟩
  have e710 : Ext w7 w10 := he8.trans he10
  have hc10 := hc7.ext e710
  refine (cScanF hc10).mono ?_
  rintro _ w11 ⟨he11, hv⟩
  rw [if_neg (by rw [hd0]; simp)] at hv
  obtain ⟨M, rfl, rfl, hp11⟩ := hv
  have hs11 := he11.size
  obtain ⟨hinv, hlast⟩ := scan_inv hci hd0
  have hl := hlast _ hB
  have hjs : jourSays c era.toNat = saysL c era.toNat (takenPool (scanPool c) c) := rfl
  generalize scanPool c = P at *
  refine ⟨_, _, rfl, by omega, fun B3 w12 hn12 => ?_⟩
  have hB3 := hn12.num
  have hs12 := hn12.size
  have hp12 := hp11.ext hn12.upd
  have et : Int.tmod (after.toNat : Int) 3 = ((after.toNat % 3 : Nat) : Int) := tmod_nat _ 3
  have hm3 : after.toNat % 3 < 3 := Nat.mod_lt _ (by omega)
  have eaf : IntKind.i64.wrap (Int.tmod (after.toNat : Int) 3) = ((after.toNat % 3 : Nat) : Int) := by rw [et, w64 (by omega) (by omega)]
  rw [eaf] at hn12
  have e12 : Ext w w12 := (((e2.trans he7).trans e710).trans he11).trans hn12.upd
  have hFw : ∀ x, (Bet w1.heap.size S x ∨ (w10.heap.size ≤ x ∧ x < w11.heap.size)) → w1.heap.size ≤ x ∧ x < w11.heap.size := by
    intro x hx
    rcases hx with hx | hx
    · have := hx.1; have := hx.2; omega
    · omega
  have hhr : HitRow w12 (fun x => x < w.heap.size) [Value.int .i64 ((after.toNat % 3 : Nat) : Int), .bool false, .slice ma mask.length mc] [⟨((after.toNat % 3 : Nat) : Int), false, mask⟩] := by
    refine ⟨ma, mc, [], rfl, RowAt.ext hmk e12, fun hne p hp => ?_, rfl⟩
    obtain ⟨b, o, e, hlt⟩ := RowAt.blk hmk (by simpa using hne)
    rw [hp] at e
    cases e
    exact hlt
  obtain ⟨h1, hh1, hl1⟩ : ∃ hs : List Hit, HitRow w12 (fun x => x < w.heap.size) [Value.int .i64 ((after.toNat % 3 : Nat) : Int), .bool false, .slice ma mask.length mc] hs ∧ hs = [⟨((after.toNat % 3 : Nat) : Int), false, mask⟩] := ⟨_, hhr, rfl⟩
  have hhits := pHitsF (hs := h1) (cp := 1) hp12 (by omega) (a := some ⟨B3, 0, none⟩) (RowAt.of hn12.get fun j v hj => by simpa using hj) hh1 (fun x hx hf => by have := hFw x hf; have hx' : x < w.heap.size := hx; omega) (fun _ q hq hf => by cases hq; have := hFw _ hf; simp only [] at this; omega) (by rw [hl1]; simp) (by rw [hl1]; intro t ht; simp at ht; subst ht; exact hml)
  have hcalm : ∀ t ∈ (c.setHits h1).1.hits, t.fails = false := by
    unfold Chip.setHits
    split
    · intro t ht; rw [hq] at ht; cases ht
    · intro t ht; rw [hl1] at ht; simp at ht; subst ht; rfl
  have hlh : (c.setHits h1).1.hits.length ≤ 1 := by
    unfold Chip.setHits
    split
    · rw [hq]; simp
    · rw [hl1]; simp
  obtain ⟨hg4, hd4, _⟩ := setHits_geo c h1
  have hi4 := setHits_inv hinv h1
  have hsr : jourSays c era.toNat = saysL (c.setHits h1).1 era.toNat (takenPool P (c.setHits h1).1) := by rw [setHits_read, setHits_taken]; exact hjs
  have hlen1 : h1.length = 1 := by rw [hl1]; rfl
  rw [hlen1] at hhits
  refine hhits.mono ?_
  rintro _ w13 ⟨rfl, hu13, hp13⟩
  refine ⟨_, rfl, ?_⟩
  rw [hd0] at hd4
  generalize (c.setHits h1).1 = c4 at *
  have hs13 := hu13.size
  have e212 : Ext w2 w12 := ((he7.trans e710).trans he11).trans hn12.upd
  have gB13 : SayAt w13 B1 t := hu13.get (e212.get gB2) (fun hf => by have := hFw _ hf; omega)
  refine ⟨_, _, _, cells_all (vs := t.vals) gB13, ?_⟩
  have hnb4 : c4.nb = 16 := hg4.1.trans hnb
  have hturn := hp13
  have htn : P.turn ≤ c4.nb := by
    obtain ⟨L, G, hpc, _⟩ := hp13
    exact hpc.turn
  have hbound : P.last + c4.nb * (c4.hits.length + 1) < 18446744073709551616 := by
    have : c4.nb * (c4.hits.length + 1) ≤ c4.nb * 2 := Nat.mul_le_mul_left _ (by omega)
    omega
  have hcut := cut_said hi4 hd4 hcalm htn (by omega) (by omega) (era := era.toNat) (by omega) (by omega) hmay hsr
  obtain ⟨kj, kg, _⟩ := jourWrite_inv hi4 (era := era.toNat) (by omega) t hbound htn
  refine (jour_Write_spec hp13 (fun x hx => by have := hFw x hx; omega) hi4 (era := era.toNat) (by omega) t hbound rfl).mono ?_
  rintro _ w14 ⟨rfl, hu14, hp14⟩
  have hs14 := hu14.size
  have e10_14 : Upd (fun x => Bet w1.heap.size S x ∨ (w10.heap.size ≤ x ∧ x < w11.heap.size)) w12 w14 := hu13.trans hu14
  have e14 : Ext w w14 := Upd.beyond e12 e10_14 (fun x hx => by have := hFw x hx; omega)
  have gB14 : SayAt w14 B1 t := hu14.get gB13 (fun hf => by have := hFw _ hf; omega)
  have gC14 : SayAt w14 B2 (jourSays c era.toNat).turn := e10_14.get (Ext.get hn12.upd (he11.get hg10)) (fun hf => by
    rcases hf with hf | hf
    · have := hf.2; omega
    · omega)
  generalize jourWrite P c4 era.toNat t = r at *
  refine ⟨_, rfl, ?_⟩
  refine (cPower hp14.chip (by omega)).mono ?_
  rintro _ w15 ⟨he15, p', rfl, hc15⟩
  refine ⟨_, _, rfl, ?_⟩
  have hnbr : r.2.1.power.nb = 16 := kg.1.trans hnb4
  refine (jour_Says_spec hc15 (by omega) era.toNat).mono ?_
  rintro _ w16 ⟨he16, rfl⟩
  have e2' : saysOut r.2.1.power era.toNat = jourSays r.2.1.power era.toNat := by rw [saysOut, if_neg (by rintro (h | h); cases h; exact h0 h)]
  have e3' : saysErr r.2.1.power era.toNat = 0 := by rw [saysErr, if_neg (by show ¬ (false = true); simp), if_neg h0]
  rw [e2', e3']
  refine ⟨_, _, _, _, _, _, rfl, new_put rfl fun B4 w18 hB4 hs18 he18 hg18 => ?_⟩
  have e14_18 : Ext w14 w18 := (he15.trans he16).trans he18
  have e18 : Ext w w18 := e14.trans e14_18
  generalize jourSays c era.toNat = s at *
  generalize jourSays r.2.1.power era.toNat = z at *
  have gB18 : SayAt w18 B1 t := e14_18.get gB14
  have gC18 : SayAt w18 B2 s.turn := e14_18.get gC14
  have hbt : s.begun = true → z.turn = s.turn := by
    intro hb
    rcases hcut with e | e
    · rw [e]
    · rw [e]; unfold sayTurn; rw [if_pos hb]
  have hdn : s.done = true → z.done = true := by
    intro hb
    rcases hcut with e | e
    · rw [e]; exact hb
    · rw [e]; unfold sayTurn; rw [hb]; rfl
  refine ⟨fun u => u = w18, ?_, ?_⟩
  · refine br_ne (fun h => (h rfl).elim) fun _ => ?_
    have dn : br s.done (br (!z.done) ((fun v w' => v = Value.bool true ∧ Ext w w') (Value.bool false) w18) (w18 = w18)) (w18 = w18) := by
      refine br_intro (fun h => ?_) fun _ => rfl
      rw [hdn h]
      rfl
    refine br_intro (fun hb => ?_) fun _ => dn
    refine ⟨_, _, _, cells_all (vs := s.turn.vals) gC18, _, _, _, cells_all (vs := z.turn.vals) (by have := hg18; exact this), ?_⟩
    rw [hbt hb, turn_same]
    exact dn
  rintro _ rfl
  rename_i w18
  have hwk := works22 e18
  have one : z = s ∨ z.begun = true ∧ z.done = (s.done || t.phase == 2) := by
    rcases hcut with e | e
    · exact .inl e
    · refine .inr ?_
      rw [e]
      exact ⟨rfl, rfl⟩
  have two : z.begun = true → z.done = (s.done || t.phase == 2) → br s.done (br (z.done == true) (CallsR prog K.carracklaw22_works #[] w18 fun v13 w21 => ∃ b11 : Bool, v13 = Value.bool b11 ∧ (fun v w' => v = Value.bool true ∧ Ext w w') (Value.bool b11) w21) ((fun v w' => v = Value.bool true ∧ Ext w w') (Value.bool false) w18)) (
      ∃ x25 : Int, World.cell? w18 ⟨B1, 2, none⟩ = some (Value.int .u8 x25) ∧ br (z.done == (x25 == 2)) (CallsR prog K.carracklaw22_works #[] w18 fun v14 w22 => ∃ b12 : Bool, v14 = Value.bool b12 ∧ (fun v w' => v = Value.bool true ∧ Ext w w') (Value.bool b12) w22) ((fun v w' => v = Value.bool true ∧ Ext w w') (Value.bool false) w18)) := by
    intro _ hd
    refine br_intro (fun h => ?_) fun h => ?_
    · rw [hdn h]; exact hwk
    · refine ⟨_, cell_of gB18 rfl, ?_⟩
      rw [u8e2, hd, h, Bool.false_or, beq_self_eq_true]
      exact hwk
  have three : z ≠ s → z.begun = true ∧ z.done = (s.done || t.phase == 2) := fun hne => by
    rcases one with e | e
    · exact absurd e hne
    · exact e
  refine br_intro (fun hb => br_intro (fun hd => hwk) fun hd => ?_) fun hb => ?_
  · have hne : z ≠ s := fun e => by rw [e, beq_self_eq_true] at hd; cases hd
    obtain ⟨k1, k2⟩ := three hne
    rw [k1]
    exact two k1 k2
  · have hne : z ≠ s := fun e => by rw [e, beq_self_eq_true] at hb; cases hb
    obtain ⟨k1, k2⟩ := three hne
    rw [k1]
    exact two k1 k2
end Go.Den
end
section
namespace Go.Proofs.Ythdkbladjfabfaa.jourCuts
open Go.ChangeShapes Go.WideShapes Go.ChangeAt Go.RowKit Go.Den
set_option linter.unusedVariables false
set_option linter.unusedSimpArgs false
theorem own : ownKnob Try.prog.godebug = none := by kernel_rfl
theorem laidOut : laidOutB Try.prog = true := by kernel_rfl
theorem rowed : ∀ t ∈ Try.f6.params.toList, Try.prog.readableRec t = true ∧ t < Try.prog.types.size := by
  rw [Try.params6]
  intro t ht
  simp at ht
  rcases ht with rfl | rfl | rfl | rfl | rfl <;> exact ⟨by kernel_rfl, of_decide_eq_true (by kernel_rfl)⟩
set_option maxRecDepth 100000 in
theorem lifted (os : Os) (started : os.Started) (H : Type) (enc : TypeId × Value → H) :
    ReturnsInHanded {} Try.checked os 6 .any (Rows.jourCutsSpec.pre6 enc Try.prog Try.f6 Rows.jourCutsRow.domain false) (Rows.jourCutsSpec.post enc Try.prog Try.f6 false true false false) := by
  refine returnsInHanded_of_change_sized (C := Try.checked) own started (by kernel_rfl) Try.func6
    (ChangeSpec.witness6 (enc := enc) (C := Try.checked) false ⟨#[], #[.slice none 0 0, .int .u8 0, .agg #[.int .u8 0, .int .u8 0, .int .u8 0], .int .u8 0, .slice none 0 0], []⟩ 8 (by kernel_rfl) (by kernel_rfl) (by kernel_rfl) (by kernel_rfl)) ?_
  intro W base args ds gs before hval0 hW hcnd hsz _
  have hval : ∀ (j : Nat) t v, Try.f6.params[j]? = some t → args[j]? = some v → Value.okWide Try.prog W .any base t v := hval0
  have hW' := hW
  obtain ⟨p, q, hA0, hV, hpq, hfz, hnd⟩ := hW
  have hA : DataW.TrodAll enc Try.prog W 0 (fun _ => true) true Try.f6.params.toList args.toList ds p := hA0
  rw [Try.params6] at hA hval hsz
  obtain ⟨v0, vs0, d0, ds0, p0, q0, hargs, rfl, hp0, h0, r0⟩ := trodAll_cons hA
  obtain ⟨v1, vs1, d1, ds1, p1, q1, rfl, rfl, hp1, h1, r1⟩ := trodAll_cons r0
  obtain ⟨v2, vs2, d2, ds2, p2, q2, rfl, rfl, hp2, h2, r2⟩ := trodAll_cons r1
  obtain ⟨v3, vs3, d3, ds3, p3, q3, rfl, rfl, hp3, h3, r3⟩ := trodAll_cons r2
  obtain ⟨v4, vs4, d4, ds4, p4, q4, rfl, rfl, hp4, h4, r4⟩ := trodAll_cons r3
  obtain ⟨rfl, rfl, _⟩ := trodAll_nil r4
  obtain rfl : args = #[v0, v1, v2, v3, v4] := by cases args; simp_all
  obtain ⟨rfl, _⟩ := trodVars_none hV
  obtain ⟨sa0, sl0, sc0, rfl⟩ := okWide_slice Try.underlying54 (hval 0 54 v0 rfl rfl)
  obtain ⟨fuel0, hf0⟩ := h0
  obtain ⟨aa0, al0, ac0, hcs0, har0⟩ := open_jacts Try.underlying54 (by kernel_rfl) hf0
  simp [Value.cells] at hcs0
  obtain ⟨rfl, rfl, rfl⟩ := hcs0
  obtain ⟨a1, rfl, _, _, w1⟩ := open_int Try.underlying5 (hval 1 5 v1 rfl rfl) h1
  have hb1 := byte_bv w1
  obtain ⟨tx2, ty2, tz2, rfl, wx2, wy2, wz2⟩ := open_agg3 Try.underlying23 (by kernel_rfl) rfl rfl rfl rfl rfl rfl (by kernel_rfl) (by kernel_rfl) (by kernel_rfl) Try.underlying5 Try.underlying5 Try.underlying5 (hval 2 23 v2 rfl rfl) h2
  have hx2 := byte_bv wx2
  have hy2 := byte_bv wy2
  have hz2 := byte_bv wz2
  obtain ⟨a3, rfl, _, _, w3⟩ := open_int Try.underlying5 (hval 3 5 v3 rfl rfl) h3
  have hb3 := byte_bv w3
  obtain ⟨sa4, sl4, sc4, rfl⟩ := okWide_slice Try.underlying24 (hval 4 24 v4 rfl rfl)
  obtain ⟨fuel4, hf4⟩ := h4
  obtain ⟨ba4, bl4, bc4, hcs4, hlc4, hby4, hbn4, hbr4⟩ := open_bytes_fit Try.underlying24 Try.underlying5 (by kernel_rfl) hf4 (fits_each hsz (j := 4) rfl rfl)
  simp [Value.cells] at hcs4
  obtain ⟨rfl, rfl, rfl⟩ := hcs4
  rw [hb1, hx2, hy2, hz2, hb3] at hW' ⊢
  refine Calls.mono (carracklaw22_JourCuts_spec har0 (UInt8.ofNat a1.toNat) ⟨UInt8.ofNat tx2.toNat, UInt8.ofNat ty2.toNat, UInt8.ofNat tz2.toNat⟩ (UInt8.ofNat a3.toNat) hby4 (Nat.le_trans hbr4 (by decide))) fun e W' he => ?_
  obtain ⟨v, he, rfl, hx⟩ := he
  exact ⟨_, he, post_true laidOut hW' rfl rowed (Ext.below hx) Try.underlying4 (by kernel_rfl) rfl⟩
theorem proved : Rows.JourCutsSaid :=
  OpenClaim.holds_of_wide 6 Try.f6 rfl rfl rfl rfl rfl rfl rfl ⟨rfl, rfl, rfl, rfl, rfl⟩ rfl rfl rfl rfl rfl (by kernel_rfl) Try.func6 (by kernel_rfl)
    (of_decide_eq_true (by kernel_rfl)) (by unfold Func.isWrapper; first | (rw [if_pos (by decide +kernel)]; kernel_rfl) | (rw [if_neg (by decide +kernel)]; exact ⟨rfl, rfl⟩))
    (fun os started H enc _ => lifted os started H enc)
end Go.Proofs.Ythdkbladjfabfaa.jourCuts
end
