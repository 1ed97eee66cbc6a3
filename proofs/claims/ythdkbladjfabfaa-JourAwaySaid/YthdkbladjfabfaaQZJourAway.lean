/- The row of the law JourAway: for every input the law returns true, and its arguments read as they did. (Merged by program: LJourPages LJourSays LJourAway ZJourAway.) -/
import Derived.Test.YthdkbladjfabfaaQ5
import Derived.Test.YthdkbladjfabfaaRows
import Derived.WalkKit
section
set_option linter.unusedVariables false
set_option linter.unusedSimpArgs false
set_option maxRecDepth 4000
namespace Go.Den
theorem turn_eqb (a b : Turn) : (((a.from_.toNat : Int) == (b.from_.toNat : Int)) && (((a.to.toNat : Int) == (b.to.toNat : Int)) && (((a.phase.toNat : Int) == (b.phase.toNat : Int)) && true))) = decide (a = b) := by
  rw [u8b, u8b, u8b]
  obtain ⟨a1, a2, a3⟩ := a
  obtain ⟨b1, b2, b3⟩ := b
  rw [Bool.eq_iff_iff]
  simp
theorem turn_same (a : Turn) : (((a.from_.toNat : Int) == (a.from_.toNat : Int)) && (((a.to.toNat : Int) == (a.to.toNat : Int)) && (((a.phase.toNat : Int) == (a.phase.toNat : Int)) && true))) = true := by
  rw [turn_eqb]; simp
theorem works22 {w w' : World} (h : Ext w w') : CallsR prog K.carracklaw22_works #[] w' fun v6 w12 => ∃ b2 : Bool, v6 = Value.bool b2 ∧ (Value.bool b2 = .bool true ∧ Ext w w12) := by
  refine (carracklaw22_works_spec _).mono ?_
  rintro _ w'' ⟨rfl, he⟩
  exact ⟨_, rfl, rfl, h.trans he⟩
theorem carracklaw22_JourPages_spec {w : World} (size : Int) (hsz : size < 9223372036854775808) (hsz0 : -9223372036854775808 ≤ size) (t : Turn) {a : Option Addr} {b : List UInt8} {c : Nat} (hb : BytesAt w a b) :
    CallsR prog K.carracklaw22_JourPages #[.int .i64 size, turnV t, .slice a b.length c] w fun v w' => v = .bool true ∧ Ext w w' := by
  apply carracklaw22_JourPages.sh
  unfold carracklaw22_JourPages.body
  intro B1 w1 hn1
  refine ⟨_, _, _, cells_all (vs := t.vals) hn1.get, ?_⟩
  refine (jour_Put_spec size t w1).mono ?_
  rintro _ w2 ⟨he2, a1, c1, rfl, hb2, hf2, hc2⟩
  refine ⟨_, _, _, _, rfl, _, _, _, cells_all (vs := t.vals) (he2.get hn1.get), ?_⟩
  refine (carrackref22_Put_spec size t w2 hsz hsz0).mono ?_
  rintro _ w3 ⟨he3, a2, c2, rfl, hb3, hf3, hc3⟩
  refine ⟨_, _, _, _, rfl, ?_⟩
  have e3 := (hn1.upd.trans he2).trans he3
  refine (jour_Get_spec (c := c) (RowAt.ext hb e3)).mono ?_
  rintro _ w4 ⟨he4, rfl⟩
  refine ⟨_, _, _, _, rfl, new_put rfl fun B2 w6 hB2 hs6 he6 hg6 => ?_⟩
  have e6 := (e3.trans he4).trans he6
  refine (carrackref22_Get_spec (c := c) (RowAt.ext hb e6)).mono ?_
  rintro _ w7 ⟨he7, rfl⟩
  refine ⟨_, _, _, _, rfl, new_put rfl fun B3 w9 hB3 hs9 he9 hg9 => ?_⟩
  have e9 := (e6.trans he7).trans he9
  have e29 : Ext w2 w9 := (((he3.trans he4).trans he6).trans he7).trans he9
  have hsmall : (putTurn size t).1.length ≤ 1000000000000 := by
    unfold putTurn
    split
    · simp
    · rename_i hc
      have hs : isSize size = true := by
        cases h : isSize size with
        | true => rfl
        | false => exact absurd (.inr h) hc
      simp [isSize] at hs
      have hb : t.body.length = 3 := rfl
      rw [pageOf_length _ _ _ (by rw [hb]; omega)]
      omega
  refine ⟨fun u => Ext w9 u, ?_, fun w11 he11 => ?_⟩
  · refine (carrackref00_Same_spec (c := c1) (d := c2) (RowAt.ext hb2 e29) (RowAt.ext hb3 (((he4.trans he6).trans he7).trans he9)) hsmall).mono ?_
    rintro _ w10 ⟨rfl, he10⟩
    refine ⟨_, rfl, ?_⟩
    simp only [beq_self_eq_true, Bool.not_true, br_false]
    refine br_ne (fun h => (h rfl).elim) fun _ => ?_
    refine ⟨_, _, _, cells_all (he10.get (he9.get (he7.get hg6))), _, _, _, cells_all (he10.get hg9), ?_⟩
    rw [turn_same]
    simp only [Bool.not_true, br_false]
    exact br_ne (fun h => (h rfl).elim) fun _ => he10
  · have e11 := e9.trans he11
    refine br_ne (fun hne => works22 e11) fun hz => ?_
    have hmay : t.may = true ∧ isSize size = true := by
      have hp : (putTurn size t).2 = 0 := by omega
      unfold putTurn at hp
      split at hp
      · cases hp
      · rename_i hc
        constructor
        · cases h : t.may with
          | true => rfl
          | false => exact absurd (.inl h) hc
        · cases h : isSize size with
          | true => rfl
          | false => exact absurd (.inr h) hc
    have hp1 : (putTurn size t).1 = pageOf size.toNat 7 t.body := by
      unfold putTurn
      rw [if_neg (by rw [hmay.1, hmay.2]; simp)]
    have hs := hmay.2
    have hs' := hs
    simp [isSize] at hs'
    have hgp : getPage (pageOf size.toNat 7 t.body) = (7, t.body, 0) := getPage_pageOf (by rw [Int.toNat_of_nonneg (by omega)]; exact hs) (by decide) (by decide) (by show 3 + 5 ≤ _; omega)
    rw [hp1] at hb2 hc2 ⊢
    refine (seal_Get_spec (c := c1) (RowAt.ext hb2 (e29.trans he11)) hc2).mono ?_
    rintro _ w13 ⟨he13, a3, c3, rfl, hb13, hc13⟩
    rw [hgp] at hb13 ⊢
    refine ⟨_, _, _, _, _, rfl, ?_⟩
    refine (jour_Get_spec (c := c3) hb13).mono ?_
    rintro _ w14 ⟨he14, rfl⟩
    rw [getTurn_body hmay.1]
    refine ⟨_, _, _, _, rfl, new_put rfl fun B4 w16 hB4 hs16 he16 hg16 => ?_⟩
    have e1116 : Ext w11 w16 := (he13.trans he14).trans he16
    refine br_eq (fun _ => br_eq (fun _ => ?_) fun h => (h rfl).elim) fun h => (h rfl).elim
    refine ⟨_, _, _, cells_all hg16, _, _, _, cells_all (vs := t.vals) (e1116.get (he11.get (e29.get (he2.get hn1.get)))), ?_⟩
    rw [turn_same]
    simp only [br_true]
    exact br_eq (fun _ => works22 (e11.trans e1116)) fun h => (h rfl).elim
end Go.Den
end
section
set_option linter.unusedVariables false
set_option linter.unusedSimpArgs false
set_option maxRecDepth 4000
namespace Go.Den
theorem u32_byte (x : UInt8) : IntKind.u32.wrap (x.toNat : Int) = (x.toNat : Int) := by
  have := x.toNat_lt
  exact wu32 (by omega) (by omega)
theorem carracklaw22_JourSays_spec {w : World} {Gin : Nat → Prop} {ha aa : Option Addr} {hvs : List Value} {hs : List Hit} {acts : List JAct} {hc ac : Nat} (hr : RowAt w ha hvs) (hh : HitRow w Gin hvs hs) (hG : ∀ x, Gin x → x < w.heap.size) (hap : hs ≠ [] → ∀ q, ha = some q → q.block < w.heap.size)
    (hm : ∀ t ∈ hs, t.mask.length ≤ 140737488355232) (ar : RowAt w aa (acts.flatMap JAct.vals)) (era : UInt8) :
    CallsR prog K.carracklaw22_JourSays #[.slice ha hs.length hc, .slice aa acts.length ac, bv era] w fun v w' => v = .bool true ∧ Ext w w' := by
  apply carracklaw22_JourSays.sh
  unfold carracklaw22_JourSays.body
  refine (carracklaw22_played_spec hr hh hG hap hm ar).mono ?_
  rintro _ w1 ⟨he1, S, q, c, rfl, hS, hc1, hci, hnb, hnp, hsz, hd0, hq, hB⟩
  have hs1 := he1.size
  refine ⟨_, _, rfl, br_intro (fun h => by cases h) fun _ => ?_⟩
  rw [u32_byte]
  have hera := era.toNat_lt
  refine (jour_Says_spec hc1 (by omega) era.toNat).mono ?_
  rintro _ w2 ⟨he2, rfl⟩
  refine ⟨_, _, _, _, _, _, rfl, new_put rfl fun B1 w4 hB1 hs4 he4 hg4 => ?_⟩
  have e4 := (he1.trans he2).trans he4
  refine br_eq (fun h0 => ?_) fun h0 => ?_
  · have h0' : era.toNat = 0 := by omega
    have e1 : saysErr c era.toNat = 2 := by rw [saysErr, if_neg (by rw [hd0]; simp), if_pos h0']
    have e2 : saysOut c era.toNat = Saying.zero := by rw [saysOut, if_pos (.inr h0')]
    rw [e1, e2]
    exact br_eq (fun _ => br_intro (fun _ => br_intro (fun _ => works22 e4) fun h => by cases h) fun h => by cases h) fun h => (h rfl).elim
  · have h0' : era.toNat ≠ 0 := by omega
    have e1 : saysErr c era.toNat = 0 := by rw [saysErr, if_neg (by rw [hd0]; simp), if_neg h0']
    have e2 : saysOut c era.toNat = refSays c era.toNat := by rw [saysOut, if_neg (by rintro (h | h); rw [hd0] at h; cases h; exact h0' h), says_ref hci hd0]
    rw [e2] at hg4
    rw [e1, e2]
    refine (carrackref22_Says_spec ((hc1.ext he2).ext he4) hd0 (fun t ht => (((ref_mem hci hd0 c.nb (Nat.le_refl _)).1 t).1 ht).1) era.toNat).mono ?_
    rintro _ w6 ⟨he6, rfl⟩
    refine ⟨_, _, _, _, _, rfl, new_put rfl fun B2 w8 hB2 hs8 he8 hg8 => ?_⟩
    refine br_eq (fun _ => ?_) fun h => (h rfl).elim
    refine br_intro (fun _ => br_intro (fun _ => ?_) fun h => by simp at h) fun h => by simp at h
    refine ⟨_, _, _, cells_all (he8.get (he6.get hg4)), _, _, _, cells_all hg8, ?_⟩
    rw [turn_same]
    simp only [br_true]
    exact works22 ((e4.trans he6).trans he8)
end Go.Den
end
section
set_option linter.unusedVariables false
set_option linter.unusedSimpArgs false
set_option maxRecDepth 4000
namespace Go.Den
theorem carracklaw22_JourAway_spec {w : World} {Gin : Nat → Prop} {ha aa : Option Addr} {hvs : List Value} {hs : List Hit} {acts : List JAct} {hc ac : Nat} (hr : RowAt w ha hvs) (hh : HitRow w Gin hvs hs) (hG : ∀ x, Gin x → x < w.heap.size) (hap : hs ≠ [] → ∀ q, ha = some q → q.block < w.heap.size)
    (hm : ∀ t ∈ hs, t.mask.length ≤ 140737488355232) (ar : RowAt w aa (acts.flatMap JAct.vals)) :
    CallsR prog K.carracklaw22_JourAway #[.slice ha hs.length hc, .slice aa acts.length ac] w fun v w' => v = .bool true ∧ Ext w w' := by
  apply carracklaw22_JourAway.sh
  unfold carracklaw22_JourAway.body
  refine (carracklaw22_played_spec hr hh hG hap hm ar).mono ?_
  rintro _ w1 ⟨he1, S, q, c, rfl, hS, hc1, hci, hnb, hnp, hsz, hd0, hq, hB⟩
  have hs1 := he1.size
  refine ⟨_, _, rfl, br_intro (fun h => by cases h) fun _ => ?_⟩
  refine (rTaken hc1).mono ?_
  rintro _ w2 ⟨he2, a1, c1, rfl, ho2, hf2⟩
  have hs2 := he2.size
  refine ⟨_, _, _, rfl, ?_⟩
  refine (cScanF (hc1.ext he2)).mono ?_
  rintro _ w3 ⟨he3, hv⟩
  rw [if_neg (by rw [hd0]; simp)] at hv
  obtain ⟨M, rfl, rfl, hp3⟩ := hv
  have hs3 := he3.size
  obtain ⟨hinv, hlast⟩ := scan_inv hci hd0
  have htr := taken_ref hinv hd0
  obtain ⟨k1, k2, k3, k4⟩ := jourAway_said hinv hd0 hq
  obtain ⟨_, kg, _⟩ := jourAway_inv hinv
  generalize scanPool c = P at *
  refine ⟨_, _, rfl, ?_⟩
  refine (jour_Away_spec hp3 (fun x hx => by rcases hx with hx | hx; have := hx.2; omega; exact hx.2) (by omega) rfl).mono ?_
  rintro _ w4 ⟨rfl, hu4, hp4⟩
  have hs4 := hu4.size
  have htr4 := taken_ref k1 k2
  generalize jourAway P c = r at *
  rw [k3]
  refine ⟨_, rfl, ?_⟩
  refine (rTaken hp4.chip).mono ?_
  rintro _ w5 ⟨he5, a2, c2, rfl, ho5, hf5⟩
  have hs5 := he5.size
  have e13 : Ext w w3 := (he1.trans he2).trans he3
  have e5 : Ext w w5 := (Upd.beyond e13 hu4 (fun x hx => by rcases hx with hx | hx; exact hx.1; omega)).trans he5
  rw [← htr4, k4, htr] at ho5 ⊢
  have hll : (refTaken c).length ≤ 64 := by
    have := refGo_length c c.nb
    have := hci.ok.nb2
    unfold refTaken
    omega
  have ha1 : ∀ z, a1 = some z → w1.heap.size ≤ z.block ∧ z.block < w2.heap.size := by
    intro z hz
    refine ⟨hf2 z hz, ?_⟩
    obtain ⟨_, _, hx⟩ := ho2
    rcases hx with ⟨hx, _⟩ | ⟨b, cur, hx, hb', _⟩
    · rw [hx] at hz; cases hz
    · rw [hx] at hz; cases hz; exact (Array.getElem?_eq_some_iff.1 hb').1
  have hr1 : RowAt w5 a1 ((refTaken c).flatMap Taken.vals) := RowAt.ext (RowAt.upd (RowAt.ext ho2.row he3) hu4 (fun z hz hb => by
    have := ha1 z hz
    rcases hb with hb | hb
    · have := hb.2; omega
    · omega)) he5
  generalize hL : refTaken c = l at *
  have hflt : ∀ i, ((l.take i).filter fun y => !isAway y).length ≤ i := fun i => filter_take_len _ _ _
  -- what is wanted
  refine ⟨_, _, _, rfl, fun a n cp x u => ∃ i : Nat, x = i ∧ i ≤ l.length ∧ Ext w5 u ∧ n = ((l.take i).filter fun y => !isAway y).length ∧ OwnAt u a ((l.take i).filter fun y => !isAway y).length cp T.api_Taken 5 (((l.take i).filter fun y => !isAway y).flatMap Taken.vals) ∧ Fresh w5 a,
    fun _ _ _ x _ => (l.length - x).toNat, ⟨0, rfl, by omega, Upd.refl _ _, by simp, by simpa using OwnAt.nil _ _ _, Fresh.none _⟩, ?_⟩
  rintro a n cp x u ⟨i, rfl, hil, hu, rfl, ho, hfa⟩
  refine br_dec (fun hlt => ?_) fun hge => ?_
  · have hi' : i < l.length := by omega
    have e1 : IntKind.i64.wrap ((i : Int) + 1) = ((i + 1 : Nat) : Int) := w64 (by omega) (by omega)
    rw [e1]
    have hsucc := filter_take_succ (fun y => !isAway y) hi'
    have hrow := RowAt.ext hr1 hu
    refine ⟨fun a n cp v => Ext w5 v ∧ n = ((l.take (i + 1)).filter fun y => !isAway y).length ∧ OwnAt v a ((l.take (i + 1)).filter fun y => !isAway y).length cp T.api_Taken 5 (((l.take (i + 1)).filter fun y => !isAway y).flatMap Taken.vals) ∧ Fresh w5 a, ?_, ?_⟩
    · have add : isAway l[i] = false → idxP a1 l.length (i : Int) 5 fun q2 => ∃ x5 : Int, ∃ x6 : Int, ∃ x7 : Int, ∃ x8 : Int, ∃ b2 : Bool, cellsAt u q2 [Value.int .i64 x5, Value.int .u8 x6, Value.int .u32 x7, Value.int .u64 x8, Value.bool b2] 0 ∧
          ∀ (B1 : Nat) (w7 : World), New u (.cells #[Value.int .i64 x5, Value.int .u8 x6, Value.int .u32 x7, Value.int .u64 x8, Value.bool b2] T.api_Taken) B1 w7 →
          appendP T.api_Taken 5 32 [Value.int .i64 0, Value.int .u8 0, Value.int .u32 0, Value.int .u64 0, Value.bool false] a ((l.take i).filter fun y => !isAway y).length cp (Value.slice (some ⟨B1, 0, none⟩) 1 1) w7 fun a4 l4 c4 w8 =>
            Ext w5 w8 ∧ l4 = ((l.take (i + 1)).filter fun y => !isAway y).length ∧ OwnAt w8 a4 ((l.take (i + 1)).filter fun y => !isAway y).length c4 T.api_Taken 5 (((l.take (i + 1)).filter fun y => !isAway y).flatMap Taken.vals) ∧ Fresh w5 a4 := by
        intro hno
        rw [hno] at hsucc
        simp only [Bool.not_false, if_true] at hsucc
        refine idx_flat (f := Taken.vals) Taken.vals_length (by omega) hrow rfl hi' fun b o hab hr => ?_
        refine ⟨l[i].block, l[i].head.kind.toNat, l[i].head.era, l[i].head.seq, l[i].bad, RowAt.cells hr, fun B1 w7 hn7 => ?_⟩
        have hlen := hflt i
        have ho7 := OwnAt.ext ho hn7.upd
        rw [hsucc]
        generalize ((l.take i).filter fun y => !isAway y) = m at *
        refine append_flat (f := Taken.vals) Taken.vals_length ho7 (x := l[i]) rfl hn7 rfl (oneCell_taken _) rfl (by omega) (by omega) fun a' c' w8 hu8 ho8 hf8 => ?_
        refine ⟨Upd.beyond (hu.trans hn7.upd) hu8 (fun x hx => hfa _ hx), rfl, ho8, ?_⟩
        rcases hf8 with rfl | ⟨b, rfl, hb⟩
        · exact hfa
        · exact Fresh.some (by have := hu.size; have := hn7.size; omega)
      refine idx_flat (f := Taken.vals) Taken.vals_length (by omega) hrow rfl hi' fun b o hab hr => ?_
      obtain ⟨b', o', hab', hcc⟩ := RowAt.cell hr (i := 1) (v := bv l[i].head.kind) rfl
      cases hab'
      simp only [add_lit]
      refine ⟨_, hcc, br_ne (fun hk => add (by rw [isAway, decide_eq_false (fun e => hk (by rw [e]; rfl))]; rfl)) fun hk => ?_⟩
      have hk' : l[i].head.kind = 3 := (u8i _ 3 (by omega)).1 hk
      refine idx_flat (f := Taken.vals) Taken.vals_length (by omega) hrow rfl hi' fun b o hab hr => ?_
      obtain ⟨b', o', hab', hcc⟩ := RowAt.cell hr (i := 4) (v := .bool l[i].bad) rfl
      cases hab'
      simp only [add_lit]
      refine ⟨_, hcc, br_intro (fun hb => add (by rw [isAway, hb]; simp)) fun hb => ?_⟩
      have hyes : isAway l[i] = true := by rw [isAway, hb, decide_eq_true hk']; rfl
      rw [hyes] at hsucc
      simp only [Bool.not_true, Bool.false_eq_true, if_false] at hsucc
      rw [hsucc]
      exact ⟨hu, rfl, ho, hfa⟩
    · rintro a6 l6 c6 w11 ⟨hu', hn', ho', hf'⟩
      exact ⟨⟨i + 1, rfl, hi', hu', hn', ho', hf'⟩, meas hi'⟩
  · have hil' : i = l.length := by omega
    subst hil'
    rw [List.take_length] at ho ⊢
    have hml : ((l.filter fun y => !isAway y)).length ≤ 64 := by
      have := List.length_filter_le (fun y => !isAway y) l
      omega
    generalize ((l.filter fun y => !isAway y)) = m at *
    have hrA := RowAt.ext ho5.row hu
    have hrB := ho.row
    refine br_ne (fun h => (h rfl).elim) fun _ => br_ne (fun h => (h rfl).elim) fun _ => ?_
    refine ⟨fun x v => ∃ j : Nat, x = j ∧ j ≤ m.length ∧ Ext u v, fun x _ => (m.length - x).toNat, ⟨0, rfl, by omega, Upd.refl _ _⟩, ?_⟩
    rintro x v ⟨j, rfl, hj, hv⟩
    refine br_dec (fun hlt => ?_) fun hge2 => works22 ((e5.trans hu).trans hv)
    have hj' : j < m.length := by omega
    have e1 : IntKind.i64.wrap ((j : Int) + 1) = ((j + 1 : Nat) : Int) := w64 (by omega) (by omega)
    intro w13 hd13
    have e13' : Ext u w13 := hv.trans hd13.upd
    refine ⟨fun z => z = w13, rfl, ?_⟩
    refine idx_flat (f := Taken.vals) Taken.vals_length (by omega) (RowAt.ext hrA e13') rfl hj' fun b o hab hr => ?_
    refine ⟨m[j].block, m[j].head.kind.toNat, m[j].head.era, m[j].head.seq, m[j].bad, fun z hz => hz ▸ RowAt.cells hr, ?_⟩
    refine idx_flat (f := Taken.vals) Taken.vals_length (by omega) (RowAt.ext hrB e13') rfl hj' fun b o hab hr => ?_
    refine ⟨m[j].block, m[j].head.kind.toNat, m[j].head.era, m[j].head.seq, m[j].bad, fun z hz => hz ▸ RowAt.cells hr, ?_⟩
    simp only [beq_self_eq_true, Bool.and_self, Bool.not_true, br_false]
    rw [e1]
    exact ⟨⟨j + 1, rfl, hj', e13'⟩, meas hj'⟩
end Go.Den
end
section
namespace Go.Proofs.Ythdkbladjfabfaa.jourAway
open Go.ChangeShapes Go.WideShapes Go.ChangeAt Go.RowKit Go.Den
set_option linter.unusedVariables false
set_option linter.unusedSimpArgs false
theorem own : ownKnob Try.prog.godebug = none := by kernel_rfl
theorem laidOut : laidOutB Try.prog = true := by kernel_rfl
theorem rowed : ∀ t ∈ Try.f7.params.toList, Try.prog.readableRec t = true ∧ t < Try.prog.types.size := by
  rw [Try.params7]
  intro t ht
  simp at ht
  rcases ht with rfl | rfl <;> exact ⟨by kernel_rfl, of_decide_eq_true (by kernel_rfl)⟩
set_option maxRecDepth 100000 in
theorem lifted (os : Os) (started : os.Started) (H : Type) (enc : TypeId × Value → H) :
    ReturnsInHanded {} Try.checked os 7 .any (Rows.jourAwaySpec.pre6 enc Try.prog Try.f7 Rows.jourAwayRow.domain false) (Rows.jourAwaySpec.post enc Try.prog Try.f7 false true false false) := by
  refine returnsInHanded_of_change_sized (C := Try.checked) own started (by kernel_rfl) Try.func7
    (ChangeSpec.witness6 (enc := enc) (C := Try.checked) false ⟨#[], #[.slice none 0 0, .slice none 0 0], []⟩ 8 (by kernel_rfl) (by kernel_rfl) (by kernel_rfl) (by kernel_rfl)) ?_
  intro W base args ds gs before hval0 hW hcnd hsz _
  have hval : ∀ (j : Nat) t v, Try.f7.params[j]? = some t → args[j]? = some v → Value.okWide Try.prog W .any base t v := hval0
  have hW' := hW
  obtain ⟨p, q, hA0, hV, hpq, hfz, hnd⟩ := hW
  have hA : DataW.TrodAll enc Try.prog W 0 (fun _ => true) true Try.f7.params.toList args.toList ds p := hA0
  rw [Try.params7] at hA hval hsz
  obtain ⟨v0, vs0, d0, ds0, p0, q0, hargs, rfl, hp0, h0, r0⟩ := trodAll_cons hA
  obtain ⟨v1, vs1, d1, ds1, p1, q1, rfl, rfl, hp1, h1, r1⟩ := trodAll_cons r0
  obtain ⟨rfl, rfl, _⟩ := trodAll_nil r1
  obtain rfl : args = #[v0, v1] := by cases args; simp_all
  obtain ⟨rfl, _⟩ := trodVars_none hV
  obtain ⟨sa0, sl0, sc0, rfl⟩ := okWide_slice Try.underlying42 (hval 0 42 v0 rfl rfl)
  obtain ⟨fuel0, hf0⟩ := h0
  obtain ⟨ha0, hv0, hs0, hc0, hcs0, hrow0, hhit0, hap0, hm0⟩ := open_hits (by kernel_rfl) hf0 (fits_each hsz (j := 0) rfl rfl)
  simp [Value.cells] at hcs0
  obtain ⟨rfl, rfl, rfl⟩ := hcs0
  obtain ⟨sa1, sl1, sc1, rfl⟩ := okWide_slice Try.underlying54 (hval 1 54 v1 rfl rfl)
  obtain ⟨fuel1, hf1⟩ := h1
  obtain ⟨aa1, al1, ac1, hcs1, har1⟩ := open_jacts Try.underlying54 (by kernel_rfl) hf1
  simp [Value.cells] at hcs1
  obtain ⟨rfl, rfl, rfl⟩ := hcs1
  refine Calls.mono (carracklaw22_JourAway_spec hrow0 hhit0 (fun x hx => hx) hap0 hm0 har1) fun e W' he => ?_
  obtain ⟨v, he, rfl, hx⟩ := he
  exact ⟨_, he, post_true laidOut hW' rfl rowed (Ext.below hx) Try.underlying4 (by kernel_rfl) rfl⟩
theorem proved : Rows.JourAwaySaid :=
  OpenClaim.holds_of_wide 7 Try.f7 rfl rfl rfl rfl rfl rfl rfl ⟨rfl, rfl, rfl, rfl, rfl⟩ rfl rfl rfl rfl rfl (by kernel_rfl) Try.func7 (by kernel_rfl)
    (of_decide_eq_true (by kernel_rfl)) (by unfold Func.isWrapper; first | (rw [if_pos (by decide +kernel)]; kernel_rfl) | (rw [if_neg (by decide +kernel)]; exact ⟨rfl, rfl⟩))
    (fun os started H enc _ => lifted os started H enc)
end Go.Proofs.Ythdkbladjfabfaa.jourAway
end
