/- How layer 22's arguments are opened. (Merged by program: SJour3 MLaw22 LPoolNil SJour4 Frame Frame2 Frame3 Open22.) -/
import Derived.Test.YthdkbladjfabfaaQ4
import Derived.ProofKit
import Derived.Carry
import Derived.OpenShut
import Derived.SizedLaws
section
set_option linter.unusedVariables false
set_option linter.unusedSimpArgs false
set_option maxRecDepth 4000
namespace Go.Den
def ofKind (kind : UInt8) (era : Nat) (t : Taken) : Bool := decide (t.head.kind = kind) && decide (t.head.era = era)
theorem filter_take_succ {α : Type} (p : α → Bool) {l : List α} {i : Nat} (hi : i < l.length) : (l.take (i + 1)).filter p = if p l[i] then (l.take i).filter p ++ [l[i]] else (l.take i).filter p := by
  rw [List.take_succ_eq_append_getElem hi, List.filter_append]
  cases h : p l[i] <;> simp [h]
theorem filter_take_len {α : Type} (p : α → Bool) (l : List α) (i : Nat) : ((l.take i).filter p).length ≤ i := by
  have := List.length_filter_le p (l.take i)
  have := List.length_take_le i l
  omega
theorem carrackref04_Of_spec {F : Nat → Prop} {A : Nat} {w : World} {p : Nat} {c : Chip} (h : CIn F A w p c) (kind : UInt8) (era : Nat) :
    CallsR prog K.carrackref04_Of #[.pointer (some ⟨p, 0, none⟩), bv kind, .int .u32 era] w fun v w' => Ext w w' ∧ TakenAt w w' v ((refTaken c).filter (ofKind kind era)) := by
  apply carrackref04_Of.sh
  unfold carrackref04_Of.body
  refine (rTaken h).mono ?_
  rintro _ w1 ⟨he1, a1, c1, rfl, ho1, hf1⟩
  have hs1 := he1.size
  have hll : (refTaken c).length ≤ 64 := by
    have := refGo_length c c.nb
    have := h.ok.nb2
    unfold refTaken
    omega
  generalize refTaken c = l at *
  refine ⟨_, _, _, rfl, fun a n cp x u => ∃ i : Nat, x = i ∧ i ≤ l.length ∧ Ext w1 u ∧ n = ((l.take i).filter (ofKind kind era)).length ∧ OwnAt u a ((l.take i).filter (ofKind kind era)).length cp T.api_Taken 5 (((l.take i).filter (ofKind kind era)).flatMap Taken.vals) ∧ Fresh w1 a,
    fun _ _ _ x _ => (l.length - x).toNat, ⟨0, rfl, by omega, Upd.refl _ _, by simp, by simpa using OwnAt.nil _ _ _, Fresh.none _⟩, ?_⟩
  rintro a n cp x u ⟨i, rfl, hil, hu, rfl, ho, hfa⟩
  refine br_dec (fun hlt => ?_) fun hge => ?_
  · have hi' : i < l.length := by omega
    have e1 : IntKind.i64.wrap ((i : Int) + 1) = ((i + 1 : Nat) : Int) := w64 (by omega) (by omega)
    rw [e1]
    have hsucc := filter_take_succ (ofKind kind era) hi'
    have hrow := RowAt.ext ho1.row hu
    have same : ofKind kind era l[i] = false → (∃ k : Nat, ((i + 1 : Nat) : Int) = k ∧ k ≤ l.length ∧ Ext w1 u ∧ ((l.take i).filter (ofKind kind era)).length = ((l.take k).filter (ofKind kind era)).length ∧ OwnAt u a ((l.take k).filter (ofKind kind era)).length cp T.api_Taken 5 (((l.take k).filter (ofKind kind era)).flatMap Taken.vals) ∧ Fresh w1 a) ∧ ((l.length : Int) - ((i + 1 : Nat) : Int)).toNat < ((l.length : Int) - (i : Int)).toNat := by
      intro hn
      rw [hn] at hsucc
      simp only [Bool.false_eq_true, if_false] at hsucc
      exact ⟨⟨i + 1, rfl, hi', hu, by rw [hsucc], by rw [hsucc]; exact ho, hfa⟩, meas hi'⟩
    refine idx_flat (f := Taken.vals) Taken.vals_length (by omega) hrow rfl hi' fun b o hab hr => ?_
    obtain ⟨b', o', hab', hc⟩ := RowAt.cell hr (i := 1) (v := bv l[i].head.kind) rfl
    cases hab'
    simp only [add_lit]
    refine ⟨_, hc, br_eq (fun hk => ?_) fun hk => same (by unfold ofKind; rw [decide_eq_false (fun e => hk (by rw [e]))]; rfl)⟩
    refine idx_flat (f := Taken.vals) Taken.vals_length (by omega) hrow rfl hi' fun b o hab hr => ?_
    obtain ⟨b', o', hab', hc⟩ := RowAt.cell hr (i := 2) (v := .int .u32 l[i].head.era) rfl
    cases hab'
    simp only [add_lit]
    refine ⟨_, hc, br_eq (fun hk2 => ?_) fun hk2 => same (by unfold ofKind; rw [decide_eq_false (p := l[i].head.era = era) (fun e => hk2 (by rw [e]))]; simp)⟩
    have hyes : ofKind kind era l[i] = true := by
      unfold ofKind
      rw [decide_eq_true (UInt8.toNat_inj.1 (by omega)), decide_eq_true (by omega)]
      rfl
    rw [hyes] at hsucc
    simp only [if_true] at hsucc
    refine idx_flat (f := Taken.vals) Taken.vals_length (by omega) hrow rfl hi' fun b o hab hr => ?_
    refine ⟨l[i].block, l[i].head.kind.toNat, l[i].head.era, l[i].head.seq, l[i].bad, RowAt.cells hr, fun B1 w3 hn3 => ?_⟩
    have hlen := filter_take_len (ofKind kind era) l i
    have ho3 := OwnAt.ext ho hn3.upd
    generalize (l.take i).filter (ofKind kind era) = m at *
    refine append_flat (f := Taken.vals) Taken.vals_length ho3 (x := l[i]) rfl hn3 rfl (oneCell_taken _) rfl (by omega) (by omega) fun a' c' w4 hu4 ho4 hf4 => ?_
    have hB := hn3.num
    refine ⟨⟨i + 1, rfl, hi', Upd.beyond (hu.trans hn3.upd) hu4 (fun x hx => by have := hfa _ hx; exact this), by rw [hsucc], by rw [hsucc]; exact ho4, ?_⟩, meas hi'⟩
    rcases hf4 with rfl | ⟨b, rfl, hb⟩
    · exact hfa
    · exact Fresh.some (by have := hu.size; have := hn3.size; omega)
  · have hil' : i = l.length := by omega
    subst hil'
    rw [List.take_length] at ho ⊢
    exact ⟨he1.trans hu, a, cp, rfl, ho, hfa.mono hs1⟩
theorem taken_fold2 (c : Chip) {l : List Taken} {i : Nat} (hi : i < l.length) (s : Saying) :
    (l.take (i + 1)).foldl (fun s x => sayBlk c x.block (c.np - 1) s) s = sayBlk c l[i].block (c.np - 1) ((l.take i).foldl (fun s x => sayBlk c x.block (c.np - 1) s) s) := by
  rw [List.take_succ_eq_append_getElem hi, List.foldl_append]
  rfl
theorem carrackref22_Says_spec {A S : Nat} {w : World} {p : Nat} {c : Chip} (h : CAt A S w p c) (hd0 : c.dead = false) (hin : ∀ t ∈ refTaken c, t.block < c.nb) (era : Nat) :
    CallsR prog K.carrackref22_Says #[.pointer (some ⟨p, 0, none⟩), .int .u32 era] w fun v w' => Ext w w' ∧ v = .tuple #[.bool (refSays c era).begun, .bool (refSays c era).done, turnV (refSays c era).turn] := by
  apply carrackref22_Says.sh
  unfold carrackref22_Says.body
  simp only [add_lit, Nat.zero_add]
  intro B1 w1 hn1 B2 w2 hn2
  have hB1 : B1 = w.heap.size := hn1.num
  have hs1 := hn1.size
  have hB2 : B2 = w1.heap.size := hn2.num
  have hs2 := hn2.size
  have hnp := h.ok.np1
  have hnp2 := h.ok.np2
  have e2 : Ext w w2 := hn1.upd.trans hn2.upd
  have g1 : SayAt w2 B1 Turn.zero := Ext.get hn2.upd hn1.get
  have g2 : SayAt w2 B2 Turn.zero := hn2.get
  refine (carrackref04_Of_spec (h.ext e2) 3 era).mono ?_
  rintro _ w3 ⟨he3, a1, c1, rfl, ho3, hf3⟩
  have hs3 := he3.size
  have e3 : Ext w w3 := e2.trans he3
  have hlb : ∀ x ∈ (refTaken c).filter (ofKind 3 era), x.block < c.nb := fun x hx => hin x (List.mem_filter.1 hx).1
  have hll : ((refTaken c).filter (ofKind 3 era)).length ≤ 64 := by
    have := refGo_length c c.nb
    have := h.ok.nb2
    have := List.length_filter_le (ofKind 3 era) (refTaken c)
    unfold refTaken at *
    omega
  have hsay : refSays c era = ((refTaken c).filter (ofKind 3 era)).foldl (fun s x => sayBlk c x.block (c.np - 1) s) Saying.zero := rfl
  rw [hsay]
  generalize (refTaken c).filter (ofKind 3 era) = l at *
  have hrow : ∀ {u : World}, Upd (· = B2) w3 u → RowAt u a1 (l.flatMap Taken.vals) := fun hu => RowAt.upd ho3.row hu (fun q hq hb => by have := hf3 q hq; omega)
  have hext : ∀ {u : World}, Upd (· = B2) w3 u → Ext w u := fun hu => Upd.beyond e3 hu (fun x hx => by omega)
  have hchip : ∀ {u : World}, Upd (· = B2) w3 u → CAt A S u p c := fun hu => h.ext (hext hu)
  generalize hF : (fun (s : Saying) (x : Taken) => sayBlk c x.block (c.np - 1) s) = F at *
  refine ⟨_, _, _, rfl, fun b1 b2 x u => ∃ i : Nat, x = i ∧ i ≤ l.length ∧ Upd (· = B2) w3 u ∧ b1 = ((l.take i).foldl F Saying.zero).begun ∧ b2 = ((l.take i).foldl F Saying.zero).done ∧ SayAt u B2 ((l.take i).foldl F Saying.zero).turn, fun _ _ x _ => (l.length - x).toNat,
    ⟨0, rfl, by omega, Upd.refl _ _, rfl, rfl, he3.get g2⟩, ?_⟩
  rintro b1 b2 x u ⟨i, rfl, hil, hu, rfl, rfl, hg⟩
  refine br_dec (fun hlt => ?_) fun hge => ?_
  · have hi' : i < l.length := by omega
    have e1 : IntKind.i64.wrap ((i : Int) + 1) = ((i + 1 : Nat) : Int) := w64 (by omega) (by omega)
    rw [e1]
    have hlbi := hlb _ (List.getElem_mem hi')
    have hsucc := taken_fold2 c hi' Saying.zero
    rw [hF] at hsucc
    generalize (l.take i).foldl F Saying.zero = s0 at *
    refine ⟨fun b4 b5 x u => ∃ k : Nat, x = (k : Int) + 1 ∧ k ≤ c.np - 1 ∧ Upd (· = B2) w3 u ∧ b4 = (sayBlk c l[i].block k s0).begun ∧ b5 = (sayBlk c l[i].block k s0).done ∧ SayAt u B2 (sayBlk c l[i].block k s0).turn,
      fun _ _ x _ => (c.np - x).toNat, ⟨0, rfl, by omega, hu, rfl, rfl, hg⟩, ?_⟩
    rintro b4 b5 x u ⟨k, rfl, hk1, hu, rfl, rfl, hgs⟩
    refine (cGeo (hchip hu)).mono ?_
    rintro _ w6 ⟨rfl, he6⟩
    refine ⟨_, _, _, _, rfl, ?_⟩
    have hu6 : Upd (· = B2) w3 w6 := hu.then he6
    refine br_dec (fun hlt2 => ?_) fun hge2 => ?_
    · have hknp : k + 1 < c.np := by omega
      have ek : (k : Int) + 1 = ((k + 1 : Nat) : Int) := by omega
      have ek2 : IntKind.i64.wrap ((k : Int) + 1 + 1) = ((k + 1 : Nat) : Int) + 1 := by rw [w64 (by omega) (by omega)]; omega
      rw [ek2]
      refine idx_flat (f := Taken.vals) Taken.vals_length (by omega) (hrow hu6) rfl hi' fun b o hab hr => ?_
      obtain ⟨b', o', hab', hcc⟩ := RowAt.cell hr (i := 0) (v := .int .i64 l[i].block) rfl
      cases hab'
      refine ⟨_, hcc, ?_⟩
      rw [ek]
      refine (cPage (hchip hu6) hd0 hlbi hknp).mono ?_
      rintro _ w7 ⟨he7, a2, cp2, rfl, hb7, hc7, hf7⟩
      refine ⟨_, _, _, _, rfl, ?_⟩
      refine (carrackref02_Get_spec hb7 hc7).mono ?_
      rintro _ w8 ⟨he8, a3, cp3, rfl, hb8, hc8⟩
      refine ⟨_, _, _, _, _, rfl, ?_⟩
      have hss := sayBlk_succ c l[i].block k s0
      generalize sayBlk c l[i].block k s0 = s at *
      have hcs := say_cases s (c.page l[i].block (k + 1)) (J := fun z => sayBlk c l[i].block (k + 1) s0 = z) hss
      generalize getPage (c.page l[i].block (k + 1)) = r at *
      have hu8 : Upd (· = B2) w3 w8 := (hu6.then he7).then he8
      have gs8 : SayAt w8 B2 s.turn := he8.get (he7.get (he6.get hgs))
      have hmm : ((c.np : Int) - (((k + 1 : Nat) : Int) + 1)).toNat < ((c.np : Int) - ((k + 1 : Nat) : Int)).toNat := by omega
      have same : ∀ {u : World}, Upd (· = B2) w3 u → SayAt u B2 s.turn → sayBlk c l[i].block (k + 1) s0 = s →
          (∃ k' : Nat, ((k + 1 : Nat) : Int) + 1 = (k' : Int) + 1 ∧ k' ≤ c.np - 1 ∧ Upd (· = B2) w3 u ∧ s.begun = (sayBlk c l[i].block k' s0).begun ∧ s.done = (sayBlk c l[i].block k' s0).done ∧ SayAt u B2 (sayBlk c l[i].block k' s0).turn) ∧ ((c.np : Int) - (((k + 1 : Nat) : Int) + 1)).toNat < ((c.np : Int) - ((k + 1 : Nat) : Int)).toNat := by
        intro u hu hg e
        exact ⟨⟨k + 1, rfl, by omega, hu, by rw [e], by rw [e], by rw [e]; exact hg⟩, hmm⟩
      refine br_ne (fun hr => same hu8 gs8 (hcs.1 (by omega))) fun hr => ?_
      have hr0 : r.2.2 = 0 := by omega
      refine br_ne (fun hr7 => same hu8 gs8 (hcs.2.1 hr0 (fun e => hr7 (by rw [e]; rfl)))) fun hr7 => ?_
      have hr7' : r.1 = 7 := (u8i _ 7 (by omega)).1 hr7
      refine (carrackref22_Get_spec (c := cp3) hb8).mono ?_
      rintro _ w9 ⟨he9, rfl⟩
      refine ⟨_, _, _, _, rfl, ?_⟩
      have hcs3 := hcs.2.2.1 hr0 hr7'
      have hcs4 := hcs.2.2.2 hr0 hr7'
      generalize getTurn r.2.1 = y at *
      refine new_put rfl fun B3 w11 hB3 hs11 he11 hg11 => ?_
      have e811 : Ext w8 w11 := he9.trans he11
      have hu11 := hu8.then e811
      refine br_ne (fun hy => same hu11 (e811.get gs8) (hcs3 (by omega))) fun hy => ?_
      have hst := hcs4 (by omega)
      have gs11 : SayAt w11 B2 s.turn := e811.get gs8
      have fin : ∀ {u : World}, Upd (· = B2) w3 u → SayAt u B2 (sayTurn s y.1).turn → u.heap[B3]? = some (.cells y.1.vals.toArray T.api_Turn (0, 0)) →
          br s.done ((∃ k' : Nat, ((k + 1 : Nat) : Int) + 1 = (k' : Int) + 1 ∧ k' ≤ c.np - 1 ∧ Upd (· = B2) w3 u ∧ true = (sayBlk c l[i].block k' s0).begun ∧ true = (sayBlk c l[i].block k' s0).done ∧ SayAt u B2 (sayBlk c l[i].block k' s0).turn) ∧ ((c.np : Int) - (((k + 1 : Nat) : Int) + 1)).toNat < ((c.np : Int) - ((k + 1 : Nat) : Int)).toNat)
            (∃ x36 : Int, World.cell? u ⟨B3, 2, none⟩ = some (Value.int .u8 x36) ∧ (∃ k' : Nat, ((k + 1 : Nat) : Int) + 1 = (k' : Int) + 1 ∧ k' ≤ c.np - 1 ∧ Upd (· = B2) w3 u ∧ true = (sayBlk c l[i].block k' s0).begun ∧ (x36 == 2) = (sayBlk c l[i].block k' s0).done ∧ SayAt u B2 (sayBlk c l[i].block k' s0).turn) ∧ ((c.np : Int) - (((k + 1 : Nat) : Int) + 1)).toNat < ((c.np : Int) - ((k + 1 : Nat) : Int)).toNat) := by
        intro u hu hg hy'
        refine br_intro (fun hdn => ⟨⟨k + 1, rfl, by omega, hu, by rw [hst]; rfl, by rw [hst]; unfold sayTurn; rw [hdn]; rfl, by rw [hst]; exact hg⟩, hmm⟩) fun hdn => ?_
        refine ⟨_, cell_of hy' rfl, ⟨k + 1, rfl, by omega, hu, by rw [hst]; rfl, ?_, by rw [hst]; exact hg⟩, hmm⟩
        rw [u8e2, hst]
        unfold sayTurn
        rw [hdn]; rfl
      refine br_intro (fun hnb => ?_) fun hb => ?_
      · have hnb' : s.begun = false := by simpa using hnb
        refine ⟨_, _, _, cells_all (vs := y.1.vals) hg11, ?_⟩
        refine put_all (vs := y.1.vals) gs11 (by simp [Turn.vals]) fun w12 hu12 hs12 hg12 => ?_
        refine store_of hg12 (by simp [Turn.vals]) fun w13 hp13 => ?_
        have hg13 : SayAt w13 B2 ⟨y.1.from_, y.1.to, 0⟩ := by
          have := hp13.get
          unfold SayAt
          rw [this, splice_one _ _ _ (by simp [Turn.vals])]
          rfl
        have hne3 : B3 ≠ B2 := by have := hu8.size; have := he9.size; omega
        have hu13 : Upd (· = B2) w11 w13 := hu12.trans hp13.upd1
        refine fin (hu11.trans hu13) ?_ (hu13.get hg11 hne3)
        unfold sayTurn
        rw [if_neg (by rw [hnb']; simp)]
        exact hg13
      · have hb' : s.begun = true := by simpa using hb
        refine fin hu11 ?_ hg11
        unfold sayTurn
        rw [if_pos hb']
        exact gs11
    · have hkk : k = c.np - 1 := by omega
      subst hkk
      rw [← hsucc] at hgs ⊢
      exact ⟨⟨i + 1, rfl, hi', hu6, rfl, rfl, he6.get hgs⟩, meas hi'⟩
  · have hil' : i = l.length := by omega
    subst hil'
    rw [List.take_length] at hg ⊢
    generalize l.foldl F Saying.zero = s at *
    intro w14 hd14
    have gB2 : SayAt w14 B2 s.turn := Ext.get hd14.upd hg
    have e14 : Ext w w14 := (hext hu).trans hd14.upd
    have gB1 : SayAt w14 B1 Turn.zero := Ext.get hd14.upd (hu.get (he3.get g1) (by omega))
    refine ⟨fun v => v = w14, rfl, s.turn.from_.toNat, s.turn.to.toNat, s.turn.phase.toNat, fun v hv => hv ▸ cells_all gB2, ?_⟩
    refine put_all (vs := s.turn.vals) gB1 (by simp [Turn.vals]) fun w15 hu15 hs15 hg15 => ?_
    exact ⟨_, _, _, cells_all (vs := s.turn.vals) hg15, Upd.beyond e14 hu15 (fun x hx => by omega), rfl⟩
/-! ### Write, Away -/
theorem jour_alive_spec {F : Nat → Prop} {A : Nat} {w : World} {M : PLoc} {P : Pool} {c : Chip} (h : PIn F A w M P c) :
    CallsR prog K.jour_alive #[.pointer (some ⟨M.q, 0, none⟩)] w fun v w' => v = .int .i64 (c.ask 0 0 : Nat) ∧ Ext w w' := by
  apply jour_alive.sh
  unfold jour_alive.body
  refine (pChip h).mono ?_
  rintro _ _ ⟨rfl, rfl⟩
  rename_i w
  refine ⟨_, rfl, br_intro (fun hn => by cases hn) fun _ => ?_⟩
  refine (pChip h).mono ?_
  rintro _ _ ⟨rfl, rfl⟩
  rename_i w
  refine ⟨_, rfl, ?_⟩
  refine (cReadAt h.chip 0 0).mono ?_
  rintro _ w3 ⟨he3, hv⟩
  split at hv
  · rename_i h0
    obtain ⟨a, cp, rfl, _⟩ := hv
    rw [h0]
    exact ⟨_, _, _, _, rfl, rfl, he3⟩
  · subst hv
    exact ⟨_, _, _, _, rfl, rfl, he3⟩
theorem jour_Write_spec {F : Nat → Prop} {A : Nat} {w : World} {M : PLoc} {P : Pool} {c : Chip} (h : PIn F A w M P c) (hS : ∀ x, F x → x < w.heap.size) (hi : Inv P c) {era : Nat} (hera : era < 4294967296) (t : Turn) (hl : P.last + c.nb * (c.hits.length + 1) < 18446744073709551616) {r : Pool × Chip × Nat} (hr : jourWrite P c era t = r) :
    CallsR prog K.jour_Write #[.pointer (some ⟨M.q, 0, none⟩), .int .u32 era, turnV t] w fun v w' => v = .int .i64 (r.2.2 : Nat) ∧ Upd (F) w w' ∧ PIn F A w' M r.1 r.2.1 := by
  apply jour_Write.sh
  unfold jour_Write.body
  intro B1 w1 hn1
  have h1 := h.ext hn1.upd
  refine (jour_alive_spec h1).mono ?_
  rintro _ w2 ⟨rfl, he2⟩
  have e2 := hn1.upd.trans he2
  have h2 := h.ext e2
  have g2 : SayAt w2 B1 t := he2.get hn1.get
  unfold jourWrite at hr
  refine ⟨_, rfl, br_ne (fun hne => ?_) fun h0 => ?_⟩
  · rw [if_pos (by omega)] at hr
    subst hr
    exact ⟨rfl, Upd.ext e2, h2⟩
  rw [if_neg (by omega)] at hr
  have hask : c.ask 0 0 = 0 := by omega
  have hd0 : c.dead = false := (ask_zero hask).1
  intro w3 hd3
  have e3 := e2.trans hd3.upd
  have h3 := h.ext e3
  have g3 : SayAt w3 B1 t := Ext.get hd3.upd g2
  refine ⟨fun u => Ext w3 u, Upd.refl _ _, t.from_.toNat, t.to.toNat, t.phase.toNat, fun u hu => cells_all (vs := t.vals) (Ext.get hu g3), ?_⟩
  refine (pChip h3).mono ?_
  rintro _ _ ⟨rfl, rfl⟩
  rename_i w3
  refine ⟨_, rfl, Upd.refl _ _, ?_⟩
  refine (cGeo h3.chip).mono ?_
  rintro _ w5 ⟨rfl, he5⟩
  refine ⟨_, _, _, _, rfl, he5, ?_⟩
  have h5 := h3.ext he5
  refine (jour_Put_spec (c.sz : Int) t w5).mono ?_
  rintro _ w6 ⟨he6, a1, c1, rfl, hb6, hf6, hc6⟩
  have e6 := (e3.trans he5).trans he6
  have h6 := h.ext e6
  have hs5 := (e3.trans he5).size
  refine ⟨_, _, _, _, rfl, br_ne (fun hne => ?_) fun hz => ?_⟩
  · rw [if_pos (.inl (by omega))] at hr
    subst hr
    exact ⟨rfl, Upd.ext e6, h6⟩
  refine br_eq (fun he0 => ?_) fun he0 => ?_
  · rw [if_pos (.inr (by omega))] at hr
    subst hr
    exact ⟨rfl, Upd.ext e6, h6⟩
  rw [if_neg (by omega)] at hr
  have he1 : 1 ≤ era := by omega
  have hmay : t.may = true := by
    cases hm : t.may with
    | true => rfl
    | false => unfold putTurn at hz; rw [if_pos (.inl hm)] at hz; cases hz
  obtain ⟨epg, hpl, _⟩ := putTurn_ok hi.ci.ok hmay
  rw [epg] at hb6 hr hc6
  simp only [epg]
  generalize hpg : pageOf c.sz 7 t.body = pg at *
  have hfr : ∀ q, a1 = some q → ¬ F q.block := fun q hq hb => by have := hf6 q hq; have := hS _ hb; omega
  obtain ⟨J', hJ⟩ : ∃ J' : Nat → World → Prop, ∀ n u, J' n u ↔ ∃ P' c', PIn F A u M P' c' ∧ Inv P' c' ∧ c'.dead = false ∧ c.SameGeo c' ∧ c'.hits.length < n ∧ P'.last + c'.nb * n < 18446744073709551616 ∧ Upd (F) w6 u ∧ writeJ era pg n P' c' = r := ⟨_, fun _ _ => Iff.rfl⟩
  refine ⟨LJ J', Lμ J', ⟨c.hits.length + 1, (hJ _ _).2 ⟨P, c, h6, hi, hd0, .refl _, by omega, hl, Upd.refl _ _, hr⟩⟩, ?_⟩
  intro u hJu
  obtain ⟨n, hj, hK⟩ := loop_step hJu
  obtain ⟨P', c', hp, hi', hdd, hg, hh, hl', hu, hw⟩ := (hJ _ _).1 hj
  obtain ⟨n, rfl⟩ : ∃ m, n = m + 1 := ⟨n - 1, by omega⟩
  have hnb := hi'.ci.ok.nb1
  have hnp := hi'.ci.ok.np1
  rw [Nat.mul_succ] at hl'
  refine (pTake hp (kind := 3) hera rfl).mono ?_
  rintro _ w8 ⟨rfl, hu8, hp8⟩
  have hbu : Upd (F) w6 w8 := hu.trans hu8
  have hwu : Upd (F) w w8 := (Upd.ext e6).trans hbu
  have hlen : (List.range c'.nb).length = c'.nb := by simp
  have hgo := takePool_go (P := P') hi'.ci.ok hdd (kind := 3) (era := era) (by decide) (by decide) he1
  have tp := takeGo_inv (kind := 3) (by decide) (by decide) he1 hera (List.range c'.nb) hi' hdd (by omega)
  obtain ⟨op, hhi⟩ := takeGo_open (kind := 3) (by decide) (by decide) he1 hera (List.range c'.nb) hi' hdd (by omega)
  have hhi2 := tp.hi
  rw [hlen] at hhi2
  unfold writeJ at hw
  rw [hgo] at hw hp8 ⊢
  generalize takeGo 3 era P' c' (List.range c'.nb) = R at *
  refine ⟨_, _, rfl, br_ne (fun hne => ?_) fun hz => ?_⟩
  · rw [if_pos (by omega)] at hw
    subst hw
    exact ⟨rfl, hwu, hp8⟩
  rw [if_neg (by omega)] at hw
  refine (pChip hp8).mono ?_
  rintro _ _ ⟨rfl, rfl⟩
  rename_i w8
  refine ⟨_, rfl, ?_⟩
  have hbp : BytesAt w8 a1 pg := RowAt.upd hb6 hbu (fun q hq hb => hfr q hq hb)
  refine (pProgram hp8 (R.block : Int) 1 (cp := c1) hbp hfr).mono ?_
  rintro _ w10 ⟨rfl, hu10, hp10⟩
  obtain ⟨_, hdR, hb, hnh, hbad, hhd, hlt⟩ : R.err = 0 ∧ R.chip.dead = false ∧ R.block < c'.nb ∧ ¬ isHd c' R.block ∧ R.chip.isBad R.block = false ∧ hd R.chip R.block = (⟨3, era, R.pool.last⟩, 0) ∧ P'.last < R.pool.last := by
    rcases tp.cases with b | ⟨b, _⟩ | ⟨b, _⟩
    · exact b
    · omega
    · omega
  have hisd : isHd R.chip R.block := by unfold isHd; rw [hhd]
  have gnb := tp.geo.1
  have gnp := tp.geo.2.1
  have gsz := (hg.trans tp.geo).2.2.1
  have wr := program_wrote tp.inv.ci.ok hdR (by rw [gnb]; exact hb) (k := 1) (by omega) hbad (op _ hb hnh hisd) (by rw [gsz]; exact hpl)
  obtain ⟨pi, _⟩ := program_inv tp.inv (i := R.block) (k := 1) (by rw [gnb]; exact hb) (by omega) (by omega) (fun _ => hisd) pg
  have e1 : ((1 : Nat) : Int) = 1 := rfl
  rw [e1] at wr pi
  generalize R.chip.program R.block 1 pg = q at *
  refine ⟨_, rfl, br_ne (fun h9 => ?_) fun h9 => ?_⟩
  · rw [if_pos (by omega)] at hw
    subst hw
    exact ⟨rfl, hwu.trans hu10, hp10⟩
  · rw [if_neg (by omega)] at hw
    have hless := wr.less (by omega)
    have g1 := (tp.geo.trans wr.deed.geo).1
    refine hK n _ (by omega) ((hJ _ _).2 ⟨R.pool, q.1, hp10, pi, ?_, hg.trans (tp.geo.trans wr.deed.geo), by omega, by rw [g1]; omega, hbu.trans hu10, hw⟩)
    rw [wr.dead, if_neg (by omega)]; exact hdR
theorem jour_Away_spec {F : Nat → Prop} {A : Nat} {w : World} {M : PLoc} {P : Pool} {c : Chip} (h : PIn F A w M P c) (hS : ∀ x, F x → x < w.heap.size) (hnb : c.nb < 20) {r : Pool × Chip × Nat} (hr : jourAway P c = r) :
    CallsR prog K.jour_Away #[.pointer (some ⟨M.q, 0, none⟩)] w fun v w' => v = .int .i64 (r.2.2 : Nat) ∧ Upd (F) w w' ∧ PIn F A w' M r.1 r.2.1 := by
  apply jour_Away.sh
  unfold jour_Away.body
  simp only [add_lit, Nat.zero_add]
  refine (jour_alive_spec h).mono ?_
  rintro _ w1 ⟨rfl, he1⟩
  have h1 := h.ext he1
  unfold jourAway at hr
  refine ⟨_, rfl, br_ne (fun hne => ?_) fun h0 => ?_⟩
  · rw [if_pos (by omega)] at hr
    subst hr
    exact ⟨rfl, Upd.ext he1, h1⟩
  rw [if_neg (by omega)] at hr
  refine (pTaken h1 hnb rfl).mono ?_
  rintro _ w2 ⟨he2, a1, c1, rfl, ho2, hf2⟩
  have hs1 := he1.size
  have hs2 := he2.size
  have hll : (takenPool P c).length ≤ c.nb := by
    unfold takenPool
    rw [isort_length]
    exact takenRaw_length _ _ _
  generalize takenPool P c = l at *
  have hfr : ∀ q, a1 = some q → ¬ F q.block := fun q hq hb => by have := hf2 q hq; have := hS _ hb; omega
  refine ⟨_, _, _, rfl, fun x u => ∃ (i : Nat) (P' : Pool) (c' : Chip), x = i ∧ i ≤ l.length ∧ Upd (F) w2 u ∧ PIn F A u M P' c' ∧ awayJ (l.drop i) P' c' = r, fun x _ => (l.length - x).toNat,
    ⟨0, P, c, rfl, by omega, Upd.refl _ _, h1.ext he2, hr⟩, ?_⟩
  rintro x u ⟨i, P', c', rfl, hil, hu, hp, hw⟩
  have hwu : Upd (F) w u := (Upd.ext (he1.trans he2)).trans hu
  refine br_dec (fun hlt => ?_) fun hge => ?_
  · have hi' : i < l.length := by omega
    have e1 : IntKind.i64.wrap ((i : Int) + 1) = ((i + 1 : Nat) : Int) := w64 (by omega) (by omega)
    rw [e1]
    rw [List.drop_eq_getElem_cons hi'] at hw
    unfold awayJ at hw
    have hrow : RowAt u a1 (l.flatMap Taken.vals) := RowAt.upd ho2.row hu (fun q hq hb => hfr q hq hb)
    refine idx_flat (f := Taken.vals) Taken.vals_length (by omega) hrow rfl hi' fun b o hab hr' => ?_
    refine ⟨l[i].block, l[i].head.kind.toNat, l[i].head.era, l[i].head.seq, l[i].bad, RowAt.cells hr', ?_⟩
    refine new_put rfl fun B1 w5 hB1 hs5 he5 hg5 => ?_
    have hu5 := hu.then he5
    have hp5 := hp.ext he5
    refine ⟨_, cell_of hg5 rfl, ?_⟩
    refine br_ne (fun hk => ?_) fun hk => ?_
    · rw [if_pos (.inl (fun e => hk (by rw [e]; rfl)))] at hw
      exact ⟨⟨i + 1, P', c', rfl, hi', hu5, hp5, hw⟩, meas hi'⟩
    have hk' : l[i].head.kind = 3 := (u8i _ 3 (by omega)).1 hk
    refine ⟨_, cell_of hg5 rfl, ?_⟩
    refine br_intro (fun hb => ?_) fun hb => ?_
    · rw [if_pos (.inr hb)] at hw
      exact ⟨⟨i + 1, P', c', rfl, hi', hu5, hp5, hw⟩, meas hi'⟩
    rw [if_neg (by rintro (e | e); exact e hk'; rw [hb] at e; cases e)] at hw
    refine ⟨_, cell_of hg5 rfl, ?_⟩
    refine (pFree hp5 (l[i].block : Int) rfl).mono ?_
    rintro _ w6 ⟨rfl, hu6, hp6⟩
    generalize freePool P' c' l[i].block = q at *
    refine ⟨_, rfl, br_ne (fun hne => ?_) fun hz => ?_⟩
    · rw [if_pos (by omega)] at hw
      subst hw
      exact ⟨rfl, (hwu.then he5).trans hu6, hp6⟩
    · rw [if_neg (by omega)] at hw
      exact ⟨⟨i + 1, q.1, q.2.1, rfl, hi', hu5.trans hu6, hp6, hw⟩, meas hi'⟩
  · have hil' : i = l.length := by omega
    subst hil'
    rw [List.drop_length] at hw
    unfold awayJ at hw
    subst hw
    exact ⟨rfl, hwu, hp⟩
end Go.Den
end
section
set_option linter.unusedVariables false
set_option maxRecDepth 100000
namespace Go.Den
def jC : Chip := newChip 8 4 128 0
def jW : Pool × Chip × Nat := jourWrite (scanPool jC) jC 2 ⟨1, 2, 1⟩
def worksJ : Bool := decide (getPage (putTurn 128 ⟨1, 2, 1⟩).1 = (7, [1, 2, 1], 0)) && decide ((putTurn 128 ⟨1, 2, 1⟩).2 = 0) && decide ((putTurn 128 ⟨1, 1, 1⟩).2 = 2) && !jC.dead && !(jourSays jC 2).begun && !(jourSays jC 2).done && decide (jW.2.2 = 0) && !jW.2.1.dead && (jourSays jW.2.1 2).begun &&
  decide ((jourSays jW.2.1 2).turn = ⟨1, 2, 0⟩)
theorem worksJ_true : worksJ = true := by decide +kernel
end Go.Den
end
section
set_option linter.unusedVariables false
set_option linter.unusedSimpArgs false
set_option maxRecDepth 4000
namespace Go.Den
/-- no pool, or a zero one -/
def NoPool (w : World) (p : Option Addr) : Prop := p = none ∨ ∃ B, p = some ⟨B, 0, none⟩ ∧ w.heap[B]? = some (.cells #[.pointer none, .slice none 0 0, .int .u64 0, .int .i64 0] T.pool_Pool (0, 0))
theorem noPool_off {w : World} {p : Option Addr} (h : NoPool w p) : CallsR prog K.pool_Pool_off #[.pointer p] w fun v w' => v = .bool true ∧ w' = w := by
  apply pool_Pool_off.sh
  rcases h with rfl | ⟨B, rfl, hc⟩
  · simp only [pool_Pool_off.body, Option.isNone_none, br_true]
    exact ⟨by trivial, by trivial⟩
  · simp only [pool_Pool_off.body, Option.isNone_some, br_false, nilC_some', add_lit]
    exact ⟨none, 0, 0, cell_of hc rfl, rfl, by trivial⟩
theorem noPool_Chip {w : World} {p : Option Addr} (h : NoPool w p) : CallsR prog K.pool_Pool_Chip #[.pointer p] w fun v w' => v = .pointer none ∧ w' = w := by
  apply pool_Pool_Chip.sh
  refine (noPool_off h).mono ?_
  rintro _ _ ⟨rfl, rfl⟩
  exact ⟨_, rfl, by trivial, by trivial⟩
def zeroChip : Array Value := #[Value.int .i64 0, Value.int .i64 0, Value.int .i64 0, Value.int .i64 0, Value.slice none 0 0, Value.slice none 0 0, Value.slice none 0 0, Value.int .i64 0, Value.bool false, Value.int .i64 0]
theorem zero_Scan {w : World} {p : Option Addr} (h : p = none ∨ ∃ B, p = some ⟨B, 0, none⟩ ∧ w.heap[B]? = some (.cells zeroChip T.nand_Chip (0, 0))) : CallsR prog K.pool_Scan #[.pointer p] w fun v w' => v = .tuple #[.pointer none, .int .i64 1] ∧ Ext w w' := by
  apply pool_Scan.sh
  refine ⟨fun _ => False, ?_, fun _ h => h.elim⟩
  rcases h with rfl | ⟨B, rfl, hc⟩
  · simp only [Option.isNone_none, br_true]
    exact ⟨by trivial, Upd.refl _ _⟩
  · simp only [Option.isNone_some, br_false]
    have geo : CallsR prog K.nand_Chip_Geo #[.pointer (some ⟨B, 0, none⟩)] w fun v w' => v = .agg #[.int .i64 0, .int .i64 0, .int .i64 0, .int .i64 0] ∧ Ext w w' := by
      apply nand_Chip_Geo.sh
      intro B₁ w₁ hn
      have hc1 := Ext.get hn.upd hc
      have off : CallsR prog K.nand_Chip_off #[.pointer (some ⟨B, 0, none⟩)] w₁ fun v w' => v = .bool true ∧ w' = w₁ := by
        apply nand_Chip_off.sh
        simp only [nand_Chip_off.body, Option.isNone_some, br_false, nilC_some', add_lit]
        exact ⟨none, 0, 0, cell_of hc1 rfl, rfl, by trivial⟩
      refine off.mono ?_
      rintro _ _ ⟨rfl, rfl⟩
      refine ⟨_, rfl, ?_⟩
      simp only [br_true]
      refine store_of hn.get (by simp) fun w₂ hput => ?_
      have hg := hput.get
      rw [splice_all _ _ (by simp)] at hg
      refine ⟨0, 0, 0, 0, cellsAt_of (o := 0) hg (fun j v hj => by simpa using hj), rfl, Put.upd hn.upd hput (.inl (by have := hn.num; omega))⟩
    refine geo.mono ?_
    rintro _ w₁ ⟨rfl, he⟩
    refine ⟨0, 0, 0, 0, rfl, ?_⟩
    exact br_eq (fun _ => ⟨by trivial, he⟩) fun h => (h rfl).elim
end Go.Den
end
section
set_option linter.unusedVariables false
set_option linter.unusedSimpArgs false
set_option maxRecDepth 4000
namespace Go.Den
theorem carracklaw22_works_spec (w : World) : CallsR prog K.carracklaw22_works #[] w fun v w' => v = .bool true ∧ Ext w w' := by
  have hM := worksJ_true
  simp only [worksJ, Bool.and_eq_true, decide_eq_true_eq, Bool.not_eq_true'] at hM
  obtain ⟨⟨⟨⟨⟨⟨⟨⟨⟨m0, m1⟩, m2⟩, m3⟩, m4⟩, m5⟩, m6⟩, m7⟩, m8⟩, m9⟩ := hM
  apply carracklaw22_works.sh
  unfold carracklaw22_works.body
  refine (jour_Put_spec 128 ⟨1, 2, 1⟩ w).mono ?_
  rintro _ w1 ⟨he1, a1, c1, rfl, hb1, hf1, hc1⟩
  rw [m1]
  generalize (putTurn 128 ⟨1, 2, 1⟩).1 = pg at *
  refine ⟨_, _, _, _, rfl, ?_⟩
  refine (seal_Get_spec hb1 hc1).mono ?_
  rintro _ w2 ⟨he2, a2, c2, rfl, hb2, hc2⟩
  rw [m0] at hb2 ⊢
  refine ⟨_, _, _, _, _, rfl, ?_⟩
  refine (jour_Put_spec 128 ⟨1, 1, 1⟩ w2).mono ?_
  rintro _ w3 ⟨he3, a3, c3, rfl, _⟩
  rw [m2]
  refine ⟨_, _, _, _, rfl, ?_⟩
  refine (cNew w3 (A := w3.heap.size) (nb := 8) (np := 4) (sz := 128) (sp := 0) (Nat.le_refl _) (by omega) (by omega) (by omega) (by omega) (by omega) (by omega) (by omega)).mono ?_
  rintro _ w4 ⟨he4, p, rfl, hc4⟩
  have hs4 := he4.size
  refine ⟨_, _, rfl, ?_⟩
  have hjc : CI jC := (new_ci (nb := 8) (np := 4) (sz := 128) (sp := 0) (by omega) (by omega) (by omega) (by omega) (by omega) (by omega) (newChip 8 4 128 0) rfl).1
  have hjl := (new_ci (nb := 8) (np := 4) (sz := 128) (sp := 0) (by omega) (by omega) (by omega) (by omega) (by omega) (by omega) (newChip 8 4 128 0) rfl).2
  have hjn : jC.nb = 8 := rfl
  have hjh : jC.hits.length = 0 := rfl
  have e : newChip 8 4 128 0 = jC := rfl
  rw [e] at hc4 hjl
  obtain ⟨hinv, hlast⟩ := scan_inv hjc m3
  have hl0 := hlast 0 (fun i hi hhd => absurd hhd (hjl i hi))
  have hw : jourWrite (scanPool jC) jC 2 ⟨1, 2, 1⟩ = jW := rfl
  have o1 : saysOut jC 2 = jourSays jC 2 := by rw [saysOut, if_neg (by rintro (h | h); rw [m3] at h; cases h; cases h)]
  have o2 : saysErr jC 2 = 0 := by rw [saysErr, if_neg (by rw [m3]; simp), if_neg (by omega)]
  have o3 : saysOut jW.2.1 2 = jourSays jW.2.1 2 := by rw [saysOut, if_neg (by rintro (h | h); rw [m7] at h; cases h; cases h)]
  have o4 : saysErr jW.2.1 2 = 0 := by rw [saysErr, if_neg (by rw [m7]; simp), if_neg (by omega)]
  have hgeo := (jourWrite_inv hinv (era := 2) (by omega) ⟨1, 2, 1⟩ (by rw [hjn, hjh]; omega) (by decide +kernel : (scanPool jC).turn ≤ jC.nb)).2.1
  rw [hw] at hgeo
  have hnw : jW.2.1.nb = 8 := hgeo.1
  generalize jC = c at *
  generalize jW = W at *
  refine (jour_Says_spec hc4 (by omega) 2).mono ?_
  rintro _ w5 ⟨he5, rfl⟩
  rw [o1, o2, m4, m5]
  refine ⟨_, _, _, _, _, _, rfl, ?_⟩
  refine new_put rfl fun B1 w7 hB1 hs7 he7 hg7 => ?_
  have hc7 := (hc4.ext he5).ext he7
  have hs5 := he5.size
  refine (cScan hc7 (by omega) (by omega)).mono ?_
  rintro _ w8 ⟨he8, hv⟩
  rw [if_neg (by rw [m3]; simp)] at hv
  obtain ⟨M, rfl, rfl, hp8⟩ := hv
  have hs8 := he8.size
  refine ⟨_, _, rfl, ?_⟩
  refine (jour_Write_spec hp8 (fun x hx => hx.2) hinv (era := 2) (by omega) ⟨1, 2, 1⟩ (by rw [hjn, hjh]; omega) hw).mono ?_
  rintro _ w9 ⟨rfl, hu9, hp9⟩
  have hs9 := hu9.size
  rw [m6]
  refine ⟨_, rfl, ?_⟩
  refine (jour_Says_spec hp9.chip (by omega) 2).mono ?_
  rintro _ w10 ⟨he10, rfl⟩
  rw [o3, o4, m8, m9]
  refine ⟨_, _, _, _, _, _, rfl, ?_⟩
  refine new_put rfl fun B2 w12 hB2 hs12 he12 hg12 => ?_
  refine br_eq (fun _ => br_eq (fun _ => ?_) fun h => (h rfl).elim) fun h => (h rfl).elim
  intro B3 w13 hn13
  have e38 : Ext w3 w8 := ((he4.trans he5).trans he7).trans he8
  have e39 : Ext w3 w9 := Upd.beyond e38 hu9 (fun x hx => hx.1)
  have e2_13 : Ext w2 w13 := (((he3.trans e39).trans he10).trans he12).trans hn13.upd
  refine (carrackref00_Same_spec (l := [1, 2, 1]) (m := [1, 2, 1]) (RowAt.ext hb2 e2_13) (b := some ⟨B3, 0, none⟩) (RowAt.of hn13.get fun j v hj => by
    have hj' : ([Value.int .u8 1, Value.int .u8 2, Value.int .u8 1] : List Value)[j]? = some v := hj
    simpa using hj') (by decide)).mono ?_
  rintro _ w14 ⟨rfl, he14⟩
  refine ⟨_, rfl, br_intro (fun _ => ?_) fun h => by cases h⟩
  refine br_eq (fun _ => br_eq (fun _ => ?_) fun h => (h rfl).elim) fun h => (h rfl).elim
  refine br_intro (fun _ => br_intro (fun _ => br_eq (fun _ => br_eq (fun _ => br_eq (fun _ => br_intro (fun _ => ?_) fun h => by cases h) fun h => (h rfl).elim) fun h => (h rfl).elim) fun h => (h rfl).elim) fun h => by cases h) fun h => by cases h
  exact ⟨_, _, _, cells_all (he14.get (Ext.get hn13.upd hg12)), rfl, ((he1.trans he2).trans e2_13).trans he14⟩
structure JAct where
  act : Int
  era : UInt8
  turn : Turn
  kind : UInt8
namespace JAct
def vals (a : JAct) : List Value := [.int .i64 a.act, bv a.era, bv a.turn.from_, bv a.turn.to, bv a.turn.phase, bv a.kind]
end JAct
theorem JAct.vals_length (a : JAct) : a.vals.length = 6 := rfl
theorem CAt.low {A S : Nat} {w : World} {p : Nat} {c : Chip} (h : CAt A S w p c) : A ≤ p ∧ p < S := by
  obtain ⟨L, G, hr, hF, _⟩ := h
  exact hF p (by simp)
theorem cHits {A S : Nat} {w : World} {p : Nat} {c : Chip} (h : CAt A S w p c) (hA : A ≤ w.heap.size) {Gin : Nat → Prop} {a : Option Addr} {vs : List Value} {hs : List Hit} {cp : Nat} (hr : RowAt w a vs) (hh : HitRow w Gin vs hs)
    (hG : ∀ x, Gin x → x < A ∨ S ≤ x) (hap : hs ≠ [] → ∀ q, a = some q → q.block < A ∨ S ≤ q.block) (hn : hs.length ≤ 100000) (hm : ∀ t ∈ hs, t.mask.length ≤ 140737488355232) :
    CallsR prog K.nand_Chip_Hits #[.pointer (some ⟨p, 0, none⟩), .slice a hs.length cp] w fun v w' => v = .int .i64 ((c.setHits hs).2 : Nat) ∧ Upd (Bet A S) w w' ∧ CAt A S w' p (c.setHits hs).1 := by
  have hlow := h.low
  obtain ⟨L, G, hp, hF, hGG⟩ := h
  refine (nand_Hits_spec hp hr hh (fun x hx e => by have := hG x hx; omega) (fun hne q hq e => by have := hap hne q hq; omega) hn hm).mono ?_
  rintro _ w' ⟨hu, L', G', hs', hc, hG', rfl⟩
  refine ⟨rfl, hu.mono fun x _ hx => by rw [hx]; exact hlow, L', G', hc, fun x hx => hF x (by rw [hs'.1, hs'.2.2.2.2] at hx; exact hx), fun x hx => ?_⟩
  rcases hG' x hx with hx | hx
  · have := hGG x hx; have := hu.size; omega
  · omega
def HeadsTo (c : Chip) (B : Nat) : Prop := ∀ i, i < c.nb → isHd c i → (hd c i).1.seq ≤ B
theorem Inv.headsTo {P : Pool} {c : Chip} (h : Inv P c) {B : Nat} (hb : P.last ≤ B) : HeadsTo c B := fun i hi hh => Nat.le_trans (h.last i hi hh) hb
theorem act22 {A S : Nat} {w : World} {p : Nat} {c : Chip} (h : CAt A S w p c) (hS : S ≤ w.heap.size) (hci : CI c) (hd0 : c.dead = false) (hnb : c.nb = 16) (hh : c.hits.length < 20) {B : Nat} (hb : HeadsTo c B) (hB : B ≤ 100000) {aa : Option Addr} {acts : List JAct} {k : Nat} (ar : RowAt w aa (acts.flatMap JAct.vals)) (hk : k < acts.length)
    (hfar : ∀ q, aa = some q → q.block < A) {X Y : World → Prop} (hX : ∀ u S' c', Upd (Bet A S') w u → S' ≤ u.heap.size → CAt A S' u p c' → CI c' → c.SameGeo c' → c'.hits.length ≤ c.hits.length → HeadsTo c' (B + 400) → X u) :
    CallsR prog K.pool_Scan #[Value.pointer (some ⟨p, 0, none⟩)] w fun v5 w7 =>
          ∃ p4 : Option Addr, ∃ x6 : Int, v5 = Value.tuple #[Value.pointer p4, Value.int .i64 x6] ∧
          br (x6 != 0) (Y w7) (
            idxP aa acts.length (k : Int) 6 fun q1 =>
            ∃ x7 : Int, World.cell? w7 q1 = some (Value.int .i64 x7) ∧
            br (x7 == 1) (
              ∀ w8 : World, Drew w7 w8 →
              ∃ S1 : World → Prop, S1 w8 ∧
              idxP aa acts.length (k : Int) 6 fun q2 =>
              ∃ x8 : Int, (∀ u1, S1 u1 → World.cell? u1 (Addr.add q2 1) = some (Value.int .u8 x8)) ∧
              idxP aa acts.length (k : Int) 6 fun q3 =>
              ∃ x9 : Int, ∃ x10 : Int, ∃ x11 : Int, (∀ u2, S1 u2 → cellsAt u2 (Addr.add q3 2) [Value.int .u8 x9, Value.int .u8 x10, Value.int .u8 x11] 0) ∧
              CallsR prog K.jour_Write #[Value.pointer p4, Value.int .u32 (IntKind.u32.wrap x8), Value.agg #[Value.int .u8 x9, Value.int .u8 x10, Value.int .u8 x11]] w8 fun v6 w9 =>
              ∃ x12 : Int, v6 = Value.int .i64 x12 ∧ S1 w9 ∧ X w9) (
              br (x7 == 2) (
                CallsR prog K.jour_Away #[Value.pointer p4] w7 fun v7 w10 =>
                ∃ x13 : Int, v7 = Value.int .i64 x13 ∧ X w10) (
                br (x7 == 3) (
                  ∀ w11 : World, Drew w7 w11 →
                  ∃ S2 : World → Prop, S2 w11 ∧
                  idxP aa acts.length (k : Int) 6 fun q4 =>
                  ∃ x14 : Int, (∀ u3, S2 u3 → World.cell? u3 (Addr.add q4 5) = some (Value.int .u8 x14)) ∧
                  idxP aa acts.length (k : Int) 6 fun q5 =>
                  ∃ x15 : Int, (∀ u4, S2 u4 → World.cell? u4 (Addr.add q5 1) = some (Value.int .u8 x15)) ∧
                  CallsR prog K.pool_Pool_Take #[Value.pointer p4, Value.int .u8 x14, Value.int .u32 (IntKind.u32.wrap x15)] w11 fun v8 w12 =>
                  ∃ x16 : Int, ∃ x17 : Int, v8 = Value.tuple #[Value.int .i64 x16, Value.int .i64 x17] ∧ S2 w12 ∧ X w12) (X w7)))) := by
  have hlow := h.low
  refine (cScan h (by omega) hS).mono ?_
  rintro _ w7 ⟨he7, hv⟩
  rw [if_neg (by rw [hd0]; simp)] at hv
  obtain ⟨M, rfl, rfl, hp7⟩ := hv
  have hs7 := he7.size
  refine ⟨_, _, rfl, br_ne (fun h => (h rfl).elim) fun _ => ?_⟩
  obtain ⟨hinv, hlast⟩ := scan_inv hci hd0
  have hl := hlast B hb
  generalize scanPool c = P at *
  have hera : acts[k].era.toNat < 256 := acts[k].era.toNat_lt
  have ewr : IntKind.u32.wrap (acts[k].era.toNat : Int) = (acts[k].era.toNat : Int) := wu32 (by omega) (by omega)
  have ar7 := RowAt.ext ar he7
  have hin : ∀ {u : World}, Upd (Bet A w7.heap.size) w7 u → Upd (Bet A w7.heap.size) w u := fun hu => (Upd.ext he7).trans hu
  have rowS : ∀ {u v : World}, RowAt u aa (acts.flatMap JAct.vals) → Upd (Bet A w7.heap.size) u v → RowAt v aa (acts.flatMap JAct.vals) := fun hr hu => RowAt.upd hr hu (fun q hq hb => by have := hfar q hq; have := hb.1; omega)
  have cellS : ∀ {u : World} {b o : Nat}, aa = some ⟨b, o, none⟩ → RowAt u aa (acts.flatMap JAct.vals) → RowAt u (some ⟨b, o + k * 6, none⟩) acts[k].vals := by
    intro u b o hab hr
    subst hab
    have h1 := RowAt.take (RowAt.drop hr (k * 6)) 6
    rwa [flat_get JAct.vals_length acts hk] at h1
  refine idx_flat (f := JAct.vals) JAct.vals_length (by omega) ar7 rfl hk fun b o hab hr => ?_
  obtain ⟨b', o', hab', hc⟩ := RowAt.cell hr (i := 0) (v := .int .i64 acts[k].act) rfl
  cases hab'
  refine ⟨_, hc, br_eq (fun h1 => ?_) fun h1 => br_eq (fun h2 => ?_) fun h2 => br_eq (fun h3 => ?_) fun h3 => ?_⟩
  · intro w8 hd8
    have ar8 := RowAt.ext ar7 hd8.upd
    have hp8 := hp7.ext hd8.upd
    refine ⟨fun u => Upd (Bet A w7.heap.size) w8 u, Upd.refl _ _, ?_⟩
    refine idx_flat (f := JAct.vals) JAct.vals_length (by omega) ar8 rfl hk fun b o hab hr => ?_
    simp only [add_lit]
    refine ⟨acts[k].era.toNat, fun u hu => ?_, ?_⟩
    · obtain ⟨b', o', hab', hc⟩ := RowAt.cell (cellS hab (rowS ar8 hu)) (i := 1) (v := bv acts[k].era) rfl
      cases hab'
      exact hc
    refine idx_flat (f := JAct.vals) JAct.vals_length (by omega) ar8 rfl hk fun b o hab hr => ?_
    simp only [add_lit]
    refine ⟨acts[k].turn.from_.toNat, acts[k].turn.to.toNat, acts[k].turn.phase.toNat, fun u hu => ?_, ?_⟩
    · have h1 := RowAt.take (RowAt.drop (cellS hab (rowS ar8 hu)) 2) 3
      exact RowAt.cells h1
    rw [ewr]
    refine (jour_Write_spec hp8 (fun x hx => by rw [hd8.heap]; exact hx.2) hinv (by omega) acts[k].turn (by rw [hnb]; omega) rfl).mono ?_
    rintro _ w9 ⟨rfl, hu9, hp9⟩
    obtain ⟨k1, k2, k3, k4⟩ := jourWrite_inv hinv (era := acts[k].era.toNat) (by omega) acts[k].turn (by rw [hnb]; omega) hp7.turn
    generalize jourWrite P c acts[k].era.toNat acts[k].turn = r at *
    refine ⟨_, rfl, hu9, hX w9 w7.heap.size r.2.1 (hin ((Upd.ext hd8.upd).trans hu9)) ?_ hp9.chip k1.ci k2 k4 (k1.headsTo (by rw [hnb] at k3; omega))⟩
    have := hu9.size
    rw [hd8.heap] at this
    exact this
  · refine (jour_Away_spec hp7 (fun x hx => hx.2) (by omega) rfl).mono ?_
    rintro _ w10 ⟨rfl, hu10, hp10⟩
    obtain ⟨k1, k2, k3⟩ := jourAway_inv hinv
    have k4 := jourAway_hits hinv
    generalize jourAway P c = r at *
    exact ⟨_, rfl, hX w10 w7.heap.size r.2.1 (hin hu10) hu10.size hp10.chip k1.ci k2 k4 (k1.headsTo (by omega))⟩
  · intro w11 hd11
    have ar11 := RowAt.ext ar7 hd11.upd
    have hp11 := hp7.ext hd11.upd
    refine ⟨fun u => Upd (Bet A w7.heap.size) w11 u, Upd.refl _ _, ?_⟩
    refine idx_flat (f := JAct.vals) JAct.vals_length (by omega) ar11 rfl hk fun b o hab hr => ?_
    simp only [add_lit]
    refine ⟨acts[k].kind.toNat, fun u hu => ?_, ?_⟩
    · obtain ⟨b', o', hab', hc⟩ := RowAt.cell (cellS hab (rowS ar11 hu)) (i := 5) (v := bv acts[k].kind) rfl
      cases hab'
      exact hc
    refine idx_flat (f := JAct.vals) JAct.vals_length (by omega) ar11 rfl hk fun b o hab hr => ?_
    simp only [add_lit]
    refine ⟨acts[k].era.toNat, fun u hu => ?_, ?_⟩
    · obtain ⟨b', o', hab', hc⟩ := RowAt.cell (cellS hab (rowS ar11 hu)) (i := 1) (v := bv acts[k].era) rfl
      cases hab'
      exact hc
    rw [ewr]
    refine (pTake hp11 (by omega) rfl).mono ?_
    rintro _ w12 ⟨rfl, hu12, hp12⟩
    have hsz : w7.heap.size ≤ w12.heap.size := by
      have := hu12.size
      rw [hd11.heap] at this
      exact this
    refine ⟨_, _, rfl, hu12, ?_⟩
    by_cases hkk : acts[k].kind.toNat < 1 ∨ acts[k].kind.toNat > 3 ∨ acts[k].era.toNat < 1
    · rw [takePool_bad hkk] at hp12
      exact hX w12 w7.heap.size c (hin ((Upd.ext hd11.upd).trans hu12)) hsz hp12.chip hci (.refl _) (Nat.le_refl _) (hinv.headsTo (by omega))
    · have hgo := takePool_go (P := P) hci.ok hd0 (kind := acts[k].kind) (era := acts[k].era.toNat) (by omega) (by omega) (by omega)
      have tp := takeGo_inv (kind := acts[k].kind) (era := acts[k].era.toNat) (by omega) (by omega) (by omega) (by omega) (List.range c.nb) hinv hd0 (by simp; omega)
      have tq := (takeGo_open (kind := acts[k].kind) (era := acts[k].era.toNat) (by omega) (by omega) (by omega) (by omega) (List.range c.nb) hinv hd0 (by simp; omega)).2
      rw [hgo] at hp12
      generalize takeGo acts[k].kind acts[k].era.toNat P c (List.range c.nb) = R at *
      have hhi : R.pool.last ≤ P.last + c.nb := by have := tp.hi; simpa using this
      exact hX w12 w7.heap.size R.chip (hin ((Upd.ext hd11.upd).trans hu12)) hsz hp12.chip tp.inv.ci tp.geo tq (tp.inv.headsTo (by omega))
  · exact hX w7 w7.heap.size c (Upd.ext he7) (Nat.le_refl _) hp7.chip hci (.refl _) (Nat.le_refl _) (hinv.headsTo (by omega))
/-- in play -/
def Playing22 (w : World) (k : Nat) (p : Option Addr) (u : World) : Prop :=
  Ext w u ∧ ∃ S q c, p = some ⟨q, 0, none⟩ ∧ S ≤ u.heap.size ∧ CAt w.heap.size S u q c ∧ CI c ∧ c.nb = 16 ∧ c.np = 4 ∧ c.sz = 128 ∧ c.hits.length < 20 ∧ HeadsTo c (400 * k)
theorem carracklaw22_played_spec {w : World} {Gin : Nat → Prop} {ha aa : Option Addr} {hvs : List Value} {hs : List Hit} {acts : List JAct} {hc ac : Nat} (hr : RowAt w ha hvs) (hh : HitRow w Gin hvs hs) (hG : ∀ x, Gin x → x < w.heap.size) (hap : hs ≠ [] → ∀ q, ha = some q → q.block < w.heap.size)
    (hm : ∀ t ∈ hs, t.mask.length ≤ 140737488355232) (ar : RowAt w aa (acts.flatMap JAct.vals)) :
    CallsR prog K.carracklaw22_played #[.slice ha hs.length hc, .slice aa acts.length ac] w fun v w' => Ext w w' ∧ ∃ S q c, v = .tuple #[.pointer (some ⟨q, 0, none⟩), .bool true] ∧ S ≤ w'.heap.size ∧ CAt w.heap.size S w' q c ∧ CI c ∧ c.nb = 16 ∧ c.np = 4 ∧ c.sz = 128 ∧ c.dead = false ∧ c.hits = [] ∧ HeadsTo c 10000 := by
  apply carracklaw22_played.sh
  unfold carracklaw22_played.body
  refine (cNew w (A := w.heap.size) (nb := 16) (np := 4) (sz := 128) (sp := 2) (Nat.le_refl _) (by omega) (by omega) (by omega) (by omega) (by omega) (by omega) (by omega)).mono ?_
  rintro _ w1 ⟨he1, p, rfl, hc1⟩
  obtain ⟨hci, hno⟩ := new_ci (nb := 16) (np := 4) (sz := 128) (sp := 2) (by omega) (by omega) (by omega) (by omega) (by omega) (by omega) (newChip 16 4 128 2) rfl
  have hnb0 : (newChip 16 4 128 2).nb = 16 := rfl
  have hnp0 : (newChip 16 4 128 2).np = 4 := rfl
  have hsz0 : (newChip 16 4 128 2).sz = 128 := rfl
  have hh0 : (newChip 16 4 128 2).hits = [] := rfl
  generalize newChip 16 4 128 2 = c0 at *
  refine ⟨_, _, rfl, br_ne (fun h => (h rfl).elim) fun _ => ?_⟩
  refine ⟨fun u => Playing22 w 0 (some ⟨p, 0, none⟩) u, ?_, ?_⟩
  · refine br_dec (fun hlt => ?_) fun hge => ⟨he1, _, p, c0, rfl, Nat.le_refl _, hc1, hci, hnb0, hnp0, hsz0, by rw [hh0]; simp, fun i hi hhd => absurd hhd (hno i hi)⟩
    refine (cHits hc1 he1.size (cp := hc) (RowAt.ext hr he1) (HitRow.upd he1 (fun _ _ hf => hf) hh) (fun x hx => .inl (hG x hx)) (fun h q hq => .inl (hap h q hq)) (by omega) hm).mono ?_
    rintro _ w2 ⟨rfl, hu2, hc2⟩
    obtain ⟨g1, _⟩ := setHits_geo c0 hs
    have hlen : (c0.setHits hs).1.hits.length < 20 := by
      unfold Chip.setHits
      split
      · rw [hh0]; simp
      · show hs.length < 20
        omega
    have hci2 : CI (c0.setHits hs).1 ∧ HeadsTo (c0.setHits hs).1 (400 * 0) := by
      unfold Chip.setHits
      split
      · exact ⟨hci, fun i hi hhd => absurd hhd (hno i hi)⟩
      · exact ⟨⟨⟨hci.ok.nb1, hci.ok.nb2, hci.ok.np1, hci.ok.np2, hci.ok.sz1, hci.ok.sz2, hci.ok.bl, hci.ok.bl2, hci.ok.bad⟩, hci.safe, hci.uniq⟩, fun i hi hhd => absurd hhd (hno i hi)⟩
    exact ⟨_, rfl, Upd.beyond he1 hu2 (fun x hx => hx.1), _, p, _, rfl, hu2.size, hc2, hci2.1, g1.1.trans hnb0, g1.2.1.trans hnp0, g1.2.2.1.trans hsz0, hlen, hci2.2⟩
  intro w3 hp3
  refine ⟨fun p2 x u => ∃ k : Nat, x = k ∧ k ≤ acts.length ∧ k ≤ 12 ∧ Playing22 w k p2 u, fun _ x _ => (12 - x).toNat, ⟨0, rfl, by omega, by omega, hp3⟩, ?_⟩
  rintro p2 x u ⟨k, rfl, hka, hk12, hext, S, q, c, rfl, hS, hcu, hciu, hnb, hnp, hsz, hhu, hhd⟩
  have hlow := hcu.low
  have fin : CallsR prog K.nand_Chip_Power #[Value.pointer (some ⟨q, 0, none⟩)] u fun v13 w19 => ∃ p6 : Option Addr, ∃ x30 : Int, v13 = Value.tuple #[Value.pointer p6, Value.int .i64 x30] ∧
      (Ext w w19 ∧ ∃ S q c, Value.tuple #[Value.pointer p6, Value.bool (x30 == 0)] = .tuple #[.pointer (some ⟨q, 0, none⟩), .bool true] ∧ S ≤ w19.heap.size ∧ CAt w.heap.size S w19 q c ∧ CI c ∧ c.nb = 16 ∧ c.np = 4 ∧ c.sz = 128 ∧ c.dead = false ∧ c.hits = [] ∧ HeadsTo c 10000) := by
    refine (cPower hcu hext.size).mono ?_
    rintro _ w19 ⟨he19, p6, rfl, hc19⟩
    exact ⟨_, _, rfl, hext.trans he19, _, p6, c.power, rfl, Nat.le_refl _, hc19, power_ci hciu, hnb, hnp, hsz, rfl, rfl, fun i hi hh => Nat.le_trans (hhd i hi hh) (by omega)⟩
  refine br_dec (fun h1 => br_dec (fun h2 => ?_) fun h2 => fin) fun h1 => fin
  have hk' : k < acts.length := by omega
  have hk12' : k < 12 := by omega
  have e1 : IntKind.i64.wrap ((k : Int) + 1) = ((k + 1 : Nat) : Int) := w64 (by omega) (by omega)
  rw [e1]
  have hfar : ∀ z, aa = some z → z.block < w.heap.size := by
    intro z hz
    obtain ⟨b, o, e, hlt⟩ := RowAt.blk ar (List.ne_nil_of_length_pos (by rw [flat_len JAct.vals_length]; omega))
    rw [hz] at e
    cases e
    exact hlt
  have hX : ∀ {v : World} {S0 : Nat} {q0 : Nat} {c0 : Chip}, Ext w v → c0.nb = 16 → c0.np = 4 → c0.sz = 128 → c0.hits.length < 20 → ∀ z S' c', Upd (Bet w.heap.size S') v z → S' ≤ z.heap.size → CAt w.heap.size S' z q0 c' → CI c' → c0.SameGeo c' → c'.hits.length ≤ c0.hits.length → HeadsTo c' (400 * k + 400) →
      (∃ k' : Nat, ((k + 1 : Nat) : Int) = k' ∧ k' ≤ acts.length ∧ k' ≤ 12 ∧ Playing22 w k' (some ⟨q0, 0, none⟩) z) ∧ ((12 : Int) - ((k + 1 : Nat) : Int)).toNat < ((12 : Int) - (k : Int)).toNat := by
    intro v S0 q0 c0 he h16 h4 h128 hl z S' c' hz hS' hcz hciz hg hlz hhz
    exact ⟨⟨k + 1, rfl, hk', hk12', Upd.beyond he hz (fun x hx => hx.1), S', q0, c', rfl, hS', hcz, hciz, hg.1.trans h16, hg.2.1.trans h4, hg.2.2.1.trans h128, by omega, by rw [Nat.mul_succ]; exact hhz⟩, by omega⟩
  refine (cReadAt hcu 0 0).mono ?_
  rintro _ w5 ⟨he5, hv⟩
  have hs5 := he5.size
  have hc5 := hcu.ext he5
  have hB : 400 * k ≤ 100000 := by omega
  split at hv
  · rename_i h0
    obtain ⟨a1, cp1, rfl, _⟩ := hv
    have hd0 := (ask_zero h0).1
    refine ⟨_, _, _, _, rfl, br_ne (fun h => (h rfl).elim) fun _ => ?_⟩
    exact act22 hc5 (by omega) hciu hd0 hnb hhu hhd hB (RowAt.ext ar (hext.trans he5)) hk' hfar (hX (S0 := S) (q0 := q) (c0 := c) (hext.trans he5) hnb hnp hsz hhu)
  · rename_i h0
    subst hv
    refine ⟨_, _, _, _, rfl, br_ne (fun _ => ?_) fun h => by omega⟩
    refine (cPower hc5 (by have := hext.size; omega)).mono ?_
    rintro _ w6 ⟨he6, p3, rfl, hc6⟩
    refine ⟨_, _, rfl, ?_⟩
    exact act22 hc6 (Nat.le_refl _) (power_ci hciu) rfl hnb (by show (0 : Nat) < 20; omega) hhd hB (RowAt.ext ar ((hext.trans he5).trans he6)) hk' hfar (hX (S0 := S) (q0 := p3) (c0 := c.power) ((hext.trans he5).trans he6) hnb hnp hsz (by show (0 : Nat) < 20; omega))
/-! ### Of no chip, no pool -/
theorem zero_Says {w : World} {p : Option Addr} (h : p = none ∨ ∃ B, p = some ⟨B, 0, none⟩ ∧ w.heap[B]? = some (.cells zeroChip T.nand_Chip (0, 0))) (era : Int) :
    CallsR prog K.jour_Says #[.pointer p, .int .u32 era] w fun v w' => v = .tuple #[.bool false, .bool false, turnV Turn.zero, .int .i64 1] ∧ Ext w w' := by
  apply jour_Says.sh
  unfold jour_Says.body
  intro B1 w1 hn1
  have h1 : p = none ∨ ∃ B, p = some ⟨B, 0, none⟩ ∧ w1.heap[B]? = some (.cells zeroChip T.nand_Chip (0, 0)) := by
    rcases h with h | ⟨B, h, hc⟩
    · exact .inl h
    · exact .inr ⟨B, h, Ext.get hn1.upd hc⟩
  refine (zero_Scan h1).mono ?_
  rintro _ w2 ⟨rfl, he2⟩
  refine ⟨_, _, rfl, br_ne (fun _ => ?_) fun h => by cases h⟩
  intro w3 hd3
  have g3 : SayAt w3 B1 Turn.zero := Ext.get hd3.upd (he2.get hn1.get)
  refine ⟨fun v => v = w3, rfl, 0, 0, 0, fun v hv => hv ▸ cells_all (vs := Turn.zero.vals) g3, ?_⟩
  refine put_all (vs := Turn.zero.vals) g3 (by simp) fun w4 hu4 hs4 hg4 => ?_
  exact ⟨_, _, _, cells_all (vs := Turn.zero.vals) hg4, rfl, Upd.beyond ((hn1.upd.trans he2).trans hd3.upd) hu4 (fun x hx => by have := hn1.num; omega)⟩
theorem zero_alive {w : World} {p : Option Addr} (h : NoPool w p) : CallsR prog K.jour_alive #[.pointer p] w fun v w' => v = .int .i64 1 ∧ w' = w := by
  apply jour_alive.sh
  unfold jour_alive.body
  refine (noPool_Chip h).mono ?_
  rintro _ _ ⟨rfl, rfl⟩
  refine ⟨_, rfl, br_intro (fun _ => ⟨rfl, rfl⟩) fun h => by cases h⟩
theorem NoPool.ext {w w' : World} {p : Option Addr} (h : NoPool w p) (k : Ext w w') : NoPool w' p := by
  rcases h with h | ⟨B, h, hc⟩
  · exact .inl h
  · exact .inr ⟨B, h, k.get hc⟩
theorem zero_Write {w : World} {p : Option Addr} (h : NoPool w p) (era : Int) (x y z : Int) : CallsR prog K.jour_Write #[.pointer p, .int .u32 era, .agg #[.int .u8 x, .int .u8 y, .int .u8 z]] w fun v w' => v = .int .i64 1 ∧ Ext w w' := by
  apply jour_Write.sh
  unfold jour_Write.body
  intro B1 w1 hn1
  refine (zero_alive (h.ext hn1.upd)).mono ?_
  rintro _ _ ⟨rfl, rfl⟩
  exact ⟨_, rfl, br_ne (fun _ => ⟨rfl, hn1.upd⟩) fun h => by cases h⟩
theorem zero_Away {w : World} {p : Option Addr} (h : NoPool w p) : CallsR prog K.jour_Away #[.pointer p] w fun v w' => v = .int .i64 1 ∧ Ext w w' := by
  apply jour_Away.sh
  unfold jour_Away.body
  refine (zero_alive h).mono ?_
  rintro _ _ ⟨rfl, rfl⟩
  exact ⟨_, rfl, br_ne (fun _ => ⟨rfl, Upd.refl _ _⟩) fun h => by cases h⟩
end Go.Den
end
section
set_option linter.unusedVariables false
set_option linter.unusedSimpArgs false
namespace Go.Den
open Go.ChangeShapes Go.WideShapes Go.ChangeAt Go.RowKit
theorem Ext.below {w w' : World} (h : Ext w w') : Below w.heap.size w w' := ⟨h.os, h.tape, h.output, h.size, fun k hk => h.blk k hk (fun hf => hf)⟩
section
variable {H : Type} {enc : TypeId × Value → H} {P : Program}
theorem trodAll_stays (hl : laidOutB P = true) {W W' : World} (hb : Below W.heap.size W W') {sp : Nat → Bool} : ∀ {ts : List TypeId} {vs : List Value} {ds : List (DataW H)} {ps : List MemPlace}, (∀ t ∈ ts, P.readableRec t = true ∧ t < P.types.size) →
    DataW.TrodAll enc P W 0 (fun _ => true) true ts vs ds ps → (∀ x ∈ ps, x.block < W.heap.size) → (∀ x ∈ ps, sp x.block = true) → DataW.TrodAll enc P W' 0 sp true ts vs ds ps
  | [], _, _, _, _, h, _, _ => by
    obtain ⟨rfl, rfl, rfl⟩ := trodAll_nil h
    rfl
  | t :: ts, _, _, _, hr, h, hlt, hsp => by
    obtain ⟨v, vs1, d, ds1, a, b, rfl, rfl, rfl, h1, h2⟩ := trodAll_cons h
    exact ⟨a, b, WideElems.Trod_stays hl (hr t (by simp)).1 (hr t (by simp)).2 h1 (fun x hx => hb.same (hlt x (by simp [hx]))) (fun x hx => hsp x (by simp [hx])),
      trodAll_stays hl hb (fun u hu => hr u (by simp [hu])) h2 (fun x hx => hlt x (by simp [hx])) (fun x hx => hsp x (by simp [hx])), rfl⟩
/-- a law's answer: true, and all arguments as they were -/
theorem post_true (hl : laidOutB P = true) {f : Func} {s : ChangeSpec} {apart fresh handsOn again : Bool} {W W' : World} {args : Array Value} {ds gs : List (DataW H)} {before : List MemPlace} {tb : TypeId}
    (hW : DataW.Whole enc P f.params.toList s.vars apart W args.toList ds gs before) (hv : s.vars = []) (hrows : ∀ t ∈ f.params.toList, P.readableRec t = true ∧ t < P.types.size) (hb : Below W.heap.size W W')
    (ht : P.underlying tb = some .bool) (hres : f.resultTypes = #[tb]) (hfn : (s.fn H (ds ++ gs)) = { results := [.lit (.bool true)], args := ds }) :
    s.post enc P f apart fresh handsOn again W args (.bool true) W' := by
  have hlt := hW.lt
  have hW' := hW
  obtain ⟨p, q, hA, hV, hpq, hz, hn⟩ := hW'
  rw [hv] at hV
  obtain ⟨rfl, rfl⟩ := trodVars_none hV
  simp only [List.append_nil] at hpq
  subst hpq
  have hargs : ∀ sp : Nat → Bool, (∀ x ∈ before, sp x.block = true) → DataW.TrodAll enc P W' 0 sp true f.params.toList args.toList ds before := fun sp hsp => trodAll_stays hl hb hrows hA hlt hsp
  have hresT : ∀ (b : Nat) (sp : Nat → Bool) (hd : Bool), DataW.TrodAll enc P W' b sp hd f.resultTypes.toList ((Value.bool true).resultList f.resultTypes.size) [.lit (.bool true)] [] := by
    intro b sp hd
    rw [hres]
    exact trodAll_cons_mk (shut_bool ht _) trodAll_mk0
  refine ⟨ds, [], before, [], before, [], hW, ?_, ?_, ?_, hb.frame _, fun _ => ⟨?_, .lit (.bool true) :: ds, [], before, ⟨before, [], ?_, ?_, by simp, ?_, hn⟩, fun p hp _ => hp⟩⟩
  · rw [hfn]; exact hresT _ _ _
  · rw [hfn]; exact hargs _ (fun x hx => by simpa using hlt x hx)
  · rw [hv, hfn]; rfl
  · exact ok_one hres rfl (okWide_bool_mk ht _)
  · have := trodAll_append (hargs _ (fun _ _ => rfl)) (hresT 0 (fun _ => true) true)
    exact this
  · rw [hv]; rfl
  · intro b off hp
    have hbl := hlt _ hp
    rw [hb.frozen (p := ⟨b, off, none⟩) hbl]
    exact hz b off hp
/-! ### Arguments -/
theorem row_of_cells {w : World} {a : Addr} {vs : List Value} (h : ∀ (j : Nat) v, vs[j]? = some v → w.cell? (a.add j) = some v) : RowAt w (some a) vs := by
  cases vs with
  | nil => exact .inl rfl
  | cons v vs =>
    have h0 := h 0 v rfl
    rw [add_zero] at h0
    unfold World.cell? at h0
    split at h0
    · rename_i c t fr hb
      split at h0
      · cases h0
      · rename_i hs
        obtain ⟨b, o, s⟩ := a
        cases s with
        | some s => simp at hs
        | none =>
          refine .inr ⟨b, o, c, t, fr, rfl, hb, fun j u hj => ?_⟩
          have := h j u hj
          rw [add_lit] at this
          simpa [World.cell?, hb] using this
    · cases h0
theorem cells_get {w : World} {base : Nat} {a : Addr} {n : Nat} {cs : List Value} (h : w.cells? base a n = some cs) : cs.length = n ∧ ∀ (j : Nat) v, cs[j]? = some v → w.cell? (a.add j) = some v := by
  unfold World.cells? at h
  split at h
  · have hl : cs.length = n := by
      have := mapM_some_length h
      simpa using this
    refine ⟨hl, fun j v hj => ?_⟩
    have hjn : j < n := by rw [← hl]; exact (List.getElem?_eq_some_iff.1 hj).1
    have := mapM_some_get h j j (by simp [hjn])
    rw [hj] at this
    exact this
  · cases h
theorem add_add (a : Addr) (x y : Nat) : (a.add x).add y = a.add (x + y) := by
  unfold Addr.add
  by_cases hx : x = 0
  · subst hx; simp
  · by_cases hy : y = 0
    · subst hy; simp [hx]
    · rw [if_neg hx, if_neg hy, if_neg (by omega)]
      simp [Nat.add_assoc]
theorem flat_at {k : Nat} {g : Nat → List Value} : ∀ (n : Nat), (∀ i, i < n → (g i).length = k) → ((List.range n).flatMap g).length = n * k ∧ ∀ (j : Nat) v, ((List.range n).flatMap g)[j]? = some v → ∃ i c, i < n ∧ j = i * k + c ∧ (g i)[c]? = some v
  | 0, _ => by simp
  | n + 1, h => by
    obtain ⟨hl, hg⟩ := flat_at n fun i hi => h i (by omega)
    have hn := h n (by omega)
    rw [List.range_succ, List.flatMap_append]
    refine ⟨by simp [hl, hn, Nat.succ_mul], fun j v hj => ?_⟩
    by_cases hlt : j < ((List.range n).flatMap g).length
    · rw [List.getElem?_append_left hlt] at hj
      obtain ⟨i, c, hi, e, hc⟩ := hg j v hj
      exact ⟨i, c, by omega, e, hc⟩
    · rw [List.getElem?_append_right (by omega), hl] at hj
      exact ⟨n, j - n * k, by omega, by rw [hl] at hlt; omega, by simpa using hj⟩
/-- a slice of whatever elements: its rows -/
theorem open_rows {w : World} {base : Nat} {spare : Nat → Bool} {held : Bool} {t e : TypeId} {fuel : Nat} {cs : List Value} {x : DataW H × List MemPlace} (ht : P.underlying t = some (.slice e)) (h : DataW.trod enc P w base spare held fuel t cs = some x) :
    ∃ (a : Option Addr) (len cap : Nat) (rows : List (List Value)) (ds : List (DataW H)), cs = [.slice a len cap] ∧ len ≤ cap ∧ rows.length = len ∧ ds.length = len ∧ (∀ r ∈ rows, r.length = P.cellsOf e) ∧ RowAt w a rows.flatten ∧ (a = none → cap = 0) ∧
      (∀ (i : Nat) r, rows[i]? = some r → ∃ n d ps, ds[i]? = some d ∧ DataW.trod enc P w base spare held n e r = some (d, ps)) ∧ ((x.1 = .nil ∧ len = 0) ∨ ∃ sp, x.1 = .slice ds sp) := by
  rcases DataW.trod_slice ht h with ⟨rfl, rfl⟩ | ⟨a, len, cap, elems, rest, n, _, rfl, rfl, hb, hl, hm, hlen, hel, hsp, hns⟩
  · exact ⟨none, 0, 0, [], [], rfl, Nat.le_refl _, rfl, rfl, by simp, RowAt.nil _ _, fun _ => rfl, fun i r hr => by simp at hr, .inl ⟨rfl, rfl⟩⟩
  · have hrow : ∀ i, i < len → ∃ r, w.cells? base (a.add (i * P.cellsOf e)) (P.cellsOf e) = some r ∧ DataW.trod enc P w base spare held n e r = elems[i]? ∧ ∃ y, elems[i]? = some y := by
      intro i hi
      have h1 := hel i hi
      have h2 : ∃ y, elems[i]? = some y := ⟨elems[i]'(by omega), by simp [hlen, hi]⟩
      obtain ⟨y, hy⟩ := h2
      rw [hy] at h1
      cases hc : w.cells? base (a.add (i * P.cellsOf e)) (P.cellsOf e) with
      | none => rw [hc] at h1; cases h1
      | some r => rw [hc] at h1; exact ⟨r, rfl, by rw [hy]; exact h1, y, hy⟩
    have hg : ∀ i, i < len → w.cells? base (a.add (i * P.cellsOf e)) (P.cellsOf e) = some ((w.cells? base (a.add (i * P.cellsOf e)) (P.cellsOf e)).getD []) := by
      intro i hi
      obtain ⟨r, hr, _⟩ := hrow i hi
      rw [hr]; rfl
    have hgl : ∀ i, i < len → ((w.cells? base (a.add (i * P.cellsOf e)) (P.cellsOf e)).getD []).length = P.cellsOf e := fun i hi => (cells_get (hg i hi)).1
    obtain ⟨_, hflat⟩ := flat_at (g := fun i => (w.cells? base (a.add (i * P.cellsOf e)) (P.cellsOf e)).getD []) len hgl
    refine ⟨some a, len, cap, (List.range len).map fun i => (w.cells? base (a.add (i * P.cellsOf e)) (P.cellsOf e)).getD [], elems.map (·.1), rfl, hl, by simp, by simpa using hlen, ?_, ?_, (fun h => by cases h), ?_, .inr ⟨_, rfl⟩⟩
    · intro r hr
      obtain ⟨i, hi, rfl⟩ := List.mem_map.1 hr
      exact hgl i (by simpa using hi)
    · refine row_of_cells fun j v hj => ?_
      rw [← List.flatMap_def] at hj
      obtain ⟨i, c, hi, rfl, hc⟩ := hflat j v hj
      rw [← add_add]
      exact (cells_get (hg i hi)).2 c v hc
    · intro i r hr
      have hi : i < len := by have := (List.getElem?_eq_some_iff.1 hr).1; simpa using this
      obtain ⟨r', h1, h2, y, hy⟩ := hrow i hi
      have : r = r' := by
        simp [hi, h1] at hr
        exact hr.symm
      subst this
      exact ⟨n, y.1, y.2, by simp [hy], by rw [h2, hy]⟩
theorem list_choice {α β : Type} {f : α → β} {Q : α → Prop} : ∀ (l : List β), (∀ r ∈ l, ∃ x, r = f x ∧ Q x) → ∃ xs : List α, l = xs.map f ∧ ∀ x ∈ xs, Q x
  | [], _ => ⟨[], rfl, by simp⟩
  | r :: l, h => by
    obtain ⟨x, e, q⟩ := h r (by simp)
    obtain ⟨xs, e', q'⟩ := list_choice l fun r hr => h r (by simp [hr])
    refine ⟨x :: xs, by rw [e, e']; rfl, fun y hy => ?_⟩
    rcases List.mem_cons.1 hy with rfl | hy
    · exact q
    · exact q' y hy
theorem byte_of {n : Int} (h : (Lit.int .u8 n).wf = true) : ∃ x : UInt8, Value.int .u8 n = bv x := by
  have hb : 0 ≤ n ∧ n ≤ 255 := by simpa [Lit.wf, IntKind.min, IntKind.max, IntKind.signed, IntKind.bits] using h
  exact ⟨UInt8.ofNat n.toNat, by simp; omega⟩
theorem flat_single (l : List UInt8) : (l.map fun x => [bv x]).flatten = l.map bv := by
  induction l with
  | nil => rfl
  | cons x l ih => simp [ih]
/-- a struct of three numbers -/
theorem open_agg3 {w : World} {r : Reach} {base : Nat} {t t0 t1 t2 : TypeId} {k0 k1 k2 : IntKind} {f0 f1 f2 : Field} {v : Value} {d : DataW H} {ps : List MemPlace} (ht : P.underlying t = some (.struct #[f0, f1, f2])) (hC : P.cellsOf t = 3)
    (o0 : f0.offset = 0) (o1 : f1.offset = 1) (o2 : f2.offset = 2) (e0 : f0.type = t0) (e1 : f1.type = t1) (e2 : f2.type = t2) (c0 : P.cellsOf t0 = 1) (c1 : P.cellsOf t1 = 1) (c2 : P.cellsOf t2 = 1)
    (u0 : P.underlying t0 = some (.int k0)) (u1 : P.underlying t1 = some (.int k1)) (u2 : P.underlying t2 = some (.int k2)) (hv : Value.okWide P w r base t v) (h : DataW.Trod enc P w 0 (fun _ => true) true t v d ps) :
    ∃ a b c : Int, v = .agg #[.int k0 a, .int k1 b, .int k2 c] ∧ (Lit.int k0 a).wf = true ∧ (Lit.int k1 b).wf = true ∧ (Lit.int k2 c).wf = true := by
  obtain ⟨fuel, hf⟩ := h
  obtain ⟨cs, rfl⟩ : ∃ cs, v = .agg cs := by
    unfold Value.okWide at hv
    rw [ht] at hv
    obtain ⟨cs, h, _⟩ := hv
    exact ⟨cs, h⟩
  obtain ⟨xs, n, _, _, hlen, hxs, hfs⟩ := DataW.trod_struct ht hf
  have g0 := hfs 0 f0 rfl
  have g1 := hfs 1 f1 rfl
  have g2 := hfs 2 f2 rfl
  have hxl : xs.length = 3 := by simpa using hxs
  rw [e0, o0, c0, List.getElem?_eq_getElem (by omega)] at g0
  rw [e1, o1, c1, List.getElem?_eq_getElem (by omega)] at g1
  rw [e2, o2, c2, List.getElem?_eq_getElem (by omega)] at g2
  obtain ⟨a, ha, _, wa⟩ := DataW.trod_int u0 g0
  obtain ⟨b, hb, _, wb⟩ := DataW.trod_int u1 g1
  obtain ⟨c, hc, _, wc⟩ := DataW.trod_int u2 g2
  refine ⟨a, b, c, ?_, wa, wb, wc⟩
  rw [hC] at hlen
  have hcl : (Value.agg cs).cells = cs := rfl
  rw [hcl] at ha hb hc hlen
  obtain ⟨l⟩ := cs
  match l, hlen with
  | [x, y, z], _ =>
    simp at ha hb hc
    rw [ha, hb, hc]
end
end Go.Den
end
section
set_option linter.unusedVariables false
set_option linter.unusedSimpArgs false
namespace Go.Den
open Go.ChangeShapes Go.WideShapes Go.ChangeAt Go.RowKit
/-- the numbers of a type, structs laid flat -/
def flatFields (P : Program) (rec : TypeId → Option (List IntKind)) : List Field → Nat → Option (List IntKind)
  | [], _ => some []
  | f :: fs, o => if f.offset = o then match rec f.type with
    | some ks => if P.cellsOf f.type = ks.length then match flatFields P rec fs (o + ks.length) with
      | some r => some (ks ++ r)
      | none => none
      else none
    | none => none
    else none
def flatKinds (P : Program) : Nat → TypeId → Option (List IntKind)
  | 0, _ => none
  | n + 1, t => match P.underlying t with
    | some (.int k) => some [k]
    | some (.struct fs) => match flatFields P (flatKinds P n) fs.toList 0 with
      | some ks => if P.cellsOf t = ks.length then some ks else none
      | none => none
    | _ => none
section
variable {H : Type} {enc : TypeId × Value → H} {P : Program}
def NumsIn (cs : List Value) (ks : List IntKind) : Prop := cs.length = ks.length ∧ ∀ (i : Nat) k, ks[i]? = some k → ∃ v : Int, cs[i]? = some (.int k v) ∧ (Lit.int k v).wf = true
theorem flatFields_open {rec : TypeId → Option (List IntKind)} {cs : List Value} (hrec : ∀ {f : Field} {ks : List IntKind} {sub : List Value}, rec f.type = some ks → (∃ n w base spare held y, DataW.trod enc P w base spare held n f.type sub = some y) → NumsIn sub ks) :
    ∀ {fs : List Field} {o : Nat} {ks : List IntKind}, flatFields P rec fs o = some ks → (∀ f ∈ fs, ∃ n w base spare held y, DataW.trod enc P w base spare held n f.type ((cs.drop f.offset).take (P.cellsOf f.type)) = some y) →
      ∀ (i : Nat) k, ks[i]? = some k → ∃ v : Int, cs[o + i]? = some (.int k v) ∧ (Lit.int k v).wf = true
  | [], o, ks, h, _, i, k, hk => by cases h; simp at hk
  | f :: fs, o, ks, h, hf, i, k, hk => by
    unfold flatFields at h
    split at h
    · rename_i ho
      split at h
      · rename_i ks0 h0
        split at h
        · rename_i hc
          split at h
          · rename_i r hr
            cases h
            have h1 := hrec h0 (hf f (by simp))
            rw [ho, hc] at h1
            by_cases hi : i < ks0.length
            · rw [List.getElem?_append_left hi] at hk
              obtain ⟨v, hv, wv⟩ := h1.2 i k hk
              refine ⟨v, ?_, wv⟩
              rw [List.getElem?_take, if_pos hi, List.getElem?_drop] at hv
              exact hv
            · rw [List.getElem?_append_right (by omega)] at hk
              obtain ⟨v, hv, wv⟩ := flatFields_open hrec hr (fun g hg => hf g (by simp [hg])) (i - ks0.length) k hk
              refine ⟨v, ?_, wv⟩
              rwa [show o + ks0.length + (i - ks0.length) = o + i by omega] at hv
          · cases h
        · cases h
      · cases h
    · cases h
theorem flat_open : ∀ {n : Nat} {t : TypeId} {ks : List IntKind} {w : World} {base : Nat} {spare : Nat → Bool} {held : Bool} {fuel : Nat} {cs : List Value} {x : DataW H × List MemPlace}, flatKinds P n t = some ks → DataW.trod enc P w base spare held fuel t cs = some x → NumsIn cs ks
  | n + 1, t, ks, w, base, spare, held, fuel, cs, x, h, hx => by
    unfold flatKinds at h
    split at h
    · rename_i k ht
      cases h
      obtain ⟨v, hv, _, wv⟩ := DataW.trod_int ht hx
      subst hv
      refine ⟨rfl, fun i k' hk => ?_⟩
      cases i with
      | zero => cases hk; exact ⟨v, rfl, wv⟩
      | succ i => simp at hk
    · rename_i fs ht
      split at h
      · rename_i ks' hks
        split at h
        · rename_i hc
          cases h
          obtain ⟨xs, m, _, _, hlen, hxs, hfs⟩ := DataW.trod_struct ht hx
          refine ⟨by rw [hlen, hc], fun i k hk => ?_⟩
          have := flatFields_open (enc := enc) (P := P) (cs := cs) (fun {f} {ks0} {sub} h0 ⟨n', w', b', s', hd', y, hy⟩ => flat_open h0 hy) hks (fun f hf => by
            obtain ⟨j, hj, e⟩ := List.getElem_of_mem hf
            have hj' : j < fs.size := by simpa using hj
            have g := hfs j f (by simp at e; simp [hj', e])
            rw [List.getElem?_eq_getElem (by omega)] at g
            exact ⟨m, w, base, spare, held, _, g⟩) i k hk
          simpa using this
        · cases h
      · cases h
    · cases h
end
end Go.Den
end
section
set_option linter.unusedVariables false
set_option linter.unusedSimpArgs false
namespace Go.Den
open Go.ChangeShapes Go.WideShapes Go.ChangeAt Go.RowKit
theorem byte_bv {n : Int} (h : (Lit.int .u8 n).wf = true) : Value.int .u8 n = bv (UInt8.ofNat n.toNat) := by
  have hb : 0 ≤ n ∧ n ≤ 255 := by simpa [Lit.wf, IntKind.min, IntKind.max, IntKind.signed, IntKind.bits] using h
  simp
  omega
theorem list6 {cs : List Value} {a b c d e f : Value} (hl : cs.length = 6) (h0 : cs[0]? = some a) (h1 : cs[1]? = some b) (h2 : cs[2]? = some c) (h3 : cs[3]? = some d) (h4 : cs[4]? = some e) (h5 : cs[5]? = some f) : cs = [a, b, c, d, e, f] := by
  match cs, hl with
  | [x0, x1, x2, x3, x4, x5], _ => simp_all
section
variable {H : Type} {enc : TypeId × Value → H} {P : Program}
/-- within the reach -/
def Fits (P : Program) (t : TypeId) (d : DataW H) : Prop := ∀ n ∈ d.weights P t, n ≤ reachBytes
theorem fits_each {ts : List TypeId} {ds : List (DataW H)} (h : (DataW.weightsEach P ts ds).all (· ≤ reachBytes) = true) {j : Nat} {t : TypeId} {d : DataW H} (ht : ts[j]? = some t) (hd : ds[j]? = some d) : Fits P t d := fun n hn => by
  have := List.all_eq_true.1 h _ (DataW.weights_mem_each ht hd n hn)
  simpa using this
theorem weights_all_mem {e : TypeId} : ∀ {l : List (DataW H)} {d : DataW H}, d ∈ l → ∀ n ∈ d.weights P e, n ∈ DataW.weightsAll P e l
  | d0 :: l, d, hm, n, hn => by
    simp only [DataW.weightsAll, List.mem_append]
    rcases List.mem_cons.1 hm with rfl | hm
    · exact .inl hn
    · exact .inr (weights_all_mem hm n hn)
theorem Fits.elem {t e : TypeId} {elems spare : List (DataW H)} (h : Fits P t (.slice elems spare)) (hu : P.underlying t = some (.slice e)) {d : DataW H} (hd : d ∈ elems) : Fits P e d := fun n hn => by
  refine h n ?_
  simp only [DataW.weights, hu, List.mem_cons, List.mem_append]
  exact .inr (.inl (weights_all_mem hd n hn))
theorem Fits.len {t e : TypeId} {elems spare : List (DataW H)} (h : Fits P t (.slice elems spare)) (hu : P.underlying t = some (.slice e)) : (elems.length + spare.length) * P.bytesOf e ≤ reachBytes := by
  refine h _ ?_
  simp only [DataW.weights, hu, List.mem_cons]
  exact .inl trivial
theorem Fits.part {t : TypeId} {fs : Array Field} {parts : List (DataW H)} (h : Fits P t (.agg parts)) (hu : P.underlying t = some (.struct fs)) {i : Nat} {f : Field} {d : DataW H} (hf : fs[i]? = some f) (hd : parts[i]? = some d) : Fits P f.type d := fun n hn => by
  refine h n ?_
  simp only [DataW.weights, hu]
  refine DataW.weights_mem_each (j := i) ?_ hd n hn
  simp [hf]
/-- a slice, with its elements' readings within the reach -/
theorem open_rows_fit {w : World} {base : Nat} {spare : Nat → Bool} {held : Bool} {t e : TypeId} {fuel : Nat} {cs : List Value} {x : DataW H × List MemPlace} (ht : P.underlying t = some (.slice e)) (h : DataW.trod enc P w base spare held fuel t cs = some x) (hfit : Fits P t x.1) :
    ∃ (a : Option Addr) (len cap : Nat) (rows : List (List Value)), cs = [.slice a len cap] ∧ len ≤ cap ∧ rows.length = len ∧ (∀ r ∈ rows, r.length = P.cellsOf e) ∧ RowAt w a rows.flatten ∧ (a = none → cap = 0) ∧ len * P.bytesOf e ≤ reachBytes ∧
      (∀ r ∈ rows, ∃ n d ps, Fits P e d ∧ DataW.trod enc P w base spare held n e r = some (d, ps)) := by
  obtain ⟨a, len, cap, rows, ds, rfl, hlc, hrl, hdl, hrk, hrow, hn, hel, hx⟩ := open_rows ht h
  rcases hx with ⟨hx, hl0⟩ | ⟨sp, hx⟩
  · subst hl0
    have : rows = [] := List.eq_nil_of_length_eq_zero hrl
    subst this
    exact ⟨a, 0, cap, [], rfl, hlc, rfl, hrk, hrow, hn, by omega, fun r hr => by simp at hr⟩
  · rw [hx] at hfit
    refine ⟨a, len, cap, rows, rfl, hlc, hrl, hrk, hrow, hn, ?_, fun r hr => ?_⟩
    · have := hfit.len ht
      rw [hdl, Nat.add_mul] at this
      omega
    · obtain ⟨i, hi, rfl⟩ := List.getElem_of_mem hr
      obtain ⟨n, d, ps, hd, ht'⟩ := hel i _ (List.getElem?_eq_getElem hi)
      exact ⟨n, d, ps, hfit.elem ht (List.mem_of_getElem? hd), ht'⟩
/-- a struct's field -/
theorem open_field {w : World} {base : Nat} {spare : Nat → Bool} {held : Bool} {e : TypeId} {fs : Array Field} {fuel : Nat} {cs : List Value} {x : DataW H × List MemPlace} (he : P.underlying e = some (.struct fs)) (h : DataW.trod enc P w base spare held fuel e cs = some x) (hfit : Fits P e x.1) :
    cs.length = P.cellsOf e ∧ ∀ (i : Nat) f, fs[i]? = some f → ∃ n y, DataW.trod enc P w base spare held n f.type ((cs.drop f.offset).take (P.cellsOf f.type)) = some y ∧ Fits P f.type y.1 := by
  obtain ⟨xs, n, _, rfl, hlen, hxs, hfs⟩ := DataW.trod_struct he h
  refine ⟨hlen, fun i f hf => ?_⟩
  have hi : i < xs.length := by rw [hxs]; exact (Array.getElem?_eq_some_iff.1 hf).1
  have g := hfs i f hf
  rw [List.getElem?_eq_getElem hi] at g
  exact ⟨n, _, g, hfit.part he hf (by simp [hi])⟩
/-- bytes, within the reach -/
theorem open_bytes_fit {w : World} {base : Nat} {spare : Nat → Bool} {held : Bool} {t e : TypeId} {fuel : Nat} {cs : List Value} {x : DataW H × List MemPlace} (ht : P.underlying t = some (.slice e)) (he : P.underlying e = some (.int .u8)) (hb : P.bytesOf e = 1) (h : DataW.trod enc P w base spare held fuel t cs = some x) (hfit : Fits P t x.1) :
    ∃ (a : Option Addr) (l : List UInt8) (cap : Nat), cs = [.slice a l.length cap] ∧ l.length ≤ cap ∧ BytesAt w a l ∧ (a = none → cap = 0) ∧ l.length ≤ reachBytes := by
  obtain ⟨a, len, cap, rows, rfl, hlc, hrl, hrk, hrow, hn, hlen, hel⟩ := open_rows_fit ht h hfit
  obtain ⟨l, rfl, _⟩ := list_choice (f := fun x : UInt8 => [bv x]) (Q := fun _ => True) rows (fun r hr => by
    obtain ⟨n, d, ps, _, ht'⟩ := hel r hr
    obtain ⟨m, hm, _, hw⟩ := DataW.trod_int he ht'
    obtain ⟨x, hx⟩ := byte_of hw
    exact ⟨x, by rw [hm, hx], trivial⟩)
  simp at hrl
  subst hrl
  rw [hb, Nat.mul_one] at hlen
  refine ⟨a, l, cap, rfl, hlc, ?_, hn, hlen⟩
  have e2 : (l.map fun x => [bv x]).flatten = l.map bv := flat_single l
  rw [e2] at hrow
  exact hrow
/-- is t the type of hits? -/
def hitsB (P : Program) (t : TypeId) : Bool :=
  match P.underlying t with
  | some (.slice e) => match P.underlying e with
    | some (.struct fs) => fs.size == 3 && P.cellsOf e == 3 && (match fs[0]?, fs[1]?, fs[2]? with
      | some f0, some f1, some f2 => f0.offset == 0 && f1.offset == 1 && f2.offset == 2 && P.cellsOf f0.type == 1 && P.cellsOf f1.type == 1 && P.cellsOf f2.type == 1 &&
          (match P.underlying f0.type with | some (.int .i64) => true | _ => false) && (match P.underlying f1.type with | some .bool => true | _ => false) &&
          (match P.underlying f2.type with | some (.slice b) => (match P.underlying b with | some (.int .u8) => P.bytesOf b == 1 | _ => false) | _ => false)
      | _, _, _ => false)
    | _ => false
  | _ => false
theorem list3 {cs : List Value} {a b c : Value} (hl : cs.length = 3) (h0 : (cs.drop 0).take 1 = [a]) (h1 : (cs.drop 1).take 1 = [b]) (h2 : (cs.drop 2).take 1 = [c]) : cs = [a, b, c] := by
  match cs, hl with
  | [x0, x1, x2], _ => simp_all
theorem hitRow_of {w : World} : ∀ {rows : List (List Value)}, (∀ r ∈ rows, ∃ (n : Int) (f : Bool) (m : Option Addr) (l : List UInt8) (c : Nat), r = [.int .i64 n, .bool f, .slice m l.length c] ∧ BytesAt w m l ∧ l.length ≤ reachBytes) →
    ∃ hs : List Hit, hs.length = rows.length ∧ HitRow w (fun x => x < w.heap.size) rows.flatten hs ∧ ∀ t ∈ hs, t.mask.length ≤ 140737488355232
  | [], _ => ⟨[], rfl, rfl, fun t ht => by simp at ht⟩
  | r :: rows, h => by
    obtain ⟨n, f, m, l, c, rfl, hb, hl⟩ := h r (by simp)
    obtain ⟨hs, h1, h2, h3⟩ := hitRow_of (w := w) (rows := rows) fun r hr => h r (by simp [hr])
    refine ⟨⟨n, f, l⟩ :: hs, by simp [h1], ⟨m, c, rows.flatten, by simp, hb, fun hn p hp => ?_, h2⟩, fun t ht => ?_⟩
    · obtain ⟨b, o, e, hlt⟩ := RowAt.blk hb (by simpa using hn)
      rw [hp] at e
      cases e
      exact hlt
    · rcases List.mem_cons.1 ht with rfl | ht
      · have : reachBytes ≤ 140737488355232 := by decide
        show l.length ≤ _
        omega
      · exact h3 t ht
/-- a slice of hits -/
theorem open_hits {w : World} {base : Nat} {spare : Nat → Bool} {held : Bool} {t : TypeId} {fuel : Nat} {cs : List Value} {x : DataW H × List MemPlace} (hb : hitsB P t = true) (h : DataW.trod enc P w base spare held fuel t cs = some x) (hfit : Fits P t x.1) :
    ∃ (a : Option Addr) (vs : List Value) (hs : List Hit) (cap : Nat), cs = [.slice a hs.length cap] ∧ RowAt w a vs ∧ HitRow w (fun x => x < w.heap.size) vs hs ∧ (hs ≠ [] → ∀ q, a = some q → q.block < w.heap.size) ∧ ∀ t ∈ hs, t.mask.length ≤ 140737488355232 := by
  unfold hitsB at hb
  split at hb
  · rename_i e ht
    split at hb
    · rename_i fs he
      rw [Bool.and_eq_true, Bool.and_eq_true] at hb
      obtain ⟨⟨k1, k2⟩, hb⟩ := hb
      split at hb
      · rename_i f0 f1 f2 g0 g1 g2
        simp only [Bool.and_eq_true, beq_iff_eq] at hb k1 k2
        obtain ⟨⟨⟨⟨⟨⟨⟨⟨o0, o1⟩, o2⟩, c0⟩, c1⟩, c2⟩, u0⟩, u1⟩, u2⟩ := hb
        obtain ⟨a, len, cap, rows, rfl, hlc, hrl, hrk, hrow, hn, hlen, hel⟩ := open_rows_fit ht h hfit
        obtain ⟨hs, e1, e2, e3⟩ := hitRow_of (w := w) (rows := rows) fun r hr => by
          obtain ⟨n, d, ps, hf, ht'⟩ := hel r hr
          obtain ⟨hl, hg⟩ := open_field he ht' hf
          obtain ⟨n0, y0, t0, _⟩ := hg 0 f0 g0
          obtain ⟨n1, y1, t1, _⟩ := hg 1 f1 g1
          obtain ⟨n2, y2, t2, z2⟩ := hg 2 f2 g2
          rw [o0, c0] at t0
          rw [o1, c1] at t1
          rw [o2, c2] at t2
          split at u0
          · rename_i v0
            split at u1
            · rename_i v1
              split at u2
              · rename_i b v2
                split at u2
                · rename_i v3
                  obtain ⟨m0, q0, _, _⟩ := DataW.trod_int v0 t0
                  obtain ⟨m1, q1, _⟩ := DataW.trod_bool v1 t1
                  obtain ⟨m2, l, c, q2, _, hby, _, hre⟩ := open_bytes_fit v2 v3 (by simpa using u2) t2 z2
                  exact ⟨m0, m1, m2, l, c, list3 (by rw [hl, k2]) q0 q1 q2, hby, hre⟩
                · cases u2
              · cases u2
            · cases u1
          · cases u0
        refine ⟨a, rows.flatten, hs, cap, by rw [e1, hrl], hrow, e2, fun hne q hq => ?_, e3⟩
        have hne' : rows.flatten ≠ [] := by
          intro hz
          have := HitRow.length e2
          rw [hz] at this
          have hz : hs.length = 0 := by simp at this; omega
          exact hne (List.eq_nil_of_length_eq_zero hz)
        obtain ⟨b, o, e, hlt⟩ := RowAt.blk hrow hne'
        rw [hq] at e
        cases e
        exact hlt
      · cases hb
    · cases hb
  · cases hb
end
end Go.Den
end
section
set_option linter.unusedVariables false
set_option linter.unusedSimpArgs false
namespace Go.Den
open Go.ChangeShapes Go.WideShapes Go.ChangeAt Go.RowKit
section
variable {H : Type} {enc : TypeId × Value → H} {P : Program}
/-- a slice of acts -/
theorem open_jacts {w : World} {base : Nat} {spare : Nat → Bool} {held : Bool} {t e : TypeId} {fuel : Nat} {cs : List Value} {x : DataW H × List MemPlace} (ht : P.underlying t = some (.slice e)) (he : flatKinds P 5 e = some [.i64, .u8, .u8, .u8, .u8, .u8]) (h : DataW.trod enc P w base spare held fuel t cs = some x) :
    ∃ (a : Option Addr) (l : List JAct) (cap : Nat), cs = [.slice a l.length cap] ∧ RowAt w a (l.flatMap JAct.vals) := by
  obtain ⟨a, len, cap, rows, ds, rfl, hlc, hrl, hdl, hrk, hrow, hn, hel, _⟩ := open_rows ht h
  obtain ⟨l, rfl, hq⟩ := list_choice (f := JAct.vals) (Q := fun _ => True) rows (fun r hr => by
    obtain ⟨i, hi, rfl⟩ := List.getElem_of_mem hr
    obtain ⟨n, d, ps, _, ht'⟩ := hel i _ (List.getElem?_eq_getElem hi)
    obtain ⟨hl, hg⟩ := flat_open he ht'
    obtain ⟨v0, g0, w0⟩ := hg 0 .i64 rfl
    obtain ⟨v1, g1, w1⟩ := hg 1 .u8 rfl
    obtain ⟨v2, g2, w2⟩ := hg 2 .u8 rfl
    obtain ⟨v3, g3, w3⟩ := hg 3 .u8 rfl
    obtain ⟨v4, g4, w4⟩ := hg 4 .u8 rfl
    obtain ⟨v5, g5, w5⟩ := hg 5 .u8 rfl
    refine ⟨⟨v0, UInt8.ofNat v1.toNat, ⟨UInt8.ofNat v2.toNat, UInt8.ofNat v3.toNat, UInt8.ofNat v4.toNat⟩, UInt8.ofNat v5.toNat⟩, ?_, trivial⟩
    rw [list6 hl g0 g1 g2 g3 g4 g5, byte_bv w1, byte_bv w2, byte_bv w3, byte_bv w4, byte_bv w5]
    rfl)
  simp at hrl
  subst hrl
  refine ⟨a, l, cap, rfl, ?_⟩
  rw [← List.flatMap_def] at hrow
  exact hrow
end
end Go.Den
end
