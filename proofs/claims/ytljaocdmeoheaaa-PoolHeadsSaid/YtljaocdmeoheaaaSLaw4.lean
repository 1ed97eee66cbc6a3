/- Layer 4: chips and pools of the call's own; what works tells. -/
import Derived.Test.YtljaocdmeoheaaaMLaw4a
set_option linter.unusedVariables false
set_option linter.unusedSimpArgs false
set_option maxRecDepth 4000
namespace Go.Den

/-- a chip whose parts lie between A and S -/
def CAt (A S : Nat) (w : World) (p : Nat) (c : Chip) : Prop := ∃ L G, ChipRep w p c L G ∧ (∀ x, x ∈ p :: L.bb :: L.locs → A ≤ x ∧ x < S) ∧ ∀ x, G x → A ≤ x ∧ x < w.heap.size
/-- a pool beyond A -/
def PAt (A S : Nat) (w : World) (M : PLoc) (P : Pool) (c : Chip) : Prop := ∃ L G, PC w M P c L G ∧ (∀ x, PF M L x → A ≤ x ∧ x < S) ∧ ∀ x, G x → A ≤ x ∧ x < w.heap.size
abbrev Bet (A S : Nat) : Nat → Prop := fun x => A ≤ x ∧ x < S
theorem CAt.ext {A S : Nat} {w w' : World} {p : Nat} {c : Chip} (h : CAt A S w p c) (k : Ext w w') : CAt A S w' p c := by
  obtain ⟨L, G, hr, hF, hG⟩ := h
  exact ⟨L, G, hr.ext k, hF, fun x hx => ⟨(hG x hx).1, Nat.lt_of_lt_of_le (hG x hx).2 k.size⟩⟩
theorem PAt.ext {A S : Nat} {w w' : World} {M : PLoc} {P : Pool} {c : Chip} (h : PAt A S w M P c) (k : Ext w w') : PAt A S w' M P c := by
  obtain ⟨L, G, hr, hF, hG⟩ := h
  exact ⟨L, G, hr.ext k, hF, fun x hx => ⟨(hG x hx).1, Nat.lt_of_lt_of_le (hG x hx).2 k.size⟩⟩
theorem PAt.chip {A S : Nat} {w : World} {M : PLoc} {P : Pool} {c : Chip} (h : PAt A S w M P c) : CAt A S w M.p c := by
  obtain ⟨L, G, hr, hF, hG⟩ := h
  exact ⟨L, G, hr.chip, fun x hx => hF x (.inr (.inr hx)), hG⟩
theorem CAt.ok {A S : Nat} {w : World} {p : Nat} {c : Chip} (h : CAt A S w p c) : c.Ok := by
  obtain ⟨L, G, hr, hF, hG⟩ := h
  exact hr.ok
theorem PAt.size {A S : Nat} {w : World} {M : PLoc} {P : Pool} {c : Chip} (h : PAt A S w M P c) : M.q < w.heap.size := by
  obtain ⟨L, G, hr, hF, hG⟩ := h
  exact (Array.getElem?_eq_some_iff.1 hr.head).1
theorem CAt.of {w w' : World} {p : Nat} {c : Chip} {A : Nat} (h : ChipAt w' p c (fun x => w.heap.size ≤ x ∧ x < w'.heap.size)) (hA : A ≤ w.heap.size) : CAt A w'.heap.size w' p c := by
  obtain ⟨L, G, hr, hF, hG, _⟩ := h
  exact ⟨L, G, hr, fun x hx => ⟨Nat.le_trans hA (hF x hx).1, (hF x hx).2⟩, fun x hx => ⟨Nat.le_trans hA (hG x hx).1, (hG x hx).2⟩⟩

theorem cNew (w : World) {A nb np sz sp : Nat} (hA : A ≤ w.heap.size) (nb1 : 8 ≤ nb) (nb2 : nb ≤ 64) (np1 : 4 ≤ np) (np2 : np ≤ 32) (sz1 : 128 ≤ sz) (sz2 : sz ≤ 256) (sp2 : sp ≤ 4) :
    CallsR prog K.nand_New #[.agg #[.int .i64 nb, .int .i64 np, .int .i64 sz, .int .i64 sp]] w fun v w' => Ext w w' ∧ ∃ p, v = .tuple #[.pointer (some ⟨p, 0, none⟩), .int .i64 0] ∧ CAt A w'.heap.size w' p (newChip nb np sz sp) := by
  refine (nand_New_spec w nb1 nb2 np1 np2 sz1 sz2 sp2).mono ?_
  rintro v w' ⟨he, p, rfl, hc⟩
  exact ⟨he, p, rfl, CAt.of hc hA⟩
theorem cPower {A S : Nat} {w : World} {p : Nat} {c : Chip} (h : CAt A S w p c) (hA : A ≤ w.heap.size) :
    CallsR prog K.nand_Chip_Power #[.pointer (some ⟨p, 0, none⟩)] w fun v w' => Ext w w' ∧ ∃ p', v = .tuple #[.pointer (some ⟨p', 0, none⟩), .int .i64 0] ∧ CAt A w'.heap.size w' p' c.power := by
  obtain ⟨L, G, hr, hF, hG⟩ := h
  refine (nand_Power_spec hr).mono ?_
  rintro v w' ⟨he, p', rfl, hc⟩
  exact ⟨he, p', rfl, CAt.of hc hA⟩
theorem cScan {A S : Nat} {w : World} {p : Nat} {c : Chip} (h : CAt A S w p c) (hA : A ≤ w.heap.size) (hS : S ≤ w.heap.size) :
    CallsR prog K.pool_Scan #[.pointer (some ⟨p, 0, none⟩)] w fun v w' => Ext w w' ∧
      if c.dead then v = .tuple #[.pointer none, .int .i64 10]
      else ∃ M : PLoc, M.p = p ∧ v = .tuple #[.pointer (some ⟨M.q, 0, none⟩), .int .i64 0] ∧ PAt A w'.heap.size w' M (scanPool c) c := by
  obtain ⟨L, G, hr, hF, hG⟩ := h
  refine (pool_Scan_spec hr (fun x hx => (hG x hx).2)).mono ?_
  rintro v w' ⟨he, hv⟩
  refine ⟨he, ?_⟩
  split at hv
  · rename_i hd
    rw [if_pos hd]; exact hv
  · rename_i hd
    rw [if_neg hd]
    obtain ⟨q, pb, rfl, hq, hpb, hq', hpb', hp⟩ := hv
    refine ⟨⟨q, pb, c.nb, p⟩, rfl, rfl, L, G, hp, fun x hx => ?_, fun x hx => ⟨(hG x hx).1, Nat.lt_of_lt_of_le (hG x hx).2 he.size⟩⟩
    rcases hx with hx | hx | hx
    · have : x = q := hx
      omega
    · have : x = pb := hx
      omega
    · have := hF x hx
      have := he.size
      omega
theorem cRead {A S : Nat} {w : World} {p : Nat} {c : Chip} (h : CAt A S w p c) :
    CallsR prog K.nand_Chip_Read #[.pointer (some ⟨p, 0, none⟩), .int .i64 0, .int .i64 0] w fun v w' => Ext w w' ∧ ∃ a l cp, v = .tuple #[.slice a l cp, .int .i64 ((if c.dead then 10 else 0 : Nat) : Int)] := by
  obtain ⟨L, G, hr, hF, hG⟩ := h
  refine (nand_Read_spec hr 0 0).mono ?_
  rintro v w' ⟨he, hv⟩
  refine ⟨he, ?_⟩
  rw [ask00 hr.ok] at hv
  cases hd : c.dead with
  | true =>
    rw [hd] at hv
    simp only [if_true, if_neg (show ¬ (10 = 0) by omega)] at hv
    exact ⟨_, _, _, hv⟩
  | false =>
    rw [hd] at hv
    simp only [Bool.false_eq_true, if_false, if_true] at hv
    obtain ⟨a, cp, rfl, _⟩ := hv
    exact ⟨_, _, _, rfl⟩
theorem cAlive {A S : Nat} {w : World} {p : Nat} {c : Chip} (h : CAt A S w p c) :
    CallsR prog K.carracklaw04_alive #[.pointer (some ⟨p, 0, none⟩)] w fun v w' => v = .bool (!c.dead) ∧ Ext w w' := by
  apply carracklaw04_alive.sh
  refine (cRead h).mono ?_
  rintro v w' ⟨he, a, l, cp, rfl⟩
  refine ⟨_, _, _, _, rfl, ?_, he⟩
  cases c.dead <;> rfl
theorem pTake {A S : Nat} {w : World} {M : PLoc} {P : Pool} {c : Chip} (h : PAt A S w M P c) {kind : UInt8} {era : Nat} (hera : era < 4294967296) {r : TakeR} (hr : takePool P c kind era = r) :
    CallsR prog K.pool_Pool_Take #[.pointer (some ⟨M.q, 0, none⟩), bv kind, .int .u32 era] w fun v w' =>
      v = .tuple #[.int .i64 (r.block : Nat), .int .i64 (r.err : Nat)] ∧ Upd (Bet A S) w w' ∧ PAt A S w' M r.pool r.chip := by
  subst hr
  obtain ⟨L, G, hr, hF, hG⟩ := h
  refine (pool_Take_spec hr hera).mono ?_
  rintro v w' ⟨rfl, hu, L', hs, hp⟩
  exact ⟨rfl, hu.mono fun x _ hx => hF x hx, L', G, hp, fun x hx => hF x (by rw [PF.same hs] at hx; exact hx), fun x hx => ⟨(hG x hx).1, Nat.lt_of_lt_of_le (hG x hx).2 hu.size⟩⟩
theorem pFree {A S : Nat} {w : World} {M : PLoc} {P : Pool} {c : Chip} (h : PAt A S w M P c) (i : Int) {r : Pool × Chip × Nat} (hr : freePool P c i = r) :
    CallsR prog K.pool_Pool_Free #[.pointer (some ⟨M.q, 0, none⟩), .int .i64 i] w fun v w' =>
      v = .int .i64 (r.2.2 : Nat) ∧ Upd (Bet A S) w w' ∧ PAt A S w' M r.1 r.2.1 := by
  subst hr
  obtain ⟨L, G, hr, hF, hG⟩ := h
  refine (pool_Free_spec hr i).mono ?_
  rintro v w' ⟨rfl, hu, L', hs, hp⟩
  exact ⟨rfl, hu.mono fun x _ hx => hF x hx, L', G, hp, fun x hx => hF x (by rw [PF.same hs] at hx; exact hx), fun x hx => ⟨(hG x hx).1, Nat.lt_of_lt_of_le (hG x hx).2 hu.size⟩⟩
theorem pBlanks {A S : Nat} {w : World} {M : PLoc} {P : Pool} {c : Chip} (h : PAt A S w M P c) :
    CallsR prog K.pool_Pool_Blanks #[.pointer (some ⟨M.q, 0, none⟩)] w fun v w' => v = .int .i64 (blanksPool P c : Nat) ∧ Ext w w' := by
  obtain ⟨L, G, hr, hF, hG⟩ := h
  exact pool_Blanks_spec hr
theorem pLast {A S : Nat} {w : World} {M : PLoc} {P : Pool} {c : Chip} (h : PAt A S w M P c) :
    CallsR prog K.pool_Pool_Last #[.pointer (some ⟨M.q, 0, none⟩)] w fun v w' => v = .int .u64 (P.last : Nat) ∧ w' = w := by
  obtain ⟨L, G, hr, hF, hG⟩ := h
  exact pool_Last_spec hr
theorem pChip {A S : Nat} {w : World} {M : PLoc} {P : Pool} {c : Chip} (h : PAt A S w M P c) :
    CallsR prog K.pool_Pool_Chip #[.pointer (some ⟨M.q, 0, none⟩)] w fun v w' => v = .pointer (some ⟨M.p, 0, none⟩) ∧ w' = w := by
  obtain ⟨L, G, hr, hF, hG⟩ := h
  exact pool_Chip_spec hr
/-- a row of taken blocks, of new memory -/
def TakenAt (w w' : World) (v : Value) (l : List Taken) : Prop := ∃ a cap, v = .slice a l.length cap ∧ OwnAt w' a l.length cap T.api_Taken 5 (l.flatMap Taken.vals) ∧ Fresh w a
theorem pTaken {A S : Nat} {w : World} {M : PLoc} {P : Pool} {c : Chip} (h : PAt A S w M P c) (hnb : c.nb < 20) {l : List Taken} (hl : takenPool P c = l) :
    CallsR prog K.pool_Pool_Taken #[.pointer (some ⟨M.q, 0, none⟩)] w fun v w' => Ext w w' ∧ TakenAt w w' v l := by
  subst hl
  obtain ⟨L, G, hr, hF, hG⟩ := h
  exact pool_Taken_spec hr hnb
theorem rTaken {A S : Nat} {w : World} {p : Nat} {c : Chip} (h : CAt A S w p c) :
    CallsR prog K.carrackref04_Taken #[.pointer (some ⟨p, 0, none⟩)] w fun v w' => Ext w w' ∧ TakenAt w w' v (refTaken c) := by
  obtain ⟨L, G, hr, hF, hG⟩ := h
  exact carrackref04_Taken_spec hr
theorem rBlanks {A S : Nat} {w : World} {p : Nat} {c : Chip} (h : CAt A S w p c) :
    CallsR prog K.carrackref04_Blanks #[.pointer (some ⟨p, 0, none⟩)] w fun v w' => v = .int .i64 (refBlanks c : Nat) ∧ Ext w w' := by
  obtain ⟨L, G, hr, hF, hG⟩ := h
  exact carrackref04_Blanks_spec hr
theorem rLast {A S : Nat} {w : World} {p : Nat} {c : Chip} (h : CAt A S w p c) :
    CallsR prog K.carrackref04_Last #[.pointer (some ⟨p, 0, none⟩)] w fun v w' => v = .int .u64 (refLast c : Nat) ∧ Ext w w' := by
  obtain ⟨L, G, hr, hF, hG⟩ := h
  exact carrackref04_Last_spec hr
theorem rHead {A S : Nat} {w : World} {p : Nat} {c : Chip} (h : CAt A S w p c) (i : Int) :
    CallsR prog K.carrackref04_Head #[.pointer (some ⟨p, 0, none⟩), .int .i64 i] w fun v w' => Ext w w' ∧ v = .tuple #[headV (refHead c i).1, .bool (refHead c i).2] := by
  obtain ⟨L, G, hr, hF, hG⟩ := h
  exact carrackref04_Head_spec hr i
theorem cBad {A S : Nat} {w : World} {p : Nat} {c : Chip} (h : CAt A S w p c) (i : Int) :
    CallsR prog K.nand_Chip_Bad #[.pointer (some ⟨p, 0, none⟩), .int .i64 i] w fun v w' => v = .bool (decide (0 ≤ i) && c.isBad i.toNat) ∧ w' = w := by
  obtain ⟨L, G, hr, hF, hG⟩ := h
  exact nand_Bad_spec hr i

theorem takePool_geo (P : Pool) (c : Chip) (kind : UInt8) (era : Nat) : c.SameGeo (takePool P c kind era).chip := by
  have go : ∀ (ks : List Nat) (P : Pool) (c : Chip), c.SameGeo (takeGo kind era P c ks).chip := by
    intro ks
    induction ks with
    | nil => intro P c; exact .refl _
    | cons k ks ih =>
      intro P c
      unfold takeGo
      split
      · exact ih P c
      · split
        · exact tryBlk_geo _ _ _ _ _
        · split
          · exact tryBlk_geo _ _ _ _ _
          · exact (tryBlk_geo P c _ kind era).trans (ih _ _)
  unfold takePool
  split
  · exact .refl _
  · split
    · exact .refl _
    · exact go _ _ _
theorem freePool_geo (P : Pool) (c : Chip) (i : Int) : c.SameGeo (freePool P c i).2.1 := by
  unfold freePool
  split
  · exact .refl _
  · exact Chip.erase_geo _ _

theorem works_of {c0 : Chip} {P0 : Pool} {t1 t2 t3 : TakeR} {f1 f2 : Pool × Chip × Nat} {l : List Taken} (hc0 : newChip 8 4 128 0 = c0) (hP0 : scanPool c0 = P0) (h1 : takePool P0 c0 1 1 = t1) (h2 : takePool t1.pool t1.chip 2 1 = t2) (h3 : freePool t2.pool t2.chip 0 = f1) (h4 : freePool f1.1 f1.2.1 0 = f2)
    (h5 : takenPool f2.1 f2.2.1 = l) (h6 : takePool f2.1 f2.2.1 1 1 = t3) (m0 : c0.dead = false) (m1 : blanksPool P0 c0 = 8) (m2 : t1.block = 0) (m3 : t1.err = 0) (m4 : t2.block = 1) (m5 : t2.err = 0) (m6 : f1.2.2 = 0) (m7 : f2.2.2 = 12) (m8 : l = [⟨1, ⟨2, 1, 2⟩, false⟩]) (m9 : t3.block = 2) (m10 : t3.err = 0) (w : World) :
    CallsR prog K.carracklaw04_works #[] w fun v w' => v = .bool true ∧ Ext w w' := by
  apply carracklaw04_works.sh
  refine (cNew w (A := w.heap.size) (nb := 8) (np := 4) (sz := 128) (sp := 0) (Nat.le_refl _) (by omega) (by omega) (by omega) (by omega) (by omega) (by omega) (by omega)).mono ?_
  rintro _ w₁ ⟨he1, p, rfl, hc1⟩
  rw [hc0] at hc1
  refine ⟨_, _, rfl, ?_⟩
  refine (cScan hc1 he1.size (Nat.le_refl _)).mono ?_
  rintro _ w₂ ⟨he2, hv⟩
  rw [if_neg (by rw [m0]; simp), hP0] at hv
  obtain ⟨M, hMp, rfl, hp2⟩ := hv
  have e2 : Ext w w₂ := he1.trans he2
  refine ⟨_, _, rfl, ?_⟩
  refine (pBlanks hp2).mono ?_
  rintro _ w₃ ⟨rfl, he3⟩
  have e3 := e2.trans he3
  have hp3 := hp2.ext he3
  have nb0 : c0.nb = 8 := by rw [← hc0]; rfl
  refine ⟨_, rfl, ?_⟩
  refine (pTake (kind := 1) (era := 1) hp3 (by omega) h1).mono ?_
  rintro _ w₄ ⟨rfl, hu4, hp4⟩
  have e4 : Ext w w₄ := Upd.beyond e3 hu4 (fun x hx => hx.1)
  refine ⟨_, _, rfl, ?_⟩
  refine (pTake (kind := 2) (era := 1) hp4 (by omega) h2).mono ?_
  rintro _ w₅ ⟨rfl, hu5, hp5⟩
  have e5 : Ext w w₅ := Upd.beyond e4 hu5 (fun x hx => hx.1)
  refine ⟨_, _, rfl, ?_⟩
  refine (pFree hp5 0 h3).mono ?_
  rintro _ w₆ ⟨rfl, hu6, hp6⟩
  have e6 : Ext w w₆ := Upd.beyond e5 hu6 (fun x hx => hx.1)
  refine ⟨_, rfl, ?_⟩
  refine (pFree hp6 0 h4).mono ?_
  rintro _ w₇ ⟨rfl, hu7, hp7⟩
  have e7 : Ext w w₇ := Upd.beyond e6 hu7 (fun x hx => hx.1)
  refine ⟨_, rfl, ?_⟩
  have hgeo : f2.2.1.nb = 8 := by
    have g1 := takePool_geo P0 c0 1 1
    rw [h1] at g1
    have g2 := takePool_geo t1.pool t1.chip 2 1
    rw [h2] at g2
    have g3 := freePool_geo t2.pool t2.chip 0
    rw [h3] at g3
    have g4 := freePool_geo f1.1 f1.2.1 0
    rw [h4] at g4
    have := (((g1.trans g2).trans g3).trans g4).1
    rw [this, nb0]
  refine (pTaken hp7 (by rw [hgeo]; omega) h5).mono ?_
  rintro _ w₈ ⟨he8, a, cap, rfl, ho8, hf8⟩
  have e8 := e7.trans he8
  refine ⟨_, _, _, rfl, ?_⟩
  refine (pTake (kind := 1) (era := 1) (hp7.ext he8) (by omega) h6).mono ?_
  rintro _ w₉ ⟨rfl, hu9, hp9⟩
  have e9 : Ext w w₉ := Upd.beyond e8 hu9 (fun x hx => hx.1)
  refine ⟨_, _, rfl, ?_⟩
  rw [m1, m2, m3, m4, m5, m6, m7]
  rw [m8] at ho8 ⊢
  have hs27 : w₂.heap.size ≤ w₇.heap.size := by
    have := he3.size
    have := hu4.size
    have := hu5.size
    have := hu6.size
    have := hu7.size
    omega
  have hrow9 : RowAt w₉ a (([⟨1, ⟨2, 1, 2⟩, false⟩] : List Taken).flatMap Taken.vals) := RowAt.upd ho8.row hu9 (fun q hq hb => by
    have := hf8 q hq
    have := hb.2
    omega)
  refine br_eq (fun _ => br_eq (fun _ => br_eq (fun _ => br_eq (fun _ => br_eq (fun _ => br_eq (fun _ => br_eq (fun _ => br_eq (fun _ => br_eq (fun _ => ?_) fun h => (h rfl).elim) fun h => (h rfl).elim) fun h => (h rfl).elim) fun h => (h rfl).elim) fun h => (h rfl).elim) fun h => (h rfl).elim) fun h => (h rfl).elim) fun h => (h rfl).elim) fun h => (h rfl).elim
  refine idx_flat (f := Taken.vals) (i := 0) Taken.vals_length (by omega) hrow9 rfl (by simp) fun b o hab hr => ?_
  refine ⟨1, 2, 1, 2, false, RowAt.cells hr, ?_⟩
  rw [m9, m10]
  exact ⟨rfl, e9⟩

theorem carracklaw04_works_spec (w : World) : CallsR prog K.carracklaw04_works #[] w fun v w' => v = .bool true ∧ Ext w w' := by
  have hM := worksM_true
  simp only [worksM, Bool.and_eq_true, beq_iff_eq, decide_eq_true_eq] at hM
  obtain ⟨⟨⟨⟨⟨⟨⟨⟨⟨⟨m0, m1⟩, m2⟩, m3⟩, m4⟩, m5⟩, m6⟩, m7⟩, m8⟩, m9⟩, m10⟩ := hM
  exact works_of rfl rfl (t1 := wT1) (by rfl) (t2 := wT2) (by rfl) (f1 := wF1) (by rfl) (f2 := wF2) (by rfl) (l := wL) (by rfl) (t3 := wT3) (by rfl) m0 m1 m2 m3 m4 m5 m6 m7 m8 m9 m10 w

end Go.Den
