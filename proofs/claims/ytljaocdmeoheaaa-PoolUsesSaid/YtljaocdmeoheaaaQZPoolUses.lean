/- The row of the law PoolUses: for every input the law returns true, and its arguments read as they did. (Merged by program: LPoolUses ZPoolUses.) -/
import Derived.Test.YtljaocdmeoheaaaQ5
import Derived.Test.YtljaocdmeoheaaaRows
import Derived.WalkKit
section
set_option linter.unusedVariables false
set_option linter.unusedSimpArgs false
set_option maxRecDepth 4000
namespace Go.Den

/-- 64 flags; of each that is set, Q holds -/
def FlagsAt (w : World) (B : Nat) (Q : Nat → Prop) : Prop :=
  ∃ cur : Array Value, w.heap[B]? = some (.cells cur T.A64bool (0, 0)) ∧ cur.size = 64 ∧ ∀ j, j < 64 → ∃ b, cur[j]? = some (.bool b) ∧ (b = true → Q j)

/-- a pool beyond A that reads below T alone -/
def PAtG (A S T : Nat) (w : World) (M : PLoc) (P : Pool) (c : Chip) : Prop := ∃ L G, PC w M P c L G ∧ (∀ x, PF M L x → A ≤ x ∧ x < S) ∧ ∀ x, G x → A ≤ x ∧ x < T
theorem PAt.toG {A S : Nat} {w : World} {M : PLoc} {P : Pool} {c : Chip} (h : PAt A S w M P c) : PAtG A S w.heap.size w M P c := h
theorem PAtG.toAt {A S T : Nat} {w : World} {M : PLoc} {P : Pool} {c : Chip} (h : PAtG A S T w M P c) (hT : T ≤ w.heap.size) : PAt A S w M P c := by
  obtain ⟨L, G, hr, hF, hG⟩ := h
  exact ⟨L, G, hr, hF, fun x hx => ⟨(hG x hx).1, Nat.lt_of_lt_of_le (hG x hx).2 hT⟩⟩
theorem PAtG.upd {A S T : Nat} {F : Nat → Prop} {w w' : World} {M : PLoc} {P : Pool} {c : Chip} (h : PAtG A S T w M P c) (k : Upd F w w') (hf : ∀ x, F x → S ≤ x ∧ T ≤ x) : PAtG A S T w' M P c := by
  obtain ⟨L, G, hr, hF, hG⟩ := h
  exact ⟨L, G, hr.upd k (fun x hx hf' => by have := hF x hx; have := hf x hf'; omega) (fun x hx hf' => by have := hG x hx; have := hf x hf'; omega), hF, hG⟩
theorem pTakeG {A S T : Nat} {w : World} {M : PLoc} {P : Pool} {c : Chip} (h : PAtG A S T w M P c) {kind : UInt8} {era : Nat} (hera : era < 4294967296) :
    CallsR prog K.pool_Pool_Take #[.pointer (some ⟨M.q, 0, none⟩), bv kind, .int .u32 era] w fun v w' =>
      v = .tuple #[.int .i64 ((takePool P c kind era).block : Nat), .int .i64 ((takePool P c kind era).err : Nat)] ∧ Upd (Bet A S) w w' ∧ PAtG A S T w' M (takePool P c kind era).pool (takePool P c kind era).chip := by
  obtain ⟨L, G, hr, hF, hG⟩ := h
  refine (pool_Take_spec hr hera).mono ?_
  rintro v w' ⟨rfl, hu, L', hs, hp⟩
  exact ⟨rfl, hu.mono fun x _ hx => hF x hx, L', G, hp, fun x hx => hF x (by rw [PF.same hs] at hx; exact hx), hG⟩

theorem carracklaw04_PoolUses_spec {w : World} (pages : UInt8) {Gin : Nat → Prop} {ha aa : Option Addr} {hvs : List Value} {hs : List Hit} {acts : List Act} {hc ac : Nat} (hr : RowAt w ha hvs) (hh : HitRow w Gin hvs hs) (hG : ∀ x, Gin x → x < w.heap.size) (hap : hs ≠ [] → ∀ q, ha = some q → q.block < w.heap.size)
    (hm : ∀ t ∈ hs, t.mask.length ≤ 140737488355232) (ar : RowAt w aa (acts.flatMap Act.vals)) (hera : ∀ a ∈ acts, a.era < 4294967296) :
    CallsR prog K.carracklaw04_PoolUses #[bv pages, .slice ha hs.length hc, .slice aa acts.length ac] w fun v w' => v = .bool true ∧ Ext w w' := by
  apply carracklaw04_PoolUses.sh
  unfold carracklaw04_PoolUses.body
  refine (carracklaw04_played_spec pages hr hh hG hap hm ar hera).mono ?_
  rintro _ w₁ ⟨he1, S, M, P, c, rfl, hS, hp, hi, hnb, hsz, hl, _⟩
  have hs1 := he1.size
  refine ⟨_, _, _, rfl, ?_⟩
  refine (cPower hp.chip hs1).mono ?_
  rintro _ w₂ ⟨he2, p', rfl, hc2⟩
  refine ⟨_, _, rfl, ?_⟩
  have hs2 := he2.size
  refine (cScan hc2 (by omega) (Nat.le_refl _)).mono ?_
  rintro _ w₃ ⟨he3, hv⟩
  have hs3 := he3.size
  have hci := power_ci hi.ci
  have hd1 : c.power.dead = false := rfl
  have hh1 : c.power.hits = [] := rfl
  have hnb1 : c.power.nb = 8 := hnb
  obtain ⟨hsi, hsl⟩ := scan_inv hci hd1
  have hl1 := hsl _ (fun i hi' hhd => hi.last i hi' hhd)
  generalize c.power = c1 at *
  rw [if_neg (by rw [hd1]; simp)] at hv
  obtain ⟨M1, rfl, rfl, hp3⟩ := hv
  generalize scanPool c1 = P1 at *
  refine ⟨_, _, rfl, br_ne (fun h => (h rfl).elim) fun _ => ?_⟩
  refine (pBlanks hp3).mono ?_
  rintro _ w₄ ⟨rfl, he4⟩
  have hs4 := he4.size
  have hble : blanksPool P1 c1 ≤ 8 := by
    unfold blanksPool
    refine Nat.le_trans (List.length_filter_le _ _) ?_
    simp [hnb1]
  refine ⟨_, rfl, fun B w₅ hn5 => ?_⟩
  have hB : B = w₄.heap.size := hn5.num
  have hs5 := hn5.size
  have hp5 := (hp3.toG.upd he4 (fun x hx => hx.elim)).upd hn5.upd (fun x hx => hx.elim)
  have e5 : Ext w w₅ := (((he1.trans he2).trans he3).trans he4).trans hn5.upd
  generalize hn : blanksPool P1 c1 = n at *
  refine ⟨fun x u => ∃ (i : Nat) (P' : Pool) (c' : Chip), x = i ∧ Upd (fun x => Bet w.heap.size w₃.heap.size x ∨ x = B) w₅ u ∧ PAtG w.heap.size w₃.heap.size w₃.heap.size u M1 P' c' ∧ Inv P' c' ∧ c'.dead = false ∧ c'.hits = [] ∧ c'.nb = 8 ∧ P'.last ≤ 320 + 8 * i ∧ blanksPool P' c' + i = n ∧ FlagsAt u B (isHd c'),
    fun x _ => (n - x).toNat, ⟨0, P1, c1, rfl, Upd.refl _ _, hp5, hsi, hd1, hh1, hnb1, by omega, by omega, _, hn5.get, rfl, fun j hj => ?_⟩, ?_⟩
  · refine ⟨false, ?_, fun h => by cases h⟩
    have key : ∀ j, j < 64 → (List.replicate 64 (Value.bool false)).toArray[j]? = some (Value.bool false) := fun j hj => by rw [List.getElem?_toArray, List.getElem?_replicate, if_pos hj]
    exact key j hj
  rintro x u ⟨i, P', c', rfl, hu, hpg, hiu, hdu, hhu, hnu, hlu, hbu, hfu⟩
  have hpu := hpg.toAt (by have := hu.size; omega)
  have tk := taking hiu hdu hhu hpu.turn (kind := 1) (era := 1) (by decide) (by decide) (by omega) (by omega) (by omega)
  have hext : Ext w u := Upd.beyond e5 hu (fun x hx => by rcases hx with hx | hx; exact hx.1; omega)
  have hsu := hu.size
  refine br_dec (fun hlt => ?_) fun hge => ?_
  · have hin : i < n := by omega
    have e1 : IntKind.i64.wrap ((i : Int) + 1) = ((i + 1 : Nat) : Int) := w64 (by omega) (by omega)
    refine (pTakeG hpg (kind := 1) (era := 1) (by omega)).mono ?_
    rintro _ w₇ ⟨rfl, hu7, hp7⟩
    have hs7 := hu7.size
    have hpa7 := hp7.toAt (by omega)
    generalize hR : takePool P' c' 1 1 = R at *
    refine ⟨_, _, rfl, ?_⟩
    rcases tk.cases with ⟨b1, b2, b3, b4, b5, b6, b7, b8⟩ | ⟨b1, b2, b3, b4⟩
    · have hless := blanks_less hiu hdu tk b1
      rw [b1]
      obtain ⟨cur, hg, hcs, hfl⟩ := hfu
      have hg7 : w₇.heap[B]? = some (.cells cur T.A64bool (0, 0)) := hu7.get hg (fun hb => by have := hb.2; omega)
      refine ⟨fun b v => b = false ∧ v = w₇, ?_, ?_⟩
      · refine br_ne (fun h => (h rfl).elim) fun _ => br_dec (fun h => by omega) fun _ => br_dec (fun h => by omega) fun _ => ⟨by omega, by omega, ?_⟩
        simp only [Int.toNat_natCast, Nat.mul_one, add_lit, Nat.zero_add]
        obtain ⟨b, hb, hq⟩ := hfl R.block (by omega)
        refine ⟨b, cell_of hg7 (by simpa using hb), br_intro (fun hbt => absurd (hq hbt) b3) fun _ => ?_⟩
        refine (cBad hpa7.chip _).mono ?_
        rintro _ _ ⟨rfl, rfl⟩
        rename_i w₇
        refine ⟨_, rfl, ?_, rfl⟩
        rw [Int.toNat_natCast, b6, b5, Bool.and_false]
      · rintro b v ⟨rfl, rfl⟩
        rename_i w₇
        refine ⟨by omega, by omega, ?_⟩
        simp only [Int.toNat_natCast, Nat.mul_one, add_lit, Nat.zero_add]
        refine store_of hg7 (by simp; omega) fun w₁₀ hput => ?_
        have hgB := hput.get
        rw [splice_one _ _ _ (by omega)] at hgB
        rw [e1]
        refine ⟨⟨i + 1, R.pool, R.chip, rfl, (hu.trans (hu7.mono fun x _ hx => .inl hx)).trans (hput.upd1.mono fun x _ hx => .inr hx), ?_, tk.inv, tk.dead, tk.hits, tk.geo.1.trans hnu, by have := tk.last; omega, by omega, _, hgB, by simpa using hcs, fun j hj => ?_⟩, by omega⟩
        · exact hp7.upd hput.upd1 (fun x hx => by omega)
        · by_cases hj' : j = R.block
          · rw [hj']
            exact ⟨true, by rw [Array.getElem?_setIfInBounds, if_pos rfl, if_pos (by omega)], fun _ => b4⟩
          · obtain ⟨b, hb, hq⟩ := hfl j hj
            refine ⟨b, by rw [Array.getElem?_setIfInBounds, if_neg (Ne.symm hj'), hb], fun hbt => ?_⟩
            exact (isHd_blk tk.geo (b7 j hj')).2 (hq hbt)
    · omega
  · have hin : i = n := by omega
    subst hin
    refine (pTake hpu (kind := 1) (era := 1) (by omega) rfl).mono ?_
    rintro _ w₇ ⟨rfl, hu7, hp7⟩
    have e7 : Ext w w₇ := Upd.beyond hext hu7 (fun x hx => hx.1)
    generalize hR : takePool P' c' 1 1 = R at *
    rcases tk.cases with ⟨b1, _⟩ | ⟨b1, b2, b3, b4⟩
    · have hless := blanks_less hiu hdu tk b1
      omega
    · rw [b1]
      refine ⟨_, _, rfl, br_eq (fun _ => ?_) fun h => (h rfl).elim⟩
      refine (pBlanks hp7).mono ?_
      rintro _ w₉ ⟨rfl, he9⟩
      rw [b2, b3, b4]
      refine ⟨_, rfl, br_eq (fun _ => ?_) fun h => (h rfl).elim⟩
      refine (carracklaw04_works_spec _).mono ?_
      rintro _ w₁₀ ⟨rfl, he10⟩
      exact ⟨_, rfl, rfl, (e7.trans he9).trans he10⟩

end Go.Den
end

section
namespace Go.Proofs.Ytljaocdmeoheaaa.poolUses
open Go.ChangeShapes Go.WideShapes Go.ChangeAt Go.RowKit Go.Den
set_option linter.unusedVariables false
set_option linter.unusedSimpArgs false

theorem own : ownKnob Try.prog.godebug = none := by kernel_rfl
theorem laidOut : laidOutB Try.prog = true := by kernel_rfl
theorem rowed : ∀ t ∈ Try.f8.params.toList, Try.prog.readableRec t = true ∧ t < Try.prog.types.size := by
  rw [Try.params8]
  intro t ht
  simp at ht
  rcases ht with rfl | rfl | rfl <;> exact ⟨by kernel_rfl, of_decide_eq_true (by kernel_rfl)⟩

set_option maxRecDepth 100000 in
theorem lifted (os : Os) (started : os.Started) (H : Type) (enc : TypeId × Value → H) :
    ReturnsInHanded {} Try.checked os 8 .any (Rows.poolUsesSpec.pre6 enc Try.prog Try.f8 Rows.poolUsesRow.domain false) (Rows.poolUsesSpec.post enc Try.prog Try.f8 false true false false) := by
  refine returnsInHanded_of_change_sized (C := Try.checked) own started (by kernel_rfl) Try.func8
    (ChangeSpec.witness6 (enc := enc) (C := Try.checked) false ⟨#[], #[.int .u8 0, .slice none 0 0, .slice none 0 0], []⟩ 8 (by kernel_rfl) (by kernel_rfl) (by kernel_rfl) (by kernel_rfl)) ?_
  intro W base args ds gs before hval0 hW hcnd hsz _
  have hval : ∀ (j : Nat) t v, Try.f8.params[j]? = some t → args[j]? = some v → Value.okWide Try.prog W .any base t v := hval0
  have hW' := hW
  obtain ⟨p, q, hA0, hV, hpq, hfz, hnd⟩ := hW
  have hA : DataW.TrodAll enc Try.prog W 0 (fun _ => true) true Try.f8.params.toList args.toList ds p := hA0
  rw [Try.params8] at hA hval hsz
  obtain ⟨v0, vs0, d0, ds0, p0, q0, hargs, rfl, hp0, h0, r0⟩ := trodAll_cons hA
  obtain ⟨v1, vs1, d1, ds1, p1, q1, rfl, rfl, hp1, h1, r1⟩ := trodAll_cons r0
  obtain ⟨v2, vs2, d2, ds2, p2, q2, rfl, rfl, hp2, h2, r2⟩ := trodAll_cons r1
  obtain ⟨rfl, rfl, _⟩ := trodAll_nil r2
  obtain rfl : args = #[v0, v1, v2] := by cases args; simp_all
  obtain ⟨rfl, _⟩ := trodVars_none hV
  obtain ⟨a0, rfl, _, _, w0⟩ := open_int Try.underlying5 (hval 0 5 v0 rfl rfl) h0
  have hb0 := byte_bv w0
  obtain ⟨sa1, sl1, sc1, rfl⟩ := okWide_slice Try.underlying41 (hval 1 41 v1 rfl rfl)
  obtain ⟨fuel1, hf1⟩ := h1
  obtain ⟨ha1, hv1, hs1, hc1, hcs1, hrow1, hhit1, hap1, hm1⟩ := open_hits (by kernel_rfl) hf1 (fits_each hsz (j := 1) rfl rfl)
  simp [Value.cells] at hcs1
  obtain ⟨rfl, rfl, rfl⟩ := hcs1
  obtain ⟨sa2, sl2, sc2, rfl⟩ := okWide_slice Try.underlying58 (hval 2 58 v2 rfl rfl)
  obtain ⟨fuel2, hf2⟩ := h2
  obtain ⟨aa2, al2, ac2, hcs2, har2, hera2⟩ := open_acts Try.underlying58 (by kernel_rfl) hf2
  simp [Value.cells] at hcs2
  obtain ⟨rfl, rfl, rfl⟩ := hcs2
  rw [hb0] at hW' ⊢
  refine Calls.mono (carracklaw04_PoolUses_spec (UInt8.ofNat a0.toNat) hrow1 hhit1 (fun x hx => hx) hap1 hm1 har2 hera2) fun e W' he => ?_
  obtain ⟨v, he, rfl, hx⟩ := he
  exact ⟨_, he, post_true laidOut hW' rfl rowed (Ext.below hx) Try.underlying4 (by kernel_rfl) rfl⟩

theorem proved : Rows.PoolUsesSaid :=
  OpenClaim.holds_of_wide 8 Try.f8 rfl rfl rfl rfl rfl rfl rfl ⟨rfl, rfl, rfl, rfl, rfl⟩ rfl rfl rfl rfl rfl (by kernel_rfl) Try.func8 (by kernel_rfl)
    (of_decide_eq_true (by kernel_rfl)) (by unfold Func.isWrapper; first | (rw [if_pos (by decide +kernel)]; kernel_rfl) | (rw [if_neg (by decide +kernel)]; exact ⟨rfl, rfl⟩))
    (fun os started H enc _ => lifted os started H enc)
end Go.Proofs.Ytljaocdmeoheaaa.poolUses
end
