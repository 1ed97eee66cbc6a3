/- Contracts of layer 3 (nand): bytes of a block become others. -/
import Derived.Test.YtljaocdmeoheaaaSNand2
set_option linter.unusedVariables false
set_option linter.unusedSimpArgs false
namespace Go.Den

theorem mix_int0 (old new : UInt8) :
    IntKind.u8.wrap (((BitVec.ofInt (IntKind.bits .u8) (IntKind.u8.wrap (((BitVec.ofInt (IntKind.bits .u8) (old.toNat : Int) &&& ~~~ (BitVec.ofInt (IntKind.bits .u8) (0 : Int))).toNat : Nat) : Int)) |||
      BitVec.ofInt (IntKind.bits .u8) (IntKind.u8.wrap (((BitVec.ofInt (IntKind.bits .u8) (new.toNat : Int) &&& BitVec.ofInt (IntKind.bits .u8) (0 : Int)).toNat : Nat) : Int))).toNat : Nat) : Int) = ((mix 0 old new).toNat : Int) := mix_int 0 old new
theorem mix_int255 (old new : UInt8) :
    IntKind.u8.wrap (((BitVec.ofInt (IntKind.bits .u8) (IntKind.u8.wrap (((BitVec.ofInt (IntKind.bits .u8) (old.toNat : Int) &&& ~~~ (BitVec.ofInt (IntKind.bits .u8) (255 : Int))).toNat : Nat) : Int)) |||
      BitVec.ofInt (IntKind.bits .u8) (IntKind.u8.wrap (((BitVec.ofInt (IntKind.bits .u8) (new.toNat : Int) &&& BitVec.ofInt (IntKind.bits .u8) (255 : Int)).toNat : Nat) : Int))).toNat : Nat) : Int) = ((mix 255 old new).toNat : Int) := mix_int 255 old new

/-- a block, bytes of it partly others -/
def partBlk (c : Chip) (block off n : Nat) (h : Option Hit) (new : List UInt8) (i : Nat) : List UInt8 :=
  (c.blk block).take off ++ ((mixL h (((c.blk block).drop off).take n) new).take i ++ (((c.blk block).drop off).take n).drop i) ++ (c.blk block).drop (off + n)
theorem partBlk_length {c : Chip} {block off n : Nat} {h : Option Hit} {new : List UInt8} {i : Nat} (hl : off + n ≤ (c.blk block).length) : (partBlk c block off n h new i).length = (c.blk block).length := by
  simp [partBlk, mixL_length]; omega
theorem partBlk_zero {c : Chip} {block off n : Nat} {h : Option Hit} {new : List UInt8} : partBlk c block off n h new 0 = c.blk block := by
  simp [partBlk, List.drop_drop]
  rw [← List.drop_drop]
  rw [List.take_append_drop, List.take_append_drop]
theorem partBlk_all {c : Chip} {block off n : Nat} {h : Option Hit} {new : List UInt8} (hl : off + n ≤ (c.blk block).length) : partBlk c block off n h new n = (c.blk block).take off ++ mixL h (((c.blk block).drop off).take n) new ++ (c.blk block).drop (off + n) := by
  unfold partBlk
  rw [List.take_of_length_le (l := mixL h _ new) (by simp [mixL_length]; omega), List.drop_of_length_le (l := ((c.blk block).drop off).take n) (by simp; omega), List.append_nil]
theorem partBlk_step {c : Chip} {block off n : Nat} {h : Option Hit} {new : List UInt8} {i : Nat} (hi : i < n) (hl : off + n ≤ (c.blk block).length) :
    (partBlk c block off n h new i).take (off + i) ++ [mix (maskAt h i) ((((c.blk block).drop off).take n).getD i 0) (new.getD i 0)] ++ (partBlk c block off n h new i).drop (off + i + 1) = partBlk c block off n h new (i + 1) := by
  have hol : (((c.blk block).drop off).take n).length = n := by simp; omega
  have hm : (mixL h (((c.blk block).drop off).take n) new).length = n := by rw [mixL_length]; exact hol
  have hpl : ((c.blk block).take off).length = off := by simp; omega
  generalize hO : ((c.blk block).drop off).take n = O at *
  generalize hM : mixL h O new = M at *
  generalize hP : (c.blk block).take off = P at *
  have hg : M[i]'(by omega) = mix (maskAt h i) (O.getD i 0) (new.getD i 0) := by
    have := mixL_get h O new i (by omega)
    rw [hM, List.getElem?_eq_getElem (by omega)] at this
    simpa using this
  unfold partBlk
  rw [hO, hM, hP]
  rw [List.append_assoc P, List.take_append, List.drop_append, hpl]
  rw [List.take_of_length_le (by omega), List.drop_of_length_le (l := P) (by omega), List.nil_append]
  rw [show off + i - off = i by omega, show off + i + 1 - off = i + 1 by omega]
  have hMi : (M.take i).length = i := by simp; omega
  rw [List.append_assoc (M.take i)]
  rw [List.take_append_of_le_length (by omega), List.take_take, Nat.min_self]
  rw [List.drop_append, hMi, List.drop_of_length_le (l := M.take i) (by omega), List.nil_append]
  rw [List.take_succ_eq_append_getElem (by omega : i < M.length), hg]
  rw [show i + 1 - i = 1 by omega]
  rw [List.drop_append_of_le_length (by simp; omega), List.drop_drop]
  simp [List.append_assoc]

theorem wantsB {f : Value} {i : Nat} {u : World} {x : UInt8} {R : Value → World → Prop} (h : callT f [.int .i64 i] u fun v u' => v = bv x ∧ u' = u) (hr : R (bv x) u) : callT f [.int .i64 i] u R := by
  refine callT.mono h ?_
  rintro _ _ ⟨rfl, rfl⟩
  exact hr

theorem tmod_nat (i n : Nat) : Int.tmod (i : Int) (n : Int) = ((i % n : Nat) : Int) := by
  rw [Int.tmod_eq_emod_of_nonneg (by omega)]; rfl

/-- the end of a deed -/
def endAt (w : World) (p1 : Option Addr) (h : Option Hit) (G : Nat → Prop) (A : Nat) : Prop :=
  match h with
  | none => p1 = none
  | some t => ∃ B m cp, A ≤ B ∧ p1 = some ⟨B, 0, none⟩ ∧ w.heap[B]? = some (.cells #[.int .i64 t.after, .bool t.fails, .slice m t.mask.length cp] T.api_Hit (0, 0)) ∧ BytesAt w m t.mask ∧ ∀ q, m = some q → G q.block
theorem endAt.upd {F : Nat → Prop} {w w' : World} {p1 : Option Addr} {h : Option Hit} {G : Nat → Prop} {A : Nat} (k : endAt w p1 h G A) (u : Upd F w w') (hg : ∀ x, G x → ¬ F x) (ha : ∀ x, A ≤ x → ¬ F x) : endAt w' p1 h G A := by
  cases h with
  | none => exact k
  | some t =>
    obtain ⟨B, m, cp, hB, rfl, hc, hb, hm⟩ := k
    exact ⟨B, m, cp, hB, rfl, u.get hc (ha _ hB), RowAt.upd hb u (fun q hq => hg _ (hm q hq)), hm⟩

theorem nand_done_spec {w : World} {p : Nat} {c : Chip} {L : Loc} {G : Nat → Prop} (h : ChipRep w p c L G) {block off n l cp : Nat} (hb : block < c.nb) (hoff : off + n ≤ c.np * c.sz) (hl : L.locs[block]? = some l) (want : List UInt8) {f : Value}
    (hf : ∀ i, i < n → ∀ u, Upd (fun x => x = p ∨ x = l) w u → callT f [.int .i64 i] u fun v u' => v = bv (want.getD i 0) ∧ u' = u) :
    CallsR prog K.nand_Chip_done #[.pointer (some ⟨p, 0, none⟩), .int .i64 block, .slice (some ⟨l, off, none⟩) n cp, f] w fun v w' =>
      Upd (fun x => x = p ∨ x = L.bb ∨ x = l) w w' ∧ ∃ L', SameLoc L L' ∧ ChipRep w' p (c.done block off n want).1 L' G ∧ v = .int .i64 ((c.done block off n want).2 : Nat) := by
  apply nand_Chip_done.sh
  unfold nand_Chip_done.body
  refine (nand_strike_spec h).mono ?_
  rintro v w₁ ⟨hu1, L', hsl, h1, hp1⟩
  have hlocs : L'.locs = L.locs := hsl.2.2.2.2
  have hbb : L'.bb = L.bb := hsl.1
  have hst : c.strike.1.nb = c.nb ∧ c.strike.1.np = c.np ∧ c.strike.1.sz = c.sz ∧ c.strike.1.blocks = c.blocks ∧ c.strike.1.bad = c.bad := by
    unfold Chip.strike
    split
    · exact ⟨rfl, rfl, rfl, rfl, rfl⟩
    · split <;> exact ⟨rfl, rfl, rfl, rfl, rfl⟩
  obtain ⟨hnb, hnp, hsz, hblk, hbad⟩ := hst
  have hbk : ∀ i, c.strike.1.blk i = c.blk i := fun i => by simp [Chip.blk, hblk]
  -- the hit
  obtain ⟨p1, rfl, hend⟩ : ∃ p1, v = .pointer p1 ∧ endAt w₁ p1 c.strike.2 G w.heap.size := by
    cases hh : c.strike.2 with
    | none => rw [hh] at hp1; exact ⟨none, hp1, rfl⟩
    | some t =>
      rw [hh] at hp1
      obtain ⟨B, m, cp, hB, rfl, hc, hbm, hm⟩ := hp1
      exact ⟨_, rfl, B, m, cp, hB, rfl, hc, hbm, hm⟩
  clear hp1
  have hblen := h.ok.blk_len hb
  have hsz8 := h.ok.size_le
  have hl' : L'.locs[block]? = some l := by rw [hlocs]; exact hl
  have hlm := List.mem_of_getElem? hl
  obtain ⟨vs, hvo, hv⟩ := h1.rows
  obtain ⟨l2, cap, hl2, hvi, hbi⟩ := hv block (by rw [hnb]; exact hb)
  rw [hl'] at hl2
  cases hl2
  rw [hnp, hsz, hbk] at hbi
  have hgl : ∀ x, G x → x ≠ l := fun x hx e => by subst e; exact h.apart _ (by simp [hlm]) hx
  have hlw : l < w.heap.size := by
    obtain ⟨vs0, _, hv0⟩ := h.rows
    obtain ⟨l3, cap3, hl3, _, hbi3⟩ := hv0 block hb
    rw [hl] at hl3
    cases hl3
    exact OwnAt.blk hbi3 rfl
  have hpw : p < w.heap.size := (Array.getElem?_eq_some_iff.1 h.head).1
  have hal : ∀ x, w.heap.size ≤ x → x ≠ l := fun x hx e => by omega
  generalize hH : c.strike.2 = H at *
  refine ⟨p1, rfl, fun x u => ∃ i : Nat, x = i ∧ i ≤ n ∧ Upd (· = l) w₁ u ∧ OwnAt u (some ⟨l, 0, none⟩) (c.np * c.sz) cap T.uint8 1 ((partBlk c block off n H want i).map bv), fun x _ => (n - x).toNat, ?_, ?_⟩
  · exact ⟨0, rfl, Nat.zero_le _, Upd.refl _ _, by rw [partBlk_zero]; exact hbi⟩
  rintro x₁ w₂ ⟨i, rfl, hin, hu2, ho⟩
  refine br_dec (fun hlt => ?_) fun hge => ?_
  · have hi : i < n := by omega
    refine ⟨fun u => Upd (· = l) w₁ u ∧ OwnAt u (some ⟨l, 0, none⟩) (c.np * c.sz) cap T.uint8 1 ((partBlk c block off n H want (i + 1)).map bv), ?_, ?_⟩
    · have hpbl : (partBlk c block off n H want i).length = c.np * c.sz := by rw [partBlk_length (by omega), hblen]
      -- the byte that stands there
      have hold : (partBlk c block off n H want i).getD (off + i) 0 = (((c.blk block).drop off).take n).getD i 0 := by
        unfold partBlk
        have hpl : ((c.blk block).take off).length = off := by simp; omega
        have hM : (mixL H (((c.blk block).drop off).take n) want).length = n := by rw [mixL_length]; simp; omega
        have hMi : ((mixL H (((c.blk block).drop off).take n) want).take i).length = i := by simp; omega
        simp only [List.getD]
        rw [List.append_assoc, List.getElem?_append_right (by omega), hpl, show off + i - off = i by omega, List.append_assoc, List.getElem?_append_right (by omega), hMi, Nat.sub_self]
        rw [List.getElem?_append_left (by simp; omega)]
        simp
      have hread : ∀ u, OwnAt u (some ⟨l, 0, none⟩) (c.np * c.sz) cap T.uint8 1 ((partBlk c block off n H want i).map bv) → ∃ S : List UInt8, BytesAt u (some ⟨l, off, none⟩) S ∧ S.length = n ∧ S.getD i 0 = (((c.blk block).drop off).take n).getD i 0 := by
        intro u hou
        refine ⟨((partBlk c block off n H want i).drop off).take n, ?_, by simp; omega, ?_⟩
        · have := BytesAt.take (BytesAt.drop (o := 0) hou.row off) n
          simpa using this
        · rw [← hold]; simp [List.getD, hi]
      -- what is written
      have hwrite : ∀ (u : World), Upd (· = l) w₁ u → OwnAt u (some ⟨l, 0, none⟩) (c.np * c.sz) cap T.uint8 1 ((partBlk c block off n H want i).map bv) → ∀ x : UInt8, x = mix (maskAt H i) ((((c.blk block).drop off).take n).getD i 0) (want.getD i 0) →
          idxP (some ⟨l, off, none⟩) n (i : Int) 1 fun q => storeP u q [bv x] fun u' => Upd (· = l) w₁ u' ∧ OwnAt u' (some ⟨l, 0, none⟩) (c.np * c.sz) cap T.uint8 1 ((partBlk c block off n H want (i + 1)).map bv) := by
        intro u huu hou x hx
        refine ⟨by omega, by omega, ?_⟩
        simp only [nilC_some', add_lit, Int.toNat_natCast, Nat.mul_one]
        refine own_store hou (by simp [hpbl]; omega) fun u' hu' ho' => ⟨huu.trans hu', ?_⟩
        rw [← partBlk_step hi (by omega), ← hx]
        simp only [List.map_append, List.map_take, List.map_drop, List.map_cons, List.map_nil]
        exact ho'
      have hclos : ∀ u, Upd (· = l) w₁ u → callT f [.int .i64 i] u fun v u' => v = bv (want.getD i 0) ∧ u' = u := by
        intro u hu
        exact hf i hi u ((hu1.mono fun x _ hx => .inl hx).trans (hu.mono fun x _ hx => .inr hx))
      have hu2e : endAt w₂ p1 H G w.heap.size := hend.upd hu2 hgl hal
      cases H with
      | none =>
        cases hu2e
        simp only [Option.isNone_none, Bool.not_true, br_false]
        intro w₁₀ hdrew
        have ho10 := OwnAt.ext ho hdrew.upd
        have hu10 : Upd (· = l) w₁ w₁₀ := hu2.then hdrew.upd
        obtain ⟨S, hS, hSl, hSi⟩ := hread _ ho10
        refine ⟨fun u => u = w₁₀, rfl, ?_⟩
        subst hSl
        refine idx_byteS (l := S) (fun u hu => hu ▸ hS) ⟨_, rfl⟩ (by omega) (by omega) ?_
        refine wantsB (hclos w₁₀ hu10) ⟨_, rfl, rfl, ?_⟩
        rw [mix_int255, Int.toNat_natCast, hSi]
        exact hwrite w₁₀ hu10 ho10 _ rfl
      | some t =>
        obtain ⟨B, m, cpm, hB, rfl, hc, hbm, hm⟩ := hu2e
        simp only [Option.isNone_some, Bool.not_false, br_true, nilC_some', add_lit]
        refine ⟨_, _, _, cell_of hc rfl, br_dec (fun hpos => ?_) fun hzero => ?_⟩
        · intro w₃ hd3
          refine ⟨fun u => u = w₃, rfl, _, _, _, fun u hu => hu ▸ cell_of (Ext.get hd3.upd hc) rfl, by omega, ?_⟩
          have hbm3 := RowAt.ext hbm hd3.upd
          rw [tmod_nat]
          have hmod : i % t.mask.length < t.mask.length := Nat.mod_lt _ (by omega)
          refine idx_byteS (l := t.mask) (fun u hu => hu ▸ hbm3) ⟨_, rfl⟩ (by omega) (by omega) ?_
          intro w₄ hd4
          have ho4 := OwnAt.ext (OwnAt.ext ho hd3.upd) hd4.upd
          have hu4 : Upd (· = l) w₁ w₄ := (hu2.then hd3.upd).then hd4.upd
          obtain ⟨S, hS, hSl, hSi⟩ := hread _ ho4
          refine ⟨fun u => u = w₄, rfl, ?_⟩
          subst hSl
          refine idx_byteS (l := S) (fun u hu => hu ▸ hS) ⟨_, rfl⟩ (by omega) (by omega) ?_
          refine wantsB (hclos w₄ hu4) ⟨_, rfl, rfl, ?_⟩
          rw [mix_int]
          simp only [Int.toNat_natCast]
          rw [hSi]
          refine hwrite w₄ hu4 ho4 _ ?_
          unfold maskAt
          simp only []
          rw [if_neg (by omega)]
        · intro w₇ hd7
          have ho7 := OwnAt.ext ho hd7.upd
          have hu7 : Upd (· = l) w₁ w₇ := hu2.then hd7.upd
          obtain ⟨S, hS, hSl, hSi⟩ := hread _ ho7
          refine ⟨fun u => u = w₇, rfl, ?_⟩
          subst hSl
          refine idx_byteS (l := S) (fun u hu => hu ▸ hS) ⟨_, rfl⟩ (by omega) (by omega) ?_
          refine wantsB (hclos w₇ hu7) ⟨_, rfl, rfl, ?_⟩
          rw [mix_int0, Int.toNat_natCast, hSi]
          refine hwrite w₇ hu7 ho7 _ ?_
          unfold maskAt
          simp only []
          rw [if_pos (by omega)]
    · rintro w₁₃ ⟨hu13, ho13⟩
      have e : IntKind.i64.wrap ((i : Int) + 1) = ((i + 1 : Nat) : Int) := w64 (by omega) (by omega)
      exact ⟨⟨i + 1, e, hi, hu13, ho13⟩, by rw [e]; show ((n : Int) - ((i + 1 : Nat) : Int)).toNat < ((n : Int) - (i : Int)).toNat; omega⟩
  · have hin' : i = n := by omega
    subst hin'
    rw [partBlk_all (by omega)] at ho
    have h2 := h1.reblk hu2 (by rw [hnb]; exact hb) hl' (b := (c.blk block).take off ++ mixL H (((c.blk block).drop off).take i) want ++ (c.blk block).drop (off + i)) (by simp [mixL_length, hnp, hsz]; omega)
      (by rw [hnp, hsz, hbk]; exact hbi) (by rw [hnp, hsz]; exact ho)
    have hu12 : Upd (fun x => x = p ∨ x = L.bb ∨ x = l) w w₂ := (hu1.mono fun x _ hx => .inl hx).trans (hu2.mono fun x _ hx => .inr (.inr hx))
    have hdone : c.done block off i want = (c.strike.1.setBlk block ((c.blk block).take off ++ mixL H (((c.blk block).drop off).take i) want ++ (c.blk block).drop (off + i))).finish block H := by
      unfold Chip.done; rw [hH]
    rw [hdone]
    have hu2e : endAt w₂ p1 H G w.heap.size := hend.upd hu2 hgl hal
    cases H with
    | none =>
      cases hu2e
      simp only [Option.isNone_none, br_true, Chip.finish]
      exact ⟨hu12, L', hsl, h2, rfl⟩
    | some t =>
      obtain ⟨B, m, cpm, hB, rfl, hc, hbm, hm⟩ := hu2e
      simp only [Option.isNone_some, br_false, nilC_some', add_lit]
      refine ⟨_, cell_of hc rfl, br_intro (fun hfl => ?_) fun hfl => ?_⟩
      · refine ⟨_, _, _, cell_of h2.head rfl, ?_⟩
        have hbl : c.strike.1.bad.length = c.nb := by rw [hbad]; exact h.ok.bad
        refine ⟨by omega, by show (block : Int) < ((c.strike.1.nb : Nat) : Int); rw [hnb]; omega, ?_⟩
        simp only [nilC_some', add_lit, Int.toNat_natCast, Nat.mul_one, Nat.zero_add]
        have hob := h2.bad
        refine own_store hob (by simp [Chip.setBlk, hbl]; omega) fun w₃ hu3 ho3 => ?_
        have h3 := h2.rebad (b := c.strike.1.bad.set block true) hu3 (by simp [Chip.setBlk, hbl, hnb]) (by
          have : (List.map Value.bool (c.strike.1.setBlk block ((c.blk block).take off ++ mixL (some t) (((c.blk block).drop off).take i) want ++ (c.blk block).drop (off + i))).bad).take block ++ [Value.bool true] ++ (List.map Value.bool (c.strike.1.setBlk block ((c.blk block).take off ++ mixL (some t) (((c.blk block).drop off).take i) want ++ (c.blk block).drop (off + i))).bad).drop (block + 1) = (c.strike.1.bad.set block true).map Value.bool := by
            show (List.map Value.bool c.strike.1.bad).take block ++ [Value.bool true] ++ (List.map Value.bool c.strike.1.bad).drop (block + 1) = _
            rw [List.map_set, List.set_eq_take_append_cons_drop, if_pos (by simp [hbl]; omega)]
            simp
          rw [← this]
          exact ho3)
        simp only [Chip.finish, hfl, if_true]
        exact ⟨hu12.trans (hu3.mono fun x _ hx => .inr (.inl (by rw [hx, hbb]))), L', hsl, h3, rfl⟩
      · refine store_of h2.head (by simp [chipCells]) fun w₃ hput => ?_
        have h3 := h2.reh (Put.upd1 hput) c.strike.1.hits c.strike.1.since true c.strike.1.deeds L'.ha L'.ch hput.get h2.hits
        simp only [Chip.finish, hfl]
        exact ⟨hu12.trans ((Put.upd1 hput).mono fun x _ hx => .inl hx), L', hsl, h3, rfl⟩

end Go.Den
