/- Contracts of layer 3 (nand): New, Power. -/
import Derived.Test.YtljaocdmeoheaaaSNand5
set_option linter.unusedVariables false
set_option linter.unusedSimpArgs false
set_option maxRecDepth 4000
namespace Go.Den

/-- what was changed then lay beyond a -/
theorem Upd.low {F : Nat → Prop} {a b c : World} (h : Upd F a b) (k : Upd (fun x => a.heap.size ≤ x) b c) : Upd F a c :=
  ⟨Nat.le_trans h.size k.size, fun i hi hf => (k.blk i (Nat.lt_of_lt_of_le hi h.size) (by omega)).trans (h.blk i hi hf), k.os.trans h.os, k.tape.trans h.tape, k.output.trans h.output⟩

theorem range_ok {w2 : World} {v lo hi : Int} (h1 : lo ≤ v) (h2 : v ≤ hi) {X K : World → Prop} (hk : ∀ w4, Ext w2 w4 → K w4) (B : Nat) (w3 : World) (hn : New w2 (.cells #[Value.int .i64 0, Value.int .i64 0, Value.int .i64 0] T.A3int) B w3) :
    storeP w3 ⟨B, 0, none⟩ [Value.int .i64 v, Value.int .i64 lo, Value.int .i64 hi] fun w4 => 0 ≤ (0 : Int) ∧ (0 : Int) < 3 ∧
      ∃ x6 : Int, World.cell? w4 (Addr.add ⟨B, 0, none⟩ (Int.toNat (0 : Int) * 1)) = some (Value.int .i64 x6) ∧ 0 ≤ (1 : Int) ∧ (1 : Int) < 3 ∧
      ∃ x7 : Int, World.cell? w4 (Addr.add ⟨B, 0, none⟩ (Int.toNat (1 : Int) * 1)) = some (Value.int .i64 x7) ∧
      br (decide (x6 < x7)) (X w4) (0 ≤ (0 : Int) ∧ (0 : Int) < 3 ∧
        ∃ x8 : Int, World.cell? w4 (Addr.add ⟨B, 0, none⟩ (Int.toNat (0 : Int) * 1)) = some (Value.int .i64 x8) ∧ 0 ≤ (2 : Int) ∧ (2 : Int) < 3 ∧
        ∃ x9 : Int, World.cell? w4 (Addr.add ⟨B, 0, none⟩ (Int.toNat (2 : Int) * 1)) = some (Value.int .i64 x9) ∧
        br (decide (x8 > x9)) (X w4) (K w4)) := by
  refine store_of hn.get (by simp) fun w4 hput => ?_
  have hB : B = w2.heap.size := hn.num
  have he : Ext w2 w4 := Put.upd hn.upd hput (.inl (by omega))
  have hg := hput.get
  rw [splice_all _ _ (by simp)] at hg
  simp only [add_lit, tn0, tn1, tn2]
  refine ⟨by omega, by omega, _, cell_of hg rfl, by omega, by omega, _, cell_of hg rfl, br_dec (fun h => by omega) fun _ => ⟨by omega, by omega, _, cell_of hg rfl, by omega, by omega, _, cell_of hg rfl, br_dec (fun h => by omega) fun _ => hk _ he⟩⟩

theorem nand_New_spec (w : World) {nb np sz sp : Nat} (nb1 : 8 ≤ nb) (nb2 : nb ≤ 64) (np1 : 4 ≤ np) (np2 : np ≤ 32) (sz1 : 128 ≤ sz) (sz2 : sz ≤ 256) (sp2 : sp ≤ 4) :
    CallsR prog K.nand_New #[.agg #[.int .i64 nb, .int .i64 np, .int .i64 sz, .int .i64 sp]] w fun v w' => Ext w w' ∧ ∃ p, v = .tuple #[.pointer (some ⟨p, 0, none⟩), .int .i64 0] ∧
      ChipAt w' p ⟨nb, np, sz, sp, List.replicate nb (List.replicate (np * sz) 255), List.replicate nb false, [], 0, false, 0⟩ (fun x => w.heap.size ≤ x ∧ x < w'.heap.size) := by
  apply nand_New.sh
  intro B₁ w₁ hn1
  have hB1 : B₁ = w.heap.size := hn1.num
  have hc1 := hn1.get
  simp only [add_lit]
  refine ⟨_, cell_of hc1 rfl, _, cell_of hc1 rfl, _, cell_of hc1 rfl, _, cell_of hc1 rfl, fun x u => 0 ≤ x ∧ x ≤ 4 ∧ Ext w₁ u, fun x _ => (4 - x).toNat, ⟨by omega, by omega, Upd.refl _ _⟩, ?_⟩
  rintro x₅ w₂ ⟨hx0, hx4, he2⟩
  have hnext : ∀ w4, Ext w₂ w4 → x₅ < 4 → (0 ≤ IntKind.i64.wrap (x₅ + 1) ∧ IntKind.i64.wrap (x₅ + 1) ≤ 4 ∧ Ext w₁ w4) ∧ (4 - IntKind.i64.wrap (x₅ + 1)).toNat < (4 - x₅).toNat := by
    intro w4 h4 hlt
    rw [w64 (by omega) (by omega)]
    exact ⟨⟨by omega, by omega, he2.trans h4⟩, by omega⟩
  refine br_dec (fun hlt => ⟨hx0, hlt, ?_⟩) fun hge => ?_
  · refine ⟨⟨⟨⟨trivial, fun _ => ?_⟩, fun _ => ?_⟩, fun _ => ?_⟩, fun _ => ?_⟩
    · exact fun B w3 hn => range_ok (by omega) (by omega) (fun w4 h4 => hnext w4 h4 hlt) B w3 hn
    · exact fun B w3 hn => range_ok (by omega) (by omega) (fun w4 h4 => hnext w4 h4 hlt) B w3 hn
    · exact fun B w3 hn => range_ok (by omega) (by omega) (fun w4 h4 => hnext w4 h4 hlt) B w3 hn
    · exact fun B w3 hn => range_ok (by omega) (by omega) (fun w4 h4 => hnext w4 h4 hlt) B w3 hn
  · intro w₁₁ hd11
    have e11 : Ext w₁ w₁₁ := he2.trans hd11.upd
    have hsz8 : np * sz ≤ 8192 := by have := Nat.mul_le_mul np2 sz2; omega
    refine ⟨fun u => Ext w₁ u, e11, (nb : Int), (np : Int), (sz : Int), (sp : Int), fun u hu => cellsAt_of (o := 0) (Ext.get hu hc1) (fun j v hj => by simpa using hj), (nb : Int), fun u hu => cell_of (Ext.get hu hc1) rfl, ?_⟩
    refine ⟨by omega, by omega, by omega, by omega, rfl, fun bb w₁₂ hn12 => ?_⟩
    have e12 := e11.trans hn12.upd
    have hbb : bb = w₁₁.heap.size := hn12.num
    simp only [Int.toNat_natCast] at hn12 ⊢
    rw [zerosL_one] at hn12
    refine ⟨e12, fun B₆ w₁₃ hn13 => ?_⟩
    have hB6 : B₆ = w₁₂.heap.size := hn13.num
    have e13 := e12.trans hn13.upd
    have s1 := hn1.size
    have s11 := e11.size
    have s12 := hn12.size
    have s13 := hn13.size
    have hbad12 : OwnAt w₁₂ (some ⟨bb, 0, none⟩) nb nb T.bool 1 ((List.replicate nb false).map Value.bool) := by
      have := OwnAt.new (n := nb) (size := 1) hn12 (by simp)
      simpa using this
    refine ⟨e13, _, cell_of (Ext.get e13 hc1) rfl, ?_⟩
    refine ⟨fun x u => ∃ (i : Nat) (a : Option Addr) (cap : Nat) (locs : List Nat), x = i ∧ i ≤ nb ∧ Upd (· = B₆) w₁₃ u ∧ u.heap[B₆]? = some (.cells (newCells nb np sz sp a i cap bb nb) T.nand_Chip (0, 0)) ∧ Built w₁₃.heap.size u a cap locs (List.replicate i (List.replicate (np * sz) 255)) (np * sz),
      fun x _ => (nb - x).toNat, ⟨0, none, 0, [], rfl, by omega, Upd.refl _ _, hn13.get, Built.nil _ _ _⟩, ?_⟩
    rintro x₂₈ w₁₄ ⟨i, a, cap, locs, rfl, hi, hu14, hd14, hbt⟩
    refine br_dec (fun hlt => ?_) fun hge => ?_
    · intro w₁₅ hd15
      have hu15 : Upd (· = B₆) w₁₃ w₁₅ := hu14.then hd15.upd
      have hg15 := Ext.get hd15.upd hd14
      have hg1 : w₁₅.heap[B₁]? = _ := hu15.get (Ext.get e13 hc1) (by omega)
      have hs15 := hu15.size
      have hSc : ∀ {u : World}, Upd (fun x => w₁₃.heap.size ≤ x) w₁₅ u → u.heap[B₆]? = some (.cells (newCells nb np sz sp a i cap bb nb) T.nand_Chip (0, 0)) := fun hu => hu.get hg15 (by omega)
      have hSg : ∀ {u : World}, Upd (fun x => w₁₃.heap.size ≤ x) w₁₅ u → u.heap[B₁]? = _ := fun hu => hu.get hg1 (by omega)
      refine ⟨fun u => Upd (fun x => w₁₃.heap.size ≤ x) w₁₅ u, Upd.refl _ _, a, i, cap, fun u hu => cell_of (hSc hu) rfl, (np : Int), fun u hu => cell_of (hSg hu) rfl, (sz : Int), fun u hu => cell_of (hSg hu) rfl, ?_⟩
      intro B₇ w₁₆ hn16
      refine ⟨Upd.ext hn16.upd, ?_⟩
      have eN : IntKind.i64.wrap ((np : Int) * (sz : Int)) = ((np * sz : Nat) : Int) := by rw [← Int.natCast_mul]; exact w64 (by omega) (by omega)
      rw [eN]
      have h128 : 4 * 128 ≤ np * sz := Nat.mul_le_mul np1 sz1
      refine (slices_Repeat_spec (x := 255) (a := some ⟨B₇, 0, none⟩) (cx := 1) (RowAt.of hn16.get fun j v hj => by match j, hj with | 0, hj => exact hj | j + 1, hj => simp at hj) (Nat.le_refl _) (n := np * sz) (by omega) (by omega)).mono ?_
      rintro _ w₁₇ ⟨he17, l, rfl, hol, hlf⟩
      have e17 : Ext w₁₅ w₁₇ := hn16.upd.trans he17
      refine ⟨_, _, _, rfl, Upd.ext e17, fun B₈ w₁₈ hn18 => ⟨Upd.ext (e17.trans hn18.upd), ?_⟩⟩
      have hbt15 : Built w₁₃.heap.size w₁₅ a cap locs (List.replicate i (List.replicate (np * sz) 255)) (np * sz) := hbt.upd (F := NoB) hd15.upd (fun _ hf => hf.elim)
      have hmore := Built.more (K := fun a4 l4 c4 w19 => Upd (fun x => w₁₃.heap.size ≤ x) w₁₅ w19 ∧ storeP w19 ⟨B₆, 0 + 4, none⟩ [Value.slice a4 l4 c4] fun w20 =>
        (∃ (i' : Nat) (a : Option Addr) (cap : Nat) (locs : List Nat), IntKind.i64.wrap ((i : Int) + 1) = i' ∧ i' ≤ nb ∧ Upd (· = B₆) w₁₃ w20 ∧ w20.heap[B₆]? = some (.cells (newCells nb np sz sp a i' cap bb nb) T.nand_Chip (0, 0)) ∧ Built w₁₃.heap.size w20 a cap locs (List.replicate i' (List.replicate (np * sz) 255)) (np * sz)) ∧ ((nb : Int) - IntKind.i64.wrap ((i : Int) + 1)).toNat < ((nb : Int) - (i : Int)).toNat) hbt15 hs15 e17 hol (by have := hn16.size; omega) hn18 (by simp; omega) ?_
      · simp only [List.length_replicate] at hmore
        exact hmore
      · intro a' c' w₁₉ hu19 hown hu19b hbt19
        refine ⟨hu19, ?_⟩
        have hg19 := hSc hu19
        refine store_of hg19 (by simp [newCells]) fun w₂₀ hput => ?_
        have e1 : IntKind.i64.wrap ((i : Int) + 1) = ((i + 1 : Nat) : Int) := w64 (by omega) (by omega)
        rw [e1]
        refine ⟨⟨i + 1, a', c', locs ++ [l], rfl, by omega, ?_, ?_, ?_⟩, by omega⟩
        · exact (hu15.low hu19).trans (Put.upd1 hput)
        · have := hput.get
          rw [this]
          simp only [List.length_replicate]
          rfl
        · have hr : List.replicate i (List.replicate (np * sz) (255 : UInt8)) ++ [List.replicate (np * sz) 255] = List.replicate (i + 1) (List.replicate (np * sz) 255) := by rw [← List.replicate_append_replicate]; rfl
          rw [hr] at hbt19
          exact hbt19.upd (Put.upd1 hput) (fun x hx => by omega)
    · have hi' : i = nb := by omega
      subst hi'
      have hs14 := hu14.size
      refine ⟨?_, B₆, rfl, ?_⟩
      · exact Upd.beyond (hn1.upd.trans e13) hu14 (fun x hx => by omega)
      · refine Built.chip (A := w₁₃.heap.size) (bb := bb) (cbad := i) (a := a) (cap := cap) (locs := locs) (bs := List.replicate i (List.replicate (np * sz) 255)) hbt (by simp) (by simp only [List.length_replicate]; exact hd14) ?_ (by omega) (by omega) (by omega) (Z := w.heap.size) (by omega) (by omega) nb1 nb2 np1 np2 sz1 sz2 ?_
        · exact OwnAt.upd (OwnAt.ext hbad12 hn13.upd) hu14 (fun b hb => by cases hb; omega)
        · intro b hb
          rw [List.eq_of_mem_replicate hb]
          simp

theorem slices_Clone_bool_spec {a : Option Addr} {a₀ : Addr} {l : List Bool} {c : Nat} {w : World} (h : RowAt w (some a₀) (l.map Value.bool)) (ha : a = some a₀) (hn : l.length ≤ 10000) (hl : 1 ≤ l.length) :
    CallsR prog K.slices_Clone_bool #[.slice a l.length c] w fun v w' => Ext w w' ∧ ∃ b c', v = .slice (some ⟨b, 0, none⟩) l.length c' ∧ OwnAt w' (some ⟨b, 0, none⟩) l.length c' T.bool 1 (l.map Value.bool) ∧ w.heap.size ≤ b := by
  subst ha
  apply slices_Clone_bool.sh
  unfold slices_Clone_bool.body
  simp only [Option.isNone_some, br_false]
  intro B w₁ hnew
  have hB : w.heap.size = B := by rw [hnew.num]
  have ho : OwnAt w₁ (some ⟨B, 0, none⟩) 0 0 T.bool 1 [] := OwnAt.new (n := 0) (size := 1) hnew (by simp)
  refine append_own ho (m := l.length) (new := l.map Value.bool) rfl (read_row (RowAt.ext h hnew.upd) (by simp)) (by simp) (by intro v hv; simp at hv; rcases hv with ⟨_, rfl⟩ | ⟨_, rfl⟩ <;> rfl) rfl (by omega) (by omega) fun a' c' w₂ hu ho' hf => ?_
  simp only [Nat.zero_add, List.nil_append] at ho' ⊢
  have hs := hnew.size
  rcases hf with rfl | ⟨b, rfl, hb⟩
  · exact ⟨Upd.beyond hnew.upd hu fun x hx => by cases hx; omega, B, c', rfl, ho', by omega⟩
  · exact ⟨Upd.beyond hnew.upd hu fun x hx => by cases hx; omega, b, c', rfl, ho', by omega⟩

/-- what a chip without power is, of one's own memory -/
theorem nand_Power_spec {w : World} {p : Nat} {c : Chip} {L : Loc} {G : Nat → Prop} (h : ChipRep w p c L G) :
    CallsR prog K.nand_Chip_Power #[.pointer (some ⟨p, 0, none⟩)] w fun v w' => Ext w w' ∧ ∃ p', v = .tuple #[.pointer (some ⟨p', 0, none⟩), .int .i64 0] ∧
      ChipAt w' p' c.power (fun x => w.heap.size ≤ x ∧ x < w'.heap.size) := by
  have hok := h.ok
  apply nand_Chip_Power.sh
  unfold nand_Chip_Power.body
  refine (nand_off_spec h).mono ?_
  rintro _ _ ⟨rfl, rfl⟩
  rename_i w
  refine ⟨_, rfl, ?_⟩
  simp only [br_false, nilC_some', add_lit]
  intro w₂ hd2
  have h2 := h.ext hd2.upd
  refine ⟨fun u => Ext w₂ u, Upd.refl _ _, (c.nb : Int), (c.np : Int), (c.sz : Int), (c.sp : Int), fun u hu => cellsAt_of (o := 0) (Ext.get hu h2.head) (fun j v hj => ?_), _, _, _, fun u hu => cell_of (Ext.get hu h2.head) rfl, ?_⟩
  · match j, hj with
    | 0, hj => simpa [chipCells] using hj
    | 1, hj => simpa [chipCells] using hj
    | 2, hj => simpa [chipCells] using hj
    | 3, hj => simpa [chipCells] using hj
    | j + 4, hj => simp at hj
  have hcb := slices_Clone_bool_spec (a₀ := ⟨L.bb, 0, none⟩) (c := L.cbad) h2.bad.row rfl (by rw [hok.bad]; have := hok.nb2; omega) (by rw [hok.bad]; have := hok.nb1; omega)
  rw [hok.bad] at hcb
  refine hcb.mono ?_
  rintro _ w₃ ⟨he3, bb, cbad, rfl, hbo, hbf⟩
  refine ⟨_, _, _, rfl, he3, fun B₆ w₁₃ hn13 => ⟨he3.trans hn13.upd, ?_⟩⟩
  have hB6 : B₆ = w₃.heap.size := hn13.num
  have e13 : Ext w w₁₃ := (hd2.upd.trans he3).trans hn13.upd
  have h13 := h.ext e13
  refine ⟨_, _, _, cell_of h13.head rfl, ?_⟩
  have s2 : w₂.heap.size = w.heap.size := by rw [hd2.heap]
  have s3 := he3.size
  have s13 := hn13.size
  have hbbw : bb < w₃.heap.size := OwnAt.blk hbo rfl
  refine ⟨fun x u => ∃ (i : Nat) (a : Option Addr) (cap : Nat) (locs : List Nat), x = i ∧ i ≤ c.nb ∧ Upd (· = B₆) w₁₃ u ∧ u.heap[B₆]? = some (.cells (newCells c.nb c.np c.sz c.sp a i cap bb cbad) T.nand_Chip (0, 0)) ∧ Built w₁₃.heap.size u a cap locs (c.blocks.take i) (c.np * c.sz),
    fun x _ => (c.nb - x).toNat, ⟨0, none, 0, [], rfl, by omega, Upd.refl _ _, hn13.get, by simpa using Built.nil _ _ _⟩, ?_⟩
  rintro x₂₈ w₁₄ ⟨i, a, cap, locs, rfl, hi, hu14, hd14, hbt⟩
  have hnb := hok.nb2
  have hpw : p < w.heap.size := (Array.getElem?_eq_some_iff.1 h.head).1
  have hFw : ∀ {u : World}, Upd (· = B₆) w₁₃ u → ∃ vs, RowAt u (some ⟨L.pb, 0, none⟩) vs ∧ ∀ i, i < c.nb → ∃ l cap, vs[i]? = some (.slice (some ⟨l, 0, none⟩) (c.np * c.sz) cap) ∧ BytesAt u (some ⟨l, 0, none⟩) (c.blk i) := by
    intro u hu
    obtain ⟨vs, hvo, hv⟩ := h.rows
    have hpb : L.pb < w.heap.size := by
      obtain ⟨_, _, hx⟩ := hvo
      rcases hx with ⟨hx, _⟩ | ⟨b, cur, hx, hb, _⟩
      · cases hx
      · cases hx; exact (Array.getElem?_eq_some_iff.1 hb).1
    refine ⟨vs, RowAt.upd (RowAt.ext hvo.row e13) hu (fun q hq => by cases hq; show ¬ (L.pb = B₆); omega), fun i hi => ?_⟩
    obtain ⟨l, cap, hl, hvi, hbi⟩ := hv i hi
    have hlw : l < w.heap.size := OwnAt.blk hbi rfl
    exact ⟨l, cap, hvi, RowAt.upd (RowAt.ext hbi.row e13) hu (fun q hq => by cases hq; show ¬ (l = B₆); omega)⟩
  refine br_dec (fun hlt => ?_) fun hge => ?_
  · have hi' : i < c.nb := by omega
    have hblen := hok.blk_len hi'
    obtain ⟨vs, hvr, hv⟩ := hFw hu14
    obtain ⟨l0, cap0, hvi, hbi⟩ := hv i hi'
    refine ⟨by omega, by omega, ?_⟩
    obtain ⟨b', o', hab, hc'⟩ := RowAt.cell hvr hvi
    cases hab
    simp only [nilC_some', add_lit, Int.toNat_natCast, Nat.mul_one]
    refine ⟨_, _, _, hc', ?_⟩
    intro w₁₅ hd15
    have hu15 : Upd (· = B₆) w₁₃ w₁₅ := hu14.then hd15.upd
    have hg15 := Ext.get hd15.upd hd14
    have hs15 := hu15.size
    have hSc : ∀ {u : World}, Ext w₁₅ u → u.heap[B₆]? = some (.cells (newCells c.nb c.np c.sz c.sp a i cap bb cbad) T.nand_Chip (0, 0)) := fun hu => Ext.get hu hg15
    refine ⟨fun u => Ext w₁₅ u, Upd.refl _ _, a, i, cap, fun u hu => cell_of (hSc hu) rfl, ?_⟩
    have hcl := slices_Clone_byte_spec (c := cap0) (RowAt.ext hbi hd15.upd) (by rw [hblen]; have := hok.size_le; omega)
    rw [hblen] at hcl
    refine hcl.mono ?_
    rintro _ w₁₇ ⟨e17, a', c', rfl, hol, hlf⟩
    obtain ⟨l, rfl⟩ : ∃ l, a' = some ⟨l, 0, none⟩ := by
      obtain ⟨_, _, hx⟩ := hol
      rcases hx with ⟨_, hx, _⟩ | ⟨b, cur, hx, _⟩
      · have := Nat.mul_le_mul hok.np1 hok.sz1; omega
      · exact ⟨b, hx⟩
    refine ⟨_, _, _, rfl, e17, fun B₈ w₁₈ hn18 => ⟨e17.trans hn18.upd, ?_⟩⟩
    have hbt15 : Built w₁₃.heap.size w₁₅ a cap locs (c.blocks.take i) (c.np * c.sz) := hbt.upd (F := NoB) hd15.upd (fun _ hf => hf.elim)
    have htl : (c.blocks.take i).length = i := by simp [hok.bl]; omega
    have hmore := Built.more (K := fun a4 l4 c4 w19 => storeP w19 ⟨B₆, 0 + 4, none⟩ [Value.slice a4 l4 c4] fun w20 =>
      (∃ (i' : Nat) (a : Option Addr) (cap : Nat) (locs : List Nat), IntKind.i64.wrap ((i : Int) + 1) = i' ∧ i' ≤ c.nb ∧ Upd (· = B₆) w₁₃ w20 ∧ w20.heap[B₆]? = some (.cells (newCells c.nb c.np c.sz c.sp a i' cap bb cbad) T.nand_Chip (0, 0)) ∧ Built w₁₃.heap.size w20 a cap locs (c.blocks.take i') (c.np * c.sz)) ∧ ((c.nb : Int) - IntKind.i64.wrap ((i : Int) + 1)).toNat < ((c.nb : Int) - (i : Int)).toNat) hbt15 hs15 e17 hol (hlf _ rfl) hn18 (by omega) ?_
    · rw [htl] at hmore
      exact hmore
    · intro a' c' w₁₉ hu19 hown hu19b hbt19
      have hg19 : w₁₉.heap[B₆]? = some (.cells (newCells c.nb c.np c.sz c.sp a i cap bb cbad) T.nand_Chip (0, 0)) := hu19.get hg15 (by omega)
      refine store_of hg19 (by simp [newCells]) fun w₂₀ hput => ?_
      have e1 : IntKind.i64.wrap ((i : Int) + 1) = ((i + 1 : Nat) : Int) := w64 (by omega) (by omega)
      rw [e1]
      refine ⟨⟨i + 1, a', c', locs ++ [l], rfl, by omega, ?_, ?_, ?_⟩, by omega⟩
      · exact (hu15.low hu19).trans (Put.upd1 hput)
      · have := hput.get
        rw [this, htl]
        rfl
      · have hib : i < c.blocks.length := by rw [hok.bl]; exact hi'
        have hr : c.blocks.take i ++ [c.blk i] = c.blocks.take (i + 1) := by
          rw [List.take_succ_eq_append_getElem hib]
          simp [Chip.blk, List.getD, hib]
        rw [hr] at hbt19
        exact hbt19.upd (Put.upd1 hput) (fun x hx => by omega)
  · have hi' : i = c.nb := by omega
    subst hi'
    have hs14 := hu14.size
    rw [List.take_of_length_le (by rw [hok.bl]; omega)] at hbt
    refine ⟨Upd.beyond e13 hu14 (fun x hx => by omega), B₆, rfl, ?_⟩
    refine Built.chip (A := w₁₃.heap.size) (bb := bb) (cbad := cbad) (a := a) (cap := cap) (locs := locs) hbt hok.bl (by rw [hok.bl]; exact hd14) ?_ (by omega) (by omega) (by omega) (Z := w.heap.size) (by omega) (by omega) hok.nb1 hok.nb2 hok.np1 hok.np2 hok.sz1 hok.sz2 hok.bl2
    exact OwnAt.upd (OwnAt.ext hbo hn13.upd) hu14 (fun b hb => by cases hb; omega)

end Go.Den
