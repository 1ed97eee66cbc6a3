/- Contracts of layer 3 (nand): New, Power. -/
import Derived.Test.YtljaocdmeoheaaaSNand4
set_option linter.unusedVariables false
set_option linter.unusedSimpArgs false
set_option maxRecDepth 4000
namespace Go.Den

theorem mask32 {y : Int} (h0 : 0 ≤ y) (h1 : y < 4294967296) : IntKind.u64.wrap (((BitVec.ofInt (IntKind.bits .u64) y &&& BitVec.ofInt (IntKind.bits .u64) 4294967295).toNat : Nat) : Int) = y := by
  show IntKind.u64.wrap (((BitVec.ofInt 64 y &&& BitVec.ofInt 64 4294967295).toNat : Nat) : Int) = y
  rw [BitVec.toNat_and]
  have e1 : (BitVec.ofInt 64 y).toNat = y.toNat := by rw [BitVec.toNat_ofInt]; omega
  have e2 : (BitVec.ofInt 64 4294967295).toNat = 2 ^ 32 - 1 := by decide
  rw [e1, e2, Nat.and_two_pow_sub_one_eq_mod]
  rw [Nat.mod_eq_of_lt (by omega)]
  rw [wu64 (by omega) (by omega)]
  omega
theorem shr32 {y : Int} (h0 : 0 ≤ y) (h1 : y < 4294967296) : Int.fdiv y (2 ^ (min (Int.toNat (32 : Int)) (IntKind.bits .u64))) = 0 := by
  have e : ((2 : Int) ^ (min (Int.toNat (32 : Int)) (IntKind.bits .u64))) = 4294967296 := by decide
  rw [e, Int.fdiv_eq_ediv_of_nonneg _ (by omega)]
  omega

theorem bits_Mul64_spec (n : Nat) (hn : n < 1000000) (w : World) : CallsR prog K.bits_Mul64 #[.int .u64 1, .int .u64 n] w fun v w' => v = .tuple #[.int .u64 0, .int .u64 n] ∧ w' = w := by
  apply bits_Mul64.sh
  unfold bits_Mul64.body
  rw [mask32 (y := 1) (by omega) (by omega), mask32 (y := (n : Int)) (by omega) (by omega), shr32 (y := 1) (by omega) (by omega), shr32 (y := (n : Int)) (by omega) (by omega)]
  simp only [Int.zero_mul, Int.one_mul, Int.mul_zero, Int.zero_add]
  have ew : IntKind.u64.wrap (n : Int) = n := wu64 (by omega) (by omega)
  have e0 : IntKind.u64.wrap 0 = 0 := by decide
  rw [ew, shr32 (y := (n : Int)) (by omega) (by omega), e0]
  have e1 := mask32 (y := 0) (by omega) (by omega)
  have e3 := shr32 (y := 0) (by omega) (by omega)
  simp only [Int.add_zero, Int.zero_add, e0, e1, e3]
  exact ⟨by omega, by omega, by omega, by omega, by omega, by trivial, by trivial⟩

theorem bits_Mul_spec (n : Nat) (hn : n < 1000000) (w : World) : CallsR prog K.bits_Mul #[.int .u64 1, .int .u64 n] w fun v w' => v = .tuple #[.int .u64 0, .int .u64 n] ∧ w' = w := by
  apply bits_Mul.sh
  refine (bits_Mul64_spec n hn w).mono ?_
  rintro _ _ ⟨rfl, rfl⟩
  exact ⟨_, _, rfl, rfl, by trivial⟩

theorem zerosL_one (v : Value) (n : Nat) : zerosL [v] n = List.replicate n v := by
  induction n with
  | zero => rfl
  | succ n ih => simp [zerosL, List.replicate_succ] at ih ⊢; try exact ih

/-- Repeat of one byte -/
theorem slices_Repeat_spec {w : World} {a : Option Addr} {x : UInt8} {cx : Nat} (h : BytesAt w a [x]) (hc : 1 ≤ cx) {n : Nat} (hn : n < 1000000) (hn1 : 1 ≤ n) :
    CallsR prog K.slices_Repeat_byte #[.slice a 1 cx, .int .i64 n] w fun v w' => Ext w w' ∧ ∃ b, v = .slice (some ⟨b, 0, none⟩) n n ∧ OwnAt w' (some ⟨b, 0, none⟩) n n T.uint8 1 ((List.replicate n x).map bv) ∧ w.heap.size ≤ b := by
  apply slices_Repeat_byte.sh
  refine br_dec (fun h => by omega) fun _ => ?_
  have e1 : IntKind.u64.wrap (((1 : Nat) : Int)) = 1 := by decide
  rw [e1, wu64 (by omega) (by omega)]
  refine (bits_Mul_spec n hn w).mono ?_
  rintro _ _ ⟨rfl, rfl⟩
  rename_i w
  refine ⟨_, _, rfl, fun u => u = w, br_dec (fun h => by omega) fun _ => br_dec (fun h => by omega) fun _ => rfl, ?_⟩
  rintro _ rfl
  rename_i w
  rw [w64 (by omega) (by omega)]
  refine ⟨by omega, by omega, by omega, by omega, rfl, fun b w₃ hnew => ?_⟩
  have hb : b = w.heap.size := hnew.num
  simp only [Int.toNat_natCast] at hnew ⊢
  rw [zerosL_one] at hnew
  have hx3 : BytesAt w₃ a [x] := RowAt.ext h hnew.upd
  have hrep : (List.replicate n (Value.int .u8 0)) = (List.replicate n (0 : UInt8)).map bv := by simp
  rw [hrep] at hnew
  refine copy_into (xs := [x]) hnew.get hx3 (by simpa using hn1) (by simpa using hn1) fun w₄ hput => ?_
  rw [splice_bytes] at hput
  refine ⟨fun m u => ∃ k : Nat, m = k ∧ 1 ≤ k ∧ k ≤ n ∧ Ext w u ∧ u.heap[b]? = some (.cells ((List.replicate k x ++ List.replicate (n - k) 0).map bv).toArray T.uint8 (0, 0)), fun m _ => (n - m).toNat, ?_, ?_⟩
  · refine ⟨1, rfl, Nat.le_refl _, hn1, Put.upd hnew.upd hput (.inl (by omega)), ?_⟩
    have := hput.get
    rw [this]
    congr 3
    simp
  rintro m u ⟨k, rfl, hk1, hkn, heu, hbu⟩
  refine br_dec (fun hlt => ?_) fun hge => ?_
  · intro w₆ hdrew
    have hb6 := Ext.get hdrew.upd hbu
    refine ⟨fun v => v = w₆, rfl, ?_⟩
    refine slice_from (by omega) (by omega) (Nat.le_refl _) ?_
    rw [if_neg (by omega)]
    simp only [Option.map_some, add_lit, Int.toNat_natCast, Nat.mul_one, Nat.zero_add]
    have hfull : BytesAt w₆ (some ⟨b, 0, none⟩) (List.replicate k x ++ List.replicate (n - k) 0) := RowAt.of hb6 fun j v hj => by simpa using hj
    have hfl : (List.replicate k x ++ List.replicate (n - k) (0 : UInt8)).length = n := by simp; omega
    have hcut := slice_bytes_to (cap := n) hfull (k := (k : Int)) (mx := none) (by omega) (by omega) (by omega) (.inl rfl) (K := fun a3 l3 c3 => copyP 1 (some ⟨b, k, none⟩) (n - k) (Value.slice a3 l3 c3) w₆ fun x5 w7 =>
      (∃ k' : Nat, IntKind.i64.wrap ((k : Int) + x5) = k' ∧ 1 ≤ k' ∧ k' ≤ n ∧ Ext w w7 ∧ w7.heap[b]? = some (.cells ((List.replicate k' x ++ List.replicate (n - k') 0).map bv).toArray T.uint8 (0, 0))) ∧ ((n : Int) - IntKind.i64.wrap ((k : Int) + x5)).toNat < ((n : Int) - (k : Int)).toNat) ?_
    · rw [hfl] at hcut
      exact hcut
    · intro c' hb' _
      simp only [Int.toNat_natCast] at hb' ⊢
      have htk : (List.replicate k x ++ List.replicate (n - k) (0 : UInt8)).take k = List.replicate k x := by
        rw [List.take_append_of_le_length (by simp)]; simp
      rw [htk] at hb' ⊢
      -- as many as there is room for
      have hb'' : BytesAt w₆ (some ⟨b, 0, none⟩) (List.replicate (min k (n - k)) x) := by
        have := BytesAt.take hb' (min k (n - k))
        rwa [List.take_replicate, Nat.min_eq_left (Nat.min_le_left _ _)] at this
      refine ⟨k, by simp [lenV], (List.replicate (min k (n - k)) x).map bv, ?_, oneCell_bytes, ?_⟩
      · have := read_row (cap := c') (size := 1) hb'' (len := min k (n - k)) (by simp)
        simp only [readP] at this ⊢
        exact ⟨by simp, RowAt.cells hb''⟩
      · refine store_of hb6 (by simp; omega) fun w₇ hput7 => ?_
        have e : IntKind.i64.wrap ((k : Int) + ((min k (n - k) : Nat) : Int)) = ((k + min k (n - k) : Nat) : Int) := w64 (by omega) (by omega)
        simp only []
        rw [e]
        refine ⟨⟨k + min k (n - k), rfl, by omega, by omega, Put.upd (heu.trans hdrew.upd) hput7 (.inl (by omega)), ?_⟩, by omega⟩
        have := hput7.get
        rw [this, splice_bytes]
        have q : (List.replicate k x ++ List.replicate (n - k) (0 : UInt8)).take k ++ List.replicate (min k (n - k)) x ++ (List.replicate k x ++ List.replicate (n - k) (0 : UInt8)).drop (k + (List.replicate (min k (n - k)) x).length) = List.replicate (k + min k (n - k)) x ++ List.replicate (n - (k + min k (n - k))) 0 := by
          rw [List.take_append_of_le_length (by simp), List.take_of_length_le (by simp), List.drop_append, List.drop_of_length_le (l := List.replicate k x) (by simp), List.nil_append, List.drop_replicate, List.replicate_append_replicate]
          congr 2
          simp
          omega
        rw [q]
  · have : k = n := by omega
    subst this
    refine ⟨heu, b, rfl, ⟨by simp, Nat.le_refl _, .inr ⟨b, _, rfl, hbu, by simp, by simp⟩⟩, by omega⟩

/-! ### A chip that is built -/
def newCells (nb np sz sp : Nat) (a : Option Addr) (len cap bb cbad : Nat) : Array Value :=
  #[.int .i64 nb, .int .i64 np, .int .i64 sz, .int .i64 sp, .slice a len cap, .slice (some ⟨bb, 0, none⟩) nb cbad, .slice none 0 0, .int .i64 0, .bool false, .int .i64 0]

/-- rows of blocks that are built, beyond A -/
structure Built (A : Nat) (w : World) (a : Option Addr) (cap : Nat) (locs : List Nat) (bs : List (List UInt8)) (N : Nat) : Prop where
  row : ∃ vs, OwnAt w a bs.length cap T.L_uint8 1 vs ∧ ∀ i, i < bs.length → ∃ l cap, locs[i]? = some l ∧ vs[i]? = some (.slice (some ⟨l, 0, none⟩) N cap) ∧ OwnAt w (some ⟨l, 0, none⟩) N cap T.uint8 1 ((bs.getD i []).map bv)
  len : locs.length = bs.length
  at_ : ∀ l, l ∈ locs → A ≤ l ∧ l < w.heap.size
  nodup : locs.Nodup
  own : ∀ b, a = some ⟨b, 0, none⟩ → A ≤ b ∧ b < w.heap.size ∧ b ∉ locs
theorem Built.nil (A : Nat) (w : World) (N : Nat) : Built A w none 0 [] [] N :=
  ⟨⟨[], OwnAt.nil _ _ _, fun i hi => by simp at hi⟩, rfl, fun l hl => by simp at hl, List.nodup_nil, fun b hb => by cases hb⟩
theorem Built.upd {F : Nat → Prop} {A : Nat} {w w' : World} {a : Option Addr} {cap : Nat} {locs : List Nat} {bs : List (List UInt8)} {N : Nat} (h : Built A w a cap locs bs N) (k : Upd F w w') (hf : ∀ x, F x → x < A) : Built A w' a cap locs bs N := by
  obtain ⟨⟨vs, ho, hv⟩, hl, hat, hn, hown⟩ := h
  refine ⟨⟨vs, OwnAt.upd ho k (fun b hb hF => by have := hf _ hF; have := (hown b hb).1; omega), fun i hi => ?_⟩, hl, fun l hm => ⟨(hat l hm).1, Nat.lt_of_lt_of_le (hat l hm).2 k.size⟩, hn, fun b hb => ⟨(hown b hb).1, Nat.lt_of_lt_of_le (hown b hb).2.1 k.size, (hown b hb).2.2⟩⟩
  obtain ⟨l, cap', hli, hvi, hbi⟩ := hv i hi
  refine ⟨l, cap', hli, hvi, OwnAt.upd hbi k (fun b hb hF => ?_)⟩
  cases hb
  have := hf _ hF
  have := (hat l (List.mem_of_getElem? hli)).1
  omega
/-- a block more -/
theorem Built.more {A : Nat} {w w₁ w₂ : World} {a : Option Addr} {cap : Nat} {locs : List Nat} {bs : List (List UInt8)} {N : Nat} (h : Built A w a cap locs bs N) (hA : A ≤ w.heap.size) (he : Ext w w₁) {l c : Nat} {b : List UInt8}
    (ho : OwnAt w₁ (some ⟨l, 0, none⟩) N c T.uint8 1 (b.map bv)) (hl : w.heap.size ≤ l) {B : Nat} (hn : New w₁ (.cells #[.slice (some ⟨l, 0, none⟩) N c] T.L_uint8) B w₂) (hs : bs.length ≤ 100) {K : Option Addr → Nat → Nat → World → Prop}
    (hk : ∀ a' c' w', Upd (fun x => A ≤ x) w w' → (∀ b, a = some ⟨b, 0, none⟩ → A ≤ b) → Upd (fun b => a = some ⟨b, 0, none⟩) w₂ w' → Built A w' a' c' (locs ++ [l]) (bs ++ [b]) N → K a' (bs.length + 1) c' w') :
    appendP T.L_uint8 1 24 [Value.slice none 0 0] a bs.length cap (.slice (some ⟨B, 0, none⟩) 1 1) w₂ K := by
  obtain ⟨⟨vs, hvo, hv⟩, hlen, hat, hnd, hown⟩ := h
  have hlw : l < w₁.heap.size := OwnAt.blk ho rfl
  have e2 : Ext w w₂ := he.trans hn.upd
  have hB : B = w₁.heap.size := hn.num
  have hrow : RowAt w₂ (some ⟨B, 0, none⟩) [Value.slice (some ⟨l, 0, none⟩) N c] := RowAt.of hn.get fun j v hj => by simpa using hj
  refine append_own (OwnAt.ext hvo e2) rfl (read_row hrow (by simp)) (by simp) (by simp; rfl) rfl (by omega) (by omega) fun a' c' w' hu ho' hf => ?_
  have hu' : Upd (fun x => A ≤ x) w w' := (Upd.ext e2).trans (hu.mono fun x _ hx => (hown x hx).1)
  refine hk a' c' w' hu' (fun b hb => (hown b hb).1) hu ⟨⟨_, by simpa using ho', fun i hi => ?_⟩, by simp [hlen], fun x hx => ?_, ?_, fun x hx => ?_⟩
  · have hvl : vs.length = bs.length := by simpa using hvo.1
    by_cases hib : i < bs.length
    · obtain ⟨l', cap', hli, hvi, hbi⟩ := hv i hib
      refine ⟨l', cap', by rw [List.getElem?_append_left (by omega)]; exact hli, by rw [List.getElem?_append_left (by omega)]; exact hvi, ?_⟩
      have hm := List.mem_of_getElem? hli
      have : (bs ++ [b]).getD i [] = bs.getD i [] := by simp [List.getD, List.getElem?_append_left hib]
      rw [this]
      refine OwnAt.upd (OwnAt.ext hbi e2) hu (fun b' hb' hF => ?_)
      cases hb'
      exact (hown _ hF).2.2 hm
    · have hie : i = bs.length := by simp at hi; omega
      subst hie
      refine ⟨l, c, by rw [← hlen]; simp, by rw [← hvl]; simp, ?_⟩
      have : (bs ++ [b]).getD bs.length [] = b := by simp [List.getD]
      rw [this]
      refine OwnAt.upd (OwnAt.ext ho hn.upd) hu (fun b' hb' hF => ?_)
      cases hb'
      have := (hown _ hF).2.1
      omega
  · have hs' := hu.size
    have hs1 := hn.size
    have hs0 := he.size
    rcases List.mem_append.1 hx with hx | hx
    · have := hat x hx
      exact ⟨this.1, by omega⟩
    · simp at hx
      subst hx
      exact ⟨by omega, by omega⟩
  · rw [List.nodup_append]
    refine ⟨hnd, by simp, fun x hx y hy e => ?_⟩
    simp at hy
    have := (hat x hx).2
    omega
  · have hs' := hu.size
    have hs1 := hn.size
    have hs0 := he.size
    have hx' : x < w'.heap.size := OwnAt.blk ho' hx
    rcases hf with rfl | ⟨b', rfl, hb'⟩
    · have := hown x hx
      refine ⟨this.1, hx', fun hm => ?_⟩
      rcases List.mem_append.1 hm with hm | hm
      · exact this.2.2 hm
      · simp at hm; omega
    · cases hx
      refine ⟨by omega, hx', fun hm => ?_⟩
      rcases List.mem_append.1 hm with hm | hm
      · have := (hat _ hm).2; omega
      · simp at hm; omega

/-- the chip that was built -/
theorem Built.chip {A p bb cbad : Nat} {w : World} {a : Option Addr} {cap nb np sz sp : Nat} {locs : List Nat} {bs : List (List UInt8)} {bad : List Bool} (h : Built A w a cap locs bs (np * sz)) (hb : bs.length = nb)
    (hd : w.heap[p]? = some (.cells (newCells nb np sz sp a bs.length cap bb cbad) T.nand_Chip (0, 0))) (hbad : OwnAt w (some ⟨bb, 0, none⟩) nb cbad T.bool 1 (bad.map Value.bool)) (hp : p < A) (hbb : bb < A) (hne : p ≠ bb) {Z : Nat} (hpZ : Z ≤ p) (hbZ : Z ≤ bb)
    (nb1 : 8 ≤ nb) (nb2 : nb ≤ 64) (np1 : 4 ≤ np) (np2 : np ≤ 32) (sz1 : 128 ≤ sz) (sz2 : sz ≤ 256) (hbl : ∀ b ∈ bs, b.length = np * sz) :
    ChipAt w p ⟨nb, np, sz, sp, bs, bad, [], 0, false, 0⟩ (fun x => Z ≤ x ∧ x < w.heap.size) := by
  obtain ⟨⟨vs, hvo, hv⟩, hlen, hat, hnd, hown⟩ := h
  obtain ⟨pb, rfl⟩ : ∃ pb, a = some ⟨pb, 0, none⟩ := by
    obtain ⟨_, _, h⟩ := hvo
    rcases h with ⟨_, h, _⟩ | ⟨b, cur, h, _⟩
    · omega
    · exact ⟨b, h⟩
  have hpb := hown pb rfl
  have hps : p < w.heap.size := (Array.getElem?_eq_some_iff.1 hd).1
  have hbs : bb < w.heap.size := OwnAt.blk hbad rfl
  have hbadl : bad.length = nb := by have := hbad.1; simpa using this
  refine ⟨⟨bb, cbad, pb, cap, none, 0, locs⟩, fun x => x = pb, ⟨⟨nb1, nb2, np1, np2, sz1, sz2, hb, hbl, hbadl⟩, ?_, hbad, ?_, ?_, ?_, ?_, ?_, rfl⟩, ?_, ?_, fun x hx => hx.2⟩
  · rw [hd, hb]; rfl
  · refine ⟨vs, by rw [← hb]; exact hvo, fun i hi => ?_⟩
    obtain ⟨l, c, h1, h2, h3⟩ := hv i (by rw [hb]; exact hi)
    exact ⟨l, c, h1, h2, h3⟩
  · exact ⟨[], RowAt.nil _ _, rfl, Nat.le_refl _, fun a ha => by cases ha⟩
  · simp only []; rw [hlen]; exact hb
  · simp only []
    refine List.nodup_cons.2 ⟨fun hm => ?_, List.nodup_cons.2 ⟨fun hm => ?_, hnd⟩⟩
    · rcases List.mem_cons.1 hm with hm | hm
      · exact hne hm
      · have := (hat _ hm).1; omega
    · have := (hat _ hm).1; omega
  · intro x hx he
    subst he
    simp only [List.mem_cons] at hx
    rcases hx with hx | hx | hx
    · omega
    · omega
    · exact hpb.2.2 hx
  · intro x hx
    simp only [List.mem_cons] at hx
    rcases hx with rfl | rfl | hx
    · exact ⟨hpZ, hps⟩
    · exact ⟨hbZ, hbs⟩
    · have := hat x hx; exact ⟨by omega, this.2⟩
  · rintro x rfl
    exact ⟨by omega, hpb.2.1⟩

end Go.Den
