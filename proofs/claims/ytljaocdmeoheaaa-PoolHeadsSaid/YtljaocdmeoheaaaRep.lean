/- Words for contracts: worlds that grow, blocks, slices that read as lists. -/
import Derived.Test.YtljaocdmeoheaaaNum
set_option linter.unusedSimpArgs false
namespace Go.Den

/-! ### Numbers -/
theorem w64 {x : Int} (h : -9223372036854775808 ≤ x) (h' : x < 9223372036854775808) : IntKind.i64.wrap x = x := by
  simp only [IntKind.wrap, IntKind.bits, IntKind.signed]; simp; omega
theorem wu64 {x : Int} (h : 0 ≤ x) (h' : x < 18446744073709551616) : IntKind.u64.wrap x = x := by
  simp only [IntKind.wrap, IntKind.bits, IntKind.signed]; simp; omega
theorem wu32 {x : Int} (h : 0 ≤ x) (h' : x < 4294967296) : IntKind.u32.wrap x = x := by
  simp only [IntKind.wrap, IntKind.bits, IntKind.signed]; simp; omega
theorem wu8 {x : Int} (h : 0 ≤ x) (h' : x < 256) : IntKind.u8.wrap x = x := by
  simp only [IntKind.wrap, IntKind.bits, IntKind.signed]; simp; omega
theorem wu8_mod (x : Int) : IntKind.u8.wrap x = x % 256 := by
  simp only [IntKind.wrap, IntKind.bits, IntKind.signed]; simp
theorem wu32_mod (x : Int) : IntKind.u32.wrap x = x % 4294967296 := by
  simp only [IntKind.wrap, IntKind.bits, IntKind.signed]; simp
theorem wu64_mod (x : Int) : IntKind.u64.wrap x = x % 18446744073709551616 := by
  simp only [IntKind.wrap, IntKind.bits, IntKind.signed]; simp
theorem w64_range (x : Int) : -9223372036854775808 ≤ IntKind.i64.wrap x ∧ IntKind.i64.wrap x < 9223372036854775808 := by
  simp only [IntKind.wrap, IntKind.bits, IntKind.signed]; simp; omega
@[simp] theorem bits_u8 : IntKind.bits .u8 = 8 := rfl
@[simp] theorem bits_u32 : IntKind.bits .u32 = 32 := rfl
@[simp] theorem bits_u64 : IntKind.bits .u64 = 64 := rfl
@[simp] theorem bits_i64 : IntKind.bits .i64 = 64 := rfl

theorem tn0 : Int.toNat 0 = 0 := rfl
theorem tn1 : Int.toNat 1 = 1 := rfl
theorem tn2 : Int.toNat 2 = 2 := rfl
theorem tn3 : Int.toNat 3 = 3 := rfl
theorem tn4 : Int.toNat 4 = 4 := rfl
theorem tn5 : Int.toNat 5 = 5 := rfl
/-! ### Branches -/
@[simp] theorem br_true (X Y : Prop) : br true X Y = X := rfl
@[simp] theorem br_false (X Y : Prop) : br false X Y = Y := rfl
theorem br_intro {b : Bool} {X Y : Prop} (h1 : b = true → X) (h2 : b = false → Y) : br b X Y := by
  cases b
  · exact h2 rfl
  · exact h1 rfl
theorem br_dec {p : Prop} [Decidable p] {X Y : Prop} (h1 : p → X) (h2 : ¬ p → Y) : br (decide p) X Y := br_intro (fun h => h1 (of_decide_eq_true h)) (fun h => h2 (of_decide_eq_false h))
theorem br_eq {a b : Int} {X Y : Prop} (h1 : a = b → X) (h2 : a ≠ b → Y) : br (a == b) X Y := br_intro (fun h => h1 (by simpa using h)) (fun h => h2 (by simpa using h))
theorem br_ne {a b : Int} {X Y : Prop} (h1 : a ≠ b → X) (h2 : a = b → Y) : br (a != b) X Y := br_intro (fun h => h1 (by simpa using h)) (fun h => h2 (by simpa using h))
@[simp] theorem nilC_some' (a : Addr) (K : Addr → Prop) : nilC (some a) K = K a := rfl

/-! ### Calls -/
theorem CallsR.mono {P : Program} {f : FuncId} {args : Array Value} {w : World} {R R' : Value → World → Prop} (h : CallsR P f args w R) (hr : ∀ v w', R v w' → R' v w') : CallsR P f args w R' :=
  Calls.mono h fun _ _ ⟨v, he, hR⟩ => ⟨v, he, hr v _ hR⟩

/-! ### Worlds -/
/-- w' is w but for blocks of F, and new ones -/
structure Upd (F : Nat → Prop) (w w' : World) : Prop where
  size : w.heap.size ≤ w'.heap.size
  blk : ∀ b, b < w.heap.size → ¬ F b → w'.heap[b]? = w.heap[b]?
  os : w'.os = w.os
  tape : w'.tape = w.tape
  output : w'.output = w.output
abbrev NoB : Nat → Prop := fun _ => False
abbrev Ext (w w' : World) : Prop := Upd NoB w w'
theorem Upd.refl (F : Nat → Prop) (w : World) : Upd F w w := ⟨Nat.le_refl _, fun _ _ _ => rfl, rfl, rfl, rfl⟩
theorem Upd.trans {F : Nat → Prop} {a b c : World} (h : Upd F a b) (k : Upd F b c) : Upd F a c :=
  ⟨Nat.le_trans h.size k.size, fun i hi hf => (k.blk i (Nat.lt_of_lt_of_le hi h.size) hf).trans (h.blk i hi hf), k.os.trans h.os, k.tape.trans h.tape, k.output.trans h.output⟩
theorem Upd.mono {F G : Nat → Prop} {a b : World} (h : Upd F a b) (hs : ∀ x, x < a.heap.size → F x → G x) : Upd G a b := ⟨h.size, fun i hi hf => h.blk i hi fun hF => hf (hs i hi hF), h.os, h.tape, h.output⟩
theorem Upd.ext {F : Nat → Prop} {a b : World} (h : Ext a b) : Upd F a b := h.mono fun _ _ hf => hf.elim
theorem Upd.then {F : Nat → Prop} {a b c : World} (h : Upd F a b) (k : Ext b c) : Upd F a c := h.trans (Upd.ext k)
/-- what was changed lay beyond a -/
theorem Upd.beyond {F : Nat → Prop} {a b c : World} (h : Ext a b) (k : Upd F b c) (hf : ∀ x, F x → a.heap.size ≤ x) : Ext a c :=
  ⟨Nat.le_trans h.size k.size, fun i hi hn => (k.blk i (Nat.lt_of_lt_of_le hi h.size) fun hF => absurd (hf i hF) (by omega)).trans (h.blk i hi hn), k.os.trans h.os, k.tape.trans h.tape, k.output.trans h.output⟩
theorem Upd.get {F : Nat → Prop} {w w' : World} (h : Upd F w w') {b : Nat} {o : Obj} (hb : w.heap[b]? = some o) (hf : ¬ F b) : w'.heap[b]? = some o := by
  rw [h.blk b (Array.getElem?_eq_some_iff.1 hb).1 hf]; exact hb
theorem Ext.get {w w' : World} (h : Ext w w') {b : Nat} {o : Obj} (hb : w.heap[b]? = some o) : w'.heap[b]? = some o := Upd.get h hb (fun hf => hf)
theorem New.upd {w : World} {o : Obj} {b : Nat} {w' : World} (h : New w o b w') : Ext w w' := by
  obtain ⟨rfl, rfl⟩ := h
  refine ⟨by rw [World.size_alloc]; omega, fun i hi _ => ?_, rfl, rfl, rfl⟩
  show (w.heap.push o)[i]? = _
  rw [Array.getElem?_push, if_neg (by omega)]
theorem New.get {w : World} {o : Obj} {b : Nat} {w' : World} (h : New w o b w') : w'.heap[b]? = some o := by
  obtain ⟨rfl, rfl⟩ := h
  show (w.heap.push o)[w.heap.size]? = _
  simp
theorem New.size {w : World} {o : Obj} {b : Nat} {w' : World} (h : New w o b w') : w'.heap.size = w.heap.size + 1 := by
  obtain ⟨rfl, rfl⟩ := h
  exact World.size_alloc _ _
theorem Drew.upd {w w' : World} (h : Drew w w') : Ext w w' := by
  obtain ⟨rfl⟩ := h
  exact ⟨Nat.le_refl _, fun _ _ _ => rfl, rfl, rfl, rfl⟩
theorem Drew.heap {w w' : World} (h : Drew w w') : w'.heap = w.heap := by
  obtain ⟨rfl⟩ := h
  rfl
theorem drew_upd (w : World) : Ext w w.drew := Drew.upd ⟨rfl⟩
theorem Put.upd {F : Nat → Prop} {w₀ w : World} {b : Nat} {o : Obj} {w' : World} (h : Upd F w₀ w) (k : Put w b o w') (hb : w₀.heap.size ≤ b ∨ F b) : Upd F w₀ w' := by
  obtain ⟨hlt, rfl⟩ := k
  refine ⟨by have := h.size; simpa [putBlk] using this, fun i hi hf => ?_, h.os, h.tape, h.output⟩
  have hne : b ≠ i := by
    rintro rfl
    rcases hb with hb | hb
    · omega
    · exact hf hb
  rw [putBlk_get_other hne]
  exact h.blk i hi hf
theorem Put.get {w : World} {b : Nat} {o : Obj} {w' : World} (k : Put w b o w') : w'.heap[b]? = some o := by
  obtain ⟨hlt, rfl⟩ := k
  exact putBlk_get_same hlt
theorem Put.other {w : World} {b c : Nat} {o : Obj} {w' : World} (k : Put w b o w') (h : b ≠ c) : w'.heap[c]? = w.heap[c]? := by
  obtain ⟨hlt, rfl⟩ := k
  exact putBlk_get_other h
theorem Put.size {w : World} {b : Nat} {o : Obj} {w' : World} (k : Put w b o w') : w'.heap.size = w.heap.size := by
  obtain ⟨hlt, rfl⟩ := k
  simp [putBlk]
theorem Put.upd1 {w : World} {b : Nat} {o : Obj} {w' : World} (k : Put w b o w') : Upd (· = b) w w' := Put.upd (Upd.refl _ _) k (.inr rfl)

/-! ### Cells -/
@[simp] theorem add_lit (b o n : Nat) : Addr.add ⟨b, o, none⟩ n = ⟨b, o + n, none⟩ := by
  unfold Addr.add
  split
  · rename_i h; subst h; rfl
  · rfl
theorem add_zero (a : Addr) : Addr.add a 0 = a := by simp [Addr.add]
theorem cell_of {w : World} {b : Nat} {cs : Array Value} {T : TypeId} {fr : Nat × Nat} (h : w.heap[b]? = some (.cells cs T fr)) {i : Nat} {v : Value} (hi : cs[i]? = some v) : w.cell? ⟨b, i, none⟩ = some v := by
  simp [World.cell?, h, hi]
theorem cellsAt_of {w : World} {b : Nat} {cs : Array Value} {T : TypeId} {fr : Nat × Nat} (h : w.heap[b]? = some (.cells cs T fr)) {o : Nat} : ∀ {vs : List Value} {i : Nat}, (∀ j v, vs[j]? = some v → cs[o + (i + j)]? = some v) → cellsAt w ⟨b, o, none⟩ vs i
  | [], _, _ => trivial
  | v :: vs, i, hv => by
    refine ⟨?_, cellsAt_of h fun j u hj => ?_⟩
    · rw [add_lit]
      exact cell_of h (by simpa using hv 0 v rfl)
    · have := hv (j + 1) u (by simpa using hj)
      rwa [show o + (i + (j + 1)) = o + (i + 1 + j) by omega] at this
theorem store_of {w : World} {b : Nat} {cur : Array Value} {T : TypeId} (h : w.heap[b]? = some (.cells cur T (0, 0))) {o : Nat} {vs : List Value} (hl : o + vs.length ≤ cur.size) {K : World → Prop}
    (hk : ∀ w', Put w b (.cells (splice cur o vs) T (0, 0)) w' → K w') : storeP w ⟨b, o, none⟩ vs K :=
  ⟨rfl, cur, T, (0, 0), h, hl, .inl (by simp), hk⟩
theorem splice_one (cur : Array Value) (o : Nat) (v : Value) (h : o < cur.size) : splice cur o [v] = cur.setIfInBounds o v := by
  apply Array.ext'
  rw [Array.toList_setIfInBounds]
  simp only [splice, List.length_singleton]
  rw [List.set_eq_take_append_cons_drop]
  simp [h]
theorem splice_all (cur : Array Value) (vs : List Value) (h : cur.size = vs.length) : splice cur 0 vs = vs.toArray := by
  simp [splice, ← h]
theorem splice_size (cur : Array Value) (o : Nat) (vs : List Value) (h : o + vs.length ≤ cur.size) : (splice cur o vs).size = cur.size := by
  simp [splice]; omega

theorem fill_step (l z : List Value) (i : Nat) (hi : i < l.length) (hl : z.length = l.length) : splice (l.take i ++ z.drop i).toArray i [l[i]] = (l.take (i + 1) ++ z.drop (i + 1)).toArray := by
  rw [splice_one _ _ _ (by simp; omega)]
  apply Array.ext'
  simp only [Array.toList_setIfInBounds]
  rw [List.set_append_right _ _ (by simp; omega)]
  have hz : i < z.length := by omega
  rw [List.drop_eq_getElem_cons hz]
  have : i - (l.take i).length = 0 := by simp; omega
  rw [this, List.set_cons_zero]
  rw [List.take_succ_eq_append_getElem hi]
  simp only [List.append_assoc, List.singleton_append]

/-! ### Rows: what a slice reads as -/
abbrev bv (x : UInt8) : Value := .int .u8 (x.toNat : Int)
/-- the cells at a are vs -/
def RowAt (w : World) (a : Option Addr) (vs : List Value) : Prop :=
  vs = [] ∨ ∃ b o cur T fr, a = some ⟨b, o, none⟩ ∧ w.heap[b]? = some (.cells cur T fr) ∧ ∀ (j : Nat) v, vs[j]? = some v → cur[o + j]? = some v
theorem RowAt.nil (w : World) (a : Option Addr) : RowAt w a [] := .inl rfl
theorem RowAt.upd {F : Nat → Prop} {w w' : World} {a : Option Addr} {vs : List Value} (h : RowAt w a vs) (k : Upd F w w') (hf : ∀ p, a = some p → ¬ F p.block) : RowAt w' a vs := by
  rcases h with h | ⟨b, o, cur, T, fr, rfl, hb, hv⟩
  · exact .inl h
  · exact .inr ⟨b, o, cur, T, fr, rfl, k.get hb (hf _ rfl), hv⟩
theorem RowAt.ext {w w' : World} {a : Option Addr} {vs : List Value} (h : RowAt w a vs) (k : Ext w w') : RowAt w' a vs := RowAt.upd h k fun _ _ hf => hf
theorem RowAt.cell {w : World} {a : Option Addr} {vs : List Value} (h : RowAt w a vs) {i : Nat} {v : Value} (hi : vs[i]? = some v) : ∃ b o, a = some ⟨b, o, none⟩ ∧ w.cell? ⟨b, o + i, none⟩ = some v := by
  rcases h with h | ⟨b, o, cur, T, fr, rfl, hb, hv⟩
  · subst h; simp at hi
  · exact ⟨b, o, rfl, cell_of hb (hv i v hi)⟩
theorem RowAt.cells {w : World} {b o : Nat} {vs : List Value} (h : RowAt w (some ⟨b, o, none⟩) vs) : cellsAt w ⟨b, o, none⟩ vs 0 := by
  rcases h with h | ⟨b, o, cur, T, fr, ha, hb, hv⟩
  · subst h; trivial
  · cases ha; exact cellsAt_of hb fun j v hj => by simpa using hv j v hj
theorem RowAt.drop {w : World} {b o : Nat} {vs : List Value} (h : RowAt w (some ⟨b, o, none⟩) vs) (k : Nat) : RowAt w (some ⟨b, o + k, none⟩) (vs.drop k) := by
  rcases h with h | ⟨b, o, cur, T, fr, ha, hb, hv⟩
  · subst h; exact .inl (by simp)
  · cases ha; exact .inr ⟨b, o + k, cur, T, fr, rfl, hb, fun j v hj => by
      rw [List.getElem?_drop] at hj
      rw [Nat.add_assoc]; exact hv _ v hj⟩
theorem RowAt.take {w : World} {a : Option Addr} {vs : List Value} (h : RowAt w a vs) (k : Nat) : RowAt w a (vs.take k) := by
  rcases h with h | ⟨b, o, cur, T, fr, rfl, hb, hv⟩
  · subst h; exact .inl (by simp)
  · exact .inr ⟨b, o, cur, T, fr, rfl, hb, fun j v hj => hv j v (by
      rw [List.getElem?_take] at hj
      split at hj
      · exact hj
      · cases hj)⟩
theorem RowAt.blk {w : World} {a : Option Addr} {vs : List Value} (h : RowAt w a vs) (hn : vs ≠ []) : ∃ b o, a = some ⟨b, o, none⟩ ∧ b < w.heap.size := by
  rcases h with h | ⟨b, o, cur, T, fr, rfl, hb, hv⟩
  · exact absurd h hn
  · exact ⟨b, o, rfl, (Array.getElem?_eq_some_iff.1 hb).1⟩
theorem RowAt.of {w : World} {b : Nat} {cur : Array Value} {T : TypeId} {fr : Nat × Nat} (h : w.heap[b]? = some (.cells cur T fr)) {o : Nat} {vs : List Value} (hv : ∀ (j : Nat) v, vs[j]? = some v → cur[o + j]? = some v) : RowAt w (some ⟨b, o, none⟩) vs :=
  .inr ⟨b, o, cur, T, fr, rfl, h, hv⟩

/-- new memory -/
def Fresh (w : World) (a : Option Addr) : Prop := ∀ p, a = some p → w.heap.size ≤ p.block
theorem Fresh.none (w : World) : Fresh w none := fun _ h => by cases h
theorem Fresh.some {w : World} {b o : Nat} (h : w.heap.size ≤ b) : Fresh w (some ⟨b, o, .none⟩) := fun _ hp => by cases hp; exact h
theorem Fresh.mono {w w' : World} {a : Option Addr} (h : Fresh w' a) (hs : w.heap.size ≤ w'.heap.size) : Fresh w a := fun p hp => Nat.le_trans hs (h p hp)
/-- bytes -/
abbrev BytesAt (w : World) (a : Option Addr) (l : List UInt8) : Prop := RowAt w a (l.map bv)
theorem BytesAt.take {w : World} {a : Option Addr} {l : List UInt8} (h : BytesAt w a l) (k : Nat) : BytesAt w a (l.take k) := by
  show RowAt w a ((l.take k).map bv)
  rw [List.map_take]; exact RowAt.take h k
theorem BytesAt.drop {w : World} {b o : Nat} {l : List UInt8} (h : BytesAt w (some ⟨b, o, none⟩) l) (k : Nat) : BytesAt w (some ⟨b, o + k, none⟩) (l.drop k) := by
  show RowAt w _ ((l.drop k).map bv)
  rw [List.map_drop]; exact RowAt.drop h k
theorem BytesAt.nil (w : World) (a : Option Addr) : BytesAt w a [] := .inl rfl
/-- l[k:] -/
theorem BytesAt.from {w : World} {a : Option Addr} {l : List UInt8} (h : BytesAt w a l) (k : Nat) : BytesAt w (a.map (·.add k)) (l.drop k) := by
  cases l with
  | nil => simpa using BytesAt.nil w _
  | cons x l =>
    obtain ⟨b, o, rfl, _⟩ := RowAt.blk h (by simp)
    simp only [Option.map_some, add_lit]
    exact h.drop k
theorem bytes_get {l : List UInt8} {i : Nat} (h : i < l.length) : (l.map bv)[i]? = some (bv l[i]) := by simp [h]
/-- a byte is read -/
theorem idx_byte {w : World} {a : Option Addr} {l : List UInt8} {i : Int} {K : Int → Prop} (h : BytesAt w a l) (h0 : 0 ≤ i) (h1 : i < l.length) (hk : K ((l.getD i.toNat 0).toNat : Int)) :
    idxP a l.length i 1 fun q => ∃ x : Int, World.cell? w q = some (Value.int .u8 x) ∧ K x := by
  refine ⟨h0, h1, ?_⟩
  have hi : i.toNat < l.length := by omega
  obtain ⟨b, o, rfl, hc⟩ := RowAt.cell h (bytes_get hi)
  simp only [nilC_some', add_lit, Nat.mul_one]
  refine ⟨_, hc, ?_⟩
  simpa [List.getD, hi] using hk
/-- likewise where it is asked of every world of S -/
theorem idx_byteS {S : World → Prop} {a : Option Addr} {l : List UInt8} {i : Int} {K : Int → Prop} (h : ∀ u, S u → BytesAt u a l) (hs : ∃ u, S u) (h0 : 0 ≤ i) (h1 : i < l.length) (hk : K ((l.getD i.toNat 0).toNat : Int)) :
    idxP a l.length i 1 fun q => ∃ x : Int, (∀ u, S u → World.cell? u q = some (Value.int .u8 x)) ∧ K x := by
  refine ⟨h0, h1, ?_⟩
  have hi : i.toNat < l.length := by omega
  obtain ⟨u, hu⟩ := hs
  obtain ⟨b, o, rfl, hc⟩ := RowAt.cell (h u hu) (bytes_get hi)
  simp only [nilC_some', add_lit, Nat.mul_one]
  refine ⟨(l[i.toNat].toNat : Int), fun u hu => ?_, by simpa [List.getD, hi] using hk⟩
  obtain ⟨b', o', hb', hc'⟩ := RowAt.cell (h u hu) (bytes_get hi)
  cases hb'
  exact hc'

end Go.Den
