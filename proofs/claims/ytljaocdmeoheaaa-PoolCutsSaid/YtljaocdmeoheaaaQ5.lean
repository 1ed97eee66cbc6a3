/- The plain law of layer 4: a cut leaves all blocks but one. (Merged by program: Frame3 Open4 MRises MCuts.) -/
import Derived.Test.YtljaocdmeoheaaaQ4
import Derived.SizedLaws
section
set_option linter.unusedVariables false
set_option linter.unusedSimpArgs false
namespace Go.Den
open Go.ChangeShapes Go.WideShapes Go.ChangeAt Go.RowKit

section
variable {H : Type} {enc : TypeId × Value → H} {P : Program}

/-- within the reach -/
def Fits (P : Program) (t : TypeId) (d : DataW H) : Prop := ∀ n ∈ d.weights P t, n ≤ reachBytes
theorem fits_each {ts : List TypeId} {ds : List (DataW H)} (h : (DataW.weightsEach P ts ds).all (· ≤ reachBytes) = true) {j : Nat} {t : TypeId} {d : DataW H} (ht : ts[j]? = some t) (hd : ds[j]? = some d) : Fits P t d := fun n hn => by
  have := List.all_eq_true.1 h _ (DataW.weights_mem_each ht hd n hn)
  simpa using this
theorem weights_all_mem {e : TypeId} : ∀ {l : List (DataW H)} {d : DataW H}, d ∈ l → ∀ n ∈ d.weights P e, n ∈ DataW.weightsAll P e l
  | d0 :: l, d, hm, n, hn => by
    simp only [DataW.weightsAll, List.mem_append]
    rcases List.mem_cons.1 hm with rfl | hm
    · exact .inl hn
    · exact .inr (weights_all_mem hm n hn)
theorem Fits.elem {t e : TypeId} {elems spare : List (DataW H)} (h : Fits P t (.slice elems spare)) (hu : P.underlying t = some (.slice e)) {d : DataW H} (hd : d ∈ elems) : Fits P e d := fun n hn => by
  refine h n ?_
  simp only [DataW.weights, hu, List.mem_cons, List.mem_append]
  exact .inr (.inl (weights_all_mem hd n hn))
theorem Fits.len {t e : TypeId} {elems spare : List (DataW H)} (h : Fits P t (.slice elems spare)) (hu : P.underlying t = some (.slice e)) : (elems.length + spare.length) * P.bytesOf e ≤ reachBytes := by
  refine h _ ?_
  simp only [DataW.weights, hu, List.mem_cons]
  exact .inl trivial
theorem Fits.part {t : TypeId} {fs : Array Field} {parts : List (DataW H)} (h : Fits P t (.agg parts)) (hu : P.underlying t = some (.struct fs)) {i : Nat} {f : Field} {d : DataW H} (hf : fs[i]? = some f) (hd : parts[i]? = some d) : Fits P f.type d := fun n hn => by
  refine h n ?_
  simp only [DataW.weights, hu]
  refine DataW.weights_mem_each (j := i) ?_ hd n hn
  simp [hf]

/-- a slice, with its elements' readings within the reach -/
theorem open_rows_fit {w : World} {base : Nat} {spare : Nat → Bool} {held : Bool} {t e : TypeId} {fuel : Nat} {cs : List Value} {x : DataW H × List MemPlace} (ht : P.underlying t = some (.slice e)) (h : DataW.trod enc P w base spare held fuel t cs = some x) (hfit : Fits P t x.1) :
    ∃ (a : Option Addr) (len cap : Nat) (rows : List (List Value)), cs = [.slice a len cap] ∧ len ≤ cap ∧ rows.length = len ∧ (∀ r ∈ rows, r.length = P.cellsOf e) ∧ RowAt w a rows.flatten ∧ (a = none → cap = 0) ∧ len * P.bytesOf e ≤ reachBytes ∧
      (∀ r ∈ rows, ∃ n d ps, Fits P e d ∧ DataW.trod enc P w base spare held n e r = some (d, ps)) := by
  obtain ⟨a, len, cap, rows, ds, rfl, hlc, hrl, hdl, hrk, hrow, hn, hel, hx⟩ := open_rows ht h
  rcases hx with ⟨hx, hl0⟩ | ⟨sp, hx⟩
  · subst hl0
    have : rows = [] := List.eq_nil_of_length_eq_zero hrl
    subst this
    exact ⟨a, 0, cap, [], rfl, hlc, rfl, hrk, hrow, hn, by omega, fun r hr => by simp at hr⟩
  · rw [hx] at hfit
    refine ⟨a, len, cap, rows, rfl, hlc, hrl, hrk, hrow, hn, ?_, fun r hr => ?_⟩
    · have := hfit.len ht
      rw [hdl, Nat.add_mul] at this
      omega
    · obtain ⟨i, hi, rfl⟩ := List.getElem_of_mem hr
      obtain ⟨n, d, ps, hd, ht'⟩ := hel i _ (List.getElem?_eq_getElem hi)
      exact ⟨n, d, ps, hfit.elem ht (List.mem_of_getElem? hd), ht'⟩

/-- a struct's field -/
theorem open_field {w : World} {base : Nat} {spare : Nat → Bool} {held : Bool} {e : TypeId} {fs : Array Field} {fuel : Nat} {cs : List Value} {x : DataW H × List MemPlace} (he : P.underlying e = some (.struct fs)) (h : DataW.trod enc P w base spare held fuel e cs = some x) (hfit : Fits P e x.1) :
    cs.length = P.cellsOf e ∧ ∀ (i : Nat) f, fs[i]? = some f → ∃ n y, DataW.trod enc P w base spare held n f.type ((cs.drop f.offset).take (P.cellsOf f.type)) = some y ∧ Fits P f.type y.1 := by
  obtain ⟨xs, n, _, rfl, hlen, hxs, hfs⟩ := DataW.trod_struct he h
  refine ⟨hlen, fun i f hf => ?_⟩
  have hi : i < xs.length := by rw [hxs]; exact (Array.getElem?_eq_some_iff.1 hf).1
  have g := hfs i f hf
  rw [List.getElem?_eq_getElem hi] at g
  exact ⟨n, _, g, hfit.part he hf (by simp [hi])⟩

/-- bytes, within the reach -/
theorem open_bytes_fit {w : World} {base : Nat} {spare : Nat → Bool} {held : Bool} {t e : TypeId} {fuel : Nat} {cs : List Value} {x : DataW H × List MemPlace} (ht : P.underlying t = some (.slice e)) (he : P.underlying e = some (.int .u8)) (hb : P.bytesOf e = 1) (h : DataW.trod enc P w base spare held fuel t cs = some x) (hfit : Fits P t x.1) :
    ∃ (a : Option Addr) (l : List UInt8) (cap : Nat), cs = [.slice a l.length cap] ∧ l.length ≤ cap ∧ BytesAt w a l ∧ (a = none → cap = 0) ∧ l.length ≤ reachBytes := by
  obtain ⟨a, len, cap, rows, rfl, hlc, hrl, hrk, hrow, hn, hlen, hel⟩ := open_rows_fit ht h hfit
  obtain ⟨l, rfl, _⟩ := list_choice (f := fun x : UInt8 => [bv x]) (Q := fun _ => True) rows (fun r hr => by
    obtain ⟨n, d, ps, _, ht'⟩ := hel r hr
    obtain ⟨m, hm, _, hw⟩ := DataW.trod_int he ht'
    obtain ⟨x, hx⟩ := byte_of hw
    exact ⟨x, by rw [hm, hx], trivial⟩)
  simp at hrl
  subst hrl
  rw [hb, Nat.mul_one] at hlen
  refine ⟨a, l, cap, rfl, hlc, ?_, hn, hlen⟩
  have e2 : (l.map fun x => [bv x]).flatten = l.map bv := flat_single l
  rw [e2] at hrow
  exact hrow

/-- is t the type of hits? -/
def hitsB (P : Program) (t : TypeId) : Bool :=
  match P.underlying t with
  | some (.slice e) => match P.underlying e with
    | some (.struct fs) => fs.size == 3 && P.cellsOf e == 3 && (match fs[0]?, fs[1]?, fs[2]? with
      | some f0, some f1, some f2 => f0.offset == 0 && f1.offset == 1 && f2.offset == 2 && P.cellsOf f0.type == 1 && P.cellsOf f1.type == 1 && P.cellsOf f2.type == 1 &&
          (match P.underlying f0.type with | some (.int .i64) => true | _ => false) && (match P.underlying f1.type with | some .bool => true | _ => false) &&
          (match P.underlying f2.type with | some (.slice b) => (match P.underlying b with | some (.int .u8) => P.bytesOf b == 1 | _ => false) | _ => false)
      | _, _, _ => false)
    | _ => false
  | _ => false
theorem list3 {cs : List Value} {a b c : Value} (hl : cs.length = 3) (h0 : (cs.drop 0).take 1 = [a]) (h1 : (cs.drop 1).take 1 = [b]) (h2 : (cs.drop 2).take 1 = [c]) : cs = [a, b, c] := by
  match cs, hl with
  | [x0, x1, x2], _ => simp_all

theorem hitRow_of {w : World} : ∀ {rows : List (List Value)}, (∀ r ∈ rows, ∃ (n : Int) (f : Bool) (m : Option Addr) (l : List UInt8) (c : Nat), r = [.int .i64 n, .bool f, .slice m l.length c] ∧ BytesAt w m l ∧ l.length ≤ reachBytes) →
    ∃ hs : List Hit, hs.length = rows.length ∧ HitRow w (fun x => x < w.heap.size) rows.flatten hs ∧ ∀ t ∈ hs, t.mask.length ≤ 140737488355232
  | [], _ => ⟨[], rfl, rfl, fun t ht => by simp at ht⟩
  | r :: rows, h => by
    obtain ⟨n, f, m, l, c, rfl, hb, hl⟩ := h r (by simp)
    obtain ⟨hs, h1, h2, h3⟩ := hitRow_of (w := w) (rows := rows) fun r hr => h r (by simp [hr])
    refine ⟨⟨n, f, l⟩ :: hs, by simp [h1], ⟨m, c, rows.flatten, by simp, hb, fun hn p hp => ?_, h2⟩, fun t ht => ?_⟩
    · obtain ⟨b, o, e, hlt⟩ := RowAt.blk hb (by simpa using hn)
      rw [hp] at e
      cases e
      exact hlt
    · rcases List.mem_cons.1 ht with rfl | ht
      · have : reachBytes ≤ 140737488355232 := by decide
        show l.length ≤ _
        omega
      · exact h3 t ht
/-- a slice of hits -/
theorem open_hits {w : World} {base : Nat} {spare : Nat → Bool} {held : Bool} {t : TypeId} {fuel : Nat} {cs : List Value} {x : DataW H × List MemPlace} (hb : hitsB P t = true) (h : DataW.trod enc P w base spare held fuel t cs = some x) (hfit : Fits P t x.1) :
    ∃ (a : Option Addr) (vs : List Value) (hs : List Hit) (cap : Nat), cs = [.slice a hs.length cap] ∧ RowAt w a vs ∧ HitRow w (fun x => x < w.heap.size) vs hs ∧ (hs ≠ [] → ∀ q, a = some q → q.block < w.heap.size) ∧ ∀ t ∈ hs, t.mask.length ≤ 140737488355232 := by
  unfold hitsB at hb
  split at hb
  · rename_i e ht
    split at hb
    · rename_i fs he
      rw [Bool.and_eq_true, Bool.and_eq_true] at hb
      obtain ⟨⟨k1, k2⟩, hb⟩ := hb
      split at hb
      · rename_i f0 f1 f2 g0 g1 g2
        simp only [Bool.and_eq_true, beq_iff_eq] at hb k1 k2
        obtain ⟨⟨⟨⟨⟨⟨⟨⟨o0, o1⟩, o2⟩, c0⟩, c1⟩, c2⟩, u0⟩, u1⟩, u2⟩ := hb
        obtain ⟨a, len, cap, rows, rfl, hlc, hrl, hrk, hrow, hn, hlen, hel⟩ := open_rows_fit ht h hfit
        obtain ⟨hs, e1, e2, e3⟩ := hitRow_of (w := w) (rows := rows) fun r hr => by
          obtain ⟨n, d, ps, hf, ht'⟩ := hel r hr
          obtain ⟨hl, hg⟩ := open_field he ht' hf
          obtain ⟨n0, y0, t0, _⟩ := hg 0 f0 g0
          obtain ⟨n1, y1, t1, _⟩ := hg 1 f1 g1
          obtain ⟨n2, y2, t2, z2⟩ := hg 2 f2 g2
          rw [o0, c0] at t0
          rw [o1, c1] at t1
          rw [o2, c2] at t2
          split at u0
          · rename_i v0
            split at u1
            · rename_i v1
              split at u2
              · rename_i b v2
                split at u2
                · rename_i v3
                  obtain ⟨m0, q0, _, _⟩ := DataW.trod_int v0 t0
                  obtain ⟨m1, q1, _⟩ := DataW.trod_bool v1 t1
                  obtain ⟨m2, l, c, q2, _, hby, _, hre⟩ := open_bytes_fit v2 v3 (by simpa using u2) t2 z2
                  exact ⟨m0, m1, m2, l, c, list3 (by rw [hl, k2]) q0 q1 q2, hby, hre⟩
                · cases u2
              · cases u2
            · cases u1
          · cases u0
        refine ⟨a, rows.flatten, hs, cap, by rw [e1, hrl], hrow, e2, fun hne q hq => ?_, e3⟩
        have hne' : rows.flatten ≠ [] := by
          intro hz
          have := HitRow.length e2
          rw [hz] at this
          have hz : hs.length = 0 := by simp at this; omega
          exact hne (List.eq_nil_of_length_eq_zero hz)
        obtain ⟨b, o, e, hlt⟩ := RowAt.blk hrow hne'
        rw [hq] at e
        cases e
        exact hlt
      · cases hb
    · cases hb
  · cases hb
end

end Go.Den
end

section
set_option linter.unusedVariables false
set_option linter.unusedSimpArgs false
namespace Go.Den
open Go.ChangeShapes Go.WideShapes Go.ChangeAt Go.RowKit

theorem byte_bv {n : Int} (h : (Lit.int .u8 n).wf = true) : Value.int .u8 n = bv (UInt8.ofNat n.toNat) := by
  have hb : 0 ≤ n ∧ n ≤ 255 := by simpa [Lit.wf, IntKind.min, IntKind.max, IntKind.signed, IntKind.bits] using h
  simp
  omega
theorem list6 {cs : List Value} {a b c d e f : Value} (hl : cs.length = 6) (h0 : cs[0]? = some a) (h1 : cs[1]? = some b) (h2 : cs[2]? = some c) (h3 : cs[3]? = some d) (h4 : cs[4]? = some e) (h5 : cs[5]? = some f) : cs = [a, b, c, d, e, f] := by
  match cs, hl with
  | [x0, x1, x2, x3, x4, x5], _ => simp_all

section
variable {H : Type} {enc : TypeId × Value → H} {P : Program}
/-- a slice of acts -/
theorem open_acts {w : World} {base : Nat} {spare : Nat → Bool} {held : Bool} {t e : TypeId} {fuel : Nat} {cs : List Value} {x : DataW H × List MemPlace} (ht : P.underlying t = some (.slice e)) (he : numsB P e [.i64, .u8, .u32, .i64, .i64, .u8] = true) (h : DataW.trod enc P w base spare held fuel t cs = some x) :
    ∃ (a : Option Addr) (l : List Act) (cap : Nat), cs = [.slice a l.length cap] ∧ RowAt w a (l.flatMap Act.vals) ∧ ∀ y ∈ l, y.era < 4294967296 := by
  obtain ⟨a, len, cap, rows, ds, rfl, hlc, hrl, hdl, hrk, hrow, hn, hel, _⟩ := open_rows ht h
  obtain ⟨l, rfl, hq⟩ := list_choice (f := Act.vals) (Q := fun y => y.era < 4294967296) rows (fun r hr => by
    obtain ⟨i, hi, rfl⟩ := List.getElem_of_mem hr
    obtain ⟨n, d, ps, _, ht'⟩ := hel i _ (List.getElem?_eq_getElem hi)
    obtain ⟨hl, hg⟩ := open_nums he ht'
    obtain ⟨v0, g0, w0⟩ := hg 0 .i64 rfl
    obtain ⟨v1, g1, w1⟩ := hg 1 .u8 rfl
    obtain ⟨v2, g2, w2⟩ := hg 2 .u32 rfl
    obtain ⟨v3, g3, w3⟩ := hg 3 .i64 rfl
    obtain ⟨v4, g4, w4⟩ := hg 4 .i64 rfl
    obtain ⟨v5, g5, w5⟩ := hg 5 .u8 rfl
    have b2 : 0 ≤ v2 ∧ v2 ≤ 4294967295 := by simpa [Lit.wf, IntKind.min, IntKind.max, IntKind.signed, IntKind.bits] using w2
    refine ⟨⟨v0, UInt8.ofNat v1.toNat, v2.toNat, v3, v4, UInt8.ofNat v5.toNat⟩, ?_, by show v2.toNat < _; omega⟩
    rw [list6 hl g0 g1 g2 g3 g4 g5, byte_bv w1, byte_bv w5]
    simp only [Act.vals]
    rw [Int.toNat_of_nonneg b2.1])
  simp at hrl
  subst hrl
  refine ⟨a, l, cap, rfl, ?_, hq⟩
  rw [← List.flatMap_def] at hrow
  exact hrow
end

end Go.Den
end

section
set_option linter.unusedVariables false
namespace Go.Den

theorem Pairwise_append_one {α : Type} {R : α → α → Prop} {l : List α} {x : α} (h : l.Pairwise R) (hx : ∀ y ∈ l, R y x) : (l ++ [x]).Pairwise R := by
  rw [List.pairwise_append]
  exact ⟨h, List.pairwise_singleton _ _, fun a ha b hb => by simp at hb; subst hb; exact hx a ha⟩

/-- one is taken more -/
theorem taken_after {P : Pool} {c : Chip} (h : Inv P c) (hd0 : c.dead = false) (hq : c.hits = []) {kind : UInt8} {era : Nat} {ks : List Nat} {R : TakeR} (tp : TakeP kind era ks P c R) (h0 : R.err = 0) :
    takenPool R.pool R.chip = takenPool P c ++ [⟨R.block, ⟨kind, era, R.pool.last⟩, false⟩] := by
  obtain ⟨_, hdR, hb, hnh, hbad, hhd, hlt⟩ : R.err = 0 ∧ R.chip.dead = false ∧ R.block < c.nb ∧ ¬ isHd c R.block ∧ R.chip.isBad R.block = false ∧ hd R.chip R.block = (⟨kind, era, R.pool.last⟩, 0) ∧ P.last < R.pool.last := by
    rcases tp.cases with b | ⟨b, _⟩ | ⟨b, _⟩
    · exact b
    · omega
    · omega
  obtain ⟨_, _, _, hother⟩ := tp.quiet hq
  have hother := hother h0
  have hnb := tp.geo.1
  refine sorted_ext (f := fun t : Taken => t.head.seq) (taken_sorted tp.inv hdR) (Pairwise_append_one (taken_sorted h hd0) fun y hy => ?_) fun x => ?_
  · obtain ⟨m1, m2, m3, m4⟩ := (taken_mem h hd0 y).1 hy
    have := h.last _ m1 m2
    rw [← m3] at this
    show y.head.seq < R.pool.last
    omega
  · rw [taken_mem tp.inv hdR, List.mem_append, taken_mem h hd0, List.mem_singleton]
    constructor
    · rintro ⟨m1, m2, m3, m4⟩
      rw [hnb] at m1
      by_cases he : x.block = R.block
      · refine .inr ?_
        rw [he, hhd] at m3
        rw [he, hbad] at m4
        cases x
        simp only at he m3 m4
        subst he m3 m4
        rfl
      · obtain ⟨o1, o2⟩ := hother _ he
        have hh := hd_blk tp.geo o1
        refine .inl ⟨m1, ?_, by rw [m3, hh], by rw [m4, o2]⟩
        unfold isHd at m2 ⊢
        rw [← hh]; exact m2
    · rintro (⟨m1, m2, m3, m4⟩ | rfl)
      · have he : x.block ≠ R.block := fun e => hnh (e ▸ m2)
        obtain ⟨o1, o2⟩ := hother _ he
        have hh := hd_blk tp.geo o1
        refine ⟨by rw [hnb]; exact m1, ?_, by rw [m3, hh], by rw [m4, o2]⟩
        unfold isHd at m2 ⊢
        rw [hh]; exact m2
      · refine ⟨by rw [hnb]; exact hb, ?_, ?_, ?_⟩
        · show (hd R.chip R.block).2 = 0
          rw [hhd]
        · show _ = (hd R.chip R.block).1
          rw [hhd]
        · exact hbad.symm

/-- none is left -/
theorem none_left {P : Pool} {c : Chip} (h : Inv P c) (hd0 : c.dead = false) (hq : c.hits = []) (ht : P.turn ≤ c.nb) {kind : UInt8} {era : Nat} {R : TakeR} (tp : TakeP kind era (List.range c.nb) P c R) (h0 : R.err = 11) :
    R.pool = P ∧ R.chip = c ∧ blanksPool P c = 0 := by
  obtain ⟨_, _, h11, _⟩ := tp.quiet hq
  obtain ⟨e1, e2⟩ := h11 h0
  refine ⟨e2, e1, ?_⟩
  rw [blanks_ref h hd0]
  obtain ⟨_, hdR, hall⟩ : R.err = 11 ∧ R.chip.dead = false ∧ ∀ k ∈ List.range c.nb, R.chip.isBad ((P.turn + k) % c.nb) = true ∨ isHd R.chip ((P.turn + k) % c.nb) := by
    rcases tp.cases with ⟨b, _⟩ | ⟨b, _⟩ | b
    · omega
    · omega
    · exact b
  rw [e1] at hall
  refine blanks_zero h.ci hd0 fun j hj => ?_
  obtain ⟨k, hk, hm⟩ := mod_all ht hj
  have := hall k (by simpa using hk)
  rwa [hm] at this

/-- what is said of a chip without hits when a block is asked for -/
structure Taking (kind : UInt8) (era : Nat) (P : Pool) (c : Chip) (R : TakeR) : Prop where
  inv : Inv R.pool R.chip
  dead : R.chip.dead = false
  hits : R.chip.hits = []
  geo : c.SameGeo R.chip
  last : R.pool.last ≤ P.last + c.nb
  turn : R.pool.turn ≤ c.nb
  cases : (R.err = 0 ∧ R.block < c.nb ∧ ¬ isHd c R.block ∧ isHd R.chip R.block ∧ c.isBad R.block = false ∧ (∀ j, R.chip.isBad j = c.isBad j) ∧ (∀ j, j ≠ R.block → R.chip.blk j = c.blk j) ∧ takenPool R.pool R.chip = takenPool P c ++ [⟨R.block, ⟨kind, era, R.pool.last⟩, false⟩]) ∨
    (R.err = 11 ∧ R.pool = P ∧ R.chip = c ∧ blanksPool P c = 0)
theorem taking {P : Pool} {c : Chip} (h : Inv P c) (hd0 : c.dead = false) (hq : c.hits = []) (ht : P.turn ≤ c.nb) {kind : UInt8} {era : Nat} (hk1 : 1 ≤ kind.toNat) (hk3 : kind.toNat ≤ 3) (he1 : 1 ≤ era) (he2 : era < 4294967296) (hl : P.last < 100000) : Taking kind era P c (takePool P c kind era) := by
  have hnb2 := h.ci.ok.nb2
  rw [takePool_go h.ci.ok hd0 hk1 hk3 he1]
  have tp := takeGo_inv hk1 hk3 he1 he2 (List.range c.nb) h hd0 (by simp; omega)
  generalize takeGo kind era P c (List.range c.nb) = R at *
  obtain ⟨q1, q2, q3, q4⟩ := tp.quiet hq
  have hbad := (tp.calm (fun t ht => by rw [hq] at ht; cases ht)).2.1
  have hb : ∀ j, R.chip.isBad j = c.isBad j := fun j => by unfold Chip.isBad; rw [hbad]
  have hhi : R.pool.last ≤ P.last + c.nb := by have := tp.hi; simpa using this
  rcases tp.cases with ⟨b1, b2, b3, b4, b5, b6, b7⟩ | ⟨b, _⟩ | ⟨b1, b2, b3⟩
  · exact ⟨tp.inv, b2, q1, tp.geo, hhi, tp.turn ht, .inl ⟨b1, b3, b4, by unfold isHd; rw [b6], by rw [← hb]; exact b5, hb, fun j hj => (q4 b1 j hj).1, taken_after h hd0 hq tp b1⟩⟩
  · exact absurd b q2
  · obtain ⟨e1, e2, e3⟩ := none_left h hd0 hq ht tp b1
    exact ⟨tp.inv, b2, q1, tp.geo, hhi, tp.turn ht, .inr ⟨b1, e1, e2, e3⟩⟩

theorem length_filter_remove {n i : Nat} (hi : i < n) {p q : Nat → Bool} (hp : p i = true) (hq : q i = false) (hs : ∀ j, j ≠ i → q j = p j) : ((List.range n).filter p).length = ((List.range n).filter q).length + 1 := by
  induction n with
  | zero => omega
  | succ n ih =>
    rw [List.range_succ, List.filter_append, List.filter_append, List.length_append, List.length_append]
    by_cases hn : i = n
    · subst hn
      have e : (List.range i).filter q = (List.range i).filter p := List.filter_congr fun a ha => hs a (by simp at ha; omega)
      rw [e]
      simp [hp, hq]
    · have := ih (by omega)
      rw [this]
      have e : [n].filter q = [n].filter p := List.filter_congr fun a ha => hs a (by simp at ha; omega)
      rw [e]
      omega

/-- one blank block less -/
theorem blanks_less {P : Pool} {c : Chip} (h : Inv P c) (hd0 : c.dead = false) {kind : UInt8} {era : Nat} {R : TakeR} (t : Taking kind era P c R) (h0 : R.err = 0) : blanksPool P c = blanksPool R.pool R.chip + 1 := by
  rcases t.cases with ⟨_, b2, b3, b4, b5, b6, b7, _⟩ | ⟨b, _⟩
  · unfold blanksPool
    rw [t.geo.1]
    have hw : ∀ i, i < c.nb → decide ((P.blk i).what ≠ 2) = decide ((hd c i).2 ≠ 0) := fun i hi => by have := h.what hd0 hi; simp [this, isHd]
    have hw' : ∀ i, i < c.nb → decide ((R.pool.blk i).what ≠ 2) = decide ((hd R.chip i).2 ≠ 0) := fun i hi => by have := t.inv.what t.dead (i := i) (by rw [t.geo.1]; exact hi); simp [this, isHd]
    rw [filter_congr' (p := fun i => decide ((P.blk i).what ≠ 2) && !c.isBad i) (q := fun i => decide ((hd c i).2 ≠ 0) && !c.isBad i) fun i hi => by rw [hw i (by simpa using hi)],
      filter_congr' (p := fun i => decide ((R.pool.blk i).what ≠ 2) && !R.chip.isBad i) (q := fun i => decide ((hd R.chip i).2 ≠ 0) && !R.chip.isBad i) fun i hi => by rw [hw' i (by simpa using hi)]]
    refine length_filter_remove b2 (by simp only [isHd] at b3; simp [b3, b5]) (by simp only [isHd] at b4; simp [b4]) fun j hj => ?_
    have : isHd R.chip j ↔ isHd c j := isHd_blk t.geo (b7 j hj)
    simp only [isHd] at this
    simp [this, b6]
  · omega

end Go.Den
end

section
set_option linter.unusedVariables false
namespace Go.Den

theorem sub_len {α : Type} : ∀ {l m : List α}, l.Nodup → (∀ x ∈ l, x ∈ m) → l.length ≤ m.length
  | [], m, _, _ => by simp
  | x :: l, m, hn, hs => by
    obtain ⟨s, t, rfl⟩ := List.append_of_mem (hs x (by simp))
    obtain ⟨h1, h2⟩ := List.nodup_cons.1 hn
    have := sub_len (l := l) (m := s ++ t) h2 fun y hy => by
      have hne : y ≠ x := fun e => h1 (e ▸ hy)
      have := hs y (by simp [hy])
      simp only [List.mem_append, List.mem_cons] at this ⊢
      rcases this with h | h | h
      · exact .inl h
      · exact absurd h hne
      · exact .inr h
    simp at this ⊢
    omega
theorem rising_nodup {l : List Taken} (h : l.Pairwise (fun a b => a.head.seq < b.head.seq)) : l.Nodup := h.imp fun hab e => by rw [e] at hab; omega

theorem power_taken {c : Chip} (n : Nat) (t : Taken) : IsTaken c.power n t ↔ IsTaken c n t := Iff.rfl

/-- what stands on a chip whose power was cut -/
theorem now_mem {c : Chip} (h : CI c) (t : Taken) : t ∈ takenPool (scanPool c.power) c.power ↔ IsTaken c c.nb t := by
  rw [taken_mem (scan_inv (power_ci h) rfl).1 rfl]
  exact Iff.rfl

theorem cut_take {P : Pool} {c : Chip} (h : Inv P c) (hd0 : c.dead = false) (hcalm : ∀ t ∈ c.hits, t.fails = false) (hl : P.last < 100000) {R : TakeR} (hR : takePool P c 1 9 = R) :
    Inv R.pool R.chip ∧ c.SameGeo R.chip ∧ (∀ x ∈ takenPool P c, x ∈ takenPool (scanPool R.chip.power) R.chip.power) ∧ (takenPool (scanPool R.chip.power) R.chip.power).length ≤ (takenPool P c).length + 1 := by
  have hnb := h.ci.ok.nb2
  have tp : TakeP 1 9 (List.range c.nb) P c R := by
    rw [← hR, takePool_go h.ci.ok hd0 (by decide) (by decide) (by omega)]
    exact takeGo_inv (by decide) (by decide) (by omega) (by omega) _ h hd0 (by simp; omega)
  obtain ⟨_, hbad, i0, hoth⟩ := tp.calm hcalm
  have hb : ∀ j, R.chip.isBad j = c.isBad j := fun j => by unfold Chip.isBad; rw [hbad]
  refine ⟨tp.inv, tp.geo, fun x hx => ?_, ?_⟩
  · obtain ⟨m1, m2, m3, m4⟩ := (taken_mem h hd0 x).1 hx
    have hk := (tp.kept _ m1 m2).1
    have hh := hd_blk tp.geo hk
    exact (now_mem tp.inv.ci x).2 ⟨by rw [tp.geo.1]; exact m1, (isHd_blk tp.geo hk).2 m2, by rw [m3, hh], by rw [m4, hb]⟩
  · have := sub_len (m := takenPool P c ++ [(⟨i0, (hd R.chip i0).1, R.chip.isBad i0⟩ : Taken)]) (rising_nodup (taken_sorted (scan_inv (power_ci tp.inv.ci) rfl).1 rfl)) fun x hx => by
      obtain ⟨m1, m2, m3, m4⟩ := (now_mem tp.inv.ci x).1 hx
      rw [List.mem_append, List.mem_singleton]
      by_cases he : x.block = i0
      · refine .inr ?_
        cases x
        simp only at he m3 m4
        subst he
        rw [m3, m4]
      · refine .inl ((taken_mem h hd0 x).2 ?_)
        have hh := hd_blk tp.geo (hoth _ he)
        exact ⟨by rw [← tp.geo.1]; exact m1, (isHd_blk tp.geo (hoth _ he)).1 m2, by rw [m3, hh], by rw [m4, hb]⟩
    simpa using this

theorem cut_free {P : Pool} {c : Chip} (h : Inv P c) (hd0 : c.dead = false) (hcalm : ∀ t ∈ c.hits, t.fails = false) (i : Int) {r : Pool × Chip × Nat} (hr : freePool P c i = r) :
    Inv r.1 r.2.1 ∧ c.SameGeo r.2.1 ∧ (∀ x ∈ takenPool P c, (x.block : Int) ≠ i → x ∈ takenPool (scanPool r.2.1.power) r.2.1.power) ∧ (takenPool (scanPool r.2.1.power) r.2.1.power).length ≤ (takenPool P c).length := by
  by_cases hm : Mine c i
  · obtain ⟨e, fp⟩ := free_mine h hd0 hm
    rw [hr] at fp
    have hbad := (fp.deed.calm hcalm).2.2
    have hb : ∀ j, r.2.1.isBad j = c.isBad j := fun j => by unfold Chip.isBad; rw [hbad]
    have hgeo := fp.deed.geo
    refine ⟨fp.inv, hgeo, fun x hx hne => ?_, ?_⟩
    · obtain ⟨m1, m2, m3, m4⟩ := (taken_mem h hd0 x).1 hx
      have hi0 := hm.1
      have hk := fp.deed.blk x.block (by omega)
      have hh := hd_blk hgeo hk
      exact (now_mem fp.inv.ci x).2 ⟨by rw [hgeo.1]; exact m1, (isHd_blk hgeo hk).2 m2, by rw [m3, hh], by rw [m4, hb]⟩
    · refine sub_len (rising_nodup (taken_sorted (scan_inv (power_ci fp.inv.ci) rfl).1 rfl)) fun x hx => ?_
      obtain ⟨m1, m2, m3, m4⟩ := (now_mem fp.inv.ci x).1 hx
      refine (taken_mem h hd0 x).2 ?_
      by_cases he : x.block = i.toNat
      · rw [he] at m2 m3
        obtain ⟨k1, k2⟩ := fp.keep m2
        exact ⟨by rw [← hgeo.1]; exact m1, by rw [he]; exact k1, by rw [he, m3, k2], by rw [m4, hb]⟩
      · have hh := hd_blk hgeo (fp.deed.blk _ he)
        exact ⟨by rw [← hgeo.1]; exact m1, (isHd_blk hgeo (fp.deed.blk _ he)).1 m2, by rw [m3, hh], by rw [m4, hb]⟩
  · have e := free_not h hd0 hm
    rw [hr] at e
    subst e
    refine ⟨h, .refl _, fun x hx _ => (now_mem h.ci x).2 ((taken_mem h hd0 x).1 hx), ?_⟩
    exact sub_len (rising_nodup (taken_sorted (scan_inv (power_ci h.ci) rfl).1 rfl)) fun x hx => (taken_mem h hd0 x).2 ((now_mem h.ci x).1 hx)

end Go.Den
end
