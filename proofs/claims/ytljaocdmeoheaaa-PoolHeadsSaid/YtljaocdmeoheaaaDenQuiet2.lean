/- What the propositions of the quiet operations say of the machine's operations, all of them. -/
import Derived.Test.YtljaocdmeoheaaaDenQuiet
import Derived.Laws.Slices
set_option linter.unusedSimpArgs false
namespace Go.Den
variable {P : Program}

theorem nilC_some {p : Option Addr} {K : Addr → Prop} (h : nilC p K) : ∃ a, p = some a ∧ K a := by
  cases p with
  | none => exact h.elim
  | some a => exact ⟨a, rfl, h⟩

/-! ### building -/
theorem foldl_set (vs : List Value) : ∀ (off : Nat) (cs : List Value), off + vs.length ≤ cs.length →
    ((vs.zipIdx off).foldl (fun (c : Array Value) x => c.setIfInBounds x.2 x.1) cs.toArray).toList = cs.take off ++ vs ++ cs.drop (off + vs.length) := by
  induction vs with
  | nil => intro off cs _; simp
  | cons v vs ih =>
    intro off cs h
    simp only [List.length_cons] at h
    simp only [List.zipIdx_cons, List.foldl_cons, List.setIfInBounds_toArray]
    rw [ih (off + 1) (cs.set off v) (by simp; omega)]
    have h1 : (cs.set off v).take (off + 1) = cs.take off ++ [v] := by
      rw [List.take_set, List.set_eq_take_append_cons_drop]
      have hl : off < (cs.take (off + 1)).length := by simp; omega
      rw [if_pos hl, List.take_take, List.drop_take]
      simp
    have h2 : (cs.set off v).drop (off + 1 + vs.length) = cs.drop (off + (vs.length + 1)) := by
      rw [List.drop_set_of_lt (by omega)]
      congr 1; omega
    rw [h1, h2]
    simp

theorem zipIdx_foldl_off (vs : List Value) (off : Nat) : ∀ (k : Nat) (cs : Array Value),
    ((vs.zipIdx k).foldl (fun (c : Array Value) (x : Value × Nat) => c.setIfInBounds (off + x.2) x.1) cs) = ((vs.zipIdx (off + k)).foldl (fun (c : Array Value) x => c.setIfInBounds x.2 x.1) cs) := by
  induction vs with
  | nil => intro k cs; rfl
  | cons v vs ih =>
    intro k cs
    simp only [List.zipIdx_cons, List.foldl_cons]
    rw [ih (k + 1), show off + (k + 1) = off + k + 1 by omega]

theorem fill_sound {place place' : Nat → Option (Nat × Nat)} (hp : ∀ i, place' i = place i) : ∀ {parts : List (Nat × Value)} {cs ds : List Value}, fillL place cs parts = some ds →
    Instr.fill place' cs.toArray parts = some ds.toArray
  | [], cs, ds, h => by simp [fillL] at h; simp [Instr.fill, h]
  | (i, v) :: rest, cs, ds, h => by
    simp only [fillL] at h
    simp only [Instr.fill, hp]
    cases hpl : place i with
    | none => simp [hpl] at h
    | some os =>
      obtain ⟨off, size⟩ := os
      simp only [hpl] at h ⊢
      split at h
      · rename_i hc
        obtain ⟨h1, h2⟩ := hc
        have h1' : v.cells.size = size := by simpa using h1
        have h3 : ¬ (v.cells.size ≠ size || decide (off + v.cells.size > cs.toArray.size)) = true := by simp [h1']; omega
        rw [if_neg h3]
        have hf : (v.cells.zipIdx.foldl (fun cs (x : Value × Nat) => cs.setIfInBounds (off + x.2) x.1) cs.toArray) = (cs.take off ++ v.cells.toList ++ cs.drop (off + size)).toArray := by
          apply Array.ext'
          rw [← Array.foldl_toList, Array.toList_zipIdx]
          rw [zipIdx_foldl_off, Nat.add_zero, foldl_set _ _ _ (by rw [h1]; exact h2), h1]
        have hf' : (v.cells.zipIdx.foldl (fun cs (x : Value × Nat) => match x with | (c, j) => cs.setIfInBounds (off + j) c) cs.toArray) = (cs.take off ++ v.cells.toList ++ cs.drop (off + size)).toArray := hf
        rw [hf']
        exact fill_sound hp h
      · cases h

theorem places_run (w : World) : ∀ {fs : List Field} {ps : List (Nat × Nat)}, structPlaces P fs = some ps →
    (fs.mapM (fun f => do pure (f.offset, ← sizeOf f.type) : Field → Sem (Nat × Nat))).run P w = .ok ps w
  | [], ps, h => by simp [structPlaces] at h; simp [h]
  | f :: fs, ps, h => by
    simp only [structPlaces] at h
    split at h
    · rename_i n l hn hl
      cases h
      simp only [List.mapM_cons, Sem.run_bind, run_sizeOf' hn, Result.andThen_ok, Sem.run_pure, places_run w hl]
    · cases h

theorem build_sound {t : TypeId} {parts : List (Nat × Value)} {v : Value} (h : buildV P t parts = some v) (w : World) : (Instr.build t parts.toArray).run P w = .ok v w := by
  unfold buildV at h
  split at h
  · rename_i z fs hz ht
    split at h
    · rename_i ps hps
      split at h
      · rename_i cs hcs
        cases h
        have hm : (fs.mapM (fun f => do pure (f.offset, ← sizeOf f.type) : Field → Sem (Nat × Nat))).run P w = .ok ps.toArray w := by
          rw [← Array.toArray_toList (xs := fs), List.mapM_toArray]
          rw [Sem.run_map, places_run w hps]
          rfl
        have hfill := fill_sound (place' := fun i => ps[i]?) (fun i => rfl) hcs
        simp only [Instr.build, Sem.run_bind, run_zeroValue' hz, run_underlying' ht, Result.andThen_ok, hm]
        simp only [Array.toArray_toList] at hfill
        simp [hfill]
      · cases h
    · cases h
  · rename_i z n e hz ht
    split at h
    · rename_i size hsz
      split at h
      · rename_i cs hcs
        cases h
        have hfill := fill_sound (place' := fun i => some (i * size, size)) (fun i => rfl) hcs
        simp only [Instr.build, Sem.run_bind, run_zeroValue' hz, run_underlying' ht, Result.andThen_ok, run_sizeOf' hsz]
        simp only [Array.toArray_toList] at hfill
        simp [hfill]
      · cases h
    · cases h
  · cases h

/-! ### slices -/
theorem run_bound {k : IntKind} {i : Int} {y : Nat} {code : BoundsCode} (h0 : 0 ≤ i) (h1 : i ≤ y) (w : World) : (Instr.sliceBound (.int k i) y code).run P w = .ok i.toNat w := by
  simp [Instr.sliceBound, asIntOf, h0, h1]

theorem bounds_sound {ε : Env} {a : Act} (hε : EnvOk ε a) {len cap : Nat} {lo hi mx : Option Operand} {l h m : Option Int} (hl : intsOf ε lo = some l) (hh : intsOf ε hi = some h) (hm : intsOf ε mx = some m)
    (b : Bool) (h1 : 0 ≤ m.getD cap) (h2 : m.getD cap ≤ cap) (h3 : 0 ≤ h.getD len) (h4 : h.getD len ≤ m.getD cap) (h5 : 0 ≤ l.getD 0) (h6 : l.getD 0 ≤ h.getD len) (h7 : m.isSome = true → h.isSome = true) (w : World) :
    (Instr.sliceBounds b len cap (lo.map a.eval) (hi.map a.eval) (mx.map a.eval)).run P w = .ok ((l.getD 0).toNat, (h.getD len).toNat, (m.getD cap).toNat) w := by
  rcases intsOf_sound hε hl with ⟨rfl, rfl⟩ | ⟨kl, nl, xl, rfl, rfl, el⟩ <;> rcases intsOf_sound hε hh with ⟨rfl, rfl⟩ | ⟨kh, nh, xh, rfl, rfl, eh⟩ <;>
    rcases intsOf_sound hε hm with ⟨rfl, rfl⟩ | ⟨km, nm, xm, rfl, rfl, em⟩ <;> simp only [Option.getD_none, Option.getD_some, Option.map_none, Option.map_some] at * <;>
    first
    | (simp at h7; done)
    | (simp only [Instr.sliceBounds, Sem.run_bind, Sem.run_pure, Result.andThen_ok, *]
       repeat (first | rw [run_bound (by omega) (by omega)] | simp only [Result.andThen_ok, Int.toNat_natCast, Int.toNat_zero, Sem.run_pure, Sem.run_bind]))

theorem slice_sound {ε : Env} {a : Act} (hε : EnvOk ε a) {t e : TypeId} {size : Nat} {base : Option Addr} {len cap : Nat} {lo hi mx : Option Operand} {l h m : Option Int}
    (ht : P.underlying t = some (.slice e)) (hs : sizeT P e = some size) (hl : intsOf ε lo = some l) (hh : intsOf ε hi = some h) (hm : intsOf ε mx = some m) {K : Value → Prop} (hk : sliceP size base len cap l h m fun a l c => K (.slice a l c)) :
    ∃ v, K v ∧ ∀ w, (Instr.sliceAt t (.slice base len cap) (lo.map a.eval) (hi.map a.eval) (mx.map a.eval)).run P w = .ok v w := by
  obtain ⟨h1, h2, h3, h4, h5, h6, h7, hk⟩ := hk
  refine ⟨_, hk, fun w => ?_⟩
  have hb := bounds_sound hε hl hh hm true h1 h2 h3 h4 h5 h6 h7 (P := P) w
  simp [Instr.sliceAt, Instr.slice, run_underlying' ht, hb, run_sizeOf' hs]

theorem sliceArr_sound {ε : Env} {a : Act} (hε : EnvOk ε a) {t e : TypeId} {size n : Nat} {p : Addr} {lo hi mx : Option Operand} {l h m : Option Int}
    (ht : P.underlying t = some (.array n e)) (hs : sizeT P e = some size) (hl : intsOf ε lo = some l) (hh : intsOf ε hi = some h) (hm : intsOf ε mx = some m) {K : Value → Prop} (hk : sliceP size (some p) n n l h m fun a l c => K (.slice a l c)) :
    ∃ v, K v ∧ ∀ w, (Instr.sliceAt t (.pointer (some p)) (lo.map a.eval) (hi.map a.eval) (mx.map a.eval)).run P w = .ok v w := by
  obtain ⟨h1, h2, h3, h4, h5, h6, h7, hk⟩ := hk
  refine ⟨_, hk, fun w => ?_⟩
  have hb := bounds_sound hε hl hh hm false h1 h2 h3 h4 h5 h6 h7 (P := P) w
  simp [Instr.sliceAt, Instr.sureAddr, run_underlying' ht, hb, run_sizeOf' hs]
  split <;> rfl

theorem sliceStr_sound {ε : Env} {a : Act} (hε : EnvOk ε a) {t : TypeId} {s : ByteArray} {lo hi mx : Option Operand} {l h : Option Int}
    (ht : P.underlying t = some .string) (hl : intsOf ε lo = some l) (hh : intsOf ε hi = some h) (hm : intsOf ε mx = some none)
    (h1 : 0 ≤ h.getD s.size) (h2 : h.getD s.size ≤ s.size) (h3 : 0 ≤ l.getD 0) (h4 : l.getD 0 ≤ h.getD s.size) (w : World) :
    (Instr.sliceAt t (.string s) (lo.map a.eval) (hi.map a.eval) (mx.map a.eval)).run P w = .ok (.string (s.extract (l.getD 0).toNat (h.getD s.size).toNat)) w := by
  have hb := bounds_sound hε hl hh hm (P := P) false (len := s.size) (cap := s.size) (by simp) (by simp) h1 (by simpa using h2) h3 h4 (by simp) w
  rcases intsOf_sound hε hm with ⟨_, rfl⟩ | ⟨_, _, _, h0, _⟩
  · simp at hb
    simp [Instr.sliceAt, Instr.slice, run_underlying' ht, hb]
  · cases h0

theorem run_field_place {t : TypeId} {f : Nat} {fld : Field} (h : fieldOf P t f = some fld) {n : Nat} (hn : sizeT P fld.type = some (n + 1)) (a : Addr) (w : World) :
    (Instr.fieldAt t (.pointer (some a)) f).run P w = .ok (.pointer (some (a.add fld.offset))) w := by
  unfold fieldOf at h
  split at h
  · rename_i fs ht
    rw [Array.getElem?_toList] at h
    simp [Instr.fieldAt, run_underlying' ht, h, Instr.sureAddr, fieldPlace, run_sizeOf' hn]
  · cases h

theorem partAll_at {e : TypeId} {cs : List Value} {size : Nat} {n : Int} {K : Value → Prop} (h0 : 0 ≤ n) : ∀ {len : Nat}, n < len → partAll P e cs size n K len → ∃ v, partL P e cs (n.toNat * size) = some v ∧ K v
  | 0, h1, _ => by omega
  | j + 1, h1, h => by
    by_cases hj : n = (j : Nat)
    · have := h.2 hj
      have hn : n.toNat = j := by omega
      rw [hn]
      split at this
      · rename_i v hv; exact ⟨v, hv, this⟩
      · exact this.elim
    · exact partAll_at h0 (by omega) h.1

/-- **A quiet operation's proposition**: it leaves a value for which the rest holds, and no world is changed. -/
theorem quiet_sound {o : Oper} {ε : Env} {a : Act} (hε : EnvOk ε a) {C : (World → Prop) → Prop} (hC : ∀ φ ψ : World → Prop, (∀ w, φ w → ψ w) → C φ → C ψ) (hT : ∀ φ : World → Prop, (∀ w, φ w) → C φ)
    {K : Value → Prop} (h : quietP P C o.op ε K) : ∃ v, K v ∧ C fun w => (execOp a.eval o).run P w = .ok (.value v) w := by
  obtain ⟨dst, op, type, pos, after, guard⟩ := o
  simp only at h
  have plain : ∀ {v : Value} {s : Sem Value}, K v → (∀ w, s.run P w = .ok v w) → (∀ w, (execOp a.eval ⟨dst, op, type, pos, after, guard⟩).run P w = (do pure (.value (← s)) : Sem Next).run P w) →
      ∃ v, K v ∧ C fun w => (execOp a.eval ⟨dst, op, type, pos, after, guard⟩).run P w = .ok (.value v) w := by
    intro v s hk hs he
    exact ⟨v, hk, hT _ fun w => by rw [he w]; simp [hs]⟩
  cases op with
  | move x =>
    simp only [quietP] at h
    split at h
    · rename_i v hv; exact plain (s := pure v) h (fun _ => rfl) (fun w => by simp [execOp, hε.eval hv])
    · exact h.elim
  | assign x =>
    simp only [quietP] at h
    split at h
    · rename_i v hv; exact plain (s := pure v) h (fun _ => rfl) (fun w => by simp [execOp, hε.eval hv])
    · exact h.elim
  | pick c x y =>
    simp only [quietP] at h
    split at h
    · rename_i t p q hc hx hy
      exact plain (s := pure (.bool (cond t p q))) h (fun _ => rfl) (fun w => by cases t <;> simp [execOp, hε.eval hc, hε.eval hx, hε.eval hy, asBool])
    · rename_i t p q _ hc hx hy
      cases t with
      | true => exact plain (s := pure p) h (fun _ => rfl) (fun w => by simp [execOp, hε.eval hc, hε.eval hx, hε.eval hy, asBool])
      | false => exact plain (s := pure q) h (fun _ => rfl) (fun w => by simp [execOp, hε.eval hc, hε.eval hx, hε.eval hy, asBool])
    · exact h.elim
  | nilCheck x =>
    simp only [quietP] at h
    split at h
    · rename_i p hp
      obtain ⟨b, rfl, hk⟩ := nilC_some h
      exact plain (s := pure (.pointer (some b))) hk (fun _ => rfl) (fun w => by simp [execOp, hε.eval hp])
    · rename_i f b c hp
      exact plain (s := pure (.func (.func f) b c)) h (fun _ => rfl) (fun w => by simp [execOp, hε.eval hp])
    · exact h.elim
  | binOp op t x y u =>
    simp only [quietP] at h
    split at h
    · rename_i p q hp hq
      obtain ⟨v, hk, hw⟩ := binP_sound h x y
      exact plain hk hw (fun w => by simp only [execOp, hε.eval hp, hε.eval hq])
    · exact h.elim
  | unOp op t x =>
    simp only [quietP] at h
    split at h
    · rename_i b hb; exact plain (s := pure (.bool (!b))) h (fun _ => rfl) (fun w => by simp [execOp, hε.eval hb, Op.unary])
    · rename_i k n hb; exact plain (s := pure (.int k (k.wrap (0 - n)))) h (fun _ => rfl) (fun w => by simp [execOp, hε.eval hb, Op.unary, Op.intArith])
    · rename_i k n hb
      refine plain (s := pure _) h (fun _ => rfl) (fun w => ?_)
      simp [execOp, hε.eval hb, Op.unary, Op.intBits]
    · exact h.elim
  | makeFunc fn first captured =>
    simp only [quietP] at h
    split at h
    · rename_i p q hp hq
      exact plain (s := pure _) h (fun _ => rfl) (fun w => by simp [execOp, Instr.makeFunc, evs_array hε hp, evs_array hε hq])
    · exact h.elim
  | extract x i =>
    simp only [quietP] at h
    split at h
    · rename_i vs hx
      split at h
      · rename_i v hv
        rw [Array.getElem?_toList] at hv
        exact plain (s := pure v) h (fun _ => rfl) (fun w => by simp [execOp, Instr.extract, hε.eval hx, hv])
      · exact h.elim
    · exact h.elim
  | makeInterface t x =>
    simp only [quietP] at h
    split at h
    · exact h.elim
    · rename_i d v hn hd hx
      have hd' := hd
      refine plain (s := pure (.iface t v)) h (fun _ => rfl) (fun w => ?_)
      cases d <;> first | (exact (hn _ rfl).elim) | simp [execOp, Instr.makeInterface, run_underlying' hd', hε.eval hx]
    · exact h.elim
  | fieldAddr t x f =>
    simp only [quietP] at h
    split at h
    · rename_i b fld hx hf
      split at h
      · rename_i n hn
        exact plain h (fun w => run_field_place hf hn b w) (fun w => by simp only [execOp, hε.eval hx])
      · exact h.elim
    · exact h.elim
  | field t x f =>
    simp only [quietP] at h
    split at h
    · rename_i cs fld hx hf
      split at h
      · rename_i v hv
        refine plain (s := Instr.field t (.agg cs) f) h (fun w => ?_) (fun w => by simp only [execOp, hε.eval hx])
        unfold fieldOf at hf
        split at hf
        · rename_i fs ht
          rw [Array.getElem?_toList] at hf
          simp [Instr.field, run_underlying' ht, hf, asAgg, run_part hv]
        · cases hf
      · exact h.elim
    · exact h.elim
  | indexAddr t x i =>
    simp only [quietP] at h
    split at h
    · rename_i base len cap k n e hx hi ht
      split at h
      · rename_i size hsz
        obtain ⟨h0, h1, h⟩ := h
        obtain ⟨b, rfl, hk⟩ := nilC_some h
        refine plain (s := Instr.indexAt t (.slice (some b) len cap) (.int k n)) hk (fun w => ?_) (fun w => by simp only [execOp, hε.eval hx, hε.eval hi])
        by_cases hl : len ≤ 1 <;> simp [Instr.indexAt, asIntOf, run_underlying' ht, h0, h1, run_sizeOf' hsz, hl]
      · exact h.elim
    · rename_i b k n len e hx hi ht
      split at h
      · rename_i size hsz
        obtain ⟨h0, h1, hk⟩ := h
        refine plain (s := Instr.indexAt t (.pointer (some b)) (.int k n)) hk (fun w => ?_) (fun w => by simp only [execOp, hε.eval hx, hε.eval hi])
        by_cases hl : len ≤ 1 <;> simp [Instr.indexAt, asIntOf, run_underlying' ht, h0, h1, run_sizeOf' hsz, hl, Instr.sureAddr]
      · exact h.elim
    · exact h.elim
  | index t x i =>
    simp only [quietP] at h
    split at h
    · rename_i cs k n len e hx hi ht
      split at h
      · rename_i size hsz
        obtain ⟨h0, h1, h⟩ := h
        obtain ⟨v, hv, h⟩ : ∃ v, partL P e cs.toList (n.toNat * size) = some v ∧ K v := by
          split at h
          · split at h
            · rename_i v hv; exact ⟨v, hv, h⟩
            · exact h.elim
          · exact partAll_at h0 h1 h
        refine plain (s := Instr.index t (.agg cs) (.int k n)) h (fun w => ?_) (fun w => by simp only [execOp, hε.eval hx, hε.eval hi])
        simp [Instr.index, asIntOf, run_underlying' ht, h0, h1, run_sizeOf' hsz, run_part hv]
      · exact h.elim
    · rename_i s k n hx hi ht
      obtain ⟨h0, b, hb, hk⟩ := h
      refine plain (s := Instr.index t (.string s) (.int k n)) hk (fun w => ?_) (fun w => by simp only [execOp, hε.eval hx, hε.eval hi])
      have hb' : s[n.toNat]? = some b := by
        rw [Array.getElem?_toList] at hb
        have hlt := (Array.getElem?_eq_some_iff.1 hb).1
        have hv := (Array.getElem?_eq_some_iff.1 hb).2
        have hlt' : n.toNat < s.size := hlt
        rw [getElem?_pos s n.toNat hlt']
        exact congrArg some hv
      simp [Instr.index, asIntOf, run_underlying' ht, h0, hb']
    · exact h.elim
  | slice t x lo hi mx =>
    simp only [quietP] at h
    split at h
    · rename_i base len cap e l hh m hx ht hl hhi hm
      split at h
      · rename_i size hsz
        obtain ⟨v, hk, hw⟩ := slice_sound hε ht hsz hl hhi hm h
        exact plain hk hw (fun w => by simp only [execOp, hε.eval hx])
      · exact h.elim
    · rename_i b n e l hh m hx ht hl hhi hm
      split at h
      · rename_i size hsz
        obtain ⟨v, hk, hw⟩ := sliceArr_sound hε ht hsz hl hhi hm h
        exact plain hk hw (fun w => by simp only [execOp, hε.eval hx])
      · exact h.elim
    · rename_i s l hh hx ht hl hhi hm
      obtain ⟨h1, h2, h3, h4, hk⟩ := h
      exact plain hk (fun w => sliceStr_sound hε ht hl hhi hm h1 h2 h3 h4 w) (fun w => by simp only [execOp, hε.eval hx])
    · exact h.elim
  | build t parts =>
    simp only [quietP] at h
    split at h
    · rename_i ps hps
      split at h
      · rename_i v hv
        refine plain h (fun w => build_sound hv w) (fun w => ?_)
        have : parts.map (fun x => (x.1, a.eval x.2)) = ps.toArray := by apply Array.ext'; simp [evParts_sound hε hps]
        simp only [execOp]
        rw [show (parts.map fun (i, x) => (i, a.eval x)) = ps.toArray from this]
      · exact h.elim
    · exact h.elim
  | load t x =>
    simp only [quietP] at h
    split at h
    · rename_i b hx
      obtain ⟨v, hk, hc⟩ := load_sound hC h
      exact ⟨v, hk, hC _ _ (fun w hw => by simp [execOp, Instr.loadAt, Instr.sureAddr, hε.eval hx, hw]) hc⟩
    · exact h.elim
  | convert src dst x =>
    simp only [quietP] at h
    split at h
    · rename_i k1 k n _ hs hd hx
      exact plain (s := pure _) h (fun _ => rfl) (fun w => by simp [execOp, convert, run_underlying' hs, run_underlying' hd, hε.eval hx, Conv.intToInt])
    · rename_i s hs hd hx
      exact plain (s := pure _) h (fun _ => rfl) (fun w => by simp [execOp, convert, run_underlying' hs, run_underlying' hd, hε.eval hx])
    · exact h.elim
  | call c =>
    simp only [quietP] at h
    split at h
    · rename_i v t hcal harg hty
      have hA := evs_array hε harg
      have hA' : c.argTypes = #[t] := by apply Array.ext'; simpa using hty
      split at h
      · rename_i s ht
        exact plain (s := pure _) h (fun _ => rfl) (fun w => by simp [execOp, resolve, hcal, invoke, builtin, Builtin.len_, hA, hA', run_underlying' ht, goInt])
      · rename_i e b n cp ht
        exact plain (s := pure _) h (fun _ => rfl) (fun w => by simp [execOp, resolve, hcal, invoke, builtin, Builtin.len_, hA, hA', run_underlying' ht, goInt])
      · rename_i n e v' ht
        exact plain (s := pure _) h (fun _ => rfl) (fun w => by simp [execOp, resolve, hcal, invoke, builtin, Builtin.len_, hA, hA', run_underlying' ht, goInt])
      · exact h.elim
    · rename_i v t hcal harg hty
      have hA := evs_array hε harg
      have hA' : c.argTypes = #[t] := by apply Array.ext'; simpa using hty
      split at h
      · rename_i e b n cp ht
        exact plain (s := pure _) h (fun _ => rfl) (fun w => by simp [execOp, resolve, hcal, invoke, builtin, Builtin.cap_, hA, hA', run_underlying' ht, goInt])
      · exact h.elim
    · rename_i k p k' q hcal harg
      have hA := evs_array hε harg
      exact plain (s := pure _) h (fun _ => rfl) (fun w => by simp [execOp, resolve, hcal, invoke, builtin, Builtin.max_, Builtin.max2, hA])
    · rename_i k p k' q hcal harg
      have hA := evs_array hε harg
      exact plain (s := pure _) h (fun _ => rfl) (fun w => by simp [execOp, resolve, hcal, invoke, builtin, Builtin.min_, Builtin.min2, hA])
    · exact h.elim
  | _ => simp only [quietP] at h

end Go.Den
