/- What the propositions of the operations that change the world say of the machine's operations. -/
import Derived.Test.YtljaocdmeoheaaaDenQuiet2
import Derived.Laws.Append
set_option linter.unusedSimpArgs false
namespace Go.Den
variable {P : Program}

theorem zerosL_length (z : List Value) : ∀ n, (zerosL z n).length = n * z.length
  | 0 => by simp [zerosL]
  | n + 1 => by simp [zerosL, zerosL_length z n, Nat.succ_mul, Nat.add_comm]
theorem zerosL_get (z : List Value) : ∀ n i, i < n * z.length → (zerosL z n)[i]? = z[i % z.length]?
  | 0, i, h => by simp at h
  | n + 1, i, h => by
    have hz : 0 < z.length := by
      rcases Nat.eq_zero_or_pos z.length with h0 | h0
      · rw [h0] at h; simp at h
      · exact h0
    rw [Nat.succ_mul] at h
    simp only [zerosL]
    by_cases hi : i < z.length
    · rw [List.getElem?_append_left hi, Nat.mod_eq_of_lt hi]
    · rw [List.getElem?_append_right (by omega), zerosL_get z n (i - z.length) (by omega)]
      congr 1
      exact (Nat.mod_eq_sub_mod (by omega)).symm

theorem range_map_zeros (z : Array Value) (n : Nat) (m : Nat) (hm : m = n * z.size) :
    ((Array.range m).map fun i => z[i % z.size]!) = (zerosL z.toList n).toArray := by
  subst hm
  apply Array.ext
  · simp [zerosL_length]
  · intro i h1 h2
    simp at h1
    have hz : 0 < z.size := by
      rcases Nat.eq_zero_or_pos z.size with h0 | h0
      · rw [h0] at h1; simp at h1
      · exact h0
    have hlt : i % z.size < z.size := Nat.mod_lt _ hz
    have := zerosL_get z.toList n i (by simpa using h1)
    rw [List.getElem?_eq_getElem (by simpa [zerosL_length] using h1)] at this
    simp only [Array.length_toList, Array.getElem?_toList] at this
    rw [Array.getElem?_eq_getElem hlt] at this
    simp [hlt]
    exact (Option.some.inj this).symm

theorem zeroCells_eq (z : Array Value) (n : Nat) : Builtin.zeroCells z n = (zerosL z.toList n).toArray := range_map_zeros z n _ rfl

theorem hasBody_spec {f : FuncId} (h : hasBody P f = true) : ∃ fn, P.funcs[f]? = some fn ∧ fn.body.isNone = false ∧ (fn.name == "runtime.NumGoroutine") = false := by
  unfold hasBody at h
  split at h
  · rename_i fn hf
    simp only [Bool.and_eq_true, Bool.not_eq_true'] at h
    exact ⟨fn, hf, by cases hb : fn.body <;> simp_all, h.2⟩
  · cases h

theorem run_callFunc {f : FuncId} (h : hasBody P f = true) (args : Array Value) (w : World) : (callFunc f args).run P w = .ok (.enter f args) w := by
  obtain ⟨fn, hf, hb, hn⟩ := hasBody_spec h
  have hn' : fn.name ≠ "runtime.NumGoroutine" := by simpa using hn
  have hb' : fn.body ≠ none := by intro e; simp [e] at hb
  simp [callFunc, hf, hb', hn']

theorem setCell_putBlk {w : World} {b o : Nat} {cur : Array Value} {T : TypeId} {fr : Nat × Nat} (hb : w.heap[b]? = some (.cells cur T fr)) (v : Value) :
    w.setCell ⟨b, o, none⟩ v = putBlk w b (.cells (cur.setIfInBounds o v) T fr) := by
  have hlt := (Array.getElem?_eq_some_iff.1 hb).1
  have hv := (Array.getElem?_eq_some_iff.1 hb).2
  unfold World.setCell putBlk
  congr 1
  apply Array.ext
  · simp
  · intro i h1 h2
    simp only [Array.getElem_modify]
    rw [Array.getElem_setIfInBounds (by simpa using h1)]
    by_cases hi : b = i
    · subst hi; simp [hv]
    · simp [hi]

theorem putBlk_get_same {w : World} {b : Nat} {o : Obj} (h : b < w.heap.size) : (putBlk w b o).heap[b]? = some o := by simp [putBlk, h]
theorem putBlk_get_other {w : World} {b c : Nat} {o : Obj} (h : b ≠ c) : (putBlk w b o).heap[c]? = w.heap[c]? := by simp [putBlk, h]
theorem putBlk_putBlk (w : World) (b : Nat) (o o' : Obj) : putBlk (putBlk w b o) b o' = putBlk w b o' := by simp [putBlk]

theorem run_storeCells {b o : Nat} {T : TypeId} {fr : Nat × Nat} : ∀ (vs : List Value) (i : Nat) (cur : Array Value) (w : World), w.heap[b]? = some (.cells cur T fr) → o + i + vs.length ≤ cur.size →
    (fr.2 ≤ o + i ∨ o + i + vs.length ≤ fr.1) → (∀ v ∈ vs, v.oneCell' = true) →
    (storeCells ⟨b, o, none⟩ vs i).run P w = .ok () (putBlk w b (.cells (splice cur (o + i) vs) T fr))
  | [], i, cur, w, hb, _, _, _ => by
    have hlt := (Array.getElem?_eq_some_iff.1 hb).1
    have hv := (Array.getElem?_eq_some_iff.1 hb).2
    simp only [storeCells, splice, List.append_nil, List.length_nil, Nat.add_zero, List.take_append_drop, Array.toArray_toList]
    rw [Sem.run_pure]
    congr 1
    unfold putBlk
    cases w with
    | mk heap tape drawn os output =>
      congr 1
      apply Array.ext
      · simp
      · intro j h1 h2
        rw [Array.getElem_setIfInBounds (by simpa using h1)]
        by_cases hj : b = j
        · subst hj; simpa using hv
        · simp [hj]
  | v :: rest, i, cur, w, hb, hl, hfr, h1 => by
    simp only [List.length_cons] at hl hfr
    have hadd : (⟨b, o, none⟩ : Addr).add i = ⟨b, o + i, none⟩ := by unfold Addr.add; split <;> simp_all
    have hcell : w.cell? ⟨b, o + i, none⟩ = some (cur[o + i]'(by omega)) := by simp [World.cell?, hb]
    have hfro : w.frozen? ⟨b, o + i, none⟩ = false := by
      simp only [World.frozen?, hb]
      simp
      omega
    have hst : (store ((⟨b, o, none⟩ : Addr).add i) v).run P w = .ok () (w.setCell ⟨b, o + i, none⟩ v) := by
      rw [hadd, run_store P w _ v _ (h1 v (by simp)), hcell]
      simp [hfro]
    have hlt := (Array.getElem?_eq_some_iff.1 hb).1
    have hb' : (putBlk w b (.cells (cur.setIfInBounds (o + i) v) T fr)).heap[b]? = some (.cells (cur.setIfInBounds (o + i) v) T fr) := putBlk_get_same hlt
    have ih := run_storeCells (b := b) (o := o) (T := T) (fr := fr) rest (i + 1) (cur.setIfInBounds (o + i) v) _ hb' (by simp; omega) (by omega) (fun u hu => h1 u (by simp [hu]))
    simp only [storeCells, Sem.run_bind, hst, Result.andThen_ok]
    rw [setCell_putBlk hb, ih, putBlk_putBlk]
    congr 3
    unfold splice
    congr 1
    rw [Array.toList_setIfInBounds]
    have e1 : (cur.toList.set (o + i) v).take (o + (i + 1)) = cur.toList.take (o + i) ++ [v] := by
      rw [List.take_set, List.set_eq_take_append_cons_drop]
      have hl' : o + i < (cur.toList.take (o + (i + 1))).length := by simp; omega
      rw [if_pos hl', List.take_take, List.drop_take]
      simp
      congr 1; omega
    have e2 : (cur.toList.set (o + i) v).drop (o + (i + 1) + rest.length) = cur.toList.drop (o + i + (rest.length + 1)) := by
      rw [List.drop_set_of_lt (by omega)]
      congr 1; omega
    rw [e1, e2]
    simp

theorem store_sound {w : World} {a : Addr} {vs : List Value} {K : World → Prop} (h : storeP w a vs K) (h1 : ∀ v ∈ vs, v.oneCell' = true) : ∃ w', K w' ∧ (storeCells a vs).run P w = .ok () w' := by
  obtain ⟨hs, cur, T, fr, hb, hl, hfr, hk⟩ := h
  refine ⟨_, hk _ ⟨(Array.getElem?_eq_some_iff.1 hb).1, rfl⟩, ?_⟩
  have ha : a = ⟨a.block, a.off, none⟩ := by cases a; simp at hs; simp [hs]
  have := run_storeCells (P := P) (b := a.block) (o := a.off) vs 0 cur w hb (by simpa using hl) (by simpa using hfr) h1
  rw [← ha] at this
  simpa using this

theorem read_sound {w : World} {size n : Nat} {x : Value} {vs : List Value} (h : readP w size x n vs) : (Builtin.firstCells size n x).run P w = .ok vs.toArray w := by
  unfold readP at h
  split at h
  · rename_i a l c
    obtain ⟨hl, hc⟩ := h
    exact run_firstCells_some w size n a l c vs hl (fun j v hj => by simpa using cellsAt_get hc j v hj)
  · subst h; simp [Builtin.firstCells]
  · subst h
    simp only [Builtin.firstCells]
    rw [Sem.run_pure]
    congr 1
    apply Array.ext'
    simp
  · exact h.elim

theorem read_drew {w : World} {size n : Nat} {x : Value} {vs : List Value} (h : readP w size x n vs) : readP w.drew size x n vs := by
  unfold readP at *
  have key : ∀ (a : Addr) (vs : List Value) (i : Nat), cellsAt w a vs i → cellsAt w.drew a vs i := by
    intro a vs
    induction vs with
    | nil => intro i _; trivial
    | cons v vs ih => intro i h; exact ⟨h.1, ih _ h.2⟩
  split <;> simp_all

theorem len_sound {x : Value} {n : Nat} (h : lenV x = some n) (w : World) : (Builtin.lenOf x).run P w = .ok n w := by
  unfold lenV at h
  split at h <;> cases h <;> simp [Builtin.lenOf]

theorem append_sound {t u e : TypeId} {ut : TypeDesc} (ht : P.underlying t = some (.slice e)) (hu : P.underlying u = some ut) (hui : ∀ k, ut ≠ .int k) {z : Value} (hz : zeroOf P e = some z) {size bytes : Nat}
    (hs : sizeT P e = some size) (hby : bytesT P e = some bytes) {base : Option Addr} {l cp : Nat} {x : Value} {w : World} {K : Value → World → Prop} (h : appendP e size bytes z.cells.toList base l cp x w fun a l c => K (.slice a l c)) (ty : TypeId) :
    ∃ v w', K v w' ∧ (Builtin.append_ #[t, u] ty #[.slice base l cp, x]).run P w = .ok v w' := by
  obtain ⟨n, hn, new, hnew, h1, hroom, hgrow⟩ := h
  obtain ⟨i, hi, hib⟩ : ∃ i, P.info? e = some i ∧ i.bytes = bytes := by
    unfold bytesT at hby
    cases hi : P.info? e with
    | none => simp [hi] at hby
    | some i => simp [hi] at hby; exact ⟨i, rfl, hby⟩
  have hti : ∀ w : World, (typeInfo e).run P w = .ok i w := fun w => by simp [typeInfo, hi]
  by_cases hc : l + n ≤ cp
  · have hk := hroom hc
    cases base with
    | none =>
      refine ⟨_, w, hk, ?_⟩
      simp only [Builtin.append_, List.getElem?_toArray, List.getElem?_cons_zero, List.getElem?_cons_succ]
      simp only [Sem.run_bind, run_underlying' ht, Result.andThen_ok, run_sizeOf' hs, run_underlying' hu, Sem.run_pure]
      cases ut <;> first
        | exact (hui _ rfl).elim
        | simp [len_sound hn, hc, read_sound hnew]
    | some a =>
      obtain ⟨w', hk', hw'⟩ := store_sound (P := P) hk h1
      refine ⟨_, w', hk', ?_⟩
      simp only [Builtin.append_, List.getElem?_toArray, List.getElem?_cons_zero, List.getElem?_cons_succ]
      simp only [Sem.run_bind, run_underlying' ht, Result.andThen_ok, run_sizeOf' hs, run_underlying' hu, Sem.run_pure]
      cases ut <;> first
        | exact (hui _ rfl).elim
        | simp [len_sound hn, hc, read_sound hnew, hw']
  · obtain ⟨h63, h48, old, hold, hk⟩ := hgrow (by omega)
    have hq : l + n ≤ (Question.appendCap (l + n) cp e).cut (w.tape w.drawn (.appendCap (l + n) cp e)) := by simp [Question.cut]
    refine ⟨_, _, hk _ _ _ hq ⟨rfl, rfl⟩, ?_⟩
    have h63' : ¬ ((l + n : Nat) : Int) > IntKind.i64.max := by show ¬ ((l + n : Nat) : Int) > 9223372036854775807; omega
    have h48' : ¬ Builtin.nextslicecap (l + n) cp * bytes > 2 ^ 48 := by omega
    have hr1 := read_sound (P := P) (read_drew hold)
    have hr2 := read_sound (P := P) (read_drew hnew)
    simp only [Builtin.append_, List.getElem?_toArray, List.getElem?_cons_zero, List.getElem?_cons_succ]
    simp only [Sem.run_bind, run_underlying' ht, Result.andThen_ok, run_sizeOf' hs, run_underlying' hu, Sem.run_pure]
    cases ut <;> first
      | exact (hui _ rfl).elim
      | (simp only [Bool.false_eq_true, if_false, len_sound hn, Result.andThen_ok, hc, Sem.run_ite, Sem.run_bind, hti, hib, h63', h48', false_and, run_choose, Question.forced, World.drew_eq, run_askRoom, hr1, hr2, run_zeroValue' hz, zeroCells_eq, newRow, run_newObj, Sem.run_pure]
         simp)

theorem appendZ_sound {t u e : TypeId} {k : IntKind} (ht : P.underlying t = some (.slice e)) (hu : P.underlying u = some (.int k)) {z : Value} (hz : zeroOf P e = some z) {size bytes : Nat}
    (hs : sizeT P e = some size) (hby : bytesT P e = some bytes) {base : Option Addr} {l cp : Nat} {kx : IntKind} {m : Int} {w : World} {K : Value → World → Prop} (h : appendZ e size bytes z.cells.toList base l cp m w fun a l c => K (.slice a l c)) (ty : TypeId) :
    ∃ v w', K v w' ∧ (Builtin.append_ #[t, u] ty #[.slice base l cp, .int kx m]).run P w = .ok v w' := by
  obtain ⟨h0, hm, hmb, h1, hzl, hroom, hgrow⟩ := h
  obtain ⟨i, hi, hib⟩ : ∃ i, P.info? e = some i ∧ i.bytes = bytes := by
    unfold bytesT at hby
    cases hi : P.info? e with
    | none => simp [hi] at hby
    | some i => simp [hi] at hby; exact ⟨i, rfl, hby⟩
  have hti : ∀ w : World, (typeInfo e).run P w = .ok i w := fun w => by simp [typeInfo, hi]
  have wm : IntKind.i64.wrap m = m := by
    simp only [IntKind.wrap, IntKind.bits, IntKind.signed]; simp; omega
  have hsz : size = z.cells.size := by simpa using hzl.symm
  have hall : ∀ n, ∀ v ∈ zerosL z.cells.toList n, v.oneCell' = true := by
    intro n
    induction n with
    | zero => intro v hv; simp [zerosL] at hv
    | succ n ih => intro v hv; simp only [zerosL, List.mem_append] at hv; exact hv.elim (h1 v) (ih v)
  have hneg : ¬ m < 0 := by omega
  have hbig : ¬ m * (i.bytes : Int) > 2 ^ 48 := by rw [hib]; omega
  have happ : ∀ w : World, (if m.toNat * size = 0 then pure #[] else do pure (Builtin.zeroCells (← zeroValue e).cells m.toNat) : Sem (Array Value)).run P w = .ok (zerosL z.cells.toList m.toNat).toArray w := by
    intro w
    by_cases hn0 : m.toNat * size = 0
    · have : zerosL z.cells.toList m.toNat = [] := by
        apply List.eq_nil_of_length_eq_zero
        rw [zerosL_length]; rw [hsz] at hn0; simpa using hn0
      simp [hn0, this]
    · simp [hn0, run_zeroValue' hz, zeroCells_eq]
  by_cases hc : l + m.toNat ≤ cp
  · have hk := hroom hc
    cases base with
    | none =>
      refine ⟨_, w, hk, ?_⟩
      simp only [Builtin.append_, List.getElem?_toArray, List.getElem?_cons_zero, List.getElem?_cons_succ]
      simp only [Sem.run_bind, run_underlying' ht, Result.andThen_ok, run_sizeOf' hs, run_underlying' hu, Sem.run_pure]
      simp only [asInt, asIntOf, Sem.run_bind, Sem.run_pure, Result.andThen_ok, wm, if_true, Sem.run_ite, hneg, if_false, hti, hbig, hc, Bool.not_true, Bool.false_eq_true]
      have := happ w
      simp only [Sem.run_ite, Sem.run_bind, Sem.run_pure] at this
      rw [this]
      simp
    | some a =>
      obtain ⟨w', hk', hw'⟩ := store_sound (P := P) hk (hall _)
      refine ⟨_, w', hk', ?_⟩
      simp only [Builtin.append_, List.getElem?_toArray, List.getElem?_cons_zero, List.getElem?_cons_succ]
      simp only [Sem.run_bind, run_underlying' ht, Result.andThen_ok, run_sizeOf' hs, run_underlying' hu, Sem.run_pure, asInt, asIntOf, wm, if_true, Sem.run_ite, hneg, if_false, hti, hbig, hc, Bool.not_true, Bool.false_eq_true]
      have := happ w
      simp only [Sem.run_ite, Sem.run_bind, Sem.run_pure] at this
      rw [this]
      simp [hw']
  · obtain ⟨h63, h48, old, hold, hk⟩ := hgrow (by omega)
    have hq : l + m.toNat ≤ (Question.appendCap (l + m.toNat) cp e).cut (w.tape w.drawn (.appendCap (l + m.toNat) cp e)) := by simp [Question.cut]
    refine ⟨_, _, hk _ _ _ hq ⟨rfl, rfl⟩, ?_⟩
    have h63' : ¬ ((l + m.toNat : Nat) : Int) > IntKind.i64.max := by show ¬ ((l + m.toNat : Nat) : Int) > 9223372036854775807; omega
    have h48' : ¬ Builtin.nextslicecap (l + m.toNat) cp * bytes > 2 ^ 48 := by omega
    have hr1 := read_sound (P := P) (read_drew hold)
    have hbig2 : ¬ m * (bytes : Int) > 2 ^ 48 := by omega
    simp only [Builtin.append_, List.getElem?_toArray, List.getElem?_cons_zero, List.getElem?_cons_succ]
    simp only [hbig2, Sem.run_bind, run_underlying' ht, Result.andThen_ok, run_sizeOf' hs, run_underlying' hu, Sem.run_pure, asInt, asIntOf, wm, if_true, Sem.run_ite, hneg, if_false, hti, hbig, hc, Bool.not_true, Bool.false_eq_true, hib, h63', h48', false_and,
      run_choose, Question.forced, World.drew_eq, run_askRoom, hr1]
    have := happ w.drew
    simp only [Sem.run_ite, Sem.run_bind, Sem.run_pure] at this
    rw [this]
    simp only [Result.andThen_ok, run_zeroValue' hz, zeroCells_eq, newRow, Sem.run_bind, run_newObj, Sem.run_pure]
    simp
    rfl

theorem copy_sound {t e : TypeId} (ht : P.underlying t = some (.slice e)) {size : Nat} (hs : sizeT P e = some size) {base : Option Addr} {l cp : Nat} {x : Value} {w : World} {K : Value → World → Prop}
    (h : copyP size base l x w fun n => K (.int .i64 n)) (ts : List TypeId) (ty : TypeId) : ∃ v w', K v w' ∧ (Builtin.copy_ (t :: ts).toArray ty #[.slice base l cp, x]).run P w = .ok v w' := by
  obtain ⟨n, hn, new, hnew, h1, hk⟩ := h
  have hmin : Nat.min n l = min n l := rfl
  cases base with
  | none =>
    refine ⟨_, w, hk, ?_⟩
    simp only [Builtin.copy_, List.getElem?_toArray, List.getElem?_cons_zero, List.getElem?_cons_succ]
    simp [run_underlying' ht, len_sound hn, run_sizeOf' hs, hmin, read_sound hnew, goInt]
  | some a =>
    obtain ⟨w', hk', hw'⟩ := store_sound (P := P) hk h1
    refine ⟨_, w', hk', ?_⟩
    simp only [Builtin.copy_, List.getElem?_toArray, List.getElem?_cons_zero, List.getElem?_cons_succ]
    simp [run_underlying' ht, len_sound hn, run_sizeOf' hs, hmin, read_sound hnew, goInt, hw']

theorem makeSlice_sound {t e : TypeId} (ht : P.underlying t = some (.slice e)) {z : Value} (hz : zeroOf P e = some z) {size bytes : Nat} (hs : sizeT P e = some size) (hby : bytesT P e = some bytes)
    {len cap : Int} {w : World} {K : Value → World → Prop} (h : makeSliceP e size bytes z.cells.toList len cap w fun a l c => K (.slice a l c)) (k k' : IntKind) :
    ∃ v w', K v w' ∧ (Instr.makeSlice t (.int k len) (.int k' cap)).run P w = .ok v w' := by
  obtain ⟨h0, h1, h2, h3, hzl, hk⟩ := h
  refine ⟨_, _, hk _ _ ⟨rfl, rfl⟩, ?_⟩
  obtain ⟨i, hi, hib⟩ : ∃ i, P.info? e = some i ∧ i.bytes = bytes := by
    unfold bytesT at hby
    cases hi : P.info? e with
    | none => simp [hi] at hby
    | some i => simp [hi] at hby; exact ⟨i, rfl, hby⟩
  have hti : ∀ w : World, (typeInfo e).run P w = .ok i w := fun w => by simp [typeInfo, hi]
  have wl : IntKind.i64.wrap len = len := by
    simp only [IntKind.wrap, IntKind.bits, IntKind.signed]; simp; omega
  have wc : IntKind.i64.wrap cap = cap := by
    simp only [IntKind.wrap, IntKind.bits, IntKind.signed]; simp; omega
  have hb1 : ¬ ((i.bytes : Int) * cap > 2 ^ 48) := by rw [hib]; omega
  have hcond : ((decide (cap < 0) || decide ((i.bytes : Int) * cap > 2 ^ 48)) || decide (len < 0) || decide (len > cap)) = false := by
    simp only [Bool.or_eq_false_iff, decide_eq_false_iff_not]
    exact ⟨⟨⟨by omega, hb1⟩, by omega⟩, by omega⟩
  simp only [Instr.makeSlice, Sem.run_bind, run_underlying' ht, Result.andThen_ok, asInt, asIntOf, Sem.run_pure, hti, wl, wc]
  simp only [hcond, Bool.false_eq_true, if_false, Sem.run_bind, Sem.run_ite, run_askRoom, Result.andThen_ok, run_sizeOf' hs, Sem.run_pure]
  have hsz : size = z.cells.size := by simpa using hzl.symm
  by_cases hn0 : cap.toNat * size = 0
  · simp only [hn0, if_true, Result.andThen_ok, newRow, Sem.run_bind, run_newObj, Sem.run_pure]
    have : zerosL z.cells.toList cap.toNat = [] := by
      apply List.eq_nil_of_length_eq_zero
      rw [zerosL_length]; simp; rw [hsz] at hn0; simpa using hn0
    have h00 : ((Array.range 0).map fun _ => (default : Value)) = #[] := by simp
    simp [this]
    first | done | rw [h00]
  · simp only [hn0, if_false, run_zeroValue' hz, Result.andThen_ok, newRow, Sem.run_bind, run_newObj, Sem.run_pure]
    rw [range_map_zeros z.cells cap.toNat _ (by rw [hsz])]
    rfl

theorem enter_sound {o : Oper} {a : Act} {w : World} {next : Act → World → Prop} {Q : Exit → Act → World → Prop} {f : FuncId} {args : Array Value} {K : Value → World → Prop}
    (h : CallsR P f args w K) (hnext : ∀ v w', K v w' → next (a.put o.dst v) w') : o.upon P a next Q (.ok (.enter f args) w) := by
  rw [Oper.upon_enter]
  refine Calls.mono h fun e w' he => ?_
  obtain ⟨v, rfl, hk⟩ := he
  exact hnext v w' hk

theorem callP_sound {f : FuncId} {args : List Value} {z : Option Value} {w : World} {K : Value → World → Prop} (h : callP P f args z w K) : CallsR P f args.toArray w K := by
  cases z with
  | none => exact h
  | some z =>
    refine Calls.mono h fun e w' he => ?_
    obtain ⟨v, rfl, hk⟩ := he
    obtain ⟨u, rfl, hk⟩ := exSh_some hk
    exact ⟨_, rfl, hk⟩

/-- **An operation's proposition that may change the world.** -/
theorem eff_sound {o : Oper} {ε : Env} {a : Act} {w : World} {K : Value → World → Prop} {next : Act → World → Prop} {Q : Exit → Act → World → Prop} (hε : EnvOk ε a)
    (h : effP P o ε w K) (hnext : ∀ v w', K v w' → next (a.put o.dst v) w') : o.wp P a w next Q := by
  obtain ⟨dst, op, type, pos, after, guard⟩ := o
  unfold Oper.wp
  have value : ∀ {v : Value} {w' : World}, K v w' → (execOp a.eval ⟨dst, op, type, pos, after, guard⟩).run P w = .ok (.value v) w' →
      Oper.upon P ⟨dst, op, type, pos, after, guard⟩ a next Q ((execOp a.eval ⟨dst, op, type, pos, after, guard⟩).run P w) := by
    intro v w' hk he
    rw [he]
    exact hnext v w' hk
  cases op with
  | alloc e =>
    simp only [effP] at h
    split at h
    · rename_i z hz
      refine value (h _ _ ⟨rfl, rfl⟩) ?_
      simp [execOp, Instr.alloc, run_zeroValue' hz, newVar, newRow]
    · exact h.elim
  | box e x =>
    simp only [effP] at h
    split at h
    · rename_i v hv
      refine value (h _ _ ⟨rfl, rfl⟩) ?_
      simp [execOp, Instr.box, hε.eval hv, newVar, newRow]
    · exact h.elim
  | buildSlice t len parts =>
    simp only [effP] at h
    split at h
    · rename_i e ps ht hps
      split at h
      · rename_i z size hz hsz
        split at h
        · exact h.elim
        · rename_i h24
          split at h
          · rename_i cs hcs
            refine value (h _ _ ⟨rfl, rfl⟩) ?_
            have hparts : (parts.map fun (x : Nat × Operand) => (x.1, a.eval x.2)) = ps.toArray := by apply Array.ext'; simp [evParts_sound hε hps]
            have hzs := zeroOf_size hz
            rw [hsz] at hzs
            cases hzs
            have hfill := fill_sound (place' := fun i => some (i * z.cells.size, z.cells.size)) (fun i => rfl) hcs
            simp only [execOp]
            rw [show (parts.map fun (i, x) => (i, a.eval x)) = ps.toArray from hparts]
            have h24' : ¬ len * z.cells.size > 2 ^ 24 := h24
            by_cases hn0 : len * z.cells.size = 0
            · have hnil : zerosL z.cells.toList len = [] := by
                apply List.eq_nil_of_length_eq_zero
                rw [zerosL_length]; simpa using hn0
              rw [hnil] at hfill
              simp only [Instr.buildSlice, Sem.run_bind, run_underlying' ht, Result.andThen_ok, run_sizeOf' hsz, Sem.run_ite, h24', if_false, hn0, if_true, Sem.run_pure]
              have : ((Array.range 0).map fun x => (#[] : Array Value)[x % (#[] : Array Value).size]!) = #[] := by simp
              simp only [this]
              simp only [List.toArray] at hfill
              simp [hfill, newRow]
            · simp only [Instr.buildSlice, Sem.run_bind, run_underlying' ht, Result.andThen_ok, run_sizeOf' hsz, Sem.run_ite, h24', if_false, hn0, run_zeroValue' hz, Sem.run_pure]
              simp only [range_map_zeros z.cells len _ rfl]
              simp [hfill, newRow]
          · exact h.elim
      · exact h.elim
    · exact h.elim
  | store t p x =>
    simp only [effP] at h
    split at h
    · rename_i b v n hb hv hn
      split at h
      · rename_i hc
        obtain ⟨hl, h1⟩ := hc
        obtain ⟨w', hk, hw⟩ := store_sound (P := P) h (fun u hu => List.all_eq_true.1 h1 u hu)
        have hl' : v.cells.size = n := by simpa using hl
        have : (execOp a.eval ⟨dst, .store t p x, type, pos, after, guard⟩).run P w = .ok .skip w' := by
          simp [execOp, Instr.storeAt, Instr.sureAddr, hε.eval hb, hε.eval hv, storeVar, run_sizeOf' hn, hl', hw]
        rw [this]
        exact hnext _ _ hk
      · exact h.elim
    · exact h.elim
  | makeSlice t l c =>
    simp only [effP] at h
    split at h
    · rename_i e k len k' cap ht hl hc
      split at h
      · rename_i z size bytes hz hs hby
        obtain ⟨v, w', hk, hw⟩ := makeSlice_sound ht hz hs hby h k k'
        refine value hk ?_
        simp [execOp, hε.eval hl, hε.eval hc, hw]
      · exact h.elim
    · exact h.elim
  | call c =>
    simp only [effP] at h
    split at h
    · rename_i f args hcal hargs
      have hA := evs_array hε hargs
      split at h
      · rename_i hb
        have : (execOp a.eval ⟨dst, .call c, type, pos, after, guard⟩).run P w = .ok (.enter f args.toArray) w := by
          simp [execOp, resolve, hcal, hA, Act.eval, Deferred.ofValue, invoke, run_callFunc hb]
        rw [this]
        exact enter_sound (callP_sound h) hnext
      · exact h.elim
    · rename_i x args _ hcal hargs
      have hA := evs_array hε hargs
      split at h
      · rename_i v hv
        unfold callV at h
        split at h
        · rename_i f first captured
          obtain ⟨hb, h⟩ := h
          have : (execOp a.eval ⟨dst, .call c, type, pos, after, guard⟩).run P w = .ok (.enter f (first.toList ++ args ++ captured.toList).toArray) w := by
            simp [execOp, resolve, hcal, hA, hε.eval hv, Deferred.ofValue, invoke, run_callFunc hb]
          rw [this]
          exact enter_sound (callP_sound h) hnext
        · exact h.elim
      · exact h.elim
    · rename_i base l cp x hcal hargs
      have hA := evs_array hε hargs
      split at h
      · rename_i t u hty
        have hT : c.argTypes = #[t, u] := by apply Array.ext'; simpa using hty
        split at h
        · rename_i e d ht hu
          split at h
          · rename_i z size bytes _ hz hs hby
            obtain ⟨v, w', hk, hw⟩ := append_sound ht hu (fun k => by simp) hz hs hby h type
            refine value hk ?_
            simp only [execOp, resolve, hcal, hA, hT, invoke, builtin]
            simp [hw]
          · rename_i z size bytes hz hs hby
            obtain ⟨v, w', hk, hw⟩ := append_sound ht hu (fun k => by simp) hz hs hby h type
            refine value hk ?_
            simp only [execOp, resolve, hcal, hA, hT, invoke, builtin]
            simp [hw]
          · rename_i z size bytes ki hz hs hby
            split at h
            · rename_i kx m
              obtain ⟨v, w', hk, hw⟩ := appendZ_sound (kx := kx) ht hu hz hs hby h type
              refine value hk ?_
              simp only [execOp, resolve, hcal, hA, hT, invoke, builtin]
              simp [hw]
            · exact h.elim
          · exact h.elim
        · exact h.elim
      · exact h.elim
    · rename_i base l cp x hcal hargs
      have hA := evs_array hε hargs
      split at h
      · rename_i t ts hty
        have hT : c.argTypes = (t :: ts).toArray := by apply Array.ext'; simpa using hty
        split at h
        · rename_i e ht
          split at h
          · rename_i size hs
            obtain ⟨v, w', hk, hw⟩ := copy_sound (cp := cp) ht hs h ts type
            refine value hk ?_
            simp only [execOp, resolve, hcal, hA, hT, invoke, builtin]
            simp [hw]
          · exact h.elim
        · exact h.elim
      · exact h.elim
    · exact h.elim
  | _ => simp only [effP] at h

end Go.Den
