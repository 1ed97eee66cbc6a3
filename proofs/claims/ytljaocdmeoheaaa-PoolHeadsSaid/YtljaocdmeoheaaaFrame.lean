/- From a walk to a row: what the walk leaves of old memory reads as it did. How arguments are opened. -/
import Derived.Test.YtljaocdmeoheaaaRep3
import Derived.ProofKit
import Derived.Carry
import Derived.OpenShut
set_option linter.unusedVariables false
set_option linter.unusedSimpArgs false
namespace Go.Den
open Go.ChangeShapes Go.WideShapes Go.ChangeAt Go.RowKit

theorem Ext.below {w w' : World} (h : Ext w w') : Below w.heap.size w w' := ⟨h.os, h.tape, h.output, h.size, fun k hk => h.blk k hk (fun hf => hf)⟩

section
variable {H : Type} {enc : TypeId × Value → H} {P : Program}
theorem trodAll_stays (hl : laidOutB P = true) {W W' : World} (hb : Below W.heap.size W W') {sp : Nat → Bool} : ∀ {ts : List TypeId} {vs : List Value} {ds : List (DataW H)} {ps : List MemPlace}, (∀ t ∈ ts, P.readableRec t = true ∧ t < P.types.size) →
    DataW.TrodAll enc P W 0 (fun _ => true) true ts vs ds ps → (∀ x ∈ ps, x.block < W.heap.size) → (∀ x ∈ ps, sp x.block = true) → DataW.TrodAll enc P W' 0 sp true ts vs ds ps
  | [], _, _, _, _, h, _, _ => by
    obtain ⟨rfl, rfl, rfl⟩ := trodAll_nil h
    rfl
  | t :: ts, _, _, _, hr, h, hlt, hsp => by
    obtain ⟨v, vs1, d, ds1, a, b, rfl, rfl, rfl, h1, h2⟩ := trodAll_cons h
    exact ⟨a, b, WideElems.Trod_stays hl (hr t (by simp)).1 (hr t (by simp)).2 h1 (fun x hx => hb.same (hlt x (by simp [hx]))) (fun x hx => hsp x (by simp [hx])),
      trodAll_stays hl hb (fun u hu => hr u (by simp [hu])) h2 (fun x hx => hlt x (by simp [hx])) (fun x hx => hsp x (by simp [hx])), rfl⟩

/-- a law's answer: true, and all arguments as they were -/
theorem post_true (hl : laidOutB P = true) {f : Func} {s : ChangeSpec} {apart fresh handsOn again : Bool} {W W' : World} {args : Array Value} {ds gs : List (DataW H)} {before : List MemPlace} {tb : TypeId}
    (hW : DataW.Whole enc P f.params.toList s.vars apart W args.toList ds gs before) (hv : s.vars = []) (hrows : ∀ t ∈ f.params.toList, P.readableRec t = true ∧ t < P.types.size) (hb : Below W.heap.size W W')
    (ht : P.underlying tb = some .bool) (hres : f.resultTypes = #[tb]) (hfn : (s.fn H (ds ++ gs)) = { results := [.lit (.bool true)], args := ds }) :
    s.post enc P f apart fresh handsOn again W args (.bool true) W' := by
  have hlt := hW.lt
  have hW' := hW
  obtain ⟨p, q, hA, hV, hpq, hz, hn⟩ := hW'
  rw [hv] at hV
  obtain ⟨rfl, rfl⟩ := trodVars_none hV
  simp only [List.append_nil] at hpq
  subst hpq
  have hargs : ∀ sp : Nat → Bool, (∀ x ∈ before, sp x.block = true) → DataW.TrodAll enc P W' 0 sp true f.params.toList args.toList ds before := fun sp hsp => trodAll_stays hl hb hrows hA hlt hsp
  have hresT : ∀ (b : Nat) (sp : Nat → Bool) (hd : Bool), DataW.TrodAll enc P W' b sp hd f.resultTypes.toList ((Value.bool true).resultList f.resultTypes.size) [.lit (.bool true)] [] := by
    intro b sp hd
    rw [hres]
    exact trodAll_cons_mk (shut_bool ht _) trodAll_mk0
  refine ⟨ds, [], before, [], before, [], hW, ?_, ?_, ?_, hb.frame _, fun _ => ⟨?_, .lit (.bool true) :: ds, [], before, ⟨before, [], ?_, ?_, by simp, ?_, hn⟩, fun p hp _ => hp⟩⟩
  · rw [hfn]; exact hresT _ _ _
  · rw [hfn]; exact hargs _ (fun x hx => by simpa using hlt x hx)
  · rw [hv, hfn]; rfl
  · exact ok_one hres rfl (okWide_bool_mk ht _)
  · have := trodAll_append (hargs _ (fun _ _ => rfl)) (hresT 0 (fun _ => true) true)
    exact this
  · rw [hv]; rfl
  · intro b off hp
    have hbl := hlt _ hp
    rw [hb.frozen (p := ⟨b, off, none⟩) hbl]
    exact hz b off hp

/-! ### Arguments -/
theorem row_of_cells {w : World} {a : Addr} {vs : List Value} (h : ∀ (j : Nat) v, vs[j]? = some v → w.cell? (a.add j) = some v) : RowAt w (some a) vs := by
  cases vs with
  | nil => exact .inl rfl
  | cons v vs =>
    have h0 := h 0 v rfl
    rw [add_zero] at h0
    unfold World.cell? at h0
    split at h0
    · rename_i c t fr hb
      split at h0
      · cases h0
      · rename_i hs
        obtain ⟨b, o, s⟩ := a
        cases s with
        | some s => simp at hs
        | none =>
          refine .inr ⟨b, o, c, t, fr, rfl, hb, fun j u hj => ?_⟩
          have := h j u hj
          rw [add_lit] at this
          simpa [World.cell?, hb] using this
    · cases h0

theorem cells_get {w : World} {base : Nat} {a : Addr} {n : Nat} {cs : List Value} (h : w.cells? base a n = some cs) : cs.length = n ∧ ∀ (j : Nat) v, cs[j]? = some v → w.cell? (a.add j) = some v := by
  unfold World.cells? at h
  split at h
  · have hl : cs.length = n := by
      have := mapM_some_length h
      simpa using this
    refine ⟨hl, fun j v hj => ?_⟩
    have hjn : j < n := by rw [← hl]; exact (List.getElem?_eq_some_iff.1 hj).1
    have := mapM_some_get h j j (by simp [hjn])
    rw [hj] at this
    exact this
  · cases h
theorem add_add (a : Addr) (x y : Nat) : (a.add x).add y = a.add (x + y) := by
  unfold Addr.add
  by_cases hx : x = 0
  · subst hx; simp
  · by_cases hy : y = 0
    · subst hy; simp [hx]
    · rw [if_neg hx, if_neg hy, if_neg (by omega)]
      simp [Nat.add_assoc]
theorem flat_at {k : Nat} {g : Nat → List Value} : ∀ (n : Nat), (∀ i, i < n → (g i).length = k) → ((List.range n).flatMap g).length = n * k ∧ ∀ (j : Nat) v, ((List.range n).flatMap g)[j]? = some v → ∃ i c, i < n ∧ j = i * k + c ∧ (g i)[c]? = some v
  | 0, _ => by simp
  | n + 1, h => by
    obtain ⟨hl, hg⟩ := flat_at n fun i hi => h i (by omega)
    have hn := h n (by omega)
    rw [List.range_succ, List.flatMap_append]
    refine ⟨by simp [hl, hn, Nat.succ_mul], fun j v hj => ?_⟩
    by_cases hlt : j < ((List.range n).flatMap g).length
    · rw [List.getElem?_append_left hlt] at hj
      obtain ⟨i, c, hi, e, hc⟩ := hg j v hj
      exact ⟨i, c, by omega, e, hc⟩
    · rw [List.getElem?_append_right (by omega), hl] at hj
      exact ⟨n, j - n * k, by omega, by rw [hl] at hlt; omega, by simpa using hj⟩

/-- a slice of whatever elements: its rows -/
theorem open_rows {w : World} {base : Nat} {spare : Nat → Bool} {held : Bool} {t e : TypeId} {fuel : Nat} {cs : List Value} {x : DataW H × List MemPlace} (ht : P.underlying t = some (.slice e)) (h : DataW.trod enc P w base spare held fuel t cs = some x) :
    ∃ (a : Option Addr) (len cap : Nat) (rows : List (List Value)) (ds : List (DataW H)), cs = [.slice a len cap] ∧ len ≤ cap ∧ rows.length = len ∧ ds.length = len ∧ (∀ r ∈ rows, r.length = P.cellsOf e) ∧ RowAt w a rows.flatten ∧ (a = none → cap = 0) ∧
      (∀ (i : Nat) r, rows[i]? = some r → ∃ n d ps, ds[i]? = some d ∧ DataW.trod enc P w base spare held n e r = some (d, ps)) ∧ ((x.1 = .nil ∧ len = 0) ∨ ∃ sp, x.1 = .slice ds sp) := by
  rcases DataW.trod_slice ht h with ⟨rfl, rfl⟩ | ⟨a, len, cap, elems, rest, n, _, rfl, rfl, hb, hl, hm, hlen, hel, hsp, hns⟩
  · exact ⟨none, 0, 0, [], [], rfl, Nat.le_refl _, rfl, rfl, by simp, RowAt.nil _ _, fun _ => rfl, fun i r hr => by simp at hr, .inl ⟨rfl, rfl⟩⟩
  · have hrow : ∀ i, i < len → ∃ r, w.cells? base (a.add (i * P.cellsOf e)) (P.cellsOf e) = some r ∧ DataW.trod enc P w base spare held n e r = elems[i]? ∧ ∃ y, elems[i]? = some y := by
      intro i hi
      have h1 := hel i hi
      have h2 : ∃ y, elems[i]? = some y := ⟨elems[i]'(by omega), by simp [hlen, hi]⟩
      obtain ⟨y, hy⟩ := h2
      rw [hy] at h1
      cases hc : w.cells? base (a.add (i * P.cellsOf e)) (P.cellsOf e) with
      | none => rw [hc] at h1; cases h1
      | some r => rw [hc] at h1; exact ⟨r, rfl, by rw [hy]; exact h1, y, hy⟩
    have hg : ∀ i, i < len → w.cells? base (a.add (i * P.cellsOf e)) (P.cellsOf e) = some ((w.cells? base (a.add (i * P.cellsOf e)) (P.cellsOf e)).getD []) := by
      intro i hi
      obtain ⟨r, hr, _⟩ := hrow i hi
      rw [hr]; rfl
    have hgl : ∀ i, i < len → ((w.cells? base (a.add (i * P.cellsOf e)) (P.cellsOf e)).getD []).length = P.cellsOf e := fun i hi => (cells_get (hg i hi)).1
    obtain ⟨_, hflat⟩ := flat_at (g := fun i => (w.cells? base (a.add (i * P.cellsOf e)) (P.cellsOf e)).getD []) len hgl
    refine ⟨some a, len, cap, (List.range len).map fun i => (w.cells? base (a.add (i * P.cellsOf e)) (P.cellsOf e)).getD [], elems.map (·.1), rfl, hl, by simp, by simpa using hlen, ?_, ?_, (fun h => by cases h), ?_, .inr ⟨_, rfl⟩⟩
    · intro r hr
      obtain ⟨i, hi, rfl⟩ := List.mem_map.1 hr
      exact hgl i (by simpa using hi)
    · refine row_of_cells fun j v hj => ?_
      rw [← List.flatMap_def] at hj
      obtain ⟨i, c, hi, rfl, hc⟩ := hflat j v hj
      rw [← add_add]
      exact (cells_get (hg i hi)).2 c v hc
    · intro i r hr
      have hi : i < len := by have := (List.getElem?_eq_some_iff.1 hr).1; simpa using this
      obtain ⟨r', h1, h2, y, hy⟩ := hrow i hi
      have : r = r' := by
        simp [hi, h1] at hr
        exact hr.symm
      subst this
      exact ⟨n, y.1, y.2, by simp [hy], by rw [h2, hy]⟩

theorem list_choice {α β : Type} {f : α → β} {Q : α → Prop} : ∀ (l : List β), (∀ r ∈ l, ∃ x, r = f x ∧ Q x) → ∃ xs : List α, l = xs.map f ∧ ∀ x ∈ xs, Q x
  | [], _ => ⟨[], rfl, by simp⟩
  | r :: l, h => by
    obtain ⟨x, e, q⟩ := h r (by simp)
    obtain ⟨xs, e', q'⟩ := list_choice l fun r hr => h r (by simp [hr])
    refine ⟨x :: xs, by rw [e, e']; rfl, fun y hy => ?_⟩
    rcases List.mem_cons.1 hy with rfl | hy
    · exact q
    · exact q' y hy
theorem byte_of {n : Int} (h : (Lit.int .u8 n).wf = true) : ∃ x : UInt8, Value.int .u8 n = bv x := by
  have hb : 0 ≤ n ∧ n ≤ 255 := by simpa [Lit.wf, IntKind.min, IntKind.max, IntKind.signed, IntKind.bits] using h
  exact ⟨UInt8.ofNat n.toNat, by simp; omega⟩

theorem flat_single (l : List UInt8) : (l.map fun x => [bv x]).flatten = l.map bv := by
  induction l with
  | nil => rfl
  | cons x l ih => simp [ih]

/-- a slice of bytes -/
theorem open_bytes {w : World} {base : Nat} {spare : Nat → Bool} {held : Bool} {t e : TypeId} {fuel : Nat} {cs : List Value} {x : DataW H × List MemPlace} (ht : P.underlying t = some (.slice e)) (he : P.underlying e = some (.int .u8)) (h : DataW.trod enc P w base spare held fuel t cs = some x) :
    ∃ (a : Option Addr) (l : List UInt8) (cap : Nat), cs = [.slice a l.length cap] ∧ l.length ≤ cap ∧ BytesAt w a l ∧ (a = none → cap = 0) := by
  obtain ⟨a, len, cap, rows, ds, rfl, hlc, hrl, hdl, hrk, hrow, hn, hel, _⟩ := open_rows ht h
  obtain ⟨l, rfl, _⟩ := list_choice (f := fun x : UInt8 => [bv x]) (Q := fun _ => True) rows (fun r hr => by
    obtain ⟨i, hi, rfl⟩ := List.getElem_of_mem hr
    obtain ⟨n, d, ps, _, ht'⟩ := hel i _ (List.getElem?_eq_getElem hi)
    obtain ⟨m, hm, _, hw⟩ := DataW.trod_int he ht'
    obtain ⟨x, hx⟩ := byte_of hw
    exact ⟨x, by rw [hm, hx], trivial⟩)
  simp at hrl
  subst hrl
  refine ⟨a, l, cap, rfl, hlc, ?_, hn⟩
  have e2 : (l.map fun x => [bv x]).flatten = l.map bv := flat_single l
  rw [e2] at hrow
  exact hrow

/-- a struct of three numbers -/
theorem open_agg3 {w : World} {r : Reach} {base : Nat} {t t0 t1 t2 : TypeId} {k0 k1 k2 : IntKind} {f0 f1 f2 : Field} {v : Value} {d : DataW H} {ps : List MemPlace} (ht : P.underlying t = some (.struct #[f0, f1, f2])) (hC : P.cellsOf t = 3)
    (o0 : f0.offset = 0) (o1 : f1.offset = 1) (o2 : f2.offset = 2) (e0 : f0.type = t0) (e1 : f1.type = t1) (e2 : f2.type = t2) (c0 : P.cellsOf t0 = 1) (c1 : P.cellsOf t1 = 1) (c2 : P.cellsOf t2 = 1)
    (u0 : P.underlying t0 = some (.int k0)) (u1 : P.underlying t1 = some (.int k1)) (u2 : P.underlying t2 = some (.int k2)) (hv : Value.okWide P w r base t v) (h : DataW.Trod enc P w 0 (fun _ => true) true t v d ps) :
    ∃ a b c : Int, v = .agg #[.int k0 a, .int k1 b, .int k2 c] ∧ (Lit.int k0 a).wf = true ∧ (Lit.int k1 b).wf = true ∧ (Lit.int k2 c).wf = true := by
  obtain ⟨fuel, hf⟩ := h
  obtain ⟨cs, rfl⟩ : ∃ cs, v = .agg cs := by
    unfold Value.okWide at hv
    rw [ht] at hv
    obtain ⟨cs, h, _⟩ := hv
    exact ⟨cs, h⟩
  obtain ⟨xs, n, _, _, hlen, hxs, hfs⟩ := DataW.trod_struct ht hf
  have g0 := hfs 0 f0 rfl
  have g1 := hfs 1 f1 rfl
  have g2 := hfs 2 f2 rfl
  have hxl : xs.length = 3 := by simpa using hxs
  rw [e0, o0, c0, List.getElem?_eq_getElem (by omega)] at g0
  rw [e1, o1, c1, List.getElem?_eq_getElem (by omega)] at g1
  rw [e2, o2, c2, List.getElem?_eq_getElem (by omega)] at g2
  obtain ⟨a, ha, _, wa⟩ := DataW.trod_int u0 g0
  obtain ⟨b, hb, _, wb⟩ := DataW.trod_int u1 g1
  obtain ⟨c, hc, _, wc⟩ := DataW.trod_int u2 g2
  refine ⟨a, b, c, ?_, wa, wb, wc⟩
  rw [hC] at hlen
  have hcl : (Value.agg cs).cells = cs := rfl
  rw [hcl] at ha hb hc hlen
  obtain ⟨l⟩ := cs
  match l, hlen with
  | [x, y, z], _ =>
    simp at ha hb hc
    rw [ha, hb, hc]

end

end Go.Den
