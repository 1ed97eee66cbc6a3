/- Words for contracts: cells of the call's own block, in full: cut out, put in. (Merged by program: SRec MBerger MHead MDeed MPlay MPlay2 MPlay3 MPlay4 MRises MCuts MPage MJour MJour2 SJour SJour2 SScan SScan2 Rep7 SPut11 SLoad SLaw12 SChip MLaw12 SScan3 SFact2 SFact3 SFact4 Rep8.) -/
import Derived.Test.YtdngiobkannbnaaGreatQ4
section
set_option linter.unusedVariables false
set_option linter.unusedSimpArgs false
set_option maxRecDepth 8000
namespace Go.Den
theorem row_cell {w : World} {b o : Nat} {vs : List Value} (h : RowAt w (some ⟨b, o, none⟩) vs) {j : Nat} {v : Value} (hj : vs[j]? = some v) : w.cell? ⟨b, o + j, none⟩ = some v := by
  obtain ⟨b', o', e, hc⟩ := h.cell hj
  cases e
  exact hc
theorem Key.oneCell (k : Key) : ∀ v ∈ k.vals, v.oneCell' = true := by
  intro v hv
  simp only [Key.vals, List.mem_cons, List.not_mem_nil, or_false] at hv
  rcases hv with rfl | rfl | rfl | rfl <;> rfl
def keyR : ERep Key := flatR Key.vals 4 (by decide) (fun _ => rfl) Key.oneCell
def boolR : ERep Bool := flatR (fun b => [.bool b]) 1 (by decide) (fun _ => rfl) (fun b v hv => by simp at hv; rw [hv]; rfl)
def intR : ERep Int := flatR (fun x => [.int .i64 x]) 1 (by decide) (fun _ => rfl) (fun b v hv => by simp at hv; rw [hv]; rfl)
def u8R : ERep UInt8 := flatR (fun x => [bv x]) 1 (by decide) (fun _ => rfl) (fun b v hv => by simp at hv; rw [hv]; rfl)
def changeR : ERep Change := ERep.pair keyR (ERep.pair bytesR boolR (fun x : List UInt8 × Bool => x.1) (fun x => x.2)) (fun x : Change => x.key) (fun x => (x.val, x.gone))
abbrev changeVs (k : Key) (a : Option Addr) (n c : Nat) (b : Bool) : List Value := [.int .i64 k.ino, bv k.what, .string k.name, .int .i64 k.chunk, .slice a n c, .bool b]
theorem changeR_intro {w : World} {G : Nat → Prop} {x : Change} {a : Option Addr} {c : Nat} (hc : x.val.length ≤ c) (hb : BytesAt w a x.val) (hg : x.val ≠ [] → ∀ p, a = some p → G p.block) :
    changeR.R w G (changeVs x.key a x.val.length c x.gone) x := ⟨x.key.vals, [.slice a x.val.length c, .bool x.gone], rfl, rfl, [.slice a x.val.length c], [.bool x.gone], rfl, ⟨a, c, rfl, hc, hb, hg⟩, rfl⟩
theorem changeR_elim {w : World} {G : Nat → Prop} {x : Change} {vs : List Value} (h : changeR.R w G vs x) :
    ∃ a c, vs = changeVs x.key a x.val.length c x.gone ∧ x.val.length ≤ c ∧ BytesAt w a x.val ∧ (x.val ≠ [] → ∀ p, a = some p → G p.block) := by
  obtain ⟨u, v, rfl, hu, s, t, rfl, ⟨a, c, hs, hc, hb, hg⟩, ht⟩ := h
  have hu' : u = x.key.vals := hu
  have ht' : t = [.bool x.gone] := ht
  subst hu'; subst ht'
  have hs' : s = [.slice a x.val.length c] := hs
  subst hs'
  exact ⟨a, c, rfl, hc, hb, hg⟩
def Change.zero : Change := ⟨Key.zero, [], false⟩
def oneS (s : St) : Change × Nat × St :=
  let a := takeS 1 s
  if a.2.1 ≠ 0 then (Change.zero, 4, none)
  else if 1 < a.1 then (Change.zero, 5, a.2.2)
  else
    let k := keyS a.2.2
    if k.2.1 ≠ 0 then (Change.zero, k.2.1, k.2.2)
    else if a.1 = 0 then (⟨k.1, [], true⟩, 0, k.2.2)
    else
      let v := rowS k.2.2
      if v.2.1 ≠ 0 then (Change.zero, 4, none) else if v.1.length = 0 then (Change.zero, 5, v.2.2) else (⟨k.1, v.1, false⟩, 0, v.2.2)
def goS : Nat → St → List Change → List Change × Nat
  | 0, s, acc => if 0 < leftS s then ([], 5) else (acc, 0)
  | n + 1, s, acc => if (oneS s).2.1 ≠ 0 then ([], (oneS s).2.1) else goS n (oneS s).2.2 (acc ++ [(oneS s).1])
def getS (b : List UInt8) : List Change × Nat :=
  if (takeS 1 (some b)).2.1 ≠ 0 then ([], 4) else if (takeS 1 (some b)).1 = 0 then ([], 5) else goS (takeS 1 (some b)).1 (takeS 1 (some b)).2.2 []
def dropS (b : List UInt8) : Nat × Nat := if b.length ≠ 8 then (0, 5) else if fromLE b = 0 then (0, 5) else (fromLE b, 0)
theorem chg_out {u : World} {B : Nat} {cs : Array Value} {k : Key} {a : Option Addr} {n c : Nat} {b : Bool} {e : Int} {R : Value → World → Prop} (g : u.heap[B]? = some (.cells cs T.api_Change (0, 0))) (hcs : cs.size = 6)
    (hR : ∀ u', Upd (· = B) u u' → R (.tuple #[.agg #[.int .i64 k.ino, bv k.what, .string k.name, .int .i64 k.chunk, .slice a n c, .bool b], .int .i64 e]) u') :
    storeP u ⟨B, 0, none⟩ (changeVs k a n c b) fun w' => ∃ x y : Int, ∃ m : ByteArray, ∃ z : Int, ∃ (a' : Option Addr) (n' c' : Nat), ∃ b' : Bool, cellsAt w' ⟨B, 0, none⟩ [.int .i64 x, .int .u8 y, .string m, .int .i64 z, .slice a' n' c', .bool b'] 0 ∧ R (.tuple #[.agg #[.int .i64 x, .int .u8 y, .string m, .int .i64 z, .slice a' n' c', .bool b'], .int .i64 e]) w' :=
  put_all g (by rw [hcs]; rfl) fun w' hu _ hg => ⟨_, _, _, _, _, _, _, _, cells_all hg, hR w' hu⟩
theorem rec_reader_one_spec {G : Nat → Prop} {w : World} {r : Nat} {s : St} (hG : ¬ G r) (hGs : ∀ x, G x → x < w.heap.size) (hrs : r < w.heap.size) (h : RdIn G w r s) :
    CallsR prog K.rec_reader_one #[.agg #[.pointer (some ⟨r, 0, none⟩)]] w fun v w' => Upd (· = r) w w' ∧ RdIn G w' r (oneS s).2.2 ∧ ∃ k a n c b, v = .tuple #[.agg #[.int .i64 k.ino, bv k.what, .string k.name, .int .i64 k.chunk, .slice a n c, .bool b], .int .i64 ((oneS s).2.1 : Nat)] ∧
      ((oneS s).2.1 = 0 → k = (oneS s).1.key ∧ b = (oneS s).1.gone ∧ n = (oneS s).1.val.length ∧ n ≤ c ∧ BytesAt w' a (oneS s).1.val ∧ ∀ p, a = some p → w.heap.size ≤ p.block ∧ p.block < w'.heap.size) := by
  apply rec_reader_one.sh
  suffices H : ∀ R : Value → World → Prop, (∀ v w', (Upd (· = r) w w' ∧ RdIn G w' r (oneS s).2.2 ∧ ∃ k a n c b, v = .tuple #[.agg #[.int .i64 k.ino, bv k.what, .string k.name, .int .i64 k.chunk, .slice a n c, .bool b], .int .i64 ((oneS s).2.1 : Nat)] ∧
      ((oneS s).2.1 = 0 → k = (oneS s).1.key ∧ b = (oneS s).1.gone ∧ n = (oneS s).1.val.length ∧ n ≤ c ∧ BytesAt w' a (oneS s).1.val ∧ ∀ p, a = some p → w.heap.size ≤ p.block ∧ p.block < w'.heap.size)) → R v w') → rec_reader_one.body (some ⟨r, 0, none⟩) w R from H _ fun _ _ h => h
  intro R hR
  unfold rec_reader_one.body
  intro B1 w₁ hn1 B2 w₂ hn2
  have hb1 : B1 = w.heap.size := hn1.num
  have hb2 : B2 = w₁.heap.size := hn2.num
  have hs1 := hn1.size
  have hs2 := hn2.size
  have e2 : Ext w w₂ := hn1.upd.trans hn2.upd
  have done : ∀ {u u' : World} {s' : St}, Upd (· = r) w u → RdIn G u r s' → Upd (· = B2) u u' → Upd (· = r) w u' ∧ RdIn G u' r s' := fun {u u' s'} h1 h2 h3 =>
    ⟨Upd.mono (F := fun x => x = r ∨ x = B2) ((h1.mono fun _ _ h => .inl h).trans (h3.mono fun _ _ h => .inr h)) fun x hx hor => by
      rcases hor with h | h
      · exact h
      · omega,
     h2.upd h3 (by omega) fun x hx e => by have := hGs x hx; omega⟩
  have g11 : w₂.heap[B1]? = some (.cells #[.pointer (some ⟨r, 0, none⟩)] T.rec_reader (0, 0)) := Ext.get hn2.upd hn1.get
  have g12 := hn2.get
  refine ⟨_, cell_of g11 rfl, (rdTake (k := 1) (by decide) hG (h.ext e2)).mono ?_⟩
  rintro _ w₃ ⟨hu3, rfl, hr3⟩
  have u3 : Upd (· = r) w w₃ := (Upd.ext e2).trans hu3
  have g31 := hu3.get g11 (by omega)
  have g32 := hu3.get g12 (by omega)
  have hs3 := hu3.size
  have a3 := takeS_lt 1 s
  have hone : oneS s = oneS s := rfl
  conv at hone => rhs; unfold oneS
  refine ⟨_, _, rfl, br_ne (fun hne => ?_) fun he => ?_⟩
  · have hA : takeS 1 s = (0, 4, none) := takeS_err (by omega)
    rw [hA] at hone
    replace hone : oneS s = (Change.zero, 4, none) := hone
    rw [hone] at hR
    rw [hA] at hr3 ⊢
    exact chg_out (k := Key.zero) g32 rfl fun u' hu => hR _ _ ⟨(done u3 hr3 hu).1, (done u3 hr3 hu).2, Key.zero, none, 0, 0, false, rfl, fun h => by cases h⟩
  · simp only [] at hone
    rw [if_neg (by omega)] at hone
    refine br_dec (fun h1 => ?_) fun h1 => ?_
    · rw [if_pos (by omega)] at hone
      rw [hone] at hR
      exact chg_out (k := Key.zero) g32 rfl fun u' hu => hR _ _ ⟨(done u3 hr3 hu).1, (done u3 hr3 hu).2, Key.zero, none, 0, 0, false, rfl, fun h => by cases h⟩
    · rw [if_neg (by omega)] at hone
      refine ⟨_, cell_of g31 rfl, (fact_GetKey_spec hG (fun x hx => by have := hGs x hx; omega) (by omega) hr3).mono ?_⟩
      rintro _ w₆ ⟨rfl, hu6, hr6⟩
      have u6 := u3.trans hu6
      have hs6 := hu6.size
      refine ⟨_, _, _, _, _, rfl, new_put (vs := Key.vals (keyS (takeS 1 s).2.2).1) rfl fun B3 w₈ hb3 hs8 he8 g83 => ?_⟩
      have u8 := u6.then he8
      have r8 := hr6.ext he8
      have g81 := Ext.get he8 (hu6.get g31 (by omega))
      have g82 := Ext.get he8 (hu6.get g32 (by omega))
      refine br_ne (fun hne => ?_) fun he6 => ?_
      · rw [if_pos (by omega)] at hone
        rw [hone] at hR
        exact ⟨_, _, _, _, key_cells g83, chg_out g82 rfl fun u' hu => hR _ _ ⟨(done u8 r8 hu).1, (done u8 r8 hu).2, _, _, _, _, _, rfl, fun h => absurd h (by show ¬ (keyS (takeS 1 s).2.2).2.1 = 0; omega)⟩⟩
      · rw [if_neg (by omega)] at hone
        refine br_eq (fun h0 => ?_) fun h0 => ?_
        · rw [if_pos (by omega)] at hone
          rw [hone] at hR
          refine ⟨_, _, _, _, key_cells g83, chg_out g82 rfl fun u' hu => hR _ _ ⟨(done u8 r8 hu).1, (done u8 r8 hu).2, _, none, 0, 0, true, ?_, fun _ => ⟨rfl, rfl, rfl, Nat.le_refl _, BytesAt.nil _ none, fun _ hp => by cases hp⟩⟩⟩
          rw [he6]; rfl
        · rw [if_neg (by omega)] at hone
          refine ⟨_, cell_of g81 rfl, (rdRow hG r8).mono ?_⟩
          rintro _ w₁₁ ⟨hu11, ⟨a, c, rfl, hby, hc, hf⟩, hr11⟩
          have u11 := u8.trans hu11
          have g112 := hu11.get g82 (by omega)
          have g113 := hu11.get g83 (by omega)
          refine ⟨_, _, _, _, rfl, br_eq (fun he11 => br_eq (fun hl => ?_) fun hl => ?_) fun hne => ?_⟩
          · rw [if_neg (by omega), if_pos (by omega)] at hone
            rw [hone] at hR
            exact ⟨_, _, _, _, key_cells g113, chg_out g112 rfl fun u' hu => hR _ _ ⟨(done u11 hr11 hu).1, (done u11 hr11 hu).2, _, _, _, _, _, rfl, fun h => by cases h⟩⟩
          · rw [if_neg (by omega), if_neg (by omega)] at hone
            rw [hone] at hR
            refine ⟨_, _, _, _, key_cells g113, chg_out g112 rfl fun u' hu => hR _ _ ⟨(done u11 hr11 hu).1, (done u11 hr11 hu).2, _, a, _, c, false, ?_, fun _ => ⟨rfl, rfl, rfl, hc, ?_, fun p hp => ?_⟩⟩⟩
            · rw [he11]; rfl
            · refine RowAt.upd hby hu fun p hp e => ?_
              have := (hf p hp).1
              omega
            · have := hf p hp
              have := hu.size
              omega
          · have hrow := rowS_err (s := (keyS (takeS 1 s).2.2).2.2) (by omega)
            rw [if_pos (by omega)] at hone
            rw [hone] at hR
            rw [hrow] at hr11 ⊢
            exact ⟨_, _, _, _, key_cells g113, chg_out g112 rfl fun u' hu => hR _ _ ⟨(done u11 hr11 hu).1, (done u11 hr11 hu).2, _, _, _, _, _, rfl, fun h => by cases h⟩⟩
theorem goS_step {n i : Nat} {s : St} {acc : List Change} (hi : i < n) : goS (n - i) s acc = if (oneS s).2.1 ≠ 0 then ([], (oneS s).2.1) else goS (n - (i + 1)) (oneS s).2.2 (acc ++ [(oneS s).1]) := by
  obtain ⟨m, hm⟩ : ∃ m, n - i = m + 1 := ⟨n - i - 1, by omega⟩
  have hm' : n - (i + 1) = m := by omega
  rw [hm, hm']; rfl
theorem getS_take {b : List UInt8} (h0 : (takeS 1 (some b)).2.1 = 0) (h1 : (takeS 1 (some b)).1 ≠ 0) : getS b = goS ((takeS 1 (some b)).1 - 0) (takeS 1 (some b)).2.2 [] := by
  unfold getS
  rw [if_neg (by omega), if_neg (by omega)]; rfl
theorem ListAt.empty {α : Type} {r : ERep α} {Q : Nat → Prop} {S : Nat} {w : World} {e : TypeId} {l : List α} (h : l = []) : ListAt r Q S w none 0 e l := by subst h; exact ListAt.nil _ _
/-- what a call answers that makes a list: it, and a number -/
def ListOut {α : Type} (r : ERep α) (e : TypeId) (w w' : World) (v : Value) (l : List α) (x : Nat) : Prop := ∃ a c, v = .tuple #[.slice a l.length c, .int .i64 (x : Nat)] ∧ ListAt r NoB w.heap.size w' a c e l ∧ Ext w w'
theorem ListOut.none {α : Type} {r : ERep α} {e : TypeId} {w w' : World} {x : Nat} {l : List α} (hl : l = []) (h : Ext w w') : ListOut r e w w' (.tuple #[.slice .none 0 0, .int .i64 (x : Nat)]) l x := by
  subst hl; exact ⟨.none, 0, rfl, ListAt.nil _ _, h⟩
theorem rec_Get_spec {w : World} {a : Option Addr} {b : List UInt8} {c : Nat} (hb : BytesAt w a b) (hn : b.length ≤ 281474976710656) :
    CallsR prog K.rec_Get #[.slice a b.length c] w fun v w' => ListOut changeR T.api_Change w w' v (getS b).1 (getS b).2 := by
  apply rec_Get.sh
  suffices H : ∀ R : Value → World → Prop, (∀ v w', ListOut changeR T.api_Change w w' v (getS b).1 (getS b).2 → R v w') → rec_Get.body a b.length c w R from H _ fun _ _ h => h
  intro R hR
  unfold rec_Get.body
  refine (ends_New_in a b c w hb hn).mono ?_
  rintro _ w₁ ⟨r, rfl, hr1, hrd, he1⟩
  have hrs1 : r < w₁.heap.size := by obtain ⟨_, _, h, _⟩ := hrd.at_; exact (Array.getElem?_eq_some_iff.1 h).1
  refine ⟨_, rfl, new_put (vs := [.pointer (some ⟨r, 0, none⟩)]) rfl fun B1 w₃ hb1 hs3 he3 g3 => ?_⟩
  have hG : ¬ (fun x => w.heap.size ≤ x ∧ x < r) r := by simp
  have hrd3 : RdIn (fun x => w.heap.size ≤ x ∧ x < r) w₃ r (some b) := ReaderIn.updG hrd he3 (fun h => h) (fun _ _ h => h)
  have e3 : Ext w w₃ := he1.trans he3
  refine ⟨_, cell_of g3 rfl, (rdTake (k := 1) (by decide) hG hrd3).mono ?_⟩
  rintro _ w₄ ⟨hu4, rfl, hr4⟩
  have e4 : Ext w w₄ := e3.beyond hu4 fun x hx => by omega
  have hs4 := hu4.size
  have g4 := hu4.get g3 (by omega)
  have a4 := takeS_lt 1 (some b)
  refine ⟨_, _, rfl, br_ne (fun hne => ?_) fun he => br_eq (fun h0 => ?_) fun h0 => ?_⟩
  · have hA : takeS 1 (some b) = (0, 4, none) := takeS_err (by omega)
    have hg : getS b = ([], 4) := by unfold getS; rw [hA]; rfl
    rw [hg] at hR
    rw [hA]
    exact hR _ _ (ListOut.none rfl e4)
  · have hg : getS b = ([], 5) := by unfold getS; rw [if_neg (by omega), if_pos (by omega)]
    rw [hg] at hR
    exact hR _ _ (ListOut.none (x := 5) rfl e4)
  have hget := getS_take (b := b) (by omega) (by omega)
  generalize takeS 1 (some b) = A at *
  refine ⟨fun a1 l1 c1 x u => ∃ (i : Nat) (s : St) (acc : List Change), x = i ∧ i ≤ A.1 ∧ l1 = acc.length ∧ acc.length = i ∧ ListAt changeR NoB w₃.heap.size u a1 c1 T.api_Change acc ∧ RdIn (fun x => w.heap.size ≤ x ∧ x < r) u r s ∧ Ext w u ∧ w₃.heap.size ≤ u.heap.size ∧ u.heap[B1]? = some (.cells [Value.pointer (some ⟨r, 0, none⟩)].toArray T.rec_reader (0, 0)) ∧ getS b = goS (A.1 - i) s acc,
    fun _ _ _ x _ => ((A.1 : Int) - x).toNat, ⟨0, _, [], rfl, by omega, rfl, rfl, ListAt.nil _ _, hr4, e4, hu4.size, g4, hget⟩, ?_⟩
  rintro a1 l1 c1 x u ⟨i, s, acc, rfl, hi, rfl, hacc, hl, hrd, heu, hsu, gu, hgo⟩
  refine br_dec (fun hlt => ?_) fun hge => ?_
  · have hi' : i < A.1 := by omega
    rw [goS_step hi'] at hgo
    refine ⟨_, cells_all gu, (rec_reader_one_spec hG (fun x hx => by omega) (by omega) hrd).mono ?_⟩
    rintro _ w₆ ⟨hu6, hr6, k, a2, n2, c2, b2, rfl, hok⟩
    have hs6 := hu6.size
    refine ⟨_, _, _, _, _, _, _, _, _, rfl, new_put (vs := changeVs k a2 n2 c2 b2) rfl fun B2 w₈ hb2 hs8 he8 g8 => ?_⟩
    have e6 : Ext w w₆ := heu.beyond hu6 fun x hx => by omega
    have hl6 : ListAt changeR NoB w₃.heap.size w₆ a1 c1 T.api_Change acc := hl.upd hu6 fun x hx => ⟨by omega, fun h => h⟩
    have g6 := hu6.get gu (by omega)
    refine br_ne (fun hne => ?_) fun he6 => ?_
    · rw [if_pos (by omega)] at hgo
      rw [hgo] at hR
      exact hR _ _ (ListOut.none rfl (e6.trans he8))
    · rw [if_neg (by omega)] at hgo
      obtain ⟨rfl, rfl, rfl, hc2, hby, hf⟩ := hok (by omega)
      refine ⟨_, _, _, _, _, _, _, _, cells_all g8, fun B3 w₉ hn9 => ?_⟩
      have he9 := hn9.upd
      have hs9 := hn9.size
      have hl9 := (hl6.ext he8).ext he9
      refine ListAt.push (r := changeR) (H := fun b => u.heap.size ≤ b ∧ b < w₆.heap.size) hl9 (changeR_intro hc2 ((hby.ext he8).ext he9) fun _ p hp => hf p hp) (fun b hb => ⟨.inl (by omega), by omega, fun h => ?_⟩) hn9 rfl rfl (by omega) (by omega) (by omega) fun a' c' w₁₀ hu10 hl10 => ?_
      · have := hl.lt h
        omega
      · have e10 : Ext w w₁₀ := ((e6.trans he8).trans he9).beyond hu10 fun x hx => by omega
        have hs10 := hu10.size
        have ew : IntKind.u64.wrap ((i : Int) + 1) = ((i + 1 : Nat) : Int) := wu64 (by omega) (by omega)
        simp only [ew]
        refine ⟨⟨i + 1, _, _, rfl, hi', rfl, by simp [hacc], hl10, (((hr6.ext he8).ext he9).upd hu10 (by omega) fun x hx => by omega), e10, by omega, hu10.get (Ext.get he9 (Ext.get he8 g6)) (by omega), hgo⟩, meas hi'⟩
  · have hin : i = A.1 := by omega
    subst hin
    rw [Nat.sub_self] at hgo
    refine ⟨_, cell_of gu rfl, (rdLeft hrd).mono ?_⟩
    rintro _ _ ⟨rfl, rfl⟩
    refine ⟨_, rfl, br_dec (fun hl0 => ?_) fun hl0 => ?_⟩
    · have hg : getS b = ([], 5) := by rw [hgo]; unfold goS; rw [if_pos (by omega)]
      rw [hg] at hR
      exact hR _ _ (ListOut.none (x := 5) rfl heu)
    · have hg : getS b = (acc, 0) := by rw [hgo]; unfold goS; rw [if_neg (by omega)]
      rw [hg] at hR
      exact hR _ _ ⟨a1, c1, rfl, hl.weak (by omega) (fun _ h => h.elim), heu⟩
/-- the reader of the reference stands in a block; what it reads is a copy -/
theorem carrackref11_Get_spec {w : World} {a : Option Addr} {b : List UInt8} {c : Nat} (hb : BytesAt w a b) (hn : b.length ≤ 1000000000000) :
    CallsR prog K.carrackref11_Get #[.slice a b.length c] w fun v w' => ListOut changeR T.api_Change w w' v (getS b).1 (getS b).2 := by
  apply carrackref11_Get.sh
  suffices H : ∀ R : Value → World → Prop, (∀ v w', ListOut changeR T.api_Change w w' v (getS b).1 (getS b).2 → R v w') → carrackref11_Get.body a b.length c w R from H _ fun _ _ h => h
  intro R hR
  unfold carrackref11_Get.body
  refine append_copy hb (by omega) fun a1 c1 w₁ he1 hb1 hc1 hf1 hnil B1 w₂ hn2 => ?_
  have hs2 := hn2.size
  have hB1 : B1 = w₁.heap.size := hn2.num
  have hs1 := he1.size
  have e2 : Ext w w₂ := he1.trans hn2.upd
  have hG : ¬ (fun x => w.heap.size ≤ x ∧ x < B1) B1 := by simp
  have hrd2 : RRdIn (fun x => w.heap.size ≤ x ∧ x < B1) w₂ B1 (some b) := ⟨⟨a1, c1, hn2.get, hb1.ext hn2.upd, hc1, fun p hp => ⟨hf1 p hp, by
    by_cases hl0 : b = []
    · rw [hnil hl0] at hp; cases hp
    · obtain ⟨b', o, hab, hlt⟩ := RowAt.blk hb1 (by simpa using hl0)
      rw [hab] at hp; cases hp; rw [hB1]; exact hlt⟩⟩, hn⟩
  refine (rrdTake (k := 1) (by decide) hG hrd2).mono ?_
  rintro _ w₄ ⟨hu4, rfl, hr4⟩
  have e4 : Ext w w₄ := e2.beyond hu4 fun x hx => by omega
  have hs4 := hu4.size
  have a4 := takeS_lt 1 (some b)
  refine ⟨_, _, rfl, br_ne (fun hne => ?_) fun he => br_eq (fun h0 => ?_) fun h0 => ?_⟩
  · have hA : takeS 1 (some b) = (0, 4, none) := takeS_err (by omega)
    have hg : getS b = ([], 4) := by unfold getS; rw [hA]; rfl
    rw [hg] at hR
    rw [hA]
    exact hR _ _ (ListOut.none rfl e4)
  · have hg : getS b = ([], 5) := by unfold getS; rw [if_neg (by omega), if_pos (by omega)]
    rw [hg] at hR
    exact hR _ _ (ListOut.none (x := 5) rfl e4)
  have hget := getS_take (b := b) (by omega) (by omega)
  generalize takeS 1 (some b) = A at *
  have hsB : B1 < w₄.heap.size := by omega
  refine ⟨fun a1 l1 c1 x u => ∃ (i : Nat) (s : St) (acc : List Change), x = i ∧ i ≤ A.1 ∧ l1 = acc.length ∧ acc.length = i ∧ ListAt changeR NoB w₄.heap.size u a1 c1 T.api_Change acc ∧ RRdIn (fun x => w.heap.size ≤ x ∧ x < B1) u B1 s ∧ Ext w u ∧ w₄.heap.size ≤ u.heap.size ∧ getS b = goS (A.1 - i) s acc,
    fun _ _ _ x _ => ((A.1 : Int) - x).toNat, ⟨0, _, [], rfl, by omega, rfl, rfl, ListAt.nil _ _, hr4, e4, Nat.le_refl _, hget⟩, ?_⟩
  rintro a1 l1 c1 x u ⟨i, s, acc, rfl, hi, rfl, hacc, hl, hrd, heu, hsu, hgo⟩
  refine br_dec (fun hlt => ?_) fun hge => ?_
  · have hi' : i < A.1 := by omega
    have ew : IntKind.u64.wrap ((i : Int) + 1) = ((i + 1 : Nat) : Int) := wu64 (by omega) (by omega)
    simp only [ew]
    rw [goS_step hi'] at hgo
    refine (rrdTake (k := 1) (by decide) hG hrd).mono ?_
    rintro _ w₅ ⟨hu5, rfl, hr5⟩
    have e5 : Ext w w₅ := heu.beyond hu5 fun x hx => by omega
    have hl5 : ListAt changeR NoB w₄.heap.size w₅ a1 c1 T.api_Change acc := hl.upd hu5 fun x hx => ⟨by omega, fun h => h⟩
    have hs5 := hu5.size
    have a5 := takeS_lt 1 s
    have hone : oneS s = oneS s := rfl
    conv at hone => rhs; unfold oneS
    refine ⟨_, _, rfl, br_ne (fun hne => ?_) fun he => ?_⟩
    · have hA : takeS 1 s = (0, 4, none) := takeS_err (by omega)
      rw [hA] at hone
      replace hone : oneS s = (Change.zero, 4, none) := hone
      rw [hone, if_pos (by simp)] at hgo
      rw [hgo] at hR
      rw [hA]
      exact hR _ _ (ListOut.none rfl e5)
    simp only [] at hone
    rw [if_neg (by omega)] at hone
    refine br_dec (fun h1 => ?_) fun h1 => ?_
    · rw [if_pos (by omega)] at hone
      rw [hone, if_pos (by simp)] at hgo
      rw [hgo] at hR
      exact hR _ _ (ListOut.none (x := 5) rfl e5)
    rw [if_neg (by omega)] at hone
    refine (carrackref06_GetKey_spec hG (fun x hx => by omega) (by omega) hr5).mono ?_
    rintro _ w₆ ⟨rfl, hu6, hr6⟩
    have e6 : Ext w w₆ := e5.beyond hu6 fun x hx => by omega
    have hl6 : ListAt changeR NoB w₄.heap.size w₆ a1 c1 T.api_Change acc := hl5.upd hu6 fun x hx => ⟨by omega, fun h => h⟩
    have hs6 := hu6.size
    refine ⟨_, _, _, _, _, rfl, new_put (vs := Key.vals (keyS (takeS 1 s).2.2).1) rfl fun B2 w₈ hb2 hs8 he8 g8 => ?_⟩
    have e8 := e6.trans he8
    have hl8 := hl6.ext he8
    have hr8 := hr6.ext he8
    refine br_ne (fun hne => ?_) fun he6 => ?_
    · rw [if_pos (by omega)] at hone
      rw [hone, if_pos (by show (keyS (takeS 1 s).2.2).2.1 ≠ 0; omega)] at hgo
      rw [hgo] at hR
      exact hR _ _ (ListOut.none rfl e8)
    rw [if_neg (by omega)] at hone
    refine br_eq (fun h0 => ?_) fun h0 => ?_
    · rw [if_pos (by omega)] at hone
      rw [hone, if_neg (by simp)] at hgo
      refine ⟨_, _, _, _, key_cells g8, fun B3 w₉ hn9 => ?_⟩
      have he9 := hn9.upd
      have hs9 := hn9.size
      refine ListAt.push (r := changeR) (H := NoB) (hl8.ext he9) (x := ⟨(keyS (takeS 1 s).2.2).1, [], true⟩) (changeR_intro (a := none) (c := 0) (x := ⟨(keyS (takeS 1 s).2.2).1, [], true⟩) (Nat.le_refl _) (BytesAt.nil _ _) fun h => absurd rfl h) (fun b hb => hb.elim) hn9 rfl rfl (by omega) (by omega) (by omega) fun a' c' w₁₀ hu10 hl10 => ?_
      have e10 : Ext w w₁₀ := (e8.trans he9).beyond hu10 fun x hx => by omega
      have hs10 := hu10.size
      exact ⟨⟨i + 1, _, _, rfl, hi', rfl, by simp [hacc], hl10, ((hr8.ext he9).upd hu10 (by omega) fun x hx => by omega), e10, by omega, hgo⟩, meas hi'⟩
    · rw [if_neg (by omega)] at hone
      refine (rrdRow hG hr8).mono ?_
      rintro _ w₁₁ ⟨hu11, ⟨a4, c4, rfl, hby, hc4, hf4⟩, hr11⟩
      have e11 : Ext w w₁₁ := e8.beyond hu11 fun x hx => by omega
      have hl11 : ListAt changeR NoB w₄.heap.size w₁₁ a1 c1 T.api_Change acc := hl8.upd hu11 fun x hx => ⟨by omega, fun h => h⟩
      have hs11 := hu11.size
      have g11 := hu11.get g8 (by omega)
      refine ⟨_, _, _, _, rfl, br_ne (fun hne => ?_) fun he11 => br_eq (fun hl0 => ?_) fun hl0 => ?_⟩
      · have hrow := rowS_err (s := (keyS (takeS 1 s).2.2).2.2) (by omega)
        rw [if_pos (by omega)] at hone
        rw [hone, if_pos (by simp)] at hgo
        rw [hgo] at hR
        rw [hrow]
        exact hR _ _ (ListOut.none (x := 4) rfl e11)
      · rw [if_neg (by omega), if_pos (by omega)] at hone
        rw [hone, if_pos (by simp)] at hgo
        rw [hgo] at hR
        exact hR _ _ (ListOut.none (x := 5) rfl e11)
      · rw [if_neg (by omega), if_neg (by omega)] at hone
        rw [hone, if_neg (by simp)] at hgo
        refine ⟨_, _, _, _, key_cells g11, fun B3 w₁₂ hn12 => ?_⟩
        have he12 := hn12.upd
        have hs12 := hn12.size
        refine ListAt.push (r := changeR) (H := fun b => w₈.heap.size ≤ b ∧ b < w₁₁.heap.size) (hl11.ext he12) (x := ⟨(keyS (takeS 1 s).2.2).1, (rowS (keyS (takeS 1 s).2.2).2.2).1, false⟩) (changeR_intro (x := ⟨(keyS (takeS 1 s).2.2).1, (rowS (keyS (takeS 1 s).2.2).2.2).1, false⟩) hc4 (hby.ext he12) fun _ p hp => hf4 p hp) (fun b hb => ⟨.inl (by omega), by omega, fun h => ?_⟩) hn12 rfl rfl (by omega) (by omega) (by omega) fun a' c' w₁₃ hu13 hl13 => ?_
        · have := hl.lt h
          omega
        · have e13 : Ext w w₁₃ := (e11.trans he12).beyond hu13 fun x hx => by omega
          have hs13 := hu13.size
          exact ⟨⟨i + 1, _, _, rfl, hi', rfl, by simp [hacc], hl13, ((hr11.ext he12).upd hu13 (by omega) fun x hx => by omega), e13, by omega, hgo⟩, meas hi'⟩
  · have hin : i = A.1 := by omega
    subst hin
    rw [Nat.sub_self] at hgo
    refine (rrdLeft hrd).mono ?_
    rintro _ _ ⟨rfl, rfl⟩
    refine ⟨_, rfl, br_dec (fun hl0 => ?_) fun hl0 => ?_⟩
    · have hg : getS b = ([], 5) := by rw [hgo]; unfold goS; rw [if_pos (by omega)]
      rw [hg] at hR
      exact hR _ _ (ListOut.none (x := 5) rfl heu)
    · have hg : getS b = (acc, 0) := by rw [hgo]; unfold goS; rw [if_neg (by omega)]
      rw [hg] at hR
      exact hR _ _ ⟨a1, c1, rfl, hl.weak (by omega) (fun _ h => h.elim), heu⟩
theorem take_all8 {b : List UInt8} (h : b.length = 8) : takeS 8 (some b) = (fromLE b, 0, some []) := by
  unfold takeS
  simp only []
  rw [if_neg (by omega), List.take_of_length_le (by omega), List.drop_of_length_le (by omega)]
theorem rec_GetDrop_spec {w : World} {a : Option Addr} {b : List UInt8} {c : Nat} (hb : BytesAt w a b) (hn : b.length ≤ 281474976710656) :
    CallsR prog K.rec_GetDrop #[.slice a b.length c] w fun v w' => v = .tuple #[.int .u64 ((dropS b).1 : Nat), .int .i64 ((dropS b).2 : Nat)] ∧ Ext w w' := by
  apply rec_GetDrop.sh
  suffices H : ∀ R : Value → World → Prop, (∀ v w', v = .tuple #[.int .u64 ((dropS b).1 : Nat), .int .i64 ((dropS b).2 : Nat)] ∧ Ext w w' → R v w') → rec_GetDrop.body a b.length c w R from H _ fun _ _ h => h
  intro R hR
  unfold rec_GetDrop.body
  refine (ends_New_in a b c w hb hn).mono ?_
  rintro _ w₁ ⟨r, rfl, hr1, hrd, he1⟩
  have hG : ¬ (fun x => w.heap.size ≤ x ∧ x < r) r := by simp
  refine ⟨_, rfl, (rdTake (s := some b) (k := 8) (by decide) hG hrd).mono ?_⟩
  rintro _ w₂ ⟨hu2, rfl, _⟩
  have e2 : Ext w w₂ := he1.beyond hu2 fun x hx => by omega
  refine ⟨_, _, rfl, br_ne (fun hne => ?_) fun he => br_ne (fun h8 => ?_) fun h8 => ?_⟩
  · have hg : dropS b = (0, 5) := by
      unfold dropS
      rw [if_pos]
      intro h
      rw [take_all8 h] at hne
      exact hne rfl
    rw [hg] at hR
    exact hR _ _ ⟨rfl, e2⟩
  · have hg : dropS b = (0, 5) := by unfold dropS; rw [if_pos (by omega)]
    rw [hg] at hR
    exact hR _ _ ⟨rfl, e2⟩
  · have h8' : b.length = 8 := by omega
    rw [take_all8 h8']
    refine br_eq (fun h0 => ?_) fun h0 => ?_
    · have hg : dropS b = (0, 5) := by unfold dropS; rw [if_neg (by omega), if_pos (by have : ((fromLE b : Nat) : Int) = 0 := h0; omega)]
      rw [hg] at hR
      exact hR _ _ ⟨rfl, e2⟩
    · have hg : dropS b = (fromLE b, 0) := by unfold dropS; rw [if_neg (by omega), if_neg (by have : ¬ ((fromLE b : Nat) : Int) = 0 := h0; omega)]
      rw [hg] at hR
      exact hR _ _ ⟨rfl, e2⟩
theorem carrackref11_GetDrop_spec {w : World} {a : Option Addr} {b : List UInt8} {c : Nat} (hb : BytesAt w a b) (hc : b.length ≤ c) :
    CallsR prog K.carrackref11_GetDrop #[.slice a b.length c] w fun v w' => v = .tuple #[.int .u64 ((dropS b).1 : Nat), .int .i64 ((dropS b).2 : Nat)] ∧ Ext w w' := by
  apply carrackref11_GetDrop.sh
  suffices H : ∀ R : Value → World → Prop, (∀ v w', v = .tuple #[.int .u64 ((dropS b).1 : Nat), .int .i64 ((dropS b).2 : Nat)] ∧ Ext w w' → R v w') → carrackref11_GetDrop.body a b.length c w R from H _ fun _ _ h => h
  intro R hR
  unfold carrackref11_GetDrop.body
  refine br_ne (fun h8 => ?_) fun h8 => ?_
  · have hg : dropS b = (0, 5) := by unfold dropS; rw [if_pos (by omega)]
    rw [hg] at hR
    exact hR _ _ ⟨rfl, Upd.refl _ _⟩
  · have h8' : b.length = 8 := by omega
    intro B1 w₁ hn1
    have hB1 : B1 = w.heap.size := hn1.num
    have hG : ¬ (fun x => x ≠ B1) B1 := by simp
    have hrd : RRdIn (fun x => x ≠ B1) w₁ B1 (some b) := ⟨⟨a, c, hn1.get, hb.ext hn1.upd, hc, fun p hp => by
      obtain ⟨b', o, hab, hlt⟩ := RowAt.blk hb (by intro h; have := congrArg List.length h; simp at this; rw [this] at h8'; simp at h8')
      rw [hab] at hp; cases hp
      show b' ≠ B1
      omega⟩, by omega⟩
    refine (rrdTake (G := fun x => x ≠ B1) (k := 8) (by decide) hG hrd).mono ?_
    rintro _ w₂ ⟨hu2, rfl, _⟩
    have e2 : Ext w w₂ := (hn1.upd).beyond hu2 fun x hx => by omega
    rw [take_all8 h8']
    refine ⟨_, _, rfl, br_eq (fun h0 => ?_) fun h0 => ?_⟩
    · have hg : dropS b = (0, 5) := by unfold dropS; rw [if_neg (by omega), if_pos (by have : ((fromLE b : Nat) : Int) = 0 := h0; omega)]
      rw [hg] at hR
      exact hR _ _ ⟨rfl, e2⟩
    · have hg : dropS b = (fromLE b, 0) := by unfold dropS; rw [if_neg (by omega), if_neg (by have : ¬ ((fromLE b : Nat) : Int) = 0 := h0; omega)]
      rw [hg] at hR
      exact hR _ _ ⟨rfl, e2⟩
end Go.Den
end
section
set_option linter.unusedVariables false
set_option linter.unusedSimpArgs false
namespace Go.Den
def bit (x : UInt8) (k : Nat) : Bool := x.toBitVec.getLsbD k
theorem bit_nat (x : UInt8) (k : Nat) : bit x k = x.toNat.testBit k := rfl
theorem bit_div (x : UInt8) (k : Nat) : (x.toNat / 2 ^ k % 2 == 0) = !bit x k := by
  rw [bit_nat, Nat.testBit_eq_decide_div_mod_eq]
  have : x.toNat / 2 ^ k % 2 = 0 ∨ x.toNat / 2 ^ k % 2 = 1 := by omega
  rcases this with h | h <;> rw [h] <;> rfl
theorem bit_ext {x y : UInt8} (h : ∀ k, k < 8 → bit x k = bit y k) : x = y := by
  have : x.toBitVec = y.toBitVec := BitVec.eq_of_getLsbD_eq fun k hk => h k hk
  exact UInt8.toBitVec_inj.1 this
theorem zeros8_bits (x : UInt8) : zeros8 x = ((List.range 8).filter fun k => !bit x k).length := by
  unfold zeros8
  congr 2
  funext k
  exact bit_div x k
theorem filter_le {α : Type} {p q : α → Bool} : ∀ {l : List α}, (∀ a ∈ l, p a = true → q a = true) → (l.filter p).length ≤ (l.filter q).length ∧ ((l.filter p).length = (l.filter q).length → ∀ a ∈ l, q a = true → p a = true)
  | [], _ => by simp
  | a :: l, h => by
    obtain ⟨h1, h2⟩ := filter_le (l := l) fun b hb => h b (by simp [hb])
    have ha := h a (by simp)
    simp only [List.filter_cons]
    cases hp : p a with
    | true =>
      have hq := ha hp
      simp only [hq, if_true, List.length_cons]
      refine ⟨by omega, fun he b hb hqb => ?_⟩
      rcases List.mem_cons.1 hb with rfl | hb
      · exact hp
      · exact h2 (by omega) b hb hqb
    | false =>
      cases hq : q a with
      | true =>
        simp only [Bool.false_eq_true, if_false, if_true, List.length_cons]
        exact ⟨by omega, fun he => by omega⟩
      | false =>
        simp only [Bool.false_eq_true, if_false]
        refine ⟨h1, fun he b hb hqb => ?_⟩
        rcases List.mem_cons.1 hb with rfl | hb
        · rw [hq] at hqb; cases hqb
        · exact h2 he b hb hqb
/-- y's bits are bits of x -/
def sub8 (y x : UInt8) : Prop := ∀ k, bit y k = true → bit x k = true
theorem sub8_zeros {y x : UInt8} (h : sub8 y x) : zeros8 x ≤ zeros8 y ∧ (zeros8 x = zeros8 y → x = y) := by
  rw [zeros8_bits, zeros8_bits]
  obtain ⟨h1, h2⟩ := filter_le (p := fun k => !bit x k) (q := fun k => !bit y k) (l := List.range 8) (fun k _ hk => by
    cases hy : bit y k with
    | false => rfl
    | true => rw [h k hy] at hk; cases hk)
  refine ⟨h1, fun he => bit_ext fun k hk => ?_⟩
  have := h2 he k (by simpa using hk)
  cases hy : bit y k with
  | true => exact h k hy
  | false =>
    rw [hy] at this
    simpa using this
theorem sub8_le {y x : UInt8} (h : sub8 y x) : y.toNat ≤ x.toNat := by
  have : y.toNat &&& x.toNat = y.toNat := by
    apply Nat.eq_of_testBit_eq
    intro k
    rw [Nat.testBit_and]
    have := h k
    rw [bit_nat, bit_nat] at this
    cases hy : y.toNat.testBit k with
    | false => rfl
    | true => rw [this hy]; rfl
  rw [← this]
  exact Nat.and_le_right
theorem sub8_refl (x : UInt8) : sub8 x x := fun _ h => h
theorem sub8_trans {x y z : UInt8} (h : sub8 x y) (k : sub8 y z) : sub8 x z := fun i hi => k i (h i hi)
/-- bit by bit, of lists -/
def SubL (Q X : List UInt8) : Prop := Q.length = X.length ∧ ∀ i, i < Q.length → sub8 (Q.getD i 0) (X.getD i 0)
theorem SubL.refl (Q : List UInt8) : SubL Q Q := ⟨rfl, fun _ _ => sub8_refl _⟩
theorem SubL.trans {A B C : List UInt8} (h : SubL A B) (k : SubL B C) : SubL A C := ⟨h.1.trans k.1, fun i hi => sub8_trans (h.2 i hi) (k.2 i (by rw [← h.1]; exact hi))⟩
theorem SubL.cons {y x : UInt8} {ys xs : List UInt8} (h : SubL (y :: ys) (x :: xs)) : sub8 y x ∧ SubL ys xs := by
  obtain ⟨hl, hb⟩ := h
  refine ⟨hb 0 (by simp), by simpa using hl, fun i hi => ?_⟩
  exact hb (i + 1) (by simpa using hi)
theorem SubL.take {A B : List UInt8} (h : SubL A B) (n : Nat) : SubL (A.take n) (B.take n) := by
  refine ⟨by simp [h.1], fun i hi => ?_⟩
  have hi' : i < A.length ∧ i < n := by simp at hi; omega
  have hb := h.2 i hi'.1
  have hl := h.1
  simpa [List.getD, List.getElem?_take, hi'.2] using hb
theorem SubL.drop {A B : List UInt8} (h : SubL A B) (n : Nat) : SubL (A.drop n) (B.drop n) := by
  refine ⟨by simp [h.1], fun i hi => ?_⟩
  have hb := h.2 (n + i) (by simp at hi; omega)
  simpa [List.getD] using hb
theorem SubL.nts : ∀ {Q X : List UInt8}, SubL Q X → noughts X ≤ noughts Q ∧ (noughts X = noughts Q → X = Q)
  | [], [], _ => ⟨Nat.le_refl _, fun _ => rfl⟩
  | [], _ :: _, h => by have := h.1; simp at this
  | _ :: _, [], h => by have := h.1; simp at this
  | y :: ys, x :: xs, h => by
    obtain ⟨h1, h2⟩ := h.cons
    obtain ⟨a1, a2⟩ := sub8_zeros h1
    obtain ⟨b1, b2⟩ := SubL.nts h2
    have e1 : noughts (x :: xs) = zeros8 x + noughts xs := by simp [Go.Den.noughts]
    have e2 : noughts (y :: ys) = zeros8 y + noughts ys := by simp [Go.Den.noughts]
    rw [e1, e2]
    refine ⟨by omega, fun he => ?_⟩
    rw [a2 (by omega), b2 (by omega)]
theorem SubL.fle : ∀ {Q X : List UInt8}, SubL Q X → fromLE Q ≤ fromLE X
  | [], [], _ => Nat.le_refl _
  | [], _ :: _, h => by have := h.1; simp at this
  | _ :: _, [], h => by have := h.1; simp at this
  | y :: ys, x :: xs, h => by
    obtain ⟨h1, h2⟩ := h.cons
    have a := sub8_le h1
    have b := SubL.fle h2
    simp only [Go.Den.fromLE]
    omega
theorem SubL.antisymm {A B : List UInt8} (h : SubL A B) (k : SubL B A) : A = B := by
  have h1 := h.nts
  have h2 := k.nts
  exact (h1.2 (by omega)).symm
/-- bytes that tell their noughts -/
def Sound (Q : List UInt8) : Prop := 2 ≤ Q.length ∧ fromLE (Q.take 2) = noughts (Q.drop 2)
/-- bytes that have but bits too many -/
def Safe (X : List UInt8) : Prop := ∃ Q, Sound Q ∧ SubL Q X
theorem berger {Q X : List UInt8} (h : SubL Q X) (hq : Sound Q) (hx : Sound X) : X = Q := by
  have h1 := (h.drop 2).nts
  have h2 := (h.take 2).fle
  have e1 := hq.2
  have e2 := hx.2
  have hd : X.drop 2 = Q.drop 2 := h1.2 (by omega)
  have hf : fromLE (X.take 2) = fromLE (Q.take 2) := by rw [e1, e2, hd]
  have hl : (X.take 2).length = (Q.take 2).length := by simp [h.1]
  have ht : X.take 2 = Q.take 2 := by
    have a := leB_fromLE (X.take 2)
    have b := leB_fromLE (Q.take 2)
    rw [hf, hl, b] at a
    exact a.symm
  rw [← List.take_append_drop 2 X, ht, hd, List.take_append_drop]
theorem Safe.same {X Y : List UInt8} (h : Safe X) (k : SubL X Y) (hy : Sound Y) : Y = X := by
  obtain ⟨Q, hq, hs⟩ := h
  have e := berger (hs.trans k) hq hy
  subst e
  exact SubL.antisymm hs k
/-! ### What a hit leaves -/
end Go.Den
end
section
set_option linter.unusedVariables false
set_option linter.unusedSimpArgs false
namespace Go.Den
end Go.Den
end
section
set_option linter.unusedVariables false
set_option linter.unusedSimpArgs false
namespace Go.Den
/-! ### Deeds -/
structure Deed (c c' : Chip) (i e : Nat) : Prop where
  geo : c.SameGeo c'
  ok : c'.Ok
  blk : ∀ j, j ≠ i → c'.blk j = c.blk j
  bad : ∀ j, j ≠ i → c'.isBad j = c.isBad j
  cases : (e = 0 ∧ c'.dead = c.dead ∧ c'.bad = c.bad) ∨ (e = 9 ∧ c'.dead = c.dead ∧ c'.isBad i = true) ∨ (e = 10 ∧ c'.dead = true ∧ c'.bad = c.bad)
  calm : (∀ t ∈ c.hits, t.fails = false) → e ≠ 9 ∧ (∀ t ∈ c'.hits, t.fails = false) ∧ c'.bad = c.bad
  quiet : c.hits = [] → e = 0 ∧ c'.hits = []
theorem getD_set_ne {α : Type} {l : List α} {i j : Nat} {x d : α} (h : j ≠ i) : (l.set i x).getD j d = l.getD j d := by
  simp [List.getD, List.getElem?_set_ne (Ne.symm h)]
theorem getD_set_eq {α : Type} {l : List α} {i : Nat} {x d : α} (h : i < l.length) : (l.set i x).getD i d = x := by
  simp [List.getD, h]
/-! ### Heads, views, the invariant -/
def hd (c : Chip) (i : Nat) : Head × Nat := getHead (c.page i 0)
def isHd (c : Chip) (i : Nat) : Prop := (hd c i).2 = 0
def view (c : Chip) (i : Nat) : Blk := if (hd c i).2 = 0 then ⟨2, (hd c i).1⟩ else if isBlank (c.blk i) then ⟨0, Head.none⟩ else ⟨1, Head.none⟩
theorem lookAt_view (c : Chip) (i : Nat) (old : Blk) : lookAt c i old = if c.dead then old else view c i := rfl
theorem view_what (c : Chip) (i : Nat) : (view c i).what = 2 ↔ isHd c i := by
  unfold view isHd
  split
  · rename_i h; simp [h]
  · rename_i h; split <;> simp [h]
structure CI (c : Chip) : Prop where
  ok : c.Ok
  safe : ∀ i, i < c.nb → Safe (c.page i 0)
  uniq : ∀ i j, i < c.nb → j < c.nb → i ≠ j → isHd c i → isHd c j → (hd c i).1.seq ≠ (hd c j).1.seq
structure Inv (P : Pool) (c : Chip) : Prop where
  ci : CI c
  len : P.blocks.length = c.nb
  known : c.dead = false → ∀ i, i < c.nb → P.blk i = view c i
  last : ∀ i, i < c.nb → isHd c i → (hd c i).1.seq ≤ P.last
theorem setBlk_blk {P : Pool} {i j : Nat} {b : Blk} (hi : i < P.blocks.length) : (P.setBlk i b).blk j = if j = i then b else P.blk j := by
  show (P.blocks.set i b).getD j Blk.zero = _
  split
  · rename_i e; subst e; exact getD_set_eq hi
  · rename_i e; exact getD_set_ne e
end Go.Den
end
section
set_option linter.unusedVariables false
set_option linter.unusedSimpArgs false
namespace Go.Den
theorem isBlank_eq {l : List UInt8} (h : isBlank l = true) : l = List.replicate l.length 255 := by
  refine List.eq_replicate_iff.2 ⟨rfl, fun b hb => ?_⟩
  simp only [isBlank, List.all_eq_true, beq_iff_eq] at h
  exact h b hb
theorem Deed.trans {c c1 c2 : Chip} {i e : Nat} (h : Deed c c1 i 0) (k : Deed c1 c2 i e) : Deed c c2 i e := by
  obtain ⟨hd1, hb1⟩ : c1.dead = c.dead ∧ c1.bad = c.bad := by
    rcases h.cases with ⟨_, a, b⟩ | ⟨a, _⟩ | ⟨a, _⟩
    · exact ⟨a, b⟩
    · cases a
    · cases a
  refine ⟨h.geo.trans k.geo, k.ok, fun j hj => (k.blk j hj).trans (h.blk j hj), fun j hj => (k.bad j hj).trans (h.bad j hj), ?_, fun hc => ?_, fun hq => k.quiet (h.quiet hq).2⟩
  · rcases k.cases with ⟨a, b, d⟩ | ⟨a, b, d⟩ | ⟨a, b, d⟩
    · exact .inl ⟨a, by rw [b, hd1], by rw [d, hb1]⟩
    · exact .inr (.inl ⟨a, by rw [b, hd1], d⟩)
    · exact .inr (.inr ⟨a, b, by rw [d, hb1]⟩)
  · have h1 := h.calm hc
    have k1 := k.calm h1.2.1
    exact ⟨k1.1, k1.2.1, by rw [k1.2.2, hb1]⟩
end Go.Den
end
section
set_option linter.unusedVariables false
set_option linter.unusedSimpArgs false
namespace Go.Den
theorem Inv.what {P : Pool} {c : Chip} (h : Inv P c) (hd0 : c.dead = false) {i : Nat} (hi : i < c.nb) : (P.blk i).what = 2 ↔ isHd c i := by
  rw [h.known hd0 i hi]; exact view_what c i
end Go.Den
end
section
set_option linter.unusedVariables false
set_option linter.unusedSimpArgs false
namespace Go.Den
/-! ### Rows by rising numbers -/
theorem sorted_ext {α : Type} {f : α → Nat} : ∀ {l m : List α}, l.Pairwise (fun a b => f a < f b) → m.Pairwise (fun a b => f a < f b) → (∀ x, x ∈ l ↔ x ∈ m) → l = m
  | [], [], _, _, _ => rfl
  | [], b :: m, _, _, h => by have := (h b).2 (by simp); simp at this
  | a :: l, [], _, _, h => by have := (h a).1 (by simp); simp at this
  | a :: l, b :: m, hl, hm, h => by
    obtain ⟨l1, l2⟩ := List.pairwise_cons.1 hl
    obtain ⟨m1, m2⟩ := List.pairwise_cons.1 hm
    have hab : a = b := by
      rcases List.mem_cons.1 ((h a).1 (by simp)) with e | ha
      · exact e
      · rcases List.mem_cons.1 ((h b).2 (by simp)) with e | hb
        · exact e.symm
        · have := l1 b hb; have := m1 a ha; omega
    subst hab
    rw [sorted_ext l2 m2 fun x => ?_]
    constructor
    · intro hx
      rcases List.mem_cons.1 ((h x).1 (by simp [hx])) with e | hx'
      · have := l1 x hx; rw [e] at this; omega
      · exact hx'
    · intro hx
      rcases List.mem_cons.1 ((h x).2 (by simp [hx])) with e | hx'
      · have := m1 x hx; rw [e] at this; omega
      · exact hx'
theorem insAt_cons (t y : Taken) (l : List Taken) : insAt t (y :: l) = if y.head.seq ≤ t.head.seq then y :: insAt t l else t :: y :: l := by
  unfold insAt posOf
  rw [List.takeWhile_cons]
  split <;> rename_i h
  · have : y.head.seq ≤ t.head.seq := by simpa using h
    rw [if_pos this]; simp
  · have : ¬ y.head.seq ≤ t.head.seq := by simpa using h
    rw [if_neg this]; simp
theorem insAt_mem (t x : Taken) : ∀ (l : List Taken), x ∈ insAt t l ↔ x = t ∨ x ∈ l
  | [] => by simp [insAt, posOf]
  | y :: l => by
    rw [insAt_cons]
    split
    · simp only [List.mem_cons, insAt_mem t x l]
      constructor
      · rintro (h | h | h)
        · exact .inr (.inl h)
        · exact .inl h
        · exact .inr (.inr h)
      · rintro (h | h | h)
        · exact .inr (.inl h)
        · exact .inl h
        · exact .inr (.inr h)
    · simp
theorem view_pos {c : Chip} {i : Nat} (h : isHd c i) : view c i = ⟨2, (hd c i).1⟩ := if_pos h
/-! ### Taken blocks -/
/-- a block with a head -/
def IsTaken (c : Chip) (n : Nat) (t : Taken) : Prop := t.block < n ∧ isHd c t.block ∧ t.head = (hd c t.block).1 ∧ t.bad = c.isBad t.block
theorem refHead_eq {c : Chip} (h : c.Ok) (hd0 : c.dead = false) {i : Nat} (hi : i < c.nb) : refHead c i = ((hd c i).1, decide ((hd c i).2 = 0)) := by
  have := h.np1
  have ha : c.ask i 0 = 0 := ask_ok (k := 0) hd0 hi (by omega)
  unfold refHead
  rw [if_neg (by omega)]
  rfl
/-! ### Scan -/
end Go.Den
end
section
set_option linter.unusedVariables false
set_option linter.unusedSimpArgs false
namespace Go.Den
end Go.Den
end
section
set_option linter.unusedVariables false
namespace Go.Den
end Go.Den
end
section
set_option linter.unusedVariables false
namespace Go.Den
end Go.Den
end
section
set_option linter.unusedVariables false
set_option linter.unusedSimpArgs false
namespace Go.Den
/-- behind a page all is blank -/
def OpenFrom (c : Chip) (i k : Nat) : Prop := isBlank ((c.blk i).drop (k * c.sz)) = true
theorem OpenFrom.mono {c : Chip} {i k m : Nat} (h : OpenFrom c i k) (hkm : k ≤ m) : OpenFrom c i m := by
  unfold OpenFrom isBlank at *
  obtain ⟨d, rfl⟩ := Nat.exists_eq_add_of_le hkm
  rw [Nat.add_mul, ← List.drop_drop]
  rw [List.all_eq_true] at h ⊢
  exact fun x hx => h x (List.mem_of_mem_drop hx)
theorem OpenFrom.page {c : Chip} (ho : c.Ok) {i k m : Nat} (hi : i < c.nb) (h : OpenFrom c i k) (hkm : k ≤ m) (hm : m < c.np) : c.page i m = List.replicate c.sz 255 := by
  have h' := h.mono hkm
  have hlen := ho.blk_len hi
  have hp := page_in hm
  unfold OpenFrom at h'
  have := isBlank_eq h'
  unfold Chip.page
  rw [this, List.take_replicate, List.length_drop, hlen]
  congr 1
  omega
theorem OpenFrom.blk {c c' : Chip} (hg : c.SameGeo c') {i k : Nat} (h : OpenFrom c i k) (hb : c'.blk i = c.blk i) : OpenFrom c' i k := by
  unfold OpenFrom at *
  rw [hb, hg.2.2.1]; exact h
end Go.Den
end
section
set_option linter.unusedVariables false
set_option linter.unusedSimpArgs false
namespace Go.Den
structure Turn where
  from_ : UInt8
  to : UInt8
  phase : UInt8
  deriving DecidableEq
namespace Turn
def zero : Turn := ⟨0, 0, 0⟩
def body (t : Turn) : List UInt8 := [t.from_, t.to, t.phase]
def vals (t : Turn) : List Value := [bv t.from_, bv t.to, bv t.phase]
def may (t : Turn) : Bool := ((t.from_ == 1 && t.to == 2) || (t.from_ == 2 && t.to == 1)) && (t.phase == 1 || t.phase == 2)
end Turn
/-- what a journal says -/
structure Saying where
  begun : Bool
  done : Bool
  turn : Turn
def Saying.zero : Saying := ⟨false, false, Turn.zero⟩
/-! ### What is said -/
structure Saying.Le (s s' : Saying) : Prop where
  begun : s.begun = true → s'.begun = true ∧ s'.turn = s.turn
  done : s.done = true → s'.done = true
  zero : s.turn.phase = 0 → s'.turn.phase = 0
theorem Saying.Le.refl (s : Saying) : s.Le s := ⟨fun h => ⟨h, rfl⟩, fun h => h, fun h => h⟩
theorem Saying.Le.trans {a b c : Saying} (h : a.Le b) (k : b.Le c) : a.Le c :=
  ⟨fun e => ⟨(k.begun (h.begun e).1).1, ((k.begun (h.begun e).1).2).trans (h.begun e).2⟩, fun e => k.done (h.done e), fun e => k.zero (h.zero e)⟩
end Go.Den
end
section
set_option linter.unusedVariables false
set_option linter.unusedSimpArgs false
namespace Go.Den
/-! ### A writing without hits -/
/-! ### A writing that is cut -/
/-! ### Away without hits -/
end Go.Den
end
section
set_option linter.unusedVariables false
set_option linter.unusedSimpArgs false
set_option maxRecDepth 8000
namespace Go.Den
end Go.Den
end
section
set_option linter.unusedVariables false
set_option linter.unusedSimpArgs false
set_option maxRecDepth 8000
namespace Go.Den
theorem cGeo {F : Nat → Prop} {A : Nat} {w : World} {p : Nat} {c : Chip} (h : CIn F A w p c) :
    CallsR prog K.nand_Chip_Geo #[.pointer (some ⟨p, 0, none⟩)] w fun v w' => v = .agg #[.int .i64 c.nb, .int .i64 c.np, .int .i64 c.sz, .int .i64 c.sp] ∧ Ext w w' := by
  obtain ⟨L, G, hr, _⟩ := h
  exact nand_Geo_spec hr
theorem cReadAt {F : Nat → Prop} {A : Nat} {w : World} {p : Nat} {c : Chip} (h : CIn F A w p c) (block page : Int) :
    CallsR prog K.nand_Chip_Read #[.pointer (some ⟨p, 0, none⟩), .int .i64 block, .int .i64 page] w fun v w' => Ext w w' ∧
      if c.ask block page = 0 then ∃ a cp, v = .tuple #[.slice a c.sz cp, .int .i64 0] ∧ BytesAt w' a (c.page block.toNat page.toNat) ∧ c.sz ≤ cp ∧ Fresh w a
      else v = .tuple #[.slice none 0 0, .int .i64 (c.ask block page : Nat)] := by
  obtain ⟨L, G, hr, _⟩ := h
  exact nand_Read_spec hr block page
/-- a page that is there -/
theorem cPage {F : Nat → Prop} {A : Nat} {w : World} {p : Nat} {c : Chip} (h : CIn F A w p c) (hd0 : c.dead = false) {i k : Nat} (hi : i < c.nb) (hk : k < c.np) :
    CallsR prog K.nand_Chip_Read #[.pointer (some ⟨p, 0, none⟩), .int .i64 i, .int .i64 k] w fun v w' => Ext w w' ∧ ∃ a cp, v = .tuple #[.slice a (c.page i k).length cp, .int .i64 0] ∧ BytesAt w' a (c.page i k) ∧ (c.page i k).length ≤ cp ∧ Fresh w a := by
  refine (cReadAt h i k).mono ?_
  rintro v w' ⟨he, hv⟩
  rw [if_pos (ask_ok hd0 hi hk)] at hv
  obtain ⟨a, cp, rfl, hb, hc, hf⟩ := hv
  simp only [Int.toNat_natCast] at hb
  rw [← page_len h.ok hi hk]
  exact ⟨he, a, cp, rfl, hb, by rw [page_len h.ok hi hk]; exact hc, hf⟩
end Go.Den
end
section
set_option linter.unusedVariables false
set_option linter.unusedSimpArgs false
set_option maxRecDepth 8000
namespace Go.Den
structure PageSay where
  page : Int
  changes : List Change
  drop : Nat
def u64R : ERep Nat := flatR (fun x => [.int .u64 (x : Nat)]) 1 (by decide) (fun _ => rfl) (fun b v hv => by simp at hv; rw [hv]; rfl)
def pageR : ERep PageSay := ERep.pair intR (ERep.pair (sliceR changeR) u64R (fun x : List Change × Nat => x.1) (fun x => x.2)) (fun x : PageSay => x.page) (fun x => (x.changes, x.drop))
abbrev pageVs (n : Int) (a : Option Addr) (l c : Nat) (d : Nat) : List Value := [.int .i64 n, .slice a l c, .int .u64 d]
theorem pageR_intro {w : World} {G : Nat → Prop} {x : PageSay} {a : Option Addr} {c : Nat} (hc : x.changes.length ≤ c) (h : SliceAt changeR w G a x.changes) : pageR.R w G (pageVs x.page a x.changes.length c x.drop) x :=
  ⟨[.int .i64 x.page], [.slice a x.changes.length c, .int .u64 (x.drop : Nat)], rfl, rfl, [.slice a x.changes.length c], [.int .u64 (x.drop : Nat)], rfl, ⟨a, c, rfl, hc, h⟩, rfl⟩
theorem pageR_elim {w : World} {G : Nat → Prop} {x : PageSay} {vs : List Value} (h : pageR.R w G vs x) : ∃ a c, vs = pageVs x.page a x.changes.length c x.drop ∧ x.changes.length ≤ c ∧ SliceAt changeR w G a x.changes := by
  obtain ⟨u, v, rfl, hu, s, t, rfl, ⟨a, c, hs, hc, hb⟩, ht⟩ := h
  have hu' : u = [.int .i64 x.page] := hu
  have ht' : t = [.int .u64 (x.drop : Nat)] := ht
  have hs' : s = [.slice a x.changes.length c] := hs
  subst hu'; subst ht'; subst hs'
  exact ⟨a, c, rfl, hc, hb⟩
def pageS (n : Int) (b : List UInt8) : Option PageSay :=
  if (getPage b).2.2 ≠ 0 then none
  else if (getPage b).1 = 2 then (if (getS (getPage b).2.1).2 = 0 then some ⟨n, (getS (getPage b).2.1).1, 0⟩ else none)
  else if (getPage b).1 = 3 then (if (dropS (getPage b).2.1).2 = 0 then some ⟨n, [], (dropS (getPage b).2.1).1⟩ else none)
  else none
theorem getPage_len (b : List UInt8) : (getPage b).2.1.length ≤ b.length := by
  unfold getPage
  repeat' split
  all_goals simp
  all_goals omega
theorem pg_out {u : World} {B1 B2 : Nat} {cs : Array Value} {n : Int} {a : Option Addr} {l c : Nat} {d : Nat} {b : Bool} {R : Value → World → Prop} (g1 : u.heap[B1]? = some (.cells cs T.api_Page (0, 0))) (hcs : cs.size = 3) (g2 : u.heap[B2]? = some (.cells (pageVs n a l c d).toArray T.api_Page (0, 0)))
    (hR : ∀ u', Upd (· = B1) u u' → R (.tuple #[.agg #[.int .i64 n, .slice a l c, .int .u64 d], .bool b]) u') :
    ∃ x : Int, ∃ (a' : Option Addr) (n' c' : Nat), ∃ y : Int, cellsAt u ⟨B2, 0, none⟩ [.int .i64 x, .slice a' n' c', .int .u64 y] 0 ∧ storeP u ⟨B1, 0, none⟩ [.int .i64 x, .slice a' n' c', .int .u64 y] fun w' =>
      ∃ x : Int, ∃ (a' : Option Addr) (n' c' : Nat), ∃ y : Int, cellsAt w' ⟨B1, 0, none⟩ [.int .i64 x, .slice a' n' c', .int .u64 y] 0 ∧ R (.tuple #[.agg #[.int .i64 x, .slice a' n' c', .int .u64 y], .bool b]) w' :=
  ⟨_, _, _, _, _, cells_all g2, put_all g1 (by rw [hcs]; rfl) fun w' hu _ hg => ⟨_, _, _, _, _, cells_all hg, hR w' hu⟩⟩
/-- what scan's page answers -/
def PageOut (w w' : World) (v : Value) (o : Option PageSay) : Prop := Ext w w' ∧ ∃ (m : Int) (a : Option Addr) (l c d : Nat) (b : Bool), v = .tuple #[.agg #[.int .i64 m, .slice a l c, .int .u64 d], .bool b] ∧ b = o.isSome ∧
  ∀ P, o = some P → m = P.page ∧ d = P.drop ∧ l = P.changes.length ∧ l ≤ c ∧ ∃ G, SliceAt changeR w' G a P.changes ∧ ∀ x, G x → w.heap.size ≤ x ∧ x < w'.heap.size
theorem PageOut.none {w w' : World} {o : Option PageSay} (ho : o = .none) (h : Ext w w') {m : Int} {a : Option Addr} {l c d : Nat} {b : Bool} (hb : b = false) : PageOut w w' (.tuple #[.agg #[.int .i64 m, .slice a l c, .int .u64 d], .bool b]) o := by
  subst ho
  exact ⟨h, m, a, l, c, d, b, rfl, hb, fun P hP => by cases hP⟩
theorem scan_page_spec {w : World} {n : Int} {a : Option Addr} {b : List UInt8} {c : Nat} (hb : BytesAt w a b) (hc : b.length ≤ c) (hn : b.length ≤ 100000) :
    CallsR prog K.scan_page #[.int .i64 n, .slice a b.length c] w fun v w' => PageOut w w' v (pageS n b) := by
  apply scan_page.sh
  suffices H : ∀ R : Value → World → Prop, (∀ v w', PageOut w w' v (pageS n b) → R v w') → scan_page.body n a b.length c w R from H _ fun _ _ h => h
  intro R hR
  unfold scan_page.body
  simp only [add_lit, Nat.zero_add]
  intro B1 w₁ hn1
  have hb1 : B1 = w.heap.size := hn1.num
  have hs1 := hn1.size
  refine (seal_Get_spec (hb.ext hn1.upd) hc).mono ?_
  rintro _ w₂ ⟨he2, a2, c2, rfl, hb2, hc2⟩
  have hs2 := he2.size
  have hlen := getPage_len b
  have g2 := Ext.get he2 hn1.get
  have hS : pageS n b = pageS n b := rfl
  conv at hS => rhs; unfold pageS
  refine ⟨_, _, _, _, _, rfl, new_put (vs := pageVs n none 0 0 0) rfl fun B2 w₄ hb4 hs4 he4 g4 => ?_⟩
  have e4 : Ext w w₄ := (hn1.upd.trans he2).trans he4
  have g14 := Ext.get he4 g2
  have own : ∀ {u u' : World}, Ext w u → Upd (· = B1) u u' → Ext w u' := fun h k => h.beyond k fun x hx => by omega
  refine br_ne (fun hne => ?_) fun he => ?_
  · rw [if_pos (by omega)] at hS
    exact pg_out g14 rfl g4 fun u' hu => hR _ _ (PageOut.none hS (own e4 hu) (by simpa using hne))
  rw [if_neg (by omega)] at hS
  refine br_eq (fun h2 => ?_) fun h2 => ?_
  · have k2 : (getPage b).1 = 2 := UInt8.toNat_inj.1 (by have : ((getPage b).1.toNat : Int) = 2 := h2; show (getPage b).1.toNat = 2; omega)
    rw [if_pos k2] at hS
    refine (rec_Get_spec (hb2.ext he4) (by omega)).mono ?_
    rintro _ w₆ ⟨a6, c6, rfl, hl6, he6⟩
    have hs6 := he6.size
    refine ⟨_, _, _, _, rfl, store_of (Ext.get he6 g4) (by simp) fun w₇ hp7 => ?_⟩
    have hu7 := hp7.upd1
    have e7 : Ext w w₇ := (e4.trans he6).beyond hu7 fun x hx => by omega
    refine pg_out (hu7.get (Ext.get he6 g14) (by omega)) rfl hp7.get fun u' hu => hR _ _ ?_
    by_cases hz : (getS (getPage b).2.1).2 = 0
    · rw [if_pos hz] at hS
      refine ⟨own e7 hu, _, _, _, _, _, _, rfl, by rw [hS, hz]; rfl, fun P hP => ?_⟩
      rw [hS] at hP
      cases hP
      refine ⟨rfl, rfl, rfl, hl6.cap, ?_⟩
      have hlu := (hl6.upd hu7 fun x hx => ⟨by omega, fun h => h⟩).upd hu fun x hx => ⟨by omega, fun h => h⟩
      obtain ⟨G, h1, h2⟩ := hlu.slice
      exact ⟨G, h1, fun x hx => ⟨by have h5 := (h2 x hx).1; have h6 := e4.size; rcases h5 with h | h; exact Nat.le_trans h6 h; exact h.elim, (h2 x hx).2⟩⟩
    · rw [if_neg hz] at hS
      exact PageOut.none hS (own e7 hu) (by simpa using hz)
  have k2 : ¬ (getPage b).1 = 2 := fun h => h2 (by show ((getPage b).1.toNat : Int) = 2; rw [h]; rfl)
  rw [if_neg k2] at hS
  refine br_eq (fun h3 => ?_) fun h3 => ?_
  · have k3 : (getPage b).1 = 3 := UInt8.toNat_inj.1 (by have : ((getPage b).1.toNat : Int) = 3 := h3; show (getPage b).1.toNat = 3; omega)
    rw [if_pos k3] at hS
    refine (rec_GetDrop_spec (hb2.ext he4) (by omega)).mono ?_
    rintro _ w₆ ⟨rfl, he6⟩
    have hs6 := he6.size
    refine ⟨_, _, rfl, store_of (Ext.get he6 g4) (by simp) fun w₇ hp7 => ?_⟩
    have hu7 := hp7.upd1
    have e7 : Ext w w₇ := (e4.trans he6).beyond hu7 fun x hx => by omega
    refine pg_out (d := (dropS (getPage b).2.1).1) (hu7.get (Ext.get he6 g14) (by omega)) rfl hp7.get fun u' hu => hR _ _ ?_
    by_cases hz : (dropS (getPage b).2.1).2 = 0
    · rw [if_pos hz] at hS
      refine ⟨own e7 hu, _, _, _, _, _, _, rfl, by rw [hS, hz]; rfl, fun P hP => ?_⟩
      rw [hS] at hP
      cases hP
      exact ⟨rfl, rfl, rfl, Nat.le_refl _, NoB, SliceAt.nil _ _ _, fun _ h => h.elim⟩
    · rw [if_neg hz] at hS
      exact PageOut.none hS (own e7 hu) (by simpa using hz)
  · have k3 : ¬ (getPage b).1 = 3 := fun h => h3 (by show ((getPage b).1.toNat : Int) = 3; rw [h]; rfl)
    rw [if_neg k3] at hS
    exact pg_out g14 rfl g4 fun u' hu => hR _ _ (PageOut.none hS (own e4 hu) rfl)
/-! ### Pages of a block -/
def pagesTo (c : Chip) (i k : Nat) : List PageSay := (List.range k).filterMap fun k : Nat => if k = 0 then none else pageS k (c.page i k)
def pagesS (c : Chip) (i : Nat) : List PageSay := pagesTo c i c.np
theorem pagesTo_succ (c : Chip) (i k : Nat) (hk : 1 ≤ k) : pagesTo c i (k + 1) = pagesTo c i k ++ (pageS k (c.page i k)).toList := by
  unfold pagesTo
  rw [List.range_succ, List.filterMap_append]
  congr 1
  rw [List.filterMap_cons, if_neg (by omega)]
  cases pageS k (c.page i k) <;> rfl
theorem pagesTo_length (c : Chip) (i k : Nat) : (pagesTo c i k).length ≤ k := by
  have := List.length_filterMap_le (fun k : Nat => if k = 0 then none else pageS k (c.page i k)) (List.range k)
  simpa [pagesTo] using this
theorem ask_none0 {c : Chip} {i j : Int} (h : c.ask i j = 0) : c.dead = false ∧ 0 ≤ i ∧ i < c.nb ∧ 0 ≤ j ∧ j < c.np := by
  unfold Chip.ask at h
  split at h
  · cases h
  · rename_i hd
    split at h
    · cases h
    · rename_i hx
      refine ⟨by simpa using hd, ?_⟩
      omega
def pagesOut (c : Chip) (block : Int) : List PageSay := if c.ask block 0 = 0 then pagesS c block.toNat else []
theorem scan_Pages_spec {F : Nat → Prop} {A : Nat} {w : World} {p : Nat} {c : Chip} (h : CIn F A w p c) (block : Int) :
    CallsR prog K.scan_Pages #[.pointer (some ⟨p, 0, none⟩), .int .i64 block] w fun v w' => ListOut pageR T.api_Page w w' v (pagesOut c block) (c.ask block 0) := by
  apply scan_Pages.sh
  suffices H : ∀ R : Value → World → Prop, (∀ v w', ListOut pageR T.api_Page w w' v (pagesOut c block) (c.ask block 0) → R v w') → scan_Pages.body (some ⟨p, 0, none⟩) block w R from H _ fun _ _ h => h
  intro R hR
  unfold scan_Pages.body
  refine (cReadAt h block 0).mono ?_
  rintro v w₁ ⟨he1, hv⟩
  have hs1 := he1.size
  by_cases h0 : c.ask block 0 = 0
  · rw [if_pos h0] at hv
    obtain ⟨a, cp, rfl, _⟩ := hv
    obtain ⟨hd0, hb0, hb1, _, hp1⟩ := ask_none0 h0
    obtain ⟨i, rfl⟩ : ∃ i : Nat, block = i := ⟨block.toNat, by omega⟩
    have hok := h.ok
    have hnp := hok.np2
    have hnp1 := hok.np1
    refine ⟨_, _, _, _, rfl, br_ne (fun hne => absurd rfl hne) fun _ => ?_⟩
    refine ⟨fun a l cc x u => ∃ k : Nat, x = k ∧ 1 ≤ k ∧ k ≤ c.np ∧ l = (pagesTo c i k).length ∧ ListAt pageR NoB w.heap.size u a cc T.api_Page (pagesTo c i k) ∧ Ext w u ∧ w₁.heap.size ≤ u.heap.size, fun _ _ _ x _ => ((c.np : Int) - x).toNat,
      ⟨1, rfl, Nat.le_refl _, by omega, rfl, ListAt.nil _ _, he1, Nat.le_refl _⟩, ?_⟩
    rintro a1 l1 c1 x u ⟨k, rfl, hk1, hk, rfl, hl, heu, hsu⟩
    have hcu := h.ext heu
    have hlen := pagesTo_length c i k
    refine (cGeo hcu).mono ?_
    rintro _ w₃ ⟨rfl, he3⟩
    have e3 := heu.trans he3
    refine ⟨_, _, _, _, rfl, br_dec (fun hlt => ?_) fun hge => ?_⟩
    · have hk' : k < c.np := by omega
      refine (cPage (h.ext e3) hd0 (by omega : i < c.nb) hk').mono ?_
      rintro _ w₄ ⟨he4, a4, c4, rfl, hb4, hc4, hf4⟩
      have hsz := page_len hok (by omega : i < c.nb) hk'
      have hsz2 := hok.sz2
      refine ⟨_, _, _, _, rfl, (scan_page_spec hb4 hc4 (by omega)).mono ?_⟩
      rintro _ w₅ ⟨he5, m, a5, l5, c5, d5, b5, rfl, hb5, hP⟩
      have e5 := (e3.trans he4).trans he5
      refine ⟨_, _, _, _, _, _, rfl, new_put (vs := pageVs m a5 l5 c5 d5) rfl fun B1 w₇ hb7 hs7 he7 g7 => ?_⟩
      have ew : IntKind.i64.wrap ((k : Int) + 1) = ((k + 1 : Nat) : Int) := w64 (by omega) (by omega)
      simp only [ew]
      have hl7 : ListAt pageR NoB w.heap.size w₇ a1 c1 T.api_Page (pagesTo c i k) := (((hl.ext he3).ext he4).ext he5).ext he7
      have hs3 := he3.size
      have hs4 := he4.size
      have hs5 := he5.size
      have hs0 := heu.size
      refine br_intro (fun hb => ?_) fun hb => ?_
      · rw [hb5] at hb
        obtain ⟨P, hPs⟩ := Option.isSome_iff_exists.1 hb
        obtain ⟨rfl, rfl, rfl, hlc, G, hG1, hG2⟩ := hP P hPs
        have hsucc : pagesTo c i (k + 1) = pagesTo c i k ++ [P] := by rw [pagesTo_succ c i k hk1, hPs]; rfl
        refine ⟨_, _, _, _, _, cells_all g7, fun B2 w₈ hn8 => ?_⟩
        have he8 := hn8.upd
        have hs8 := hn8.size
        refine ListAt.push (r := pageR) (H := G) (x := P) (hl7.ext he8) (pageR_intro hlc ((hG1.ext he7).ext he8)) (fun b hb => ⟨.inl (by have := hG2 b hb; omega), by have := hG2 b hb; omega, fun hab => ?_⟩) hn8 rfl rfl (by omega) (by omega) (by omega) fun a' c' w₉ hu9 hl9 => ?_
        · have := hG2 b hb
          have := hl.lt hab
          omega
        · rw [← hsucc] at hl9 ⊢
          exact ⟨⟨k + 1, rfl, by omega, hk', rfl, hl9, Ext.own ((e5.trans he7).trans he8) hu9 (Nat.le_refl _), by have := hu9.size; omega⟩, meas hk'⟩
      · have hPn : pageS k (c.page i k) = none := by rw [hb5] at hb; simpa using hb
        have hsucc : pagesTo c i (k + 1) = pagesTo c i k := by rw [pagesTo_succ c i k hk1, hPn]; simp
        refine ⟨⟨k + 1, rfl, by omega, hk', by rw [hsucc], by rw [hsucc]; exact hl7, e5.trans he7, by omega⟩, meas hk'⟩
    · have hk' : k = c.np := by omega
      subst hk'
      refine hR _ _ ⟨a1, c1, ?_, ?_, e3⟩
      · unfold pagesOut; rw [if_pos h0, h0]; rfl
      · unfold pagesOut; rw [if_pos h0]; exact hl.ext he3
  · rw [if_neg h0] at hv
    subst hv
    refine ⟨_, _, _, _, rfl, br_ne (fun hne => ?_) fun he => absurd he (by omega)⟩
    exact hR _ _ (ListOut.none (by unfold pagesOut; rw [if_neg h0]) he1)
theorem pageS_two {n : Int} {b : List UInt8} (h0 : (getPage b).2.2 = 0) (h2 : (getPage b).1 = 2) : pageS n b = if (getS (getPage b).2.1).2 = 0 then some ⟨n, (getS (getPage b).2.1).1, 0⟩ else none := by
  unfold pageS
  rw [if_neg (by omega), if_pos h2]
theorem pageS_three {n : Int} {b : List UInt8} (h0 : (getPage b).2.2 = 0) (h3 : (getPage b).1 = 3) : pageS n b = if (dropS (getPage b).2.1).2 = 0 then some ⟨n, [], (dropS (getPage b).2.1).1⟩ else none := by
  unfold pageS
  rw [if_neg (by omega), if_neg (by rw [h3]; decide), if_pos h3]
theorem pageS_other {n : Int} {b : List UInt8} (h2 : (getPage b).1 ≠ 2) (h3 : (getPage b).1 ≠ 3) : pageS n b = none := by
  unfold pageS
  rw [if_neg h2, if_neg h3]
  split <;> rfl
theorem kind_is {x : UInt8} {n : Nat} (hn : n < 256) (h : (x.toNat : Int) = n) : x = UInt8.ofNat n := by
  apply UInt8.toNat_inj.1
  rw [UInt8.toNat_ofNat']
  omega
theorem kind_not {x : UInt8} {n : Nat} (hn : n < 256) (h : (x.toNat : Int) ≠ n) : x ≠ UInt8.ofNat n := by
  rintro rfl
  apply h
  rw [UInt8.toNat_ofNat']
  omega
theorem carrackref12_Pages_spec {F : Nat → Prop} {A : Nat} {w : World} {p : Nat} {c : Chip} (h : CIn F A w p c) (hd0 : c.dead = false) {i : Nat} (hi : i < c.nb) :
    CallsR prog K.carrackref12_Pages #[.pointer (some ⟨p, 0, none⟩), .int .i64 i] w fun v w' => ∃ a cap, v = .slice a (pagesS c i).length cap ∧ ListAt pageR NoB w.heap.size w' a cap T.api_Page (pagesS c i) ∧ Ext w w' := by
  apply carrackref12_Pages.sh
  suffices H : ∀ R : Value → World → Prop, (∀ v w', (∃ a cap, v = .slice a (pagesS c i).length cap ∧ ListAt pageR NoB w.heap.size w' a cap T.api_Page (pagesS c i) ∧ Ext w w') → R v w') → carrackref12_Pages.body (some ⟨p, 0, none⟩) i w R from H _ fun _ _ h => h
  intro R hR
  unfold carrackref12_Pages.body
  have hok := h.ok
  have hnp := hok.np2
  have hnp1 := hok.np1
  have hsz2 := hok.sz2
  refine ⟨fun a l cc x u => ∃ k : Nat, x = k ∧ 1 ≤ k ∧ k ≤ c.np ∧ l = (pagesTo c i k).length ∧ ListAt pageR NoB w.heap.size u a cc T.api_Page (pagesTo c i k) ∧ Ext w u, fun _ _ _ x _ => ((c.np : Int) - x).toNat,
    ⟨1, rfl, Nat.le_refl _, by omega, rfl, ListAt.nil _ _, Upd.refl _ _⟩, ?_⟩
  rintro a1 l1 c1 x u ⟨k, rfl, hk1, hk, rfl, hl, heu⟩
  have hlen := pagesTo_length c i k
  refine (cGeo (h.ext heu)).mono ?_
  rintro _ w₂ ⟨rfl, he2⟩
  have e2 := heu.trans he2
  refine ⟨_, _, _, _, rfl, br_dec (fun hlt => ?_) fun hge => ?_⟩
  · have hk' : k < c.np := by omega
    have ew : IntKind.i64.wrap ((k : Int) + 1) = ((k + 1 : Nat) : Int) := w64 (by omega) (by omega)
    simp only [ew]
    refine (cPage (h.ext e2) hd0 hi hk').mono ?_
    rintro _ w₃ ⟨he3, a3, c3, rfl, hb3, hc3, hf3⟩
    have hsz := page_len hok hi hk'
    refine ⟨_, _, _, _, rfl, (carrackref02_Get_spec hb3 hc3).mono ?_⟩
    rintro _ w₄ ⟨he4, a4, c4, rfl, hb4, hc4⟩
    have hs0 := heu.size
    have hs2 := he2.size
    have hs3 := he3.size
    have hs4 := he4.size
    have e4 := (e2.trans he3).trans he4
    have hl4 : ListAt pageR NoB w.heap.size w₄ a1 c1 T.api_Page (pagesTo c i k) := ((hl.ext he2).ext he3).ext he4
    have hbl := getPage_len (c.page i k)
    have same : ∀ {u' : World}, pageS k (c.page i k) = none → Ext w₄ u' → (∃ k' : Nat, ((k + 1 : Nat) : Int) = k' ∧ 1 ≤ k' ∧ k' ≤ c.np ∧ (pagesTo c i k).length = (pagesTo c i k').length ∧ ListAt pageR NoB w.heap.size u' a1 c1 T.api_Page (pagesTo c i k') ∧ Ext w u') ∧ ((c.np : Int) - ((k + 1 : Nat) : Int)).toNat < ((c.np : Int) - (k : Int)).toNat := by
      intro u' hP he
      have hsucc : pagesTo c i (k + 1) = pagesTo c i k := by rw [pagesTo_succ c i k hk1, hP]; simp
      exact ⟨⟨k + 1, rfl, by omega, hk', by rw [hsucc], by rw [hsucc]; exact hl4.ext he, e4.trans he⟩, meas hk'⟩
    have more : ∀ {u' : World} {P : PageSay} {B cp : Nat} {a5 : Option Addr} {G : Nat → Prop} {w₀ : World} {K : Option Addr → Nat → Nat → World → Prop}, pageS k (c.page i k) = some P → Ext w₄ w₀ → P.changes.length ≤ cp → SliceAt changeR w₀ G a5 P.changes → (∀ x, G x → w₄.heap.size ≤ x ∧ x < w₀.heap.size) →
        New w₀ (.cells (pageVs P.page a5 P.changes.length cp P.drop).toArray T.api_Page) B u' → (∀ a' c' w', ((∃ k' : Nat, ((k + 1 : Nat) : Int) = k' ∧ 1 ≤ k' ∧ k' ≤ c.np ∧ (pagesTo c i k ++ [P]).length = (pagesTo c i k').length ∧ ListAt pageR NoB w.heap.size w' a' c' T.api_Page (pagesTo c i k') ∧ Ext w w') ∧ ((c.np : Int) - ((k + 1 : Nat) : Int)).toNat < ((c.np : Int) - (k : Int)).toNat) → K a' (pagesTo c i k ++ [P]).length c' w') →
        appendP T.api_Page 3 40 [.int .i64 0, .slice none 0 0, .int .u64 0] a1 (pagesTo c i k).length c1 (.slice (some ⟨B, 0, none⟩) 1 1) u' K := by
      intro u' P B cp a5 G w₀ K hP he hcp hsl hG hn hK
      have hsucc : pagesTo c i (k + 1) = pagesTo c i k ++ [P] := by rw [pagesTo_succ c i k hk1, hP]; rfl
      have hsn := hn.size
      have hse := he.size
      refine ListAt.push (r := pageR) (H := G) (x := P) ((hl4.ext he).ext hn.upd) (pageR_intro hcp (hsl.ext hn.upd)) (fun b hb => ⟨.inl (by have := hG b hb; omega), by have := hG b hb; omega, fun hab => ?_⟩) hn rfl rfl (by omega) (by omega) (by omega) fun a' c' w' hu' hl' => hK a' c' w' ?_
      · have := hG b hb
        have := hl4.lt hab
        omega
      · rw [← hsucc] at hl' ⊢
        exact ⟨⟨k + 1, rfl, by omega, hk', rfl, hl', Ext.own ((e4.trans he).trans hn.upd) hu' (Nat.le_refl _)⟩, meas hk'⟩
    refine ⟨_, _, _, _, _, rfl, br_ne (fun hne => ?_) fun he0 => ?_⟩
    · exact same (by unfold pageS; rw [if_pos (by omega)]) (Upd.refl _ _)
    have he0' : (getPage (c.page i k)).2.2 = 0 := by omega
    refine br_eq (fun h2 => ?_) fun h2 => ?_
    · have k2 : (getPage (c.page i k)).1 = 2 := kind_is (n := 2) (by decide) h2
      have hpg := pageS_two (n := k) he0' k2
      have k3 : ¬ (((getPage (c.page i k)).1.toNat : Nat) : Int) = 3 := by rw [h2]; decide
      refine (carrackref11_Get_spec hb4 (by omega)).mono ?_
      rintro _ w₅ ⟨a5, c5, rfl, hl5, he5⟩
      refine ⟨_, _, _, _, rfl, br_eq (fun hz => ?_) fun hz => ?_⟩
      · rw [if_pos (by omega)] at hpg
        intro B1 w₆ hn6
        obtain ⟨G, hG1, hG2⟩ := hl5.slice
        refine more (P := ⟨k, (getS (getPage (c.page i k)).2.1).1, 0⟩) hpg he5 hl5.cap hG1 (fun x hx => ⟨by rcases (hG2 x hx).1 with h | h; exact h; exact h.elim, (hG2 x hx).2⟩) hn6 fun a' c' w' hK => br_eq (fun h3 => absurd h3 k3) fun _ => hK
      · rw [if_neg (by omega)] at hpg
        exact br_eq (fun h3 => absurd h3 k3) fun _ => same hpg he5
    · have k2 : (getPage (c.page i k)).1 ≠ 2 := kind_not (n := 2) (by decide) h2
      refine br_eq (fun h3 => ?_) fun h3 => ?_
      · have k3 : (getPage (c.page i k)).1 = 3 := kind_is (n := 3) (by decide) h3
        have hpg := pageS_three (n := k) he0' k3
        refine (carrackref11_GetDrop_spec hb4 hc4).mono ?_
        rintro _ w₅ ⟨rfl, he5⟩
        refine ⟨_, _, rfl, br_eq (fun hz => ?_) fun hz => ?_⟩
        · rw [if_pos (by omega)] at hpg
          intro B1 w₆ hn6
          exact more (P := ⟨k, [], (dropS (getPage (c.page i k)).2.1).1⟩) (G := NoB) hpg he5 (Nat.le_refl _) (SliceAt.nil _ _ _) (fun x hx => hx.elim) hn6 fun a' c' w' hK => hK
        · rw [if_neg (by omega)] at hpg
          exact same hpg he5
      · have k3 : (getPage (c.page i k)).1 ≠ 3 := kind_not (n := 3) (by decide) h3
        exact same (pageS_other k2 k3) (Upd.refl _ _)
  · have hk' : k = c.np := by omega
    subst hk'
    exact hR _ _ ⟨a1, c1, rfl, hl.ext he2, e2⟩
end Go.Den
end
section
set_option linter.unusedVariables false
set_option linter.unusedSimpArgs false
set_option maxRecDepth 8000
namespace Go.Den
structure Part where
  block : Int
  seq : Nat
  pages : List PageSay
abbrev partVs (b : Int) (s : Nat) (a : Option Addr) (l c : Nat) : List Value := [.int .i64 b, .int .u64 s, .slice a l c]
def partR : ERep Part := ERep.pair intR (ERep.pair u64R (sliceR pageR) (fun x : Nat × List PageSay => x.1) (fun x => x.2)) (fun x : Part => x.block) (fun x => (x.seq, x.pages))
theorem partR_intro {w : World} {G : Nat → Prop} {x : Part} {a : Option Addr} {c : Nat} (hc : x.pages.length ≤ c) (h : SliceAt pageR w G a x.pages) : partR.R w G (partVs x.block x.seq a x.pages.length c) x :=
  ⟨[.int .i64 x.block], [.int .u64 (x.seq : Nat), .slice a x.pages.length c], rfl, rfl, [.int .u64 (x.seq : Nat)], [.slice a x.pages.length c], rfl, rfl, a, c, rfl, hc, h⟩
theorem partR_elim {w : World} {G : Nat → Prop} {x : Part} {vs : List Value} (h : partR.R w G vs x) : ∃ a c, vs = partVs x.block x.seq a x.pages.length c ∧ x.pages.length ≤ c ∧ SliceAt pageR w G a x.pages := by
  obtain ⟨u, v, rfl, hu, s, t, rfl, ht, a, c, hs, hc, hb⟩ := h
  have hu' : u = [.int .i64 x.block] := hu
  have ht' : s = [.int .u64 (x.seq : Nat)] := ht
  have hs' : t = [.slice a x.pages.length c] := hs
  subst hu'; subst ht'; subst hs'
  exact ⟨a, c, rfl, hc, hb⟩
/-- is a block a log's of an era? -/
def isLog (era : Nat) (t : Taken) : Bool := decide (t.head.kind = 1) && decide (t.head.era = era)
def partOf (c : Chip) (t : Taken) : Part := ⟨t.block, t.head.seq, pagesS c t.block⟩
def partsL (c : Chip) (era : Nat) (l : List Taken) : List Part := (l.filter (isLog era)).map (partOf c)
def lowP (n : Nat) (l : List PageSay) : Nat := l.foldl (fun n p => max n p.drop) n
def lowL (l : List Part) : Nat := l.foldl (fun n x => lowP n x.pages) 0
def readErr (c : Chip) (era : Nat) : Nat := if c.dead then 10 else if era = 0 then 2 else 0
def readParts (c : Chip) (era : Nat) : List Part := if readErr c era ≠ 0 then [] else partsL c era (takenPool (scanPool c) c)
theorem partsL_succ (c : Chip) (era : Nat) {l : List Taken} {i : Nat} (hi : i < l.length) : partsL c era (l.take (i + 1)) = partsL c era (l.take i) ++ if isLog era l[i] then [partOf c l[i]] else [] := by
  unfold partsL
  rw [List.take_succ_eq_append_getElem hi, List.filter_append, List.map_append]
  congr 1
  rw [List.filter_cons]
  split <;> rfl
theorem lowL_snoc (l : List Part) (x : Part) : lowL (l ++ [x]) = lowP (lowL l) x.pages := by unfold lowL; rw [List.foldl_append]; rfl
theorem lowP_succ (n : Nat) {l : List PageSay} {i : Nat} (hi : i < l.length) : lowP n (l.take (i + 1)) = max (lowP n (l.take i)) l[i].drop := by
  unfold lowP
  rw [List.take_succ_eq_append_getElem hi, List.foldl_append]; rfl
theorem partsL_length (c : Chip) (era : Nat) (l : List Taken) : (partsL c era l).length ≤ l.length := by
  unfold partsL
  rw [List.length_map]
  exact List.length_filter_le _ _
theorem max_if (a b : Nat) : (if (b : Int) > (a : Int) then (b : Int) else (a : Int)) = ((max a b : Nat) : Int) := by
  split <;> omega
theorem scan_read_spec {F : Nat → Prop} {A : Nat} {w : World} {p : Nat} {c : Chip} (h : CIn F A w p c) (hnb : c.nb < 20) (era : Nat) :
    CallsR prog K.scan_read #[.pointer (some ⟨p, 0, none⟩), .int .u32 era] w fun v w' => ∃ a cap, v = .tuple #[.slice a (readParts c era).length cap, .int .u64 (lowL (readParts c era) : Nat), .int .i64 (readErr c era : Nat)] ∧ ListAt partR NoB w.heap.size w' a cap T.scan_part (readParts c era) ∧ Ext w w' := by
  apply scan_read.sh
  suffices H : ∀ R : Value → World → Prop, (∀ v w', (∃ a cap, v = .tuple #[.slice a (readParts c era).length cap, .int .u64 (lowL (readParts c era) : Nat), .int .i64 (readErr c era : Nat)] ∧ ListAt partR NoB w.heap.size w' a cap T.scan_part (readParts c era) ∧ Ext w w') → R v w') → scan_read.body (some ⟨p, 0, none⟩) era w R from H _ fun _ _ h => h
  intro R hR
  unfold scan_read.body
  refine (cScanF h).mono ?_
  rintro _ w₁ ⟨he1, hv⟩
  have hs1 := he1.size
  split at hv
  · rename_i hd
    subst hv
    have he : readErr c era = 10 := by unfold readErr; rw [if_pos hd]
    have hp : readParts c era = [] := by unfold readParts; rw [he]; rfl
    rw [hp, he] at hR
    exact ⟨_, _, rfl, br_ne (fun _ => hR _ _ ⟨none, 0, rfl, ListAt.nil _ _, he1⟩) fun h => by cases h⟩
  rename_i hd
  have hd0 : c.dead = false := by simpa using hd
  obtain ⟨M, rfl, rfl, hp2⟩ := hv
  refine ⟨_, _, rfl, br_ne (fun h => (h rfl).elim) fun _ => br_eq (fun he0 => ?_) fun he0 => ?_⟩
  · have he : readErr c era = 2 := by unfold readErr; rw [if_neg hd, if_pos (by omega)]
    have hp : readParts c era = [] := by unfold readParts; rw [he]; rfl
    rw [hp, he] at hR
    exact hR _ _ ⟨none, 0, rfl, ListAt.nil _ _, he1⟩
  have he : readErr c era = 0 := by unfold readErr; rw [if_neg hd, if_neg (by omega)]
  have hp : readParts c era = partsL c era (takenPool (scanPool c) c) := by unfold readParts; rw [he]; rfl
  rw [hp, he] at hR
  refine (pTaken hp2 hnb rfl).mono ?_
  rintro _ w₂ ⟨he2, a1, c1, rfl, ho2, hf2⟩
  have e2 : Ext w w₂ := he1.trans he2
  have hs2 := he2.size
  have hll : (takenPool (scanPool c) c).length ≤ c.nb := by
    unfold takenPool
    rw [isort_length]
    exact takenRaw_length _ _ _
  have hlb : ∀ x ∈ takenPool (scanPool c) c, x.block < c.nb := by
    intro x hx
    unfold takenPool at hx
    rw [isort_mem] at hx
    exact takenRaw_block hx
  generalize takenPool (scanPool c) c = l at *
  have hrow : RowAt w₂ a1 (l.flatMap Taken.vals) := ho2.row
  refine ⟨_, _, _, rfl, fun a2 l2 c2 x2 x3 u => ∃ i : Nat, x3 = i ∧ i ≤ l.length ∧ l2 = (partsL c era (l.take i)).length ∧ x2 = (lowL (partsL c era (l.take i)) : Nat) ∧ ListAt partR NoB w₂.heap.size u a2 c2 T.scan_part (partsL c era (l.take i)) ∧ Ext w₂ u, fun _ _ _ _ x _ => ((l.length : Int) - x).toNat,
    ⟨0, rfl, by omega, rfl, rfl, ListAt.nil _ _, Upd.refl _ _⟩, ?_⟩
  rintro a2 l2 c2 x2 x3 u ⟨i, rfl, hi, rfl, rfl, hl, heu⟩
  have hpl := partsL_length c era (l.take i)
  rw [List.length_take] at hpl
  refine br_dec (fun hlt => ?_) fun hge => ?_
  · have hi' : i < l.length := by omega
    have ew : IntKind.i64.wrap ((i : Int) + 1) = ((i + 1 : Nat) : Int) := w64 (by omega) (by omega)
    simp only [ew]
    have hsu := heu.size
    have hsucc := partsL_succ c era hi'
    refine idx_flat (f := Taken.vals) (k := 5) (fun _ => rfl) (by decide) (hrow.ext heu) rfl hi' fun b o ha hr => ?_
    refine ⟨_, _, _, _, _, hr.cells, new_put (vs := l[i].vals) rfl fun B1 w₅ hb5 hs5 he5 g5 => ?_⟩
    have e5 := heu.trans he5
    have hl5 := hl.ext he5
    refine ⟨_, cell_of g5 rfl, br_ne (fun hk => ?_) fun hk => ?_⟩
    · have hlog : isLog era l[i] = false := by
        unfold isLog
        rw [decide_eq_false (fun e => hk (by rw [e]; rfl))]; rfl
      rw [hlog] at hsucc
      simp only [Bool.false_eq_true, if_false, List.append_nil] at hsucc
      exact ⟨⟨i + 1, rfl, hi', by rw [hsucc], by rw [hsucc], by rw [hsucc]; exact hl5, e5⟩, meas hi'⟩
    simp only [add_lit, Nat.zero_add]
    refine ⟨_, cell_of g5 rfl, br_ne (fun hk2 => ?_) fun hk2 => ?_⟩
    · have hlog : isLog era l[i] = false := by
        unfold isLog
        rw [decide_eq_false (p := l[i].head.era = era) (fun e => hk2 (by rw [e]))]; simp
      rw [hlog] at hsucc
      simp only [Bool.false_eq_true, if_false, List.append_nil] at hsucc
      exact ⟨⟨i + 1, rfl, hi', by rw [hsucc], by rw [hsucc], by rw [hsucc]; exact hl5, e5⟩, meas hi'⟩
    have hlog : isLog era l[i] = true := by
      unfold isLog
      rw [decide_eq_true (show l[i].head.kind = 1 from kind_is (n := 1) (by decide) hk), decide_eq_true (p := l[i].head.era = era) (by omega)]; rfl
    rw [hlog] at hsucc
    simp only [if_true] at hsucc
    refine ⟨_, cell_of g5 rfl, _, cell_of g5 rfl, new_put (vs := partVs l[i].block l[i].head.seq none 0 0) rfl fun B2 w₇ hb7 hs7 he7 g7 => ?_⟩
    have e7 := e5.trans he7
    have hbk := hlb _ (List.getElem_mem hi')
    refine ⟨_, cell_of (Ext.get he7 g5) rfl, (scan_Pages_spec (h.ext (e2.trans e7)) l[i].block).mono ?_⟩
    have hask : c.ask l[i].block 0 = 0 := ask_ok (k := 0) hd0 hbk (by have := h.ok.np1; omega)
    have hpo : pagesOut c l[i].block = pagesS c l[i].block := by unfold pagesOut; rw [if_pos hask, Int.toNat_natCast]
    rw [hpo, hask]
    rintro _ w₈ ⟨a3, c3, rfl, hl8, he8⟩
    have hs8 := he8.size
    have hpgl := pagesTo_length c l[i].block c.np
    have hnp2 := h.ok.np2
    change (pagesS c l[i].block).length ≤ c.np at hpgl
    have hpt : partOf c l[i] = ⟨l[i].block, l[i].head.seq, pagesS c l[i].block⟩ := rfl
    generalize pagesS c l[i].block = pg at *
    refine ⟨_, _, _, _, rfl, store_of (Ext.get he8 g7) (by simp) fun w₉ hp9 => ?_⟩
    have g9 : w₉.heap[B2]? = some (.cells (partVs l[i].block l[i].head.seq a3 pg.length c3).toArray T.scan_part (0, 0)) := hp9.get
    have hu9 := hp9.upd1
    have hs9 := hu9.size
    have hl9 := hl8.upd hu9 fun x hx => ⟨by omega, fun h => h⟩
    have hlu9 : ListAt partR NoB w₂.heap.size w₉ a2 c2 T.scan_part (partsL c era (l.take i)) := by
      obtain ⟨G, h1, h2, h3⟩ := ((hl5.ext he7).ext he8)
      obtain ⟨G', h1', h2', h3'⟩ := hl5
      refine ⟨G', (((h1'.ext he7).ext he8).upd hu9 (fun b hb e => ?_) fun b hb e => ?_), fun x hx => ⟨(h2' x hx).1, by have := (h2' x hx).2; have := he7.size; omega⟩, h3'⟩
      · have := (h2' b hb).2; omega
      · have := hl.lt hb; omega
    have e9 : Ext w₂ w₉ := (e7.trans he8).beyond hu9 fun x hx => by omega
    obtain ⟨G3, hG3, hG3'⟩ := hl9.slice
    refine ⟨_, _, _, cell_of g9 rfl, fun x14 x15 v => ∃ k : Nat, x15 = k ∧ k ≤ pg.length ∧ x14 = (lowP (lowL (partsL c era (l.take i))) (pg.take k) : Nat) ∧ Ext w₉ v, fun _ x _ => ((pg.length : Int) - x).toNat, ⟨0, rfl, by omega, rfl, Upd.refl _ _⟩, ?_⟩
    rintro x14 x15 v ⟨k, rfl, hk, rfl, hev⟩
    refine br_dec (fun hltk => ?_) fun hgek => ?_
    · have hk' : k < pg.length := by omega
      have ewk : IntKind.i64.wrap ((k : Int) + 1) = ((k + 1 : Nat) : Int) := w64 (by omega) (by omega)
      refine SliceAt.idx (r := pageR) (hG3.ext hev) rfl hk' fun b o vs ha hrow' hR' hG => ?_
      obtain ⟨ac, cc, rfl, _, _⟩ := pageR_elim hR'
      refine ⟨_, _, _, _, _, hrow'.cells, new_put (vs := pageVs pg[k].page ac pg[k].changes.length cc pg[k].drop) rfl fun B3 w₁₂ hb12 hs12 he12 g12 => ?_⟩
      simp only [add_lit, Nat.zero_add]
      refine ⟨_, cell_of g12 rfl, ?_⟩
      rw [ewk, max_if]
      exact ⟨⟨k + 1, rfl, hk', by rw [lowP_succ _ hk'], hev.trans he12⟩, meas hk'⟩
    · have hkk : k = pg.length := by omega
      subst hkk
      rw [List.take_length]
      refine ⟨_, _, _, _, _, cells_all (Ext.get hev g9), fun B4 w₁₃ hn13 => ?_⟩
      have hs13 := hn13.size
      have hsv := hev.size
      refine ListAt.push (r := partR) (H := G3) (x := partOf c l[i]) ((hlu9.ext hev).ext hn13.upd) (partR_intro (x := partOf c l[i]) (by rw [hpt]; exact hl9.cap) (by rw [hpt]; exact (hG3.ext hev).ext hn13.upd)) (fun b hb => ⟨?_, ?_, fun hab => ?_⟩) (by rw [hpt]; exact hn13) rfl rfl (by omega) (by omega) (by omega) fun a' c' w₁₄ hu14 hl14 => ?_
      · have := (hG3' b hb).1
        rcases this with h | h
        · left; have := e7.size; omega
        · exact h.elim
      · have := (hG3' b hb).2; omega
      · have h5 := (hG3' b hb).1
        have h6 := hl.lt hab
        rcases h5 with h | h
        · have := e7.size; have := e5.size; have := he5.size; have := he7.size; omega
        · exact h
      · rw [← hsucc] at hl14 ⊢
        refine ⟨⟨i + 1, rfl, hi', rfl, ?_, hl14, Ext.own ((e9.trans hev).trans hn13.upd) hu14 (Nat.le_refl _)⟩, meas hi'⟩
        rw [hsucc, lowL_snoc, hpt]
  · have hii : i = l.length := by omega
    subst hii
    rw [List.take_length] at hl ⊢
    exact hR _ _ ⟨a2, c2, rfl, hl.weak e2.size fun _ h => h.elim, e2.trans heu⟩
end Go.Den
end
section
set_option linter.unusedSimpArgs false
set_option linter.unusedVariables false
namespace Go.Den
/-- bytes whose cells a call owns, at S or behind -/
def BList (S : Nat) (w : World) (a : Option Addr) (cap : Nat) (l : List UInt8) : Prop := OwnAt w a l.length cap T.uint8 1 (l.map bv) ∧ ∀ b, a = some ⟨b, 0, none⟩ → S ≤ b
theorem BList.nil (S : Nat) (w : World) : BList S w none 0 [] := ⟨OwnAt.nil _ _ _, fun _ h => by cases h⟩
theorem BList.bytes {S : Nat} {w : World} {a : Option Addr} {cap : Nat} {l : List UInt8} (h : BList S w a cap l) : BytesAt w a l := h.1.row
theorem BList.cap {S : Nat} {w : World} {a : Option Addr} {cap : Nat} {l : List UInt8} (h : BList S w a cap l) : l.length ≤ cap := h.1.2.1
theorem BList.weak {S S' : Nat} {w : World} {a : Option Addr} {cap : Nat} {l : List UInt8} (h : BList S w a cap l) (hS : S' ≤ S) : BList S' w a cap l := ⟨h.1, fun b hb => Nat.le_trans hS (h.2 b hb)⟩
theorem BList.upd {S : Nat} {w w' : World} {F : Nat → Prop} {a : Option Addr} {cap : Nat} {l : List UInt8} (h : BList S w a cap l) (k : Upd F w w') (hF : ∀ x, F x → x < S) : BList S w' a cap l :=
  ⟨h.1.upd k fun b hb hf => absurd (h.2 b hb) (by have := hF b hf; omega), h.2⟩
theorem BList.ext {S : Nat} {w w' : World} {a : Option Addr} {cap : Nat} {l : List UInt8} (h : BList S w a cap l) (k : Ext w w') : BList S w' a cap l := ⟨h.1.ext k, h.2⟩
theorem BList.lt {S : Nat} {w : World} {a : Option Addr} {cap : Nat} {l : List UInt8} (h : BList S w a cap l) {p : Addr} (hp : a = some p) : S ≤ p.block ∧ p.block < w.heap.size := by
  have hb := h.1.2.2
  rcases hb with ⟨hx, _⟩ | ⟨b, cur, hx, hb, _⟩
  · rw [hx] at hp; cases hp
  · have hs := h.2 b hx
    rw [hx] at hp; cases hp
    exact ⟨hs, (Array.getElem?_eq_some_iff.1 hb).1⟩
theorem BList.new {S : Nat} {w w' : World} {B : Nat} {cs : Array Value} (h : New w (.cells cs T.uint8) B w') {l : List UInt8} (hl : cs.toList = l.map bv) (hS : S ≤ w.heap.size) : BList S w' (some ⟨B, 0, none⟩) l.length l := by
  have hsz : cs.size = l.length * 1 := by rw [← Array.length_toList, hl]; simp
  have := OwnAt.new h (n := l.length) (size := 1) hsz
  rw [hl] at this
  exact ⟨this, fun b hb => by cases hb; rw [h.num]; exact hS⟩
theorem BList.cat {S : Nat} {w : World} {a ax : Option Addr} {cap n m cx : Nat} {l xs : List UInt8} (h : BList S w a cap l) (hn : n = l.length) (hm : m = xs.length) (hx : BytesAt w ax xs) (hb : l.length + xs.length ≤ 140737488355232) (hS : S ≤ w.heap.size) {K : Option Addr → Nat → Nat → World → Prop}
    (hk : ∀ a' c' w', Upd (fun b => S ≤ b) w w' → BList S w' a' c' (l ++ xs) → K a' (l ++ xs).length c' w') : appendP T.uint8 1 1 [Value.int .u8 0] a n cap (.slice ax m cx) w K := by
  subst hn; subst hm
  refine append_bytes h.1 hx hb fun a' c' w' hu ho hf => hk a' c' w' (hu.mono fun b _ hb => h.2 b hb) ⟨ho, fun b hb => ?_⟩
  rcases hf with hf | ⟨b', hb', hl⟩
  · subst hf; exact h.2 b hb
  · rw [hb'] at hb; cases hb; omega
theorem BList.push {S : Nat} {w w₁ : World} {a : Option Addr} {cap n : Nat} {l : List UInt8} {B : Nat} {x : UInt8} (h : BList S w a cap l) (hn : n = l.length) (hnew : New w (.cells #[bv x] T.uint8) B w₁) (hb : l.length + 1 ≤ 140737488355232) (hS : S ≤ w.heap.size) {K : Option Addr → Nat → Nat → World → Prop}
    (hk : ∀ a' c' w', Upd (fun b => S ≤ b) w w' → BList S w' a' c' (l ++ [x]) → K a' (l ++ [x]).length c' w') : appendP T.uint8 1 1 [Value.int .u8 0] a n cap (.slice (some ⟨B, 0, none⟩) 1 1) w₁ K :=
  BList.cat (xs := [x]) (h.ext hnew.upd) hn rfl (RowAt.of hnew.get fun j v hj => by simpa using hj) (by simpa using hb) (by have := hnew.size; omega) fun a' c' w' hu hl => hk a' c' w' ((Upd.ext hnew.upd).trans hu) hl
/-- likewise; blocks of G stay -/
theorem BList.catX {G : Nat → Prop} {S : Nat} {w : World} {a ax : Option Addr} {cap n m cx : Nat} {l xs : List UInt8} (h : BList S w a cap l) (hG : ∀ b, a = some ⟨b, 0, none⟩ → ¬ G b) (hGs : ∀ x, G x → x < w.heap.size) (hn : n = l.length) (hm : m = xs.length) (hx : BytesAt w ax xs) (hb : l.length + xs.length ≤ 140737488355232) (hS : S ≤ w.heap.size) {K : Option Addr → Nat → Nat → World → Prop}
    (hk : ∀ a' c' w', Upd (fun b => S ≤ b ∧ ¬ G b) w w' → BList S w' a' c' (l ++ xs) → (∀ b, a' = some ⟨b, 0, none⟩ → ¬ G b) → K a' (l ++ xs).length c' w') : appendP T.uint8 1 1 [Value.int .u8 0] a n cap (.slice ax m cx) w K := by
  subst hn; subst hm
  refine append_bytes h.1 hx hb fun a' c' w' hu ho hf => hk a' c' w' (hu.mono fun b _ hb => ⟨h.2 b hb, hG b hb⟩) ⟨ho, fun b hb => ?_⟩ fun b hb hg => ?_
  · rcases hf with hf | ⟨b', hb', hl⟩
    · subst hf; exact h.2 b hb
    · rw [hb'] at hb; cases hb; omega
  · rcases hf with hf | ⟨b', hb', hl⟩
    · subst hf; exact hG b hb hg
    · rw [hb'] at hb; cases hb
      have := hGs _ hg
      omega
theorem BList.pushX {G : Nat → Prop} {S : Nat} {w w₁ : World} {a : Option Addr} {cap n : Nat} {l : List UInt8} {B : Nat} {x : UInt8} (h : BList S w a cap l) (hG : ∀ b, a = some ⟨b, 0, none⟩ → ¬ G b) (hGs : ∀ x, G x → x < w.heap.size) (hn : n = l.length) (hnew : New w (.cells #[bv x] T.uint8) B w₁) (hb : l.length + 1 ≤ 140737488355232) (hS : S ≤ w.heap.size) {K : Option Addr → Nat → Nat → World → Prop}
    (hk : ∀ a' c' w', Upd (fun b => S ≤ b ∧ ¬ G b) w w' → BList S w' a' c' (l ++ [x]) → (∀ b, a' = some ⟨b, 0, none⟩ → ¬ G b) → K a' (l ++ [x]).length c' w') : appendP T.uint8 1 1 [Value.int .u8 0] a n cap (.slice (some ⟨B, 0, none⟩) 1 1) w₁ K :=
  BList.catX (G := G) (xs := [x]) (h.ext hnew.upd) hG (fun x hx => by have := hGs x hx; have := hnew.size; omega) hn rfl (RowAt.of hnew.get fun j v hj => by simpa using hj) (by simpa using hb) (by have := hnew.size; omega) fun a' c' w' hu hl => hk a' c' w' ((Upd.ext hnew.upd).trans hu) hl
end Go.Den
end
section
set_option linter.unusedVariables false
set_option linter.unusedSimpArgs false
set_option maxRecDepth 8000
namespace Go.Den
/-- bytes that are answered with a number -/
def BytesOut (w w' : World) (v : Value) (l : List UInt8) (e : Nat) : Prop := ∃ a c, v = .tuple #[.slice a l.length c, .int .i64 (e : Nat)] ∧ BList w.heap.size w' a c l ∧ Ext w w'
theorem BytesOut.none {w w' : World} {e : Nat} (h : Ext w w') : BytesOut w w' (.tuple #[.slice .none 0 0, .int .i64 (e : Nat)]) [] e := ⟨.none, 0, rfl, BList.nil _ _, h⟩
def rowB (b : List UInt8) : List UInt8 × Nat := if b.length ≤ 255 then (UInt8.ofNat b.length :: b, 0) else ([], 3)
theorem carrackref01_Row_spec {w : World} {a : Option Addr} {b : List UInt8} {c : Nat} (hb : BytesAt w a b) :
    CallsR prog K.carrackref01_Row #[.slice a b.length c] w fun v w' => BytesOut w w' v (rowB b).1 (rowB b).2 := by
  apply carrackref01_Row.sh
  suffices H : ∀ R : Value → World → Prop, (∀ v w', BytesOut w w' v (rowB b).1 (rowB b).2 → R v w') → carrackref01_Row.body a b.length c w R from H _ fun _ _ h => h
  intro R hR
  unfold carrackref01_Row.body
  refine br_dec (fun hl => ?_) fun hl => ?_
  · have h : rowB b = ([], 3) := by unfold rowB; rw [if_neg (by omega)]
    rw [h] at hR
    exact hR _ _ (BytesOut.none (e := 3) (Upd.refl _ _))
  · have h : rowB b = (UInt8.ofNat b.length :: b, 0) := by unfold rowB; rw [if_pos (by omega)]
    rw [h] at hR
    intro B1 w₁ hn1
    rw [bv_mod, Nat.mod_eq_of_lt (by omega)] at hn1
    have hs1 := hn1.size
    refine BList.cat (l := [UInt8.ofNat b.length]) (S := w.heap.size) (BList.new hn1 rfl (Nat.le_refl _)) rfl rfl (hb.ext hn1.upd) (by simp; omega) (by omega) fun a' c' w' hu hl' => ?_
    exact hR _ _ ⟨a', c', rfl, hl', hn1.upd.own hu (Nat.le_refl _)⟩
/-! ### Keys -/
def keyB (k : Key) : List UInt8 := leB k.ino.toNat 2 ++ [k.what] ++ (if k.what = 2 then UInt8.ofNat k.bytes.length :: k.bytes else if k.what = 3 then [UInt8.ofNat k.chunk.toNat] else [])
def putKeyB (k : Key) : List UInt8 × Nat := if k.may then (keyB k, 0) else ([], 2)
theorem Key.may_elim {k : Key} (h : k.may = true) : 1 ≤ k.ino ∧ k.ino ≤ 65535 ∧ ((k.what = 1 ∧ k.bytes = [] ∧ k.chunk = 0) ∨ (k.what = 2 ∧ isName k.bytes = true ∧ k.chunk = 0) ∨ (k.what = 3 ∧ k.bytes = [] ∧ 0 ≤ k.chunk ∧ k.chunk < 8)) := by
  unfold Key.may at h
  simp only [Bool.and_eq_true, Bool.or_eq_true, decide_eq_true_eq] at h
  obtain ⟨⟨h1, h2⟩, h3⟩ := h
  refine ⟨h1, h2, ?_⟩
  rcases h3 with (⟨⟨h, h'⟩, h''⟩ | ⟨⟨h, h'⟩, h''⟩) | ⟨⟨⟨h, h'⟩, h''⟩, h'''⟩
  · exact .inl ⟨UInt8.toNat_inj.1 h, h', h''⟩
  · exact .inr (.inl ⟨UInt8.toNat_inj.1 h, h', h''⟩)
  · exact .inr (.inr ⟨UInt8.toNat_inj.1 h, h', h'', h'''⟩)
theorem isName_len {s : List UInt8} (h : isName s = true) : 1 ≤ s.length ∧ s.length ≤ 12 := by
  unfold isName at h
  simp only [Bool.and_eq_true, decide_eq_true_eq] at h
  exact ⟨h.1.1.1.2, h.1.1.2⟩
theorem keyB_len {k : Key} (h : k.may = true) : 3 ≤ (keyB k).length ∧ (keyB k).length ≤ 16 := by
  obtain ⟨_, _, h3⟩ := Key.may_elim h
  unfold keyB
  simp only [List.length_append, leB_length, List.length_cons, List.length_nil]
  rcases h3 with ⟨h, _⟩ | ⟨h, h', _⟩ | ⟨h, _⟩
  · rw [h, if_neg (by decide), if_neg (by decide)]; simp
  · have := isName_len h'
    rw [h, if_pos rfl]
    simp only [List.length_cons]
    omega
  · rw [h, if_neg (by decide), if_pos rfl]; simp
theorem tmod_256 {n : Nat} : Int.tmod (n : Int) 256 = ((n % 256 : Nat) : Int) := tmod_nat n 256
theorem tdiv_256 {n : Nat} : Int.tdiv (n : Int) 256 = ((n / 256 : Nat) : Int) := tdiv_nat n 256
theorem carrackref06_PutKey_spec (k : Key) (hn : k.name.size < 9223372036854775807) (w : World) :
    CallsR prog K.carrackref06_PutKey #[keyV k] w fun v w' => BytesOut w w' v (putKeyB k).1 (putKeyB k).2 := by
  apply carrackref06_PutKey.sh
  suffices H : ∀ R : Value → World → Prop, (∀ v w', BytesOut w w' v (putKeyB k).1 (putKeyB k).2 → R v w') → carrackref06_PutKey.body k.ino k.what.toNat k.name k.chunk w R from H _ fun _ _ h => h
  intro R hR
  unfold carrackref06_PutKey.body
  simp only [add_lit, Nat.zero_add]
  intro B1 w₁ hn1
  have g1 : KeyAt w₁ B1 k := hn1.get
  have hb1 : B1 = w.heap.size := hn1.num
  have hs1 := hn1.size
  refine ⟨_, _, _, _, key_cells g1, (carrackref06_MayKey_spec k hn w₁).mono ?_⟩
  rintro _ w₂ ⟨rfl, he2⟩
  have g2 : KeyAt w₂ B1 k := Ext.get he2 g1
  have e2 : Ext w w₂ := hn1.upd.trans he2
  have hs2 := he2.size
  refine ⟨_, rfl, br_intro (fun hm => ?_) fun hm => ?_⟩
  · have h : putKeyB k = ([], 2) := by unfold putKeyB; rw [if_neg (by simpa using hm)]
    rw [h] at hR
    exact hR _ _ (BytesOut.none (e := 2) e2)
  have hm' : k.may = true := by simpa using hm
  have h : putKeyB k = (keyB k, 0) := by unfold putKeyB; rw [if_pos hm']
  rw [h] at hR
  obtain ⟨h1, h2, h3⟩ := Key.may_elim hm'
  obtain ⟨n, hn0⟩ : ∃ n : Nat, k.ino = n := ⟨k.ino.toNat, by omega⟩
  refine ⟨_, cell_of g2 rfl, by decide, _, cell_of g2 rfl, by decide, _, cell_of g2 rfl, fun B2 w₃ hn3 => ?_⟩
  rw [hn0, tmod_256, tdiv_256, w64n (by omega), bv_mod, bv_mod, Nat.mod_mod] at hn3
  have hbl : (leB k.ino.toNat 2 ++ [k.what]).length = 3 := by simp [leB_length]
  have hbase : BList w₂.heap.size w₃ (some ⟨B2, 0, none⟩) 3 (leB k.ino.toNat 2 ++ [k.what]) := by
    have := BList.new (S := w₂.heap.size) (l := leB k.ino.toNat 2 ++ [k.what]) hn3 (by rw [hn0, leB_two]; rfl) (Nat.le_refl _)
    rw [hbl] at this
    exact this
  have hs3 := hn3.size
  have e3 : Ext w w₃ := e2.trans hn3.upd
  have g3 : KeyAt w₃ B1 k := Ext.get hn3.upd g2
  refine ⟨_, cell_of g3 rfl, br_eq (fun hw => ?_) fun hw => br_eq (fun hw3 => ?_) fun hw3 => ?_⟩
  · have hw' : k.what = 2 := UInt8.toNat_inj.1 (by show k.what.toNat = 2; omega)
    have hname : isName k.bytes = true := by
      rcases h3 with ⟨h, _⟩ | ⟨_, h, _⟩ | ⟨h, _⟩
      · rw [hw'] at h; cases h
      · exact h
      · rw [hw'] at h; cases h
    have hlen := isName_len hname
    have hbs : k.name.size = k.bytes.length := size_data _
    have hkey : keyB k = leB k.ino.toNat 2 ++ [k.what] ++ [UInt8.ofNat k.bytes.length] ++ k.bytes := by unfold keyB; rw [if_pos hw']; simp
    have hpl : (leB k.ino.toNat 2 ++ [k.what] ++ [UInt8.ofNat k.bytes.length]).length = 4 := by simp [leB_length]
    refine ⟨_, cell_of g3 rfl, fun B3 w₄ hn4 => ?_⟩
    rw [hbs, bv_mod, Nat.mod_eq_of_lt (by omega)] at hn4
    refine BList.push hbase hbl.symm hn4 (by omega) (by omega) fun a1 c1 w₅ hu5 hl5 => ?_
    have e5 : Ext w w₅ := Ext.own e3 hu5 (by omega)
    have hs5 := hu5.size
    generalize hpre : leB k.ino.toNat 2 ++ [k.what] ++ [UInt8.ofNat k.bytes.length] = pre at *
    refine ⟨fun a l c x u => ∃ i : Nat, x = i ∧ i ≤ k.bytes.length ∧ l = (pre ++ k.bytes.take i).length ∧ BList w₂.heap.size u a c (pre ++ k.bytes.take i) ∧ Ext w u ∧ KeyAt u B1 k ∧ w₂.heap.size ≤ u.heap.size, fun _ _ _ x _ => ((k.bytes.length : Int) - x).toNat,
      ⟨0, rfl, by omega, by simp, by simpa using hl5, e5, hu5.get g3 (by omega), by omega⟩, ?_⟩
    rintro a l c x u ⟨i, rfl, hi, rfl, hl, heu, gu, hsu⟩
    refine ⟨_, cell_of gu rfl, ?_⟩
    rw [hbs]
    refine br_dec (fun hlt => ?_) fun hge => ?_
    · have hi' : i < k.bytes.length := by omega
      refine ⟨_, cell_of gu rfl, by omega, k.bytes[i], by rw [Int.toNat_natCast]; exact List.getElem?_eq_getElem hi', fun B4 w₇ hn7 => ?_⟩
      have hplen : (pre ++ k.bytes.take i).length ≤ 20 := by simp [hpl]; omega
      refine BList.push hl rfl hn7 (by omega) hsu fun a' c' w₈ hu8 hl8 => ?_
      have ew : IntKind.i64.wrap ((i : Int) + 1) = ((i + 1 : Nat) : Int) := w64 (by omega) (by omega)
      simp only [ew]
      have htk : pre ++ k.bytes.take i ++ [k.bytes[i]] = pre ++ k.bytes.take (i + 1) := by rw [List.append_assoc, List.take_succ_eq_append_getElem hi']
      rw [htk] at hl8 ⊢
      exact ⟨⟨i + 1, rfl, hi', rfl, hl8, Ext.own heu hu8 (by omega), hu8.get gu (by omega), by have := hu8.size; omega⟩, meas hi'⟩
    · have : i = k.bytes.length := by omega
      subst this
      rw [List.take_length] at hl ⊢
      rw [hkey] at hR
      exact hR _ _ ⟨a, c, rfl, hl.weak (by omega), heu⟩
  · have hw' : k.what = 3 := UInt8.toNat_inj.1 (by show k.what.toNat = 3; omega)
    have hch : 0 ≤ k.chunk ∧ k.chunk < 8 := by
      rcases h3 with ⟨h, _⟩ | ⟨h, _⟩ | ⟨_, _, h⟩
      · rw [hw'] at h; cases h
      · rw [hw'] at h; cases h
      · exact h
    obtain ⟨m, hm0⟩ : ∃ m : Nat, k.chunk = m := ⟨k.chunk.toNat, by omega⟩
    have hkey : keyB k = leB k.ino.toNat 2 ++ [k.what] ++ [UInt8.ofNat m] := by unfold keyB; rw [if_neg (by rw [hw']; decide), if_pos hw', hm0]; rfl
    refine ⟨_, cell_of g3 rfl, fun B5 w₉ hn9 => ?_⟩
    rw [hm0, bv_mod, Nat.mod_eq_of_lt (by omega)] at hn9
    refine BList.push hbase hbl.symm hn9 (by omega) (by omega) fun a1 c1 w₅ hu5 hl5 => ?_
    rw [← hkey] at hl5 ⊢
    exact hR _ _ ⟨a1, c1, rfl, hl5.weak (by omega), Ext.own e3 hu5 (by omega)⟩
  · have hkey : keyB k = leB k.ino.toNat 2 ++ [k.what] := by
      unfold keyB
      rw [if_neg (by intro h; rw [h] at hw; exact hw rfl), if_neg (by intro h; rw [h] at hw3; exact hw3 rfl), List.append_nil]
    rw [← hkey] at hbase hbl
    refine hR _ _ ⟨some ⟨B2, 0, none⟩, 3, ?_, hbase.weak (by omega), e3⟩
    rw [hbl]; rfl
/-! ### Changes -/
def mayC (c : Change) : Bool := c.key.may && (if c.gone then decide (c.val.length = 0) else decide (1 ≤ c.val.length) && decide (c.val.length ≤ 255))
def mayL (l : List Change) : Bool := decide (1 ≤ l.length) && decide (l.length ≤ 255) && l.all mayC
def chgB (c : Change) : List UInt8 := if c.gone then 0 :: keyB c.key else 1 :: (keyB c.key ++ UInt8.ofNat c.val.length :: c.val)
def bodyB (l : List Change) : List UInt8 := UInt8.ofNat l.length :: l.flatMap chgB
/-- no name is too great -/
def Small (l : List Change) : Prop := ∀ x ∈ l, x.key.name.size < 9223372036854775807
theorem carrackref11_may_spec (x : Change) {w : World} {a : Option Addr} {c : Nat} (hn : x.key.name.size < 9223372036854775807) :
    CallsR prog K.carrackref11_may #[.agg #[.int .i64 x.key.ino, bv x.key.what, .string x.key.name, .int .i64 x.key.chunk, .slice a x.val.length c, .bool x.gone]] w fun v w' => v = .bool (mayC x) ∧ Ext w w' := by
  apply carrackref11_may.sh
  suffices H : ∀ R : Value → World → Prop, (∀ v w', v = .bool (mayC x) ∧ Ext w w' → R v w') → carrackref11_may.body x.key.ino x.key.what.toNat x.key.name x.key.chunk a x.val.length c x.gone w R from H _ fun _ _ h => h
  intro R hR
  unfold carrackref11_may.body
  simp only [add_lit, Nat.zero_add]
  intro B1 w₁ hn1
  have g1 : w₁.heap[B1]? = some (.cells (changeVs x.key a x.val.length c x.gone).toArray T.api_Change (0, 0)) := hn1.get
  refine ⟨_, _, _, _, cellsAt_of (o := 0) (vs := x.key.vals) g1 (fun j v hj => by
    rcases j with _ | _ | _ | _ | j
    all_goals simp [Key.vals] at hj ⊢
    all_goals exact hj), (carrackref06_MayKey_spec x.key hn w₁).mono ?_⟩
  rintro _ w₂ ⟨rfl, he2⟩
  have g2 := Ext.get he2 g1
  have e2 : Ext w w₂ := hn1.upd.trans he2
  refine ⟨_, rfl, br_intro (fun hm => ?_) fun hm => ?_⟩
  · exact hR _ _ ⟨by unfold mayC; rw [show x.key.may = false by simpa using hm]; rfl, e2⟩
  have hm' : x.key.may = true := by simpa using hm
  refine ⟨_, cell_of g2 rfl, br_intro (fun hg => ?_) fun hg => ?_⟩
  · refine ⟨_, _, _, cell_of g2 rfl, hR _ _ ⟨?_, e2⟩⟩
    unfold mayC
    rw [hm', if_pos hg, Bool.true_and]
    congr 1
    rw [Bool.eq_iff_iff]; simp
  · have hmc : mayC x = (decide (1 ≤ x.val.length) && decide (x.val.length ≤ 255)) := by
      unfold mayC
      rw [hm', if_neg (by rw [hg]; decide), Bool.true_and]
    rw [hmc] at hR
    refine ⟨_, _, _, cell_of g2 rfl, br_dec (fun h1 => ⟨_, _, _, cell_of g2 rfl, hR _ _ ⟨?_, e2⟩⟩) fun h1 => hR _ _ ⟨?_, e2⟩⟩
    · rw [decide_eq_true (by omega : 1 ≤ x.val.length), Bool.true_and]
      congr 1
      rw [Bool.eq_iff_iff]; simp; omega
    · rw [decide_eq_false (by omega : ¬ 1 ≤ x.val.length), Bool.false_and]
theorem carrackref11_May_spec {l : List Change} {w : World} {G : Nat → Prop} {a : Option Addr} {c : Nat} (h : SliceAt changeR w G a l) (hs : Small l) :
    CallsR prog K.carrackref11_May #[.slice a l.length c] w fun v w' => v = .bool (mayL l) ∧ Ext w w' := by
  apply carrackref11_May.sh
  suffices H : ∀ R : Value → World → Prop, (∀ v w', v = .bool (mayL l) ∧ Ext w w' → R v w') → carrackref11_May.body a l.length c w R from H _ fun _ _ h => h
  intro R hR
  unfold carrackref11_May.body
  refine br_dec (fun h1 => hR _ _ ⟨by unfold mayL; rw [decide_eq_false (by omega : ¬ 1 ≤ l.length)]; rfl, Upd.refl _ _⟩) fun h1 => br_dec (fun h2 => hR _ _ ⟨by unfold mayL; rw [decide_eq_false (by omega : ¬ l.length ≤ 255)]; simp, Upd.refl _ _⟩) fun h2 => ?_
  have hml : mayL l = l.all mayC := by unfold mayL; rw [decide_eq_true (by omega : 1 ≤ l.length), decide_eq_true (by omega : l.length ≤ 255)]; rfl
  rw [hml] at hR
  refine ⟨fun x u => ∃ i : Nat, x = i ∧ i ≤ l.length ∧ Ext w u ∧ (l.take i).all mayC = true, fun x _ => ((l.length : Int) - x).toNat, ⟨0, rfl, by omega, Upd.refl _ _, by simp⟩, ?_⟩
  rintro x u ⟨i, rfl, hi, heu, hall⟩
  refine br_dec (fun hlt => ?_) fun hge => ?_
  · have hi' : i < l.length := by omega
    refine SliceAt.idx (r := changeR) (h.ext heu) rfl hi' fun b o vs ha hrow hR' hG => ?_
    obtain ⟨a', c', rfl, hc', hb', hg'⟩ := changeR_elim hR'
    refine ⟨_, _, _, _, _, _, _, _, hrow.cells, (carrackref11_may_spec l[i] (hs _ (List.getElem_mem _))).mono ?_⟩
    rintro _ w₂ ⟨rfl, he2⟩
    have ew : IntKind.i64.wrap ((i : Int) + 1) = ((i + 1 : Nat) : Int) := w64 (by omega) (by omega)
    simp only [ew]
    refine ⟨_, rfl, br_intro (fun hm => ?_) fun hm => ?_⟩
    · refine hR _ _ ⟨?_, heu.trans he2⟩
      have : l.all mayC = false := by
        rw [List.all_eq_false]
        exact ⟨l[i], List.getElem_mem _, by simpa using hm⟩
      rw [this]
    · exact ⟨⟨i + 1, rfl, hi', heu.trans he2, by rw [List.take_succ_eq_append_getElem hi', List.all_append, hall]; simpa using hm⟩, meas hi'⟩
  · have : i = l.length := by omega
    subst this
    rw [List.take_length] at hall
    exact hR _ _ ⟨by rw [hall], heu⟩
theorem chgB_len {x : Change} (h : mayC x = true) : (chgB x).length ≤ 300 := by
  unfold mayC at h
  rw [Bool.and_eq_true] at h
  have hk := keyB_len h.1
  unfold chgB
  split
  · simp; omega
  · rename_i hg
    rw [if_neg hg, Bool.and_eq_true, decide_eq_true_eq, decide_eq_true_eq] at h
    simp; omega
theorem flat_len_le {α : Type} {f : α → List UInt8} {n : Nat} : ∀ (l : List α), (∀ x ∈ l, (f x).length ≤ n) → (l.flatMap f).length ≤ l.length * n
  | [], _ => by simp
  | x :: l, h => by
    rw [List.flatMap_cons, List.length_append, List.length_cons, Nat.succ_mul]
    have := h x (by simp)
    have := flat_len_le l fun y hy => h y (by simp [hy])
    omega
theorem mayL_elim {l : List Change} (h : mayL l = true) : 1 ≤ l.length ∧ l.length ≤ 255 ∧ ∀ x ∈ l, mayC x = true := by
  unfold mayL at h
  simp only [Bool.and_eq_true, decide_eq_true_eq, List.all_eq_true] at h
  exact ⟨h.1.1, h.1.2, h.2⟩
theorem bodyB_len {l : List Change} (h : mayL l = true) : (bodyB l).length ≤ 100000 := by
  obtain ⟨h1, h2, h3⟩ := mayL_elim h
  unfold bodyB
  have := flat_len_le (f := chgB) l (fun x hx => chgB_len (h3 x hx))
  simp only [List.length_cons]
  omega
theorem carrackref11_body_spec {l : List Change} {w : World} {G : Nat → Prop} {a : Option Addr} {c : Nat} (h : SliceAt changeR w G a l) (hs : Small l) (hm : mayL l = true) :
    CallsR prog K.carrackref11_body #[.slice a l.length c] w fun v w' => ∃ a' c', v = .slice a' (bodyB l).length c' ∧ BList w.heap.size w' a' c' (bodyB l) ∧ Ext w w' := by
  apply carrackref11_body.sh
  suffices H : ∀ R : Value → World → Prop, (∀ v w', (∃ a' c', v = .slice a' (bodyB l).length c' ∧ BList w.heap.size w' a' c' (bodyB l) ∧ Ext w w') → R v w') → carrackref11_body.body a l.length c w R from H _ fun _ _ h => h
  intro R hR
  unfold carrackref11_body.body
  obtain ⟨h1, h2, h3⟩ := mayL_elim hm
  intro B1 w₁ hn1
  rw [bv_mod, Nat.mod_eq_of_lt (by omega)] at hn1
  have hs1 := hn1.size
  refine ⟨fun a' l' c' x u => ∃ i : Nat, x = i ∧ i ≤ l.length ∧ l' = (UInt8.ofNat l.length :: (l.take i).flatMap chgB).length ∧ BList w.heap.size u a' c' (UInt8.ofNat l.length :: (l.take i).flatMap chgB) ∧ Ext w u, fun _ _ _ x _ => ((l.length : Int) - x).toNat,
    ⟨0, rfl, by omega, by simp, BList.new (l := [UInt8.ofNat l.length]) hn1 rfl (Nat.le_refl _), hn1.upd⟩, ?_⟩
  rintro a1 l1 c1 x u ⟨i, rfl, hi, rfl, hl, heu⟩
  have hsu := heu.size
  refine br_dec (fun hlt => ?_) fun hge => ?_
  · have hi' : i < l.length := by omega
    have ew : IntKind.i64.wrap ((i : Int) + 1) = ((i + 1 : Nat) : Int) := w64 (by omega) (by omega)
    simp only [ew]
    have hmx := h3 l[i] (List.getElem_mem _)
    have hacc : (UInt8.ofNat l.length :: (l.take i).flatMap chgB).length ≤ 100000 := by
      have := flat_len_le (f := chgB) (l.take i) (fun x hx => chgB_len (h3 x (List.mem_of_mem_take hx)))
      simp only [List.length_cons, List.length_take] at this ⊢
      have : min i l.length * 300 ≤ 255 * 300 := Nat.mul_le_mul_right _ (by omega)
      omega
    have hsucc : UInt8.ofNat l.length :: (l.take (i + 1)).flatMap chgB = (UInt8.ofNat l.length :: (l.take i).flatMap chgB) ++ chgB l[i] := by
      rw [List.take_succ_eq_append_getElem hi', List.flatMap_append]; simp
    generalize hpre : UInt8.ofNat l.length :: (l.take i).flatMap chgB = pre at *
    have hkm : l[i].key.may = true := by unfold mayC at hmx; rw [Bool.and_eq_true] at hmx; exact hmx.1
    have hkl := keyB_len hkm
    refine SliceAt.idx (r := changeR) (h.ext heu) rfl hi' fun b o vs ha hrow hR' hG => ?_
    obtain ⟨av, cv, rfl, hcv, hbv, hgv⟩ := changeR_elim hR'
    refine ⟨_, _, _, _, (RowAt.take hrow 4).cells, (carrackref06_PutKey_spec l[i].key (hs _ (List.getElem_mem _)) u).mono ?_⟩
    rintro _ w₃ ⟨a2, c2, rfl, hl2, he3⟩
    have hpk : putKeyB l[i].key = (keyB l[i].key, 0) := by unfold putKeyB; rw [if_pos hkm]
    rw [hpk] at hl2 ⊢
    simp only [] at hl2 ⊢
    have hs3 := he3.size
    have e3 := heu.trans he3
    have hl3 := hl.ext he3
    refine ⟨_, _, _, _, rfl, SliceAt.idx (r := changeR) (h.ext e3) rfl hi' fun b' o' vs' ha' hrow' hR'' hG' => ?_⟩
    obtain ⟨av', cv', rfl, hcv', hbv', hgv'⟩ := changeR_elim hR''
    simp only [add_lit]
    refine ⟨_, row_cell hrow' (j := 5) rfl, br_intro (fun hg => ?_) fun hg => ?_⟩
    · have hcb : chgB l[i] = [0] ++ keyB l[i].key := by unfold chgB; rw [if_pos hg]; rfl
      intro B2 w₄ hn4
      have hs4 := hn4.size
      refine BList.pushX (G := fun b => u.heap.size ≤ b ∧ b < w₃.heap.size) (x := 0) hl3 (fun b hb hg => by have := (hl.lt hb).2; have : b < u.heap.size := this; omega) (fun x hx => hx.2) rfl hn4 (by omega) (by omega) fun a3 c3 w₅ hu5 hl5 hg5 => ?_
      have hs5 := hu5.size
      have hkb : BytesAt w₅ a2 (keyB l[i].key) := RowAt.upd hl2.bytes hu5 fun p hp hF => hF.2 (hl2.lt hp)
      have e5 : Ext w w₅ := e3.beyond hu5 fun x hx => hx.1
      refine BList.catX (G := NoB) hl5 (fun _ _ h => h) (fun _ h => h.elim) rfl rfl hkb (by simp; omega) (by omega) fun a4 c4 w₆ hu6 hl6 _ => ?_
      rw [List.append_assoc, ← hcb, ← hsucc] at hl6 ⊢
      exact ⟨⟨i + 1, rfl, hi', rfl, hl6, e5.beyond hu6 fun x hx => hx.1⟩, meas hi'⟩
    · have hmv : 1 ≤ l[i].val.length ∧ l[i].val.length ≤ 255 := by
        unfold mayC at hmx
        rw [hkm, if_neg (by rw [hg]; decide), Bool.true_and, Bool.and_eq_true, decide_eq_true_eq, decide_eq_true_eq] at hmx
        exact hmx
      have hcb : chgB l[i] = [1] ++ keyB l[i].key ++ (UInt8.ofNat l[i].val.length :: l[i].val) := by unfold chgB; rw [if_neg (by rw [hg]; decide)]; simp
      refine SliceAt.idx (r := changeR) (h.ext e3) rfl hi' fun b' o' vs' ha' hrow' hR'' hG' => ?_
      obtain ⟨av', cv', rfl, hcv', hbv', hgv'⟩ := changeR_elim hR''
      simp only [add_lit]
      refine ⟨_, _, _, row_cell hrow' (j := 4) rfl, (carrackref01_Row_spec hbv').mono ?_⟩
      rintro _ w₇ ⟨a6, c6, rfl, hl6, he7⟩
      have hrb : rowB l[i].val = (UInt8.ofNat l[i].val.length :: l[i].val, 0) := by unfold rowB; rw [if_pos hmv.2]
      rw [hrb] at hl6 ⊢
      simp only [] at hl6 ⊢
      have hs7 := he7.size
      have e7 := e3.trans he7
      refine ⟨_, _, _, _, rfl, fun B3 w₈ hn8 => ?_⟩
      have hs8 := hn8.size
      refine BList.pushX (G := fun b => u.heap.size ≤ b ∧ b < w₇.heap.size) (x := 1) (hl3.ext he7) (fun b hb hg => by have : b < u.heap.size := (hl.lt hb).2; omega) (fun x hx => hx.2) rfl hn8 (by omega) (by omega) fun a3 c3 w₉ hu9 hl9 hg9 => ?_
      have hs9 := hu9.size
      have hkb : BytesAt w₉ a2 (keyB l[i].key) := RowAt.upd (hl2.bytes.ext he7) hu9 fun p hp hF => hF.2 (by have := hl2.lt hp; omega)
      have hvb : BytesAt w₉ a6 (UInt8.ofNat l[i].val.length :: l[i].val) := RowAt.upd hl6.bytes hu9 fun p hp hF => hF.2 (by have := hl6.lt hp; omega)
      have e9 : Ext w w₉ := e7.beyond hu9 fun x hx => hx.1
      refine BList.catX (G := fun b => u.heap.size ≤ b ∧ b < w₇.heap.size) hl9 hg9 (fun x hx => by omega) rfl rfl hkb (by simp; omega) (by omega) fun a4 c4 w₁₀ hu10 hl10 _ => ?_
      have hs10 := hu10.size
      have hvb10 : BytesAt w₁₀ a6 (UInt8.ofNat l[i].val.length :: l[i].val) := RowAt.upd hvb hu10 fun p hp hF => hF.2 (by have := hl6.lt hp; omega)
      have e10 : Ext w w₁₀ := e9.beyond hu10 fun x hx => hx.1
      refine BList.catX (G := NoB) hl10 (fun _ _ h => h) (fun _ h => h.elim) rfl rfl hvb10 (by simp; omega) (by omega) fun a5 c5 w₁₁ hu11 hl11 _ => ?_
      have hassoc : pre ++ [1] ++ keyB l[i].key ++ (UInt8.ofNat l[i].val.length :: l[i].val) = UInt8.ofNat l.length :: (l.take (i + 1)).flatMap chgB := by rw [hsucc, hcb]; simp
      rw [hassoc] at hl11 ⊢
      exact ⟨⟨i + 1, rfl, hi', rfl, hl11, e10.beyond hu11 fun x hx => hx.1⟩, meas hi'⟩
  · have : i = l.length := by omega
    subst this
    rw [List.take_length] at hl ⊢
    exact hR _ _ ⟨a1, c1, rfl, hl, heu⟩
/-- a page out of a body -/
def putPage (size : Int) (kind : UInt8) (body : List UInt8) : List UInt8 × Nat :=
  if isSize size = false ∨ kind < 1 ∨ kind > 7 then ([], 2) else if (body.length : Int) > size - 5 then ([], 3) else (pageOf size.toNat kind body, 0)
def putL (size : Int) (l : List Change) : List UInt8 × Nat := if mayL l then putPage size 2 (bodyB l) else ([], 2)
def putDropB (size : Int) (seq : Nat) : List UInt8 × Nat := if seq = 0 then ([], 2) else putPage size 3 (leB seq 8)
theorem putPage_ref {size k : Int} {kind : UInt8} (hk : k = (kind.toNat : Int)) {a : Option Addr} {body : List UInt8} {c : Nat} {w : World} (h : BytesAt w a body) (hn : body.length ≤ 281474976710656) (hsz : size < 9223372036854775808) (hsz0 : -9223372036854775808 ≤ size) :
    CallsR prog K.carrackref02_Put #[.int .i64 size, .int .u8 k, .slice a body.length c] w fun v w' => BytesOut w w' v (putPage size kind body).1 (putPage size kind body).2 := by
  refine (carrackref02_Put_own size k kind hk h hn hsz hsz0).mono ?_
  rintro v w' ⟨he, hv⟩
  unfold putPage
  by_cases h1 : isSize size = false ∨ kind < 1 ∨ kind > 7
  · rw [if_pos h1] at hv
    rw [if_pos h1, hv]
    exact BytesOut.none (e := 2) he
  · rw [if_neg h1] at hv
    rw [if_neg h1]
    by_cases h2 : (body.length : Int) > size - 5
    · rw [if_pos h2] at hv
      rw [if_pos h2, hv]
      exact BytesOut.none (e := 3) he
    · rw [if_neg h2] at hv
      rw [if_neg h2]
      obtain ⟨a', c', rfl, hb, hf, hc⟩ := hv
      have hl : (pageOf size.toNat kind body).length = size.toNat := pageOf_length _ _ _ (by omega)
      exact ⟨a', c', by rw [hl]; rfl, ⟨by rw [hl]; exact hb, fun b hb => hf _ hb⟩, he⟩
theorem putPage_len {size : Int} {kind : UInt8} {body : List UInt8} (hsz : 0 ≤ size) : (putPage size kind body).1.length = 0 ∨ (putPage size kind body).1.length = size.toNat := by
  unfold putPage
  split
  · exact .inl rfl
  · split
    · exact .inl rfl
    · exact .inr (pageOf_length _ _ _ (by omega))
theorem carrackref11_Put_spec {l : List Change} {w : World} {G : Nat → Prop} {a : Option Addr} {c : Nat} (h : SliceAt changeR w G a l) (hs : Small l) (size : Int) (hsz : size < 9223372036854775808) (hsz0 : -9223372036854775808 ≤ size) :
    CallsR prog K.carrackref11_Put #[.int .i64 size, .slice a l.length c] w fun v w' => BytesOut w w' v (putL size l).1 (putL size l).2 := by
  apply carrackref11_Put.sh
  suffices H : ∀ R : Value → World → Prop, (∀ v w', BytesOut w w' v (putL size l).1 (putL size l).2 → R v w') → carrackref11_Put.body size a l.length c w R from H _ fun _ _ h => h
  intro R hR
  unfold carrackref11_Put.body
  refine (carrackref11_May_spec h hs).mono ?_
  rintro _ w₁ ⟨rfl, he1⟩
  refine ⟨_, rfl, br_intro (fun hm => ?_) fun hm => ?_⟩
  · have hp : putL size l = ([], 2) := by unfold putL; rw [if_neg (by simpa using hm)]
    rw [hp] at hR
    exact hR _ _ (BytesOut.none (e := 2) he1)
  · have hm' : mayL l = true := by simpa using hm
    have hp : putL size l = putPage size 2 (bodyB l) := by unfold putL; rw [if_pos hm']
    rw [hp] at hR
    refine (carrackref11_body_spec (h.ext he1) hs hm').mono ?_
    rintro _ w₂ ⟨a2, c2, rfl, hl2, he2⟩
    have := bodyB_len hm'
    refine ⟨_, _, _, rfl, (putPage_ref (kind := 2) rfl hl2.bytes (by omega) hsz hsz0).mono ?_⟩
    rintro _ w₃ ⟨a3, c3, rfl, hb3, he3⟩
    exact ⟨_, _, _, _, rfl, hR _ _ ⟨a3, c3, rfl, hb3.weak (he1.trans he2).size, (he1.trans he2).trans he3⟩⟩
theorem carrackref11_PutDrop_spec (size : Int) (hsz : size < 9223372036854775808) (hsz0 : -9223372036854775808 ≤ size) (seq : Nat) (hq : seq < 18446744073709551616) (w : World) :
    CallsR prog K.carrackref11_PutDrop #[.int .i64 size, .int .u64 seq] w fun v w' => BytesOut w w' v (putDropB size seq).1 (putDropB size seq).2 := by
  apply carrackref11_PutDrop.sh
  suffices H : ∀ R : Value → World → Prop, (∀ v w', BytesOut w w' v (putDropB size seq).1 (putDropB size seq).2 → R v w') → carrackref11_PutDrop.body size seq w R from H _ fun _ _ h => h
  intro R hR
  unfold carrackref11_PutDrop.body
  refine br_eq (fun h0 => ?_) fun h0 => ?_
  · have hp : putDropB size seq = ([], 2) := by unfold putDropB; rw [if_pos (by omega)]
    rw [hp] at hR
    exact hR _ _ (BytesOut.none (e := 2) (Upd.refl _ _))
  · have hp : putDropB size seq = putPage size 3 (leB seq 8) := by unfold putDropB; rw [if_neg (by omega)]
    rw [hp] at hR
    refine (carrackref01_Put_spec seq 8 w (by rfl) (by rw [show (256 : Nat) ^ 8 = 18446744073709551616 by decide]; exact hq)).mono ?_
    rintro _ w₁ ⟨a1, c1, rfl, ho1, hf1, he1⟩
    have hlen := leB_length 8 seq
    refine ⟨_, _, _, _, rfl, ?_⟩
    have hput := putPage_ref (kind := 3) (c := c1) rfl ho1.row (by omega) hsz hsz0
    rw [hlen] at hput
    refine hput.mono ?_
    rintro _ w₃ ⟨a3, c3, rfl, hb3, he3⟩
    exact ⟨_, _, _, _, rfl, hR _ _ ⟨a3, c3, rfl, hb3.weak he1.size, he1.trans he3⟩⟩
end Go.Den
end
section
set_option linter.unusedVariables false
set_option linter.unusedSimpArgs false
set_option maxRecDepth 8000
namespace Go.Den
/-- a chip that nothing was done on yet -/
structure Still (c : Chip) (nb np sz sp : Nat) : Prop where
  nb : c.nb = nb
  np : c.np = np
  sz : c.sz = sz
  sp : c.sp = sp
  hits : c.hits = []
  since : c.since = 0
  dead : c.dead = false
  deeds : c.deeds = 0
theorem Still.blk {c : Chip} {nb np sz sp : Nat} (h : Still c nb np sz sp) (i : Nat) (b : List UInt8) : Still (c.setBlk i b) nb np sz sp := ⟨h.1, h.2, h.3, h.4, h.5, h.6, h.7, h.8⟩
theorem Still.bad {c : Chip} {nb np sz sp : Nat} (h : Still c nb np sz sp) (b : List Bool) : Still { c with bad := b } nb np sz sp := ⟨h.1, h.2, h.3, h.4, h.5, h.6, h.7, h.8⟩
theorem nand_Load_spec (w : World) {nb np sz sp : Nat} (nb1 : 8 ≤ nb) (nb2 : nb ≤ 64) (np1 : 4 ≤ np) (np2 : np ≤ 32) (sz1 : 128 ≤ sz) (sz2 : sz ≤ 256) (sp2 : sp ≤ 4)
    {a : Option Addr} {all : List UInt8} {c : Nat} (hall : BytesAt w a all) (hlen : all.length = nb * (np * sz)) (hcap : all.length ≤ c) {ai : Option Addr} {is : List Int} {ci : Nat} (hi : RowAt w ai (is.map (Value.int .i64))) (his : ∀ x ∈ is, 0 ≤ x ∧ x < nb) (hic : is.length < 9000000000000000000) :
    CallsR prog K.nand_Load #[.agg #[.int .i64 nb, .int .i64 np, .int .i64 sz, .int .i64 sp], .slice a all.length c, .slice ai is.length ci] w fun v w' => Ext w w' ∧ ∃ p c', v = .tuple #[.pointer (some ⟨p, 0, none⟩), .int .i64 0] ∧ ChipAt w' p c' (fun x => w.heap.size ≤ x ∧ x < w'.heap.size) ∧ Still c' nb np sz sp ∧ (is = [] → c'.bad = List.replicate nb false) := by
  apply nand_Load.sh
  suffices H : ∀ R : Value → World → Prop, (∀ v w', (Ext w w' ∧ ∃ p c', v = .tuple #[.pointer (some ⟨p, 0, none⟩), .int .i64 0] ∧ ChipAt w' p c' (fun x => w.heap.size ≤ x ∧ x < w'.heap.size) ∧ Still c' nb np sz sp ∧ (is = [] → c'.bad = List.replicate nb false)) → R v w') → nand_Load.body nb np sz sp a all.length c ai is.length ci w R from H _ fun _ _ h => h
  intro R hR
  unfold nand_Load.body
  simp only [add_lit, Nat.zero_add]
  intro B1 w₁ hn1
  have g1 := hn1.get
  have hb1 : B1 = w.heap.size := hn1.num
  have hs1 := hn1.size
  refine ⟨_, _, _, _, cellsAt_of (o := 0) g1 (fun j v hj => by simpa using hj), (nand_New_spec w₁ nb1 nb2 np1 np2 sz1 sz2 sp2).mono ?_⟩
  rintro _ w₂ ⟨he2, p, rfl, L, G, hrep, hF, hGF, _⟩
  have hs2 := he2.size
  have g2 := Ext.get he2 g1
  have e2 : Ext w w₂ := hn1.upd.trans he2
  have hN1 : 512 ≤ np * sz := Nat.mul_le_mul np1 sz1
  have hN2 : np * sz ≤ 8192 := Nat.mul_le_mul np2 sz2
  have q1 : IntKind.i64.wrap ((np : Int) * (sz : Int)) = ((np * sz : Nat) : Int) := by rw [w64 (by have := Int.natCast_mul np sz; omega) (by have := Int.natCast_mul np sz; omega)]; exact (Int.natCast_mul np sz).symm
  have hNN : nb * (np * sz) ≤ 64 * 8192 := Nat.mul_le_mul nb2 hN2
  generalize hN : np * sz = N at *
  have q2 : IntKind.i64.wrap ((nb : Int) * (N : Int)) = ((nb * N : Nat) : Int) := by rw [w64 (by have := Int.natCast_mul nb N; omega) (by have := Int.natCast_mul nb N; omega)]; exact (Int.natCast_mul nb N).symm
  refine ⟨_, _, rfl, br_ne (fun h => absurd rfl h) fun _ => ⟨_, cell_of g2 rfl, _, cell_of g2 rfl, _, cell_of g2 rfl, ?_⟩⟩
  rw [q1, q2, hlen]
  refine br_ne (fun h => absurd rfl h) fun _ => ?_
  simp only [nilC_some', add_lit, Nat.zero_add]
  have hpF : ∀ x, x ∈ p :: L.bb :: L.locs → w₁.heap.size ≤ x ∧ x < w₂.heap.size := hF
  refine ⟨_, _, _, cell_of hrep.head rfl, ?_⟩
  refine ⟨fun x u => ∃ (i : Nat) (c' : Chip), x = i ∧ i ≤ nb ∧ ChipRep u p c' L G ∧ (Still c' nb np sz sp ∧ c'.bad = List.replicate nb false) ∧ Ext w u ∧ w₂.heap.size ≤ u.heap.size ∧ u.heap[B1]? = some (.cells #[.int .i64 nb, .int .i64 np, .int .i64 sz, .int .i64 sp] T.api_Geo (0, 0)), fun x _ => ((nb : Int) - x).toNat,
    ⟨0, _, rfl, by omega, hrep, ⟨⟨rfl, rfl, rfl, rfl, rfl, rfl, rfl, rfl⟩, rfl⟩, e2, Nat.le_refl _, g2⟩, ?_⟩
  rintro x u ⟨i, c', rfl, hi', hr, ⟨hst, hcb⟩, heu, hsu, gu⟩
  refine br_dec (fun hlt => ?_) fun hge => ?_
  · have hin : i < nb := by
      have : ((i : Int)) < (nb : Int) := hlt
      omega
    intro w₄ hd4
    have hr4 := hr.ext hd4.upd
    have hcn : c'.np * c'.sz = N := by rw [hst.np, hst.sz, hN]
    obtain ⟨vs, ho, hv⟩ := hr4.rows
    obtain ⟨l, cap, hl, hvi, hbi⟩ := hv i (by rw [hst.nb]; exact hin)
    have hnd := hr4.nodup
    have hlm := List.mem_of_getElem? hl
    have hpl : p ≠ l := fun e => by rw [e] at hnd; exact (List.nodup_cons.1 hnd).1 (by simp [hlm])
    have hpbl : L.pb ≠ l := fun e => hr4.apart l (by simp [hlm]) (e ▸ hr4.pbG)
    have hlF := hpF l (by simp [hlm])
    have keep : ∀ {u'}, Upd (· = l) w₄ u' → u'.heap[p]? = some (.cells (chipCells c' L) T.nand_Chip (0, 0)) ∧ OwnAt u' (some ⟨L.pb, 0, none⟩) c'.nb L.cb T.L_uint8 1 vs := fun k => ⟨k.get hr4.head hpl, ho.upd k fun b hb => by cases hb; exact hpbl⟩
    refine ⟨fun u' => Upd (· = l) w₄ u', Upd.refl _ _, some ⟨L.pb, 0, none⟩, c'.nb, L.cb, ?_, ?_⟩
    · intro u' k
      exact cell_of (keep k).1 rfl
    have hcnb : c'.nb = nb := hst.nb
    refine ⟨by omega, by omega, ?_⟩
    simp only [nilC_some', add_lit, Nat.zero_add, Nat.mul_one, Int.toNat_natCast]
    refine ⟨some ⟨l, 0, none⟩, N, cap, ?_, ?_⟩
    · intro u' k
      obtain ⟨b', o', e, hc⟩ := (keep k).2.row.cell hvi
      cases e
      rw [← hcn]
      simpa using hc
    have q3 : IntKind.i64.wrap ((i : Int) * (N : Int)) = ((i * N : Nat) : Int) := by
      have hle : i * N ≤ nb * N := Nat.mul_le_mul_right _ (by omega)
      rw [w64 (by have := Int.natCast_mul i N; omega) (by have := Int.natCast_mul i N; omega)]; exact (Int.natCast_mul i N).symm
    have hiN : i * N + N ≤ nb * N := by
      have : (i + 1) * N ≤ nb * N := Nat.mul_le_mul_right _ hin
      rwa [Nat.succ_mul] at this
    rw [q3, ← hlen]
    refine slice_bytes_from ((hall.ext heu).ext hd4.upd) (by omega) (by omega) hcap fun a4 c4 hb4 hc4 _ _ _ => ?_
    simp only [Int.toNat_natCast] at hb4 hc4 ⊢
    have hdl : (all.drop (i * N)).length = all.length - i * N := List.length_drop
    have hmin : min (all.drop (i * N)).length N = N := by omega
    have htk : ((all.drop (i * N)).take N).length = N := by rw [List.length_take]; omega
    refine ⟨_, rfl, ((all.drop (i * N)).take N).map bv, ?_, oneCell_bytes, ?_⟩
    · rw [hmin]
      have := read_row (cap := c4) (size := 1) (hb4.take N) (len := N) (by rw [List.length_map, htk]; omega)
      revert this
      unfold readP
      cases a4 with
      | none => exact fun h => h
      | some q => exact fun h => h
    · rw [hmin]
      rw [hcn] at hbi
      have hblen := hr4.ok.blk_len (i := i) (by rw [hst.nb]; exact hin)
      rw [hcn] at hblen
      refine own_store hbi (o := 0) (by rw [List.length_map, List.length_map, htk]; omega) fun w₅ hu5 ho5 => ?_
      have hfull : ((c'.blk i).map bv).take 0 ++ ((all.drop (i * N)).take N).map bv ++ ((c'.blk i).map bv).drop (0 + (((all.drop (i * N)).take N).map bv).length) = ((all.drop (i * N)).take N).map bv := by
        have e1 : ((c'.blk i).map bv).drop (0 + (((all.drop (i * N)).take N).map bv).length) = [] := List.drop_of_length_le (by rw [List.length_map, List.length_map, htk]; omega)
        rw [e1, List.take_zero, List.nil_append, List.append_nil]
      rw [hfull] at ho5
      have ew : IntKind.i64.wrap ((i : Int) + 1) = ((i + 1 : Nat) : Int) := w64 (by omega) (by omega)
      refine ⟨hu5, ⟨i + 1, c'.setBlk i ((all.drop (i * N)).take N), ew, hin, ?_, ⟨hst.blk _ _, hcb⟩, ?_, ?_, ?_⟩, ?_⟩
      · exact hr4.reblk hu5 (by rw [hst.nb]; exact hin) hl (by rw [htk, hcn]) (by rw [hcn]; exact hbi) (by rw [hcn]; exact ho5)
      · exact (heu.trans hd4.upd).beyond hu5 fun x hx => by omega
      · have := hd4.upd.size
        have := hu5.size
        omega
      · exact hu5.get (Ext.get hd4.upd gu) (by omega)
      · rw [ew]; exact meas hin
  · refine ⟨fun x u' => ∃ (k : Nat) (d : Chip), x = k ∧ k ≤ is.length ∧ ChipRep u' p d L G ∧ (Still d nb np sz sp ∧ (is = [] → d.bad = List.replicate nb false)) ∧ Ext w u' ∧ w₂.heap.size ≤ u'.heap.size ∧ u'.heap[B1]? = some (.cells #[.int .i64 nb, .int .i64 np, .int .i64 sz, .int .i64 sp] T.api_Geo (0, 0)), fun x _ => ((is.length : Int) - x).toNat,
      ⟨0, c', rfl, by omega, hr, ⟨hst, fun _ => hcb⟩, heu, hsu, gu⟩, ?_⟩
    rintro x v ⟨k, d, rfl, hk, hrd, ⟨hsd, hdb⟩, hev, hsv, gv⟩
    refine br_dec (fun hlt => ?_) fun hge => ?_
    · have hk' : k < is.length := by omega
      have hrng := his is[k] (List.getElem_mem _)
      have hrow := hi.ext hev
      obtain ⟨b0, o0, hai, _⟩ := RowAt.blk hrow (by intro e; have := congrArg List.length e; simp at this; rw [this] at hk'; simp at hk')
      subst hai
      refine ⟨by omega, by omega, ?_⟩
      simp only [nilC_some', add_lit, Nat.zero_add, Nat.mul_one, Int.toNat_natCast]
      obtain ⟨b', o', e, hc⟩ := hrow.cell (i := k) (v := .int .i64 is[k]) (by simp [hk'])
      cases e
      refine ⟨_, hc, br_dec (fun h => absurd h (by omega)) fun _ => ⟨_, cell_of gv rfl, br_dec (fun h => absurd h (by omega)) fun _ => ?_⟩⟩
      refine ⟨_, _, _, cell_of hrd.head rfl, ?_⟩
      obtain ⟨j, hj⟩ : ∃ j : Nat, is[k] = j := ⟨is[k].toNat, by omega⟩
      rw [hj] at hrng ⊢
      have hjn : j < d.nb := by rw [hsd.nb]; omega
      refine ⟨by omega, by omega, ?_⟩
      simp only [nilC_some', add_lit, Nat.zero_add, Nat.mul_one, Int.toNat_natCast]
      have hbl := hrd.ok.bad
      refine own_store hrd.bad (o := j) (by simp; omega) fun w₇ hu7 ho7 => ?_
      have hbb := hpF L.bb (by simp)
      have hset : (d.bad.map Value.bool).take j ++ [Value.bool true] ++ (d.bad.map Value.bool).drop (j + [Value.bool true].length) = (d.bad.set j true).map Value.bool := by
        rw [List.set_eq_take_append_cons_drop, if_pos (by omega)]
        simp
      rw [hset] at ho7
      have ew : IntKind.i64.wrap ((k : Int) + 1) = ((k + 1 : Nat) : Int) := w64 (by omega) (by omega)
      simp only [ew]
      exact ⟨⟨k + 1, _, rfl, hk', hrd.rebad hu7 (by simpa using hbl) ho7, ⟨hsd.bad _, fun e => by rw [e] at hk'; simp at hk'⟩, hev.beyond hu7 fun x hx => by omega, by have := hu7.size; omega, hu7.get gv (by omega)⟩, meas hk'⟩
    · refine hR _ _ ⟨hev, p, d, rfl, ⟨L, G, hrd, fun x hx => ?_, fun x hx => ?_, fun x hx => hx.2⟩, hsd, hdb⟩
      · have := hpF x hx; omega
      · have := hGF x hx; omega
end Go.Den
end
section
set_option linter.unusedVariables false
set_option linter.unusedSimpArgs false
set_option maxRecDepth 8000
namespace Go.Den
structure Sheet where
  how : Int
  changes : List Change
  n : UInt8
  bytes : List UInt8
structure LBlk where
  none : Bool
  kind : UInt8
  era : UInt8
  seq : UInt8
  sheets : List Sheet
def sheetR : ERep Sheet := ERep.pair intR (ERep.pair (sliceR changeR) (ERep.pair u8R bytesR (fun x : UInt8 × List UInt8 => x.1) (fun x => x.2)) (fun x : List Change × (UInt8 × List UInt8) => x.1) (fun x => x.2)) (fun x : Sheet => x.how) (fun x => (x.changes, (x.n, x.bytes)))
def blkR : ERep LBlk := ERep.pair boolR (ERep.pair u8R (ERep.pair u8R (ERep.pair u8R (sliceR sheetR) (fun x : UInt8 × List Sheet => x.1) (fun x => x.2)) (fun x : UInt8 × (UInt8 × List Sheet) => x.1) (fun x => x.2)) (fun x : UInt8 × (UInt8 × (UInt8 × List Sheet)) => x.1) (fun x => x.2)) (fun x : LBlk => x.none) (fun x => (x.kind, (x.era, (x.seq, x.sheets))))
theorem sheetR_elim {w : World} {G : Nat → Prop} {x : Sheet} {vs : List Value} (h : sheetR.R w G vs x) : ∃ a c ab cb, vs = [.int .i64 x.how, .slice a x.changes.length c, bv x.n, .slice ab x.bytes.length cb] ∧ SliceAt changeR w G a x.changes ∧ BytesAt w ab x.bytes := by
  obtain ⟨u, v, rfl, hu, s, t, rfl, ⟨a, c, hs, hc, hb⟩, y, z, rfl, hy, ab, cb, hz, hcb, hbb, _⟩ := h
  have hu' : u = [.int .i64 x.how] := hu
  have hy' : y = [bv x.n] := hy
  have hs' : s = [.slice a x.changes.length c] := hs
  have hz' : z = [.slice ab x.bytes.length cb] := hz
  subst hu'; subst hy'; subst hs'; subst hz'
  exact ⟨a, c, ab, cb, rfl, hb, hbb⟩
theorem blkR_elim {w : World} {G : Nat → Prop} {x : LBlk} {vs : List Value} (h : blkR.R w G vs x) : ∃ a c, vs = [.bool x.none, bv x.kind, bv x.era, bv x.seq, .slice a x.sheets.length c] ∧ SliceAt sheetR w G a x.sheets := by
  obtain ⟨u, v, rfl, hu, s, t, rfl, hs, s2, t2, rfl, hs2, s3, t3, rfl, hs3, a, c, ht, hc, hb⟩ := h
  have e1 : u = [.bool x.none] := hu
  have e2 : s = [bv x.kind] := hs
  have e3 : s2 = [bv x.era] := hs2
  have e4 : s3 = [bv x.seq] := hs3
  have e5 : t3 = [.slice a x.sheets.length c] := ht
  rw [e1, e2, e3, e4, e5]
  exact ⟨a, c, rfl, hb⟩
def SmallB (l : List LBlk) : Prop := ∀ b ∈ l, ∀ s ∈ b.sheets, Small s.changes
theorem zeros_bytes1 (n : Nat) : (zerosL [Value.int .u8 0] n).toArray.toList = (List.replicate n (0 : UInt8)).map bv := by
  rw [List.toList_toArray, zeros_bytes, List.map_replicate]; rfl
/-- a byte of bytes of the call's own is written -/
theorem BList.store {S : Nat} {w : World} {a : Option Addr} {cap : Nat} {l : List UInt8} (h : BList S w a cap l) {i : Nat} (hi : i < l.length) {x : UInt8} {K : World → Prop}
    (hk : ∀ b w', a = some ⟨b, 0, none⟩ → S ≤ b → Upd (fun x => a = some ⟨x, 0, none⟩) w w' → BList S w' a cap (l.set i x) → K w') : idxP a l.length (i : Int) 1 fun q => storeP w q [bv x] K := by
  obtain ⟨b, rfl⟩ : ∃ b, a = some ⟨b, 0, none⟩ := by
    rcases h.1.2.2 with ⟨_, hx, _⟩ | ⟨b, cur, hx, _⟩
    · omega
    · exact ⟨b, hx⟩
  refine ⟨by omega, by omega, ?_⟩
  simp only [nilC_some', add_lit, Nat.zero_add, Nat.mul_one, Int.toNat_natCast]
  refine own_store h.1 (o := i) (by simp; omega) fun w' hu ho => hk b w' rfl (h.2 b rfl) (hu.mono fun x _ hx => by subst hx; rfl) ⟨?_, h.2⟩
  have e : (l.map bv).take i ++ [bv x] ++ (l.map bv).drop (i + [bv x].length) = (l.set i x).map bv := by
    rw [List.set_eq_take_append_cons_drop, if_pos hi]
    simp
  rw [e] at ho
  rw [List.length_set]
  exact ho
theorem carracklaw12_page_spec {s : Sheet} {w : World} {G : Nat → Prop} {a ab : Option Addr} {c cb : Nat} (h : SliceAt changeR w G a s.changes) (hb : BytesAt w ab s.bytes) (hs : Small s.changes) :
    CallsR prog K.carracklaw12_page #[.agg #[.int .i64 s.how, .slice a s.changes.length c, bv s.n, .slice ab s.bytes.length cb]] w fun v w' => ∃ a' c' l, v = .slice a' 128 c' ∧ l.length = 128 ∧ BytesAt w' a' l ∧ Fresh w a' ∧ Ext w w' := by
  apply carracklaw12_page.sh
  suffices H : ∀ R : Value → World → Prop, (∀ v w', (∃ a' c' l, v = .slice a' 128 c' ∧ l.length = 128 ∧ BytesAt w' a' l ∧ Fresh w a' ∧ Ext w w') → R v w') → carracklaw12_page.body s.how a s.changes.length c s.n.toNat ab s.bytes.length cb w R from H _ fun _ _ h => h
  intro R hR
  unfold carracklaw12_page.body
  simp only [add_lit, Nat.zero_add]
  intro B1 w₁ hn1
  have g1 := hn1.get
  have hb1 : B1 = w.heap.size := hn1.num
  have hs1 := hn1.size
  let SH : World → Prop := fun u => u.heap[B1]? = some (.cells #[.int .i64 s.how, .slice a s.changes.length c, bv s.n, .slice ab s.bytes.length cb] T.carracklaw12_Sheet (0, 0)) ∧ Ext w u ∧ w₁.heap.size ≤ u.heap.size
  have keep : ∀ {u u' : World}, SH u → Ext u u' → SH u' := fun h k => ⟨Ext.get k h.1, h.2.1.trans k, Nat.le_trans h.2.2 k.size⟩
  have keepU : ∀ {u u' : World} {F : Nat → Prop}, SH u → Upd F u u' → (∀ x, F x → w₁.heap.size ≤ x) → SH u' := fun h k hF => ⟨k.get h.1 (fun hf => by have := hF _ hf; omega), h.2.1.beyond k fun x hx => by have := hF _ hx; omega, Nat.le_trans h.2.2 k.size⟩
  have sh1 : SH w₁ := ⟨g1, hn1.upd, Nat.le_refl _⟩
  refine ⟨fun a' l' c' u => ∃ l, l' = l.length ∧ (l.length = 0 ∨ l.length = 128) ∧ BList w₁.heap.size u a' c' l ∧ SH u, ⟨_, cell_of g1 rfl, br_eq (fun h2 => ?_) fun h2 => br_eq (fun h3 => ?_) fun h3 => ?_⟩, ?_⟩
  · refine ⟨_, cell_of g1 rfl, ?_⟩
    have hnl := s.n.toNat_lt
    rw [wu64n (by omega)]
    refine (carrackref11_PutDrop_spec 128 (by decide) (by decide) s.n.toNat (by omega) w₁).mono ?_
    rintro _ w₂ ⟨a2, c2, rfl, hl2, he2⟩
    refine ⟨_, _, _, _, rfl, _, rfl, ?_, hl2, keep sh1 he2⟩
    unfold putDropB
    split
    · exact .inl rfl
    · exact putPage_len (by decide)
  · exact ⟨[], rfl, .inl rfl, BList.nil _ _, sh1⟩
  · refine ⟨_, _, _, cell_of g1 rfl, (carrackref11_Put_spec (h.ext hn1.upd) hs 128 (by decide) (by decide)).mono ?_⟩
    rintro _ w₂ ⟨a2, c2, rfl, hl2, he2⟩
    refine ⟨_, _, _, _, rfl, _, rfl, ?_, hl2, keep sh1 he2⟩
    unfold putL
    split
    · exact putPage_len (by decide)
    · exact .inl rfl
  · rintro a4 l4 c4 w₄ ⟨l, rfl, hl, hbl, sh4⟩
    have hbs : ∀ {u}, SH u → BytesAt u ab s.bytes := fun h => hb.ext h.2.1
    refine ⟨fun a' l' c' u => ∃ l, l' = 128 ∧ l.length = 128 ∧ BList w₁.heap.size u a' c' l ∧ SH u, br_eq (fun h0 => ?_) fun h0 => ?_, ?_⟩
    · refine ⟨by decide, by decide, by decide, by decide, rfl, fun B5 w₅ hn5 => ?_⟩
      have sh5 := keep sh4 hn5.upd
      have hbl5 : BList w₁.heap.size w₅ (some ⟨B5, 0, none⟩) 128 (List.replicate 128 0) := by
        have := BList.new (S := w₁.heap.size) (l := List.replicate 128 0) hn5 (zeros_bytes1 _) sh4.2.2
        rw [List.length_replicate] at this
        exact this
      refine ⟨fun x u => ∃ (i : Nat) (l : List UInt8), x = i ∧ i ≤ 128 ∧ l.length = 128 ∧ BList w₁.heap.size u (some ⟨B5, 0, none⟩) 128 l ∧ SH u, fun x _ => ((128 : Int) - x).toNat, ⟨0, _, rfl, by omega, by rw [List.length_replicate], hbl5, sh5⟩, ?_⟩
      rintro x u ⟨i, l, rfl, hi, hl', hbu, shu⟩
      refine br_dec (fun hlt => ⟨_, _, _, cell_of shu.1 rfl, br_dec (fun hpos => ?_) fun _ => ⟨l, rfl, hl', hbu, shu⟩⟩) fun _ => ⟨l, rfl, hl', hbu, shu⟩
      have hi' : i < 128 := by
        have : (i : Int) < ((128 : Int).toNat : Int) := hlt
        simp at this; omega
      intro w₇ hd7
      have sh7 := keep shu hd7.upd
      have hb7 := hbu.ext hd7.upd
      have hmod : Int.tmod (i : Int) (s.bytes.length : Int) = ((i % s.bytes.length : Nat) : Int) := tmod_nat i s.bytes.length
      have hml : i % s.bytes.length < s.bytes.length := Nat.mod_lt _ (by omega)
      refine ⟨(· = w₇), rfl, ab, s.bytes.length, cb, ?_, ab, s.bytes.length, cb, ?_, by omega, ?_⟩
      · rintro u rfl; exact cell_of sh7.1 rfl
      · rintro u rfl; exact cell_of sh7.1 rfl
      rw [hmod]
      refine idx_byteS (S := (· = w₇)) (l := s.bytes) (a := ab) (by rintro u rfl; exact hbs sh7) ⟨_, rfl⟩ (by omega) (by omega) ?_
      refine (show (128 : Int).toNat = l.length from hl'.symm) ▸ ?_
      refine BList.store (i := i) hb7 (by omega) fun b w₈ _ hSb hu8 hl8 => ?_
      have ew : IntKind.i64.wrap ((i : Int) + 1) = ((i + 1 : Nat) : Int) := w64 (by omega) (by omega)
      simp only [ew]
      exact ⟨⟨i + 1, _, rfl, hi', by rw [List.length_set]; exact hl', hl8, keepU sh7 hu8 fun x hx => hl8.2 x hx⟩, meas hi'⟩
    · exact ⟨l, by omega, by omega, hbl, sh4⟩
    · rintro a9 l9 c9 w₉ ⟨l, rfl, hl, hbl, sh9⟩
      refine ⟨fun x u => ∃ (i : Nat) (l : List UInt8), x = i ∧ i ≤ 128 ∧ l.length = 128 ∧ BList w₁.heap.size u a9 c9 l ∧ SH u, fun x _ => ((128 : Int) - x).toNat, ⟨0, l, rfl, by omega, hl, hbl, sh9⟩, ?_⟩
      rintro x u ⟨i, l, rfl, hi, hl', hbu, shu⟩
      have fin : R (.slice a9 128 c9) u := hR _ _ ⟨a9, c9, l, rfl, hl', hbu.bytes, fun p hp => by have := hbu.lt hp; omega, shu.2.1⟩
      refine ⟨fun u' => u' = u ∧ i < 128 ∧ 0 < s.bytes.length, ⟨_, cell_of shu.1 rfl, br_eq (fun h4 => br_dec (fun hlt => ⟨_, _, _, cell_of shu.1 rfl, br_dec (fun hpos => ⟨rfl, by omega, by omega⟩) fun _ => fin⟩) fun _ => fin) fun _ => fin⟩, ?_⟩
      rintro _ ⟨rfl, hi', hpos⟩ w₁₂ hd12
      rename_i u
      have sh12 := keep shu hd12.upd
      have hb12 := hbu.ext hd12.upd
      have hmod : Int.tmod (i : Int) (s.bytes.length : Int) = ((i % s.bytes.length : Nat) : Int) := tmod_nat i s.bytes.length
      have hml : i % s.bytes.length < s.bytes.length := Nat.mod_lt _ hpos
      refine ⟨(· = w₁₂), rfl, ?_⟩
      rw [← hl']
      refine idx_byteS (S := (· = w₁₂)) (l := l) (a := a9) (by rintro u rfl; exact hb12.bytes) ⟨_, rfl⟩ (by omega) (by omega) ?_
      refine ⟨ab, s.bytes.length, cb, ?_, ab, s.bytes.length, cb, ?_, by omega, ?_⟩
      · rintro u rfl; exact cell_of sh12.1 rfl
      · rintro u rfl; exact cell_of sh12.1 rfl
      rw [hmod]
      refine idx_byteS (S := (· = w₁₂)) (l := s.bytes) (a := ab) (by rintro u rfl; exact hbs sh12) ⟨_, rfl⟩ (by omega) (by omega) ?_
      rw [bv_mod]
      refine BList.store (i := i) hb12 (by omega) fun b w₈ _ hSb hu8 hl8 => ?_
      have ew : IntKind.i64.wrap ((i : Int) + 1) = ((i + 1 : Nat) : Int) := w64 (by omega) (by omega)
      simp only [ew]
      exact ⟨⟨i + 1, _, rfl, by omega, by rw [List.length_set], hl8, keepU sh12 hu8 fun x hx => hl8.2 x hx⟩, meas hi'⟩
theorem ff_bv : Value.int .u8 255 = bv 255 := rfl
theorem tn16384 : Int.toNat 16384 = 16384 := rfl
theorem putHead_len0 {size : Int} {h : Head} (hz : (putHead size h).2 = 0) : (putHead size h).1.length = size.toNat := by
  unfold putHead at hz ⊢
  split
  · rename_i hc
    rw [if_pos hc] at hz; cases hz
  · rename_i hc
    have hs : isSize size = true := by
      cases hb : isSize size with
      | true => rfl
      | false => exact absurd (.inr hb) hc
    have hs' := putHead_size hs
    exact pageOf_length _ _ _ (by rw [Head.body_length]; omega)
/-- ints that a call builds -/
def IList (S : Nat) (w : World) (a : Option Addr) (cap : Nat) (l : List Int) : Prop := OwnAt w a l.length cap T.int 1 (l.map (Value.int .i64)) ∧ ∀ b, a = some ⟨b, 0, none⟩ → S ≤ b
theorem IList.nil (S : Nat) (w : World) : IList S w none 0 [] := ⟨OwnAt.nil _ _ _, fun _ h => by cases h⟩
theorem IList.ext {S : Nat} {w w' : World} {a : Option Addr} {cap : Nat} {l : List Int} (h : IList S w a cap l) (k : Ext w w') : IList S w' a cap l := ⟨h.1.ext k, h.2⟩
theorem IList.upd {S : Nat} {w w' : World} {F : Nat → Prop} {a : Option Addr} {cap : Nat} {l : List Int} (h : IList S w a cap l) (k : Upd F w w') (hF : ∀ x, F x → x < S) : IList S w' a cap l :=
  ⟨h.1.upd k fun b hb hf => absurd (h.2 b hb) (by have := hF b hf; omega), h.2⟩
theorem IList.weak {S S' : Nat} {w : World} {a : Option Addr} {cap : Nat} {l : List Int} (h : IList S w a cap l) (hS : S' ≤ S) : IList S' w a cap l := ⟨h.1, fun b hb => Nat.le_trans hS (h.2 b hb)⟩
theorem IList.push {S : Nat} {w w₁ : World} {a : Option Addr} {cap n : Nat} {l : List Int} {B : Nat} {x : Int} (h : IList S w a cap l) (hn : n = l.length) (hnew : New w (.cells #[.int .i64 x] T.int) B w₁) (hb : l.length + 1 ≤ 17592186044000) (hS : S ≤ w.heap.size) {K : Option Addr → Nat → Nat → World → Prop}
    (hk : ∀ a' c' w', Upd (fun b => S ≤ b) w w' → IList S w' a' c' (l ++ [x]) → K a' (l ++ [x]).length c' w') : appendP T.int 1 8 [Value.int .i64 0] a n cap (.slice (some ⟨B, 0, none⟩) 1 1) w₁ K := by
  subst hn
  have hrow : RowAt w₁ (some ⟨B, 0, none⟩) [.int .i64 x] := RowAt.of hnew.get fun j v hj => by simpa using hj
  refine append_own (h.1.ext hnew.upd) rfl (read_row hrow rfl) rfl (fun v hv => by simp at hv; rw [hv]; rfl) rfl (by omega) (by omega) fun a' c' w' hu ho hf => ?_
  have hs := hnew.size
  have := hk a' c' w' ((Upd.ext hnew.upd).trans (hu.mono fun b _ hb => h.2 b hb)) ⟨by simpa using ho, fun b hb => by
    rcases hf with hf | ⟨b', hb', hl⟩
    · subst hf; exact h.2 b hb
    · rw [hb'] at hb; cases hb; omega⟩
  simpa using this
theorem carracklaw12_chip_spec {l : List LBlk} {bad : List Int} {w : World} {G : Nat → Prop} {a ab : Option Addr} {c cb : Nat} (h : SliceAt blkR w G a l) (hs : SmallB l) (hb : RowAt w ab (bad.map (Value.int .i64))) (hbl : bad.length ≤ 17592186043904) :
    CallsR prog K.carracklaw12_chip #[.slice a l.length c, .slice ab bad.length cb] w fun v w' => Ext w w' ∧ ∃ p d, v = .pointer (some ⟨p, 0, none⟩) ∧ ChipAt w' p d (fun x => w.heap.size ≤ x ∧ x < w'.heap.size) ∧ Still d 16 8 128 0 ∧ (bad = [] → d.bad = List.replicate 16 false) := by
  apply carracklaw12_chip.sh
  suffices H : ∀ R : Value → World → Prop, (∀ v w', (Ext w w' ∧ ∃ p d, v = .pointer (some ⟨p, 0, none⟩) ∧ ChipAt w' p d (fun x => w.heap.size ≤ x ∧ x < w'.heap.size) ∧ Still d 16 8 128 0 ∧ (bad = [] → d.bad = List.replicate 16 false)) → R v w') → carracklaw12_chip.body a l.length c ab bad.length cb w R from H _ fun _ _ h => h
  intro R hR
  unfold carracklaw12_chip.body
  refine new_put (vs := [.int .i64 16, .int .i64 8, .int .i64 128, .int .i64 0]) rfl fun B1 w₂ hb1 hs2 he2 g2 => ?_
  refine ⟨by decide, by decide, by decide, by decide, rfl, fun Ba w₃ hn3 => ?_⟩
  have hs3 := hn3.size
  have hba : Ba = w₂.heap.size := hn3.num
  have e3 : Ext w w₃ := he2.trans hn3.upd
  have st0 : OwnAt w₃ (some ⟨Ba, 0, none⟩) 16384 16384 T.uint8 1 ((List.replicate 16384 (0 : UInt8)).map bv) := by
    have := (BList.new (S := w₂.heap.size) (l := List.replicate 16384 0) hn3 (zeros_bytes1 _) (Nat.le_refl _)).1
    rw [List.length_replicate] at this
    exact this
  obtain ⟨N, hN⟩ : ∃ N : Nat, Int.toNat 16384 = N := ⟨_, rfl⟩
  rw [hN]
  rw [← tn16384, hN] at st0
  replace hN : N = 16384 := hN.symm
  let ST : World → Prop := fun u => (∃ l : List UInt8, l.length = N ∧ OwnAt u (some ⟨Ba, 0, none⟩) N N T.uint8 1 (l.map bv)) ∧ Ext w u ∧ u.heap[B1]? = some (.cells [Value.int .i64 16, .int .i64 8, .int .i64 128, .int .i64 0].toArray T.api_Geo (0, 0)) ∧ w₃.heap.size ≤ u.heap.size
  have keepU : ∀ {u u' : World} {F : Nat → Prop}, ST u → Upd F u u' → (∀ x, F x → w₃.heap.size ≤ x) → ST u' := fun {u u' F} h k hF =>
    ⟨by obtain ⟨l, h1, h2⟩ := h.1; exact ⟨l, h1, h2.upd k fun b hb hf => by cases hb; have := hF _ hf; omega⟩, h.2.1.beyond k fun x hx => by have := hF x hx; omega, k.get h.2.2.1 (fun hf => by have := hF _ hf; omega), Nat.le_trans h.2.2.2 k.size⟩
  have keep : ∀ {u u' : World}, ST u → Ext u u' → ST u' := fun h k => keepU h k fun _ hf => hf.elim
  have put : ∀ {u : World} {j : Int} {x : UInt8} {K : World → Prop}, ST u → 0 ≤ j → j < N → (∀ u', Upd (· = Ba) u u' → ST u' → K u') → idxP (some ⟨Ba, 0, none⟩) N j 1 fun q => storeP u q [bv x] K := fun {u j x K} hst h0 h1 hk => by
    obtain ⟨i, rfl⟩ : ∃ i : Nat, j = i := ⟨j.toNat, by omega⟩
    obtain ⟨⟨l', hl, ho⟩, h2, h3, h4⟩ := hst
    have hbl' : BList w₂.heap.size u (some ⟨Ba, 0, none⟩) N l' := ⟨by rw [hl]; exact ho, fun b hb => by cases hb; omega⟩
    have st' : ∀ w', Upd (fun x => some (⟨Ba, 0, none⟩ : Addr) = some ⟨x, 0, none⟩) u w' → BList w₂.heap.size w' (some ⟨Ba, 0, none⟩) N (l'.set i x) → ST w' := fun w' hu hl' => by
      refine ⟨⟨l'.set i x, by rw [List.length_set]; exact hl, ?_⟩, h2.beyond hu fun x hx => by cases hx; omega, hu.get h3 (fun hx => by cases hx; omega), Nat.le_trans h4 hu.size⟩
      have := hl'.1
      rw [List.length_set, hl] at this
      exact this
    have := hbl'.store (i := i) (x := x) (K := K) (by omega) fun b w' hb hS hu hl' => hk w' (hu.mono fun x _ hx => by cases hx; rfl) (st' w' hu hl')
    rw [hl] at this
    exact this
  have st3 : ST w₃ := by
    exact ⟨⟨_, by rw [List.length_replicate], st0⟩, e3, Ext.get hn3.upd g2, Nat.le_refl _⟩
  have ewi : ∀ {i : Nat}, i < 17592186044000 → IntKind.i64.wrap ((i : Int) + 1) = ((i + 1 : Nat) : Int) := fun h => w64 (by omega) (by omega)
  -- the bad ones, and Load
  have load : ∀ {u : World} {is : List Int} {ai : Option Addr} {ci : Nat}, ST u → IList w₃.heap.size u ai ci is → (∀ x ∈ is, 0 ≤ x ∧ x < (16 : Nat)) → is.length ≤ bad.length →
      ∃ x y : Int, ∃ z t : Int, cellsAt u ⟨B1, 0, none⟩ [.int .i64 x, .int .i64 y, .int .i64 z, .int .i64 t] 0 ∧ CallsR prog K.nand_Load #[.agg #[.int .i64 x, .int .i64 y, .int .i64 z, .int .i64 t], (.slice (some ⟨Ba, 0, none⟩) N N), .slice ai is.length ci] u fun v w' => ∃ p : Option Addr, ∃ x : Int, v = .tuple #[.pointer p, .int .i64 x] ∧ R (.pointer p) w' := fun {u is ai ci} hst hil his hic => by
    obtain ⟨⟨l', hl, ho⟩, h2, h3, h4⟩ := hst
    refine ⟨_, _, _, _, cells_all h3, ?_⟩
    have hld := nand_Load_spec (nb := 16) (np := 8) (sz := 128) (sp := 0) (c := N) u (by decide) (by decide) (by decide) (by decide) (by decide) (by decide) (by decide) ho.row (by rw [hl, hN]) (by omega) (ci := ci) hil.1.row his (by omega)
    rw [hl] at hld
    refine hld.mono ?_
    rintro _ w' ⟨he, p, d, rfl, hc, hstill, hdb⟩
    have hsu := h2.size
    exact ⟨_, _, rfl, hR _ _ ⟨h2.trans he, p, d, rfl, hc.mono (fun x hx => ⟨by omega, hx.2⟩) fun x hx => hx.2, hstill, fun e => hdb (List.eq_nil_of_length_eq_zero (by rw [e] at hic; simpa using hic))⟩⟩
  have bads : ∀ {u : World}, ST u → ∃ (J4 : Option Addr → Nat → Nat → Int → World → Prop) (μ3 : Option Addr → Nat → Nat → Int → World → Nat), J4 none 0 0 0 u ∧
      ∀ (a2 : Option Addr) (l2 c2 : Nat) (x3 : Int) (w7 : World), J4 a2 l2 c2 x3 w7 →
      br (decide (x3 < (bad.length : Int))) (idxP ab bad.length x3 1 fun q2 => ∃ x4 : Int, w7.cell? q2 = some (.int .i64 x4) ∧
        br (decide (x4 ≥ 0)) (idxP ab bad.length x3 1 fun q3 => ∃ x5 : Int, w7.cell? q3 = some (.int .i64 x5) ∧
          br (decide (x5 < 16)) (idxP ab bad.length x3 1 fun q4 => ∃ x6 : Int, w7.cell? q4 = some (.int .i64 x6) ∧
            ∀ B2 w8, New w7 (.cells #[.int .i64 x6] T.int) B2 w8 → appendP T.int 1 8 [.int .i64 0] a2 l2 c2 (.slice (some ⟨B2, 0, none⟩) 1 1) w8 fun a3 l3 c3 w9 => J4 a3 l3 c3 (IntKind.i64.wrap (x3 + 1)) w9 ∧ μ3 a3 l3 c3 (IntKind.i64.wrap (x3 + 1)) w9 < μ3 a2 l2 c2 x3 w7)
            (J4 a2 l2 c2 (IntKind.i64.wrap (x3 + 1)) w7 ∧ μ3 a2 l2 c2 (IntKind.i64.wrap (x3 + 1)) w7 < μ3 a2 l2 c2 x3 w7))
          (J4 a2 l2 c2 (IntKind.i64.wrap (x3 + 1)) w7 ∧ μ3 a2 l2 c2 (IntKind.i64.wrap (x3 + 1)) w7 < μ3 a2 l2 c2 x3 w7))
        (∃ x y : Int, ∃ z t : Int, cellsAt w7 ⟨B1, 0, none⟩ [.int .i64 x, .int .i64 y, .int .i64 z, .int .i64 t] 0 ∧ CallsR prog K.nand_Load #[.agg #[.int .i64 x, .int .i64 y, .int .i64 z, .int .i64 t], (.slice (some ⟨Ba, 0, none⟩) N N), .slice a2 l2 c2] w7 fun v w' => ∃ p : Option Addr, ∃ x : Int, v = .tuple #[.pointer p, .int .i64 x] ∧ R (.pointer p) w') := fun {u} hst => by
    refine ⟨fun a2 l2 c2 x v => ∃ (k : Nat) (is : List Int), x = k ∧ k ≤ bad.length ∧ l2 = is.length ∧ is.length ≤ k ∧ IList w₃.heap.size v a2 c2 is ∧ (∀ x ∈ is, 0 ≤ x ∧ x < (16 : Nat)) ∧ ST v, fun _ _ _ x _ => ((bad.length : Int) - x).toNat,
      ⟨0, [], rfl, by omega, rfl, by simp, IList.nil _ _, fun x hx => by simp at hx, hst⟩, ?_⟩
    rintro a2 l2 c2 x v ⟨k, is, rfl, hk, rfl, hik, hil, his, stv⟩
    refine br_dec (fun hlt => ?_) fun hge => load stv hil his (by omega)
    have hk' : k < bad.length := by omega
    simp only [ewi (show k < 17592186044000 by omega)]
    have hrow := hb.ext stv.2.1
    obtain ⟨b0, o0, hai, _⟩ := RowAt.blk hrow (by intro e; have := congrArg List.length e; simp at this; rw [this] at hk'; simp at hk')
    have hix : ∀ {K : Addr → Prop}, (∀ q, v.cell? q = some (.int .i64 bad[k]) → K q) → idxP ab bad.length (k : Int) 1 K := fun hK => by
      obtain ⟨b', o', e, hc⟩ := hrow.cell (i := k) (v := .int .i64 bad[k]) (by simp [hk'])
      subst e
      refine ⟨by omega, by omega, ?_⟩
      simp only [nilC_some', add_lit, Nat.mul_one, Int.toNat_natCast]
      exact hK _ hc
    have same : (∃ (k' : Nat) (is : List Int), ((k + 1 : Nat) : Int) = k' ∧ k' ≤ bad.length ∧ is.length = is.length ∧ is.length ≤ k' ∧ IList w₃.heap.size v a2 c2 is ∧ (∀ x ∈ is, 0 ≤ x ∧ x < (16 : Nat)) ∧ ST v) → True := fun _ => trivial
    refine hix fun q hq => ⟨_, hq, br_dec (fun h0 => hix fun q' hq' => ⟨_, hq', br_dec (fun h16 => hix fun q'' hq'' => ⟨_, hq'', fun B2 w₈ hn8 => ?_⟩) fun _ => ?_⟩) fun _ => ?_⟩
    · refine IList.push hil rfl hn8 (by omega) stv.2.2.2 fun a3 c3 w₉ hu9 hl9 => ?_
      refine ⟨⟨k + 1, _, rfl, hk', rfl, by simp; omega, hl9, fun x hx => ?_, keepU stv hu9 fun x hx => hx⟩, meas hk'⟩
      rcases List.mem_append.1 hx with hx | hx
      · exact his x hx
      · simp at hx; subst hx; exact ⟨h0, h16⟩
    · exact ⟨⟨k + 1, is, rfl, hk', rfl, by omega, hil, his, stv⟩, meas hk'⟩
    · exact ⟨⟨k + 1, is, rfl, hk', rfl, by omega, hil, his, stv⟩, meas hk'⟩
  refine ⟨fun x u => ∃ i : Nat, x = i ∧ i ≤ N ∧ ST u, fun x _ => ((N : Int) - x).toNat, ⟨0, rfl, by omega, st3⟩, ?_⟩
  intro x u hx
  obtain ⟨i, hxi, hi, stu⟩ := hx
  subst hxi
  refine br_dec (fun hlt => ?_) fun _ => ?_
  · have hi' : i < N := by omega
    have ew := ewi (i := i) (by omega)
    simp only [ew, ff_bv]
    refine put stu (by omega) (by omega) fun u' _ st' => ?_
    exact ⟨⟨i + 1, rfl, hi', st'⟩, meas hi'⟩
  · refine ⟨fun x u => ∃ i : Nat, x = i ∧ i ≤ l.length ∧ i ≤ 16 ∧ ST u, fun x _ => ((16 : Int) - x).toNat, ⟨0, rfl, by omega, by omega, stu⟩, ?_⟩
    rintro x u ⟨i, rfl, hi, hi16, stu⟩
    refine ⟨fun u' => u' = u ∧ i < l.length ∧ i < 16, br_dec (fun hlt => br_dec (fun hlt16 => ⟨rfl, by omega, by omega⟩) fun _ => bads stu) fun _ => bads stu, ?_⟩
    rintro _ ⟨rfl, hil, hil16⟩
    rename_i u
    have hil' : i < l.length := hil
    have hik : (16 : Nat) ≥ i + 1 := by omega
    have q1 : IntKind.i64.wrap ((i : Int) * 8) = ((i * 8 : Nat) : Int) := by rw [w64 (by omega) (by omega)]; omega
    have q2 : IntKind.i64.wrap (((i * 8 : Nat) : Int) * 128) = ((i * 8 * 128 : Nat) : Int) := by rw [w64 (by omega) (by omega)]; omega
    have q3 : ∀ {k : Nat}, k < 128 → IntKind.i64.wrap (((i * 8 * 128 : Nat) : Int) + (k : Int)) = ((i * 8 * 128 + k : Nat) : Int) := fun h => by rw [w64 (by omega) (by omega)]; omega
    simp only [q1, q2]
    have hsh := hs l[i] (List.getElem_mem _)
    refine ⟨ST, fun w₁₆ hd16 => ?_, fun w₂₅ st25 => ⟨⟨i + 1, w64 (by omega) (by omega), hil', by omega, st25⟩, by rw [w64 (by omega) (by omega)]; omega⟩⟩
    have st16 := keep stu hd16.upd
    refine ⟨fun u => Ext w₁₆ u, Upd.refl _ _, SliceAt.idx (r := blkR) (h.ext st16.2.1) rfl hil' fun b o vs ha hrow hR' hG => ?_⟩
    obtain ⟨as1, cs1, rfl, hsl⟩ := blkR_elim hR'
    simp only [add_lit]
    refine ⟨_, fun u1 hu1 => row_cell (hrow.ext hu1) (j := 1) rfl, SliceAt.idx (r := blkR) (h.ext st16.2.1) rfl hil' fun b2 o2 vs2 ha2 hrow2 hR2 hG2 => ?_⟩
    obtain ⟨as2, cs2, rfl, _⟩ := blkR_elim hR2
    simp only [add_lit]
    refine ⟨_, fun u1 hu1 => row_cell (hrow2.ext hu1) (j := 2) rfl, SliceAt.idx (r := blkR) (h.ext st16.2.1) rfl hil' fun b3 o3 vs3 ha3 hrow3 hR3 hG3 => ?_⟩
    obtain ⟨as3, cs3, rfl, _⟩ := blkR_elim hR3
    simp only [add_lit]
    refine ⟨_, fun u1 hu1 => row_cell (hrow3.ext hu1) (j := 3) rfl, ?_⟩
    have hera := l[i].era.toNat_lt
    have hseq := l[i].seq.toNat_lt
    rw [wrap32 (by omega), wu64n (by omega)]
    refine (carrackref04_PutHead_spec 128 ⟨l[i].kind, l[i].era.toNat, l[i].seq.toNat⟩ ⟨by show l[i].era.toNat < _; omega, by show l[i].seq.toNat < _; omega⟩ w₁₆ (by decide) (by decide)).mono ?_
    rintro _ w₁₇ ⟨he17, a6, c6, rfl, hb6, hf6, hc6⟩
    have st17 := keep st16 he17
    refine ⟨_, _, _, _, rfl, he17, ST, br_eq (fun hz => ?_) fun _ => st17, ?_⟩
    · refine SliceAt.idx (r := blkR) (h.ext st17.2.1) rfl hil' fun b4 o4 vs4 ha4 hrow4 hR4 hG4 => ?_
      obtain ⟨as4, cs4, rfl, _⟩ := blkR_elim hR4
      refine ⟨_, row_cell hrow4 (j := 0) rfl, br_intro (fun _ => ?_) fun _ => st17⟩
      have hlen : (putHead 128 ⟨l[i].kind, l[i].era.toNat, l[i].seq.toNat⟩).1.length = 128 := putHead_len0 (size := 128) (by omega)
      generalize putHead 128 ⟨l[i].kind, l[i].era.toNat, l[i].seq.toNat⟩ = pp at *
      refine ⟨fun x v => ∃ k : Nat, x = k ∧ k ≤ 128 ∧ ST v ∧ BytesAt v a6 pp.1, fun x _ => ((128 : Int) - x).toNat, ⟨0, rfl, by omega, st17, hb6⟩, ?_⟩
      rintro x v ⟨k, rfl, hk, stv, hbv⟩
      refine br_dec (fun hlt => ?_) fun _ => stv
      have hk' : k < 128 := by omega
      simp only [q3 hk', ewi (show k < 17592186044000 by omega)]
      refine idx_byte hbv (by omega) (by omega) ?_
      simp only [Int.toNat_natCast]
      refine put stv (by omega) (by omega) fun u' hu st' => ⟨⟨k + 1, rfl, hk', st', RowAt.upd hbv hu fun p hp e => ?_⟩, by omega⟩
      have := hf6 p hp
      have := st16.2.2.2
      omega
    · intro w₂₀ st20
      refine ⟨fun x v => ∃ k : Nat, x = k ∧ k ≤ 7 ∧ ST v, fun x _ => ((7 : Int) - x).toNat, ⟨0, rfl, by omega, st20⟩, ?_⟩
      rintro x v ⟨k, rfl, hk, stv⟩
      refine SliceAt.idx (r := blkR) (h.ext stv.2.1) rfl hil' fun b5 o5 vs5 ha5 hrow5 hR5 hG5 => ?_
      obtain ⟨as5, cs5, rfl, hsl5⟩ := blkR_elim hR5
      simp only [add_lit]
      refine ⟨_, _, _, row_cell hrow5 (j := 4) rfl, br_dec (fun hlt => br_dec (fun hlt7 => ?_) fun _ => stv) fun _ => stv⟩
      have hk7 : k < 7 := by omega
      have hks : k < l[i].sheets.length := by omega
      refine SliceAt.idx (r := blkR) (h.ext stv.2.1) rfl hil' fun b6 o6 vs6 ha6 hrow6 hR6 hG6 => ?_
      obtain ⟨as6, cs6, rfl, hsl6⟩ := blkR_elim hR6
      simp only [add_lit]
      refine ⟨_, _, _, row_cell hrow6 (j := 4) rfl, SliceAt.idx (r := sheetR) hsl6 rfl hks fun b7 o7 vs7 ha7 hrow7 hR7 hG7 => ?_⟩
      obtain ⟨ac, cc, ab7, cb7, rfl, hch, hby⟩ := sheetR_elim hR7
      refine ⟨_, _, _, _, _, _, _, _, hrow7.cells, (carracklaw12_page_spec hch hby (hsh _ (List.getElem_mem _))).mono ?_⟩
      rintro _ w₂₂ ⟨a11, c11, pg, rfl, hpl, hpb, hpf, he22⟩
      have st22 := keep stv he22
      refine ⟨_, _, _, rfl, fun x z => ∃ m : Nat, x = m ∧ m ≤ 128 ∧ ST z ∧ BytesAt z a11 pg, fun x _ => ((128 : Int) - x).toNat, ⟨0, rfl, by omega, st22, hpb⟩, ?_⟩
      rintro x z ⟨m, rfl, hm, stz, hbz⟩
      have q4 : IntKind.i64.wrap ((k : Int) + 1) = ((k + 1 : Nat) : Int) := w64 (by omega) (by omega)
      have q5 : IntKind.i64.wrap (((k + 1 : Nat) : Int) * 128) = (((k + 1) * 128 : Nat) : Int) := by rw [w64 (by omega) (by omega)]; omega
      have q6 : IntKind.i64.wrap (((i * 8 * 128 : Nat) : Int) + (((k + 1) * 128 : Nat) : Int)) = ((i * 8 * 128 + (k + 1) * 128 : Nat) : Int) := by rw [w64 (by omega) (by omega)]; omega
      simp only [q4, q5, q6]
      refine br_dec (fun hlt => ?_) fun _ => ⟨⟨k + 1, rfl, by omega, stz⟩, by omega⟩
      have hm' : m < 128 := by omega
      have q7 : IntKind.i64.wrap (((i * 8 * 128 + (k + 1) * 128 : Nat) : Int) + (m : Int)) = ((i * 8 * 128 + (k + 1) * 128 + m : Nat) : Int) := by rw [w64 (by omega) (by omega)]; omega
      simp only [q7, ewi (show m < 17592186044000 by omega)]
      have hix : ∀ {K : Int → Prop}, K ((pg.getD m 0).toNat : Int) → idxP a11 128 (m : Int) 1 fun q => ∃ x : Int, z.cell? q = some (.int .u8 x) ∧ K x := fun {K} hK => by
        have := idx_byte (K := K) hbz (i := (m : Int)) (by omega) (by omega) (by simpa using hK)
        rwa [hpl] at this
      refine hix ?_
      refine put stz (by omega) (by omega) fun u' hu st' => ⟨⟨m + 1, rfl, by omega, st', RowAt.upd hbz hu fun p hp e => ?_⟩, by omega⟩
      have := hpf p hp
      have := stv.2.2.2
      omega
end Go.Den
end
section
set_option linter.unusedVariables false
set_option linter.unusedSimpArgs false
set_option maxRecDepth 8000
namespace Go.Den
theorem CAt.low {A S : Nat} {w : World} {p : Nat} {c : Chip} (h : CAt A S w p c) : A ≤ p ∧ p < S := by
  obtain ⟨L, G, hr, hF, _⟩ := h
  exact hF p (by simp)
theorem cProgF {F : Nat → Prop} {A : Nat} {w : World} {p : Nat} {c : Chip} (h : CIn F A w p c) (block page : Int) {a : Option Addr} {b : List UInt8} {cp : Nat} (hb : BytesAt w a b) (hap : ∀ q, a = some q → ¬ F q.block) :
    CallsR prog K.nand_Chip_Program #[.pointer (some ⟨p, 0, none⟩), .int .i64 block, .int .i64 page, .slice a b.length cp] w fun v w' => v = .int .i64 ((c.program block page b).2 : Nat) ∧ Upd F w w' ∧ CIn F A w' p (c.program block page b).1 := by
  obtain ⟨L, G, hr, hF, hG⟩ := h
  refine (nand_Program_spec hr block page hb (fun q hq hm => hap q hq (hF _ (by
    simp only [List.mem_cons] at hm ⊢
    rcases hm with hm | hm
    · exact .inl hm
    · exact .inr (.inr hm))))).mono ?_
  rintro _ w' ⟨hu, L', hs', hc, rfl⟩
  exact ⟨rfl, hu.mono fun x _ hx => hF x hx, L', G, hc, fun x hx => hF x (by rw [hs'.1, hs'.2.2.2.2] at hx; exact hx), fun x hx => ⟨(hG x hx).1, Nat.lt_of_lt_of_le (hG x hx).2 hu.size⟩⟩
end Go.Den
end
section
set_option linter.unusedVariables false
set_option linter.unusedSimpArgs false
set_option maxRecDepth 100000
namespace Go.Den
def w12 : Chip := newChip 16 8 128 0
def h12 : List UInt8 × Nat := putHead 128 ⟨1, 1, 1⟩
def x12 : Chip × Nat := w12.program 3 0 h12.1
def works12 : Bool := decide (h12.2 = 0) && decide (h12.1.length = 128) && decide (takenPool (scanPool w12) w12 = []) && !w12.dead && decide (x12.2 = 0) && !x12.1.dead && decide (takenPool (scanPool x12.1) x12.1 = [⟨3, ⟨1, 1, 1⟩, false⟩]) && (pagesS x12.1 3).isEmpty
theorem works12_true : works12 = true := by decide +kernel
end Go.Den
end
section
set_option linter.unusedVariables false
set_option linter.unusedSimpArgs false
set_option maxRecDepth 8000
namespace Go.Den
theorem IList.pushX {G : Nat → Prop} {S : Nat} {w w₁ : World} {a : Option Addr} {cap n : Nat} {l : List Int} {B : Nat} {x : Int} (h : IList S w a cap l) (hG : ∀ b, a = some ⟨b, 0, none⟩ → ¬ G b) (hGs : ∀ x, G x → x < w.heap.size) (hn : n = l.length) (hnew : New w (.cells #[.int .i64 x] T.int) B w₁) (hb : l.length + 1 ≤ 17592186044000) (hS : S ≤ w.heap.size) {K : Option Addr → Nat → Nat → World → Prop}
    (hk : ∀ a' c' w', Upd (fun b => S ≤ b ∧ ¬ G b) w w' → IList S w' a' c' (l ++ [x]) → (∀ b, a' = some ⟨b, 0, none⟩ → ¬ G b) → K a' (l ++ [x]).length c' w') : appendP T.int 1 8 [Value.int .i64 0] a n cap (.slice (some ⟨B, 0, none⟩) 1 1) w₁ K := by
  subst hn
  have hrow : RowAt w₁ (some ⟨B, 0, none⟩) [.int .i64 x] := RowAt.of hnew.get fun j v hj => by simpa using hj
  refine append_own (h.1.ext hnew.upd) rfl (read_row hrow rfl) rfl (fun v hv => by simp at hv; rw [hv]; rfl) rfl (by omega) (by omega) fun a' c' w' hu ho hf => ?_
  have hs := hnew.size
  have := hk a' c' w' ((Upd.ext hnew.upd).trans (hu.mono fun b _ hb => ⟨h.2 b hb, hG b hb⟩)) ⟨by simpa using ho, fun b hb => by
    rcases hf with hf | ⟨b', hb', hl⟩
    · subst hf; exact h.2 b hb
    · rw [hb'] at hb; cases hb; omega⟩ (fun b hb hg => by
    rcases hf with hf | ⟨b', hb', hl⟩
    · subst hf; exact hG b hb hg
    · rw [hb'] at hb; cases hb; have := hGs _ hg; omega)
  simpa using this
theorem IList.lt {S : Nat} {w : World} {a : Option Addr} {cap : Nat} {l : List Int} (h : IList S w a cap l) {b : Nat} (hb : a = some ⟨b, 0, none⟩) : b < w.heap.size := h.1.blk hb
def countS (low : Nat) (l : List Part) : List Int := (l.filter fun x => decide (low ≤ x.seq)).map (·.block)
def dropS' (low : Nat) (l : List Part) : List Int := (l.filter fun x => !decide (low ≤ x.seq)).map (·.block)
theorem filter_map_succ {α β : Type} (p : α → Bool) (f : α → β) {l : List α} {i : Nat} (hi : i < l.length) : ((l.take (i + 1)).filter p).map f = ((l.take i).filter p).map f ++ if p l[i] then [f l[i]] else [] := by
  rw [List.take_succ_eq_append_getElem hi, List.filter_append, List.map_append]
  congr 1
  rw [List.filter_cons]
  split <;> rfl
theorem filter_map_len {α β : Type} (p : α → Bool) (f : α → β) (l : List α) : ((l.filter p).map f).length ≤ l.length := by
  rw [List.length_map]
  exact List.length_filter_le _ _
theorem readParts_length {c : Chip} (era : Nat) : (readParts c era).length ≤ c.nb := by
  unfold readParts
  split
  · exact Nat.zero_le _
  · refine Nat.le_trans (partsL_length _ _ _) ?_
    unfold takenPool
    rw [isort_length]
    exact takenRaw_length _ _ _
theorem scan_Blocks_spec {F : Nat → Prop} {A : Nat} {w : World} {p : Nat} {c : Chip} (h : CIn F A w p c) (hnb : c.nb < 20) (era : Nat) :
    CallsR prog K.scan_Blocks #[.pointer (some ⟨p, 0, none⟩), .int .u32 era] w fun v w' => ∃ a ca b cb, v = .tuple #[.slice a (countS (lowL (readParts c era)) (readParts c era)).length ca, .slice b (dropS' (lowL (readParts c era)) (readParts c era)).length cb, .int .i64 (readErr c era : Nat)] ∧
      IList w.heap.size w' a ca (countS (lowL (readParts c era)) (readParts c era)) ∧ IList w.heap.size w' b cb (dropS' (lowL (readParts c era)) (readParts c era)) ∧ Ext w w' := by
  apply scan_Blocks.sh
  suffices H : ∀ R : Value → World → Prop, (∀ v w', (∃ a ca b cb, v = .tuple #[.slice a (countS (lowL (readParts c era)) (readParts c era)).length ca, .slice b (dropS' (lowL (readParts c era)) (readParts c era)).length cb, .int .i64 (readErr c era : Nat)] ∧
      IList w.heap.size w' a ca (countS (lowL (readParts c era)) (readParts c era)) ∧ IList w.heap.size w' b cb (dropS' (lowL (readParts c era)) (readParts c era)) ∧ Ext w w') → R v w') → scan_Blocks.body (some ⟨p, 0, none⟩) era w R from H _ fun _ _ h => h
  intro R hR
  unfold scan_Blocks.body
  refine (scan_read_spec h hnb era).mono ?_
  have hlen := readParts_length (c := c) era
  generalize readParts c era = l at *
  generalize lowL l = low at *
  rintro _ w₁ ⟨a1, c1, rfl, hl, he1⟩
  have hs1 := he1.size
  obtain ⟨G, hG1, hG2⟩ := hl.slice
  refine ⟨_, _, _, _, _, rfl, fun a2 l2 c2 a3 l3 c3 x u => ∃ i : Nat, x = i ∧ i ≤ l.length ∧ l2 = (countS low (l.take i)).length ∧ l3 = (dropS' low (l.take i)).length ∧ IList w₁.heap.size u a2 c2 (countS low (l.take i)) ∧ IList w₁.heap.size u a3 c3 (dropS' low (l.take i)) ∧ (∀ b, a2 = some ⟨b, 0, none⟩ → a3 ≠ some ⟨b, 0, none⟩) ∧ Ext w₁ u, fun _ _ _ _ _ _ x _ => ((l.length : Int) - x).toNat,
    ⟨0, rfl, by omega, rfl, rfl, IList.nil _ _, IList.nil _ _, fun _ h => by (cases h), Upd.refl _ _⟩, ?_⟩
  rintro a2 l2 c2 a3 l3 c3 x u ⟨i, rfl, hi, rfl, rfl, hi2, hi3, hne, heu⟩
  have k2 := filter_map_len (fun x : Part => decide (low ≤ x.seq)) (·.block) (l.take i)
  have k3 := filter_map_len (fun x : Part => !decide (low ≤ x.seq)) (·.block) (l.take i)
  rw [List.length_take] at k2 k3
  change (countS low (l.take i)).length ≤ _ at k2
  change (dropS' low (l.take i)).length ≤ _ at k3
  refine br_dec (fun hlt => ?_) fun hge => ?_
  · have hi' : i < l.length := by omega
    have ew : IntKind.i64.wrap ((i : Int) + 1) = ((i + 1 : Nat) : Int) := w64 (by omega) (by omega)
    simp only [ew]
    have s2 : countS low (l.take (i + 1)) = countS low (l.take i) ++ if decide (low ≤ l[i].seq) then [l[i].block] else [] := filter_map_succ _ _ hi'
    have s3 : dropS' low (l.take (i + 1)) = dropS' low (l.take i) ++ if !decide (low ≤ l[i].seq) then [l[i].block] else [] := filter_map_succ _ _ hi'
    refine SliceAt.idx (r := partR) (hG1.ext heu) rfl hi' fun b o vs ha hrow hR' hG => ?_
    obtain ⟨ac, cc, rfl, _, _⟩ := partR_elim hR'
    refine ⟨_, _, _, _, _, hrow.cells, new_put (vs := partVs l[i].block l[i].seq ac l[i].pages.length cc) rfl fun B1 w₄ hb4 hs4 he4 g4 => ?_⟩
    simp only [add_lit, Nat.zero_add]
    have hsu := heu.size
    refine ⟨_, cell_of g4 rfl, br_dec (fun hge => ⟨_, cell_of g4 rfl, fun B2 w₅ hn5 => ?_⟩) fun hlt' => ⟨_, cell_of g4 rfl, fun B2 w₅ hn5 => ?_⟩⟩
    · rw [decide_eq_true (by omega : low ≤ l[i].seq)] at s2 s3
      simp only [if_true, Bool.not_true, Bool.false_eq_true, if_false, List.append_nil] at s2 s3
      refine IList.pushX (G := fun x => a3 = some ⟨x, 0, none⟩) (hi2.ext he4) (fun b hb hb' => hne b hb hb') (fun x hx => (hi3.ext he4).lt hx) rfl hn5 (by omega) (by omega) fun a' c' w₆ hu6 hl6 hne6 => ?_
      rw [← s2] at hl6 ⊢
      have h3 : IList w₁.heap.size w₆ a3 c3 (dropS' low (l.take i)) := ⟨(hi3.ext he4).1.upd hu6 fun b hb hF => hF.2 hb, hi3.2⟩
      refine ⟨⟨i + 1, rfl, hi', rfl, by rw [s3], hl6, by rw [s3]; exact h3, fun b hb hb' => hne6 b hb hb', (heu.trans he4).beyond hu6 fun x hx => hx.1⟩, meas hi'⟩
    · rw [decide_eq_false (by omega : ¬ low ≤ l[i].seq)] at s2 s3
      simp only [if_true, Bool.not_false, Bool.false_eq_true, if_false, List.append_nil] at s2 s3
      refine IList.pushX (G := fun x => a2 = some ⟨x, 0, none⟩) (hi3.ext he4) (fun b hb hb' => hne b hb' hb) (fun x hx => (hi2.ext he4).lt hx) rfl hn5 (by omega) (by omega) fun a' c' w₆ hu6 hl6 hne6 => ?_
      rw [← s3] at hl6 ⊢
      have h3 : IList w₁.heap.size w₆ a2 c2 (countS low (l.take i)) := ⟨(hi2.ext he4).1.upd hu6 fun b hb hF => hF.2 hb, hi2.2⟩
      refine ⟨⟨i + 1, rfl, hi', by rw [s2], rfl, by rw [s2]; exact h3, hl6, fun b hb hb' => hne6 b hb' hb, (heu.trans he4).beyond hu6 fun x hx => hx.1⟩, meas hi'⟩
  · have hii : i = l.length := by omega
    subst hii
    rw [List.take_length] at hi2 hi3 ⊢
    exact hR _ _ ⟨a2, c2, a3, c3, rfl, hi2.weak hs1, hi3.weak hs1, he1.trans heu⟩
/-- of no block nothing is said -/
theorem scan_Facts_none {F : Nat → Prop} {A : Nat} {w : World} {p : Nat} {c : Chip} (h : CIn F A w p c) (hnb : c.nb < 20) (era : Nat) (hno : readParts c era = []) :
    CallsR prog K.scan_Facts #[.pointer (some ⟨p, 0, none⟩), .int .u32 era] w fun v w' => v = .tuple #[.slice none 0 0, .int .i64 (readErr c era : Nat)] ∧ Ext w w' := by
  apply scan_Facts.sh
  unfold scan_Facts.body
  refine (scan_read_spec h hnb era).mono ?_
  rw [hno]
  rintro _ w₁ ⟨a1, c1, rfl, hl, he1⟩
  refine ⟨_, _, _, _, _, rfl, fun a l c x u => a = none ∧ l = 0 ∧ c = 0 ∧ x = 0 ∧ u = w₁, fun _ _ _ _ _ => 0, ⟨rfl, rfl, rfl, rfl, rfl⟩, ?_⟩
  rintro a l c' x u ⟨rfl, rfl, rfl, rfl, rfl⟩
  exact br_dec (fun h => absurd h (by simp)) fun _ => ⟨rfl, he1⟩
/-- the same numbers are the same -/
theorem ints_same {w : World} {a b : Option Addr} {ca cb : Nat} {l : List Int} (ha : RowAt w a (l.map (Value.int .i64))) (hb : RowAt w b (l.map (Value.int .i64))) (hn : l.length < 9000000000000000000) :
    CallsR prog K.carrackref00_Ints #[.slice a l.length ca, .slice b l.length cb] w fun v w' => v = .bool true ∧ Ext w w' := by
  apply carrackref00_Ints.sh
  unfold carrackref00_Ints.body
  refine br_ne (fun h => absurd rfl h) fun _ => ⟨fun x u => ∃ i : Nat, x = i ∧ i ≤ l.length ∧ Ext w u, fun x _ => ((l.length : Int) - x).toNat, ⟨0, rfl, by omega, Upd.refl _ _⟩, ?_⟩
  rintro x u ⟨i, rfl, hi, heu⟩
  refine br_dec (fun hlt => ?_) fun _ => ⟨rfl, heu⟩
  have hi' : i < l.length := by omega
  intro w₂ hd2
  have e2 := heu.trans hd2.upd
  have ix : ∀ {a : Option Addr} {K : Int → Prop}, RowAt w a (l.map (Value.int .i64)) → K l[i] → idxP a l.length (i : Int) 1 fun q => ∃ x : Int, (∀ u1, u1 = w₂ → u1.cell? q = some (.int .i64 x)) ∧ K x := fun {a K} hr hK => by
    obtain ⟨b', o', e, hc⟩ := (hr.ext e2).cell (i := i) (v := .int .i64 l[i]) (by simp [hi'])
    subst e
    refine ⟨by omega, by omega, ?_⟩
    simp only [nilC_some', add_lit, Nat.mul_one, Int.toNat_natCast]
    exact ⟨_, fun u1 hu1 => hu1 ▸ hc, hK⟩
  refine ⟨(· = w₂), rfl, ix ha (ix hb (br_ne (fun h => absurd rfl h) fun _ => ?_))⟩
  rw [w64 (by omega) (by omega)]
  exact ⟨⟨i + 1, rfl, hi', e2⟩, meas hi'⟩
theorem zlt : (0 : Nat) < 256 := by decide
theorem oneS_small (s : St) : (oneS s).1.val.length < 256 := by
  unfold oneS
  simp only []
  split
  · exact zlt
  · split
    · exact zlt
    · split
      · exact zlt
      · split
        · exact zlt
        · split
          · exact zlt
          · split
            · exact zlt
            · exact rowS_len _
theorem goS_small : ∀ (n : Nat) (s : St) (acc : List Change), (∀ x ∈ acc, x.val.length < 256) → ∀ x ∈ (goS n s acc).1, x.val.length < 256
  | 0, s, acc, h => by
    unfold goS
    split
    · simp
    · exact h
  | n + 1, s, acc, h => by
    unfold goS
    split
    · simp
    · refine goS_small n _ _ fun x hx => ?_
      rcases List.mem_append.1 hx with hx | hx
      · exact h x hx
      · simp at hx; subst hx; exact oneS_small s
theorem getS_small (b : List UInt8) : ∀ x ∈ (getS b).1, x.val.length < 256 := by
  unfold getS
  split
  · simp
  · split
    · simp
    · exact goS_small _ _ _ (by simp)
theorem goS_length : ∀ (n : Nat) (s : St) (acc : List Change), (goS n s acc).1.length ≤ acc.length + n
  | 0, s, acc => by
    unfold goS
    split
    · simp
    · simp
  | n + 1, s, acc => by
    unfold goS
    split
    · simp
    · have := goS_length n (oneS s).2.2 (acc ++ [(oneS s).1])
      simp at this
      omega
theorem getS_length (b : List UInt8) : (getS b).1.length ≤ 255 := by
  unfold getS
  split
  · simp
  · split
    · simp
    · have := goS_length (takeS 1 (some b)).1 (takeS 1 (some b)).2.2 []
      have h2 := takeS_lt 1 (some b)
      simp at this
      omega
theorem pageS_small {n : Int} {b : List UInt8} {P : PageSay} (h : pageS n b = some P) : (∀ x ∈ P.changes, x.val.length < 256) ∧ P.changes.length ≤ 255 := by
  unfold pageS at h
  split at h
  · cases h
  · split at h
    · split at h
      · cases h; exact ⟨getS_small _, getS_length _⟩
      · cases h
    · split at h
      · split at h
        · cases h; exact ⟨by simp, by simp⟩
        · cases h
      · cases h
theorem pagesS_small {c : Chip} {i : Nat} {P : PageSay} (h : P ∈ pagesS c i) : (∀ x ∈ P.changes, x.val.length < 256) ∧ P.changes.length ≤ 255 := by
  unfold pagesS pagesTo at h
  obtain ⟨k, _, hk⟩ := List.mem_filterMap.1 h
  split at hk
  · cases hk
  · exact pageS_small hk
theorem Still.ask {c : Chip} {nb np sz sp : Nat} (h : Still c nb np sz sp) (i j : Int) : c.ask i j = if i < 0 ∨ i ≥ nb ∨ j < 0 ∨ j ≥ np then 2 else 0 := by
  unfold Chip.ask
  rw [h.dead, h.nb, h.np]; rfl
/-- what works tells -/
theorem carracklaw12_works_spec (w : World) : CallsR prog K.carracklaw12_works #[] w fun v w' => v = .bool true ∧ Ext w w' := by
  have hM := works12_true
  simp only [works12, Bool.and_eq_true, decide_eq_true_eq, Bool.not_eq_true', List.isEmpty_iff] at hM
  obtain ⟨⟨⟨⟨⟨⟨⟨m0, m1⟩, m2⟩, m3⟩, m4⟩, m5⟩, m6⟩, m7⟩ := hM
  apply carracklaw12_works.sh
  unfold carracklaw12_works.body
  refine (cNew w (A := w.heap.size) (nb := 16) (np := 8) (sz := 128) (sp := 0) (Nat.le_refl _) (by omega) (by omega) (by omega) (by omega) (by omega) (by omega) (by omega)).mono ?_
  rintro _ w₁ ⟨he1, p, rfl, hc1⟩
  have hnb : w12.nb < 20 := by decide
  change CAt w.heap.size w₁.heap.size w₁ p w12 at hc1
  have hnb' : x12.1.nb < 20 := by
    have : x12.1.nb = w12.nb := (Chip.program_geo w12 3 0 h12.1).1
    omega
  have hx : x12 = w12.program 3 0 h12.1 := rfl
  have hh : h12 = putHead 128 ⟨1, 1, 1⟩ := rfl
  generalize x12 = X at *
  generalize h12 = H at *
  generalize w12 = W at *
  have hr1 : readParts W 1 = [] := by unfold readParts; rw [m2]; split <;> rfl
  have hr0 : readParts W 0 = [] := by unfold readParts; rw [m2]; split <;> rfl
  have he1' : readErr W 1 = 0 := by unfold readErr; rw [m3]; rfl
  have he0' : readErr W 0 = 2 := by unfold readErr; rw [m3]; rfl
  refine ⟨_, _, rfl, (scan_Facts_none hc1 hnb 1 hr1).mono ?_⟩
  rintro _ w₂ ⟨rfl, he2⟩
  rw [he1']
  refine ⟨_, _, _, _, rfl, (scan_Facts_none (hc1.ext he2) hnb 0 hr0).mono ?_⟩
  rintro _ w₃ ⟨rfl, he3⟩
  rw [he0']
  refine ⟨_, _, _, _, rfl, (carrackref04_PutHead_spec 128 ⟨1, 1, 1⟩ ⟨by decide, by decide⟩ w₃ (by decide) (by decide)).mono ?_⟩
  rw [← hh]
  rintro _ w₄ ⟨he4, a3, c3, rfl, hb3, hf3, hc3⟩
  have e4 := (he2.trans he3).trans he4
  have hs2 := he2.size
  have hs3 := he3.size
  have hcx := cProgF (((hc1.ext he2).ext he3).ext he4) 3 0 (cp := c3) hb3 (fun q hq hF => by have := hf3 q hq; have := hF.2; omega)
  rw [← hx, m4] at hcx
  refine ⟨_, _, _, _, rfl, hcx.mono ?_⟩
  rintro _ w₅ ⟨rfl, hu5, hc5⟩
  have e5 : Ext w w₅ := (he1.trans e4).beyond hu5 fun x hx => hx.1
  have hpx : readParts X.1 1 = [⟨3, 1, []⟩] := by
    unfold readParts readErr
    rw [m5, m6]
    unfold partsL partOf
    simp only [List.filter_cons, List.filter_nil, isLog]
    rw [← m7]; rfl
  have hex : readErr X.1 1 = 0 := by unfold readErr; rw [m5]; rfl
  refine ⟨_, rfl, (scan_Blocks_spec hc5 hnb' 1).mono ?_⟩
  rw [hpx, hex]
  rintro _ w₆ ⟨a4, c4, a5, c5, rfl, hi4, hi5, he6⟩
  refine ⟨_, _, _, _, _, _, _, rfl, ?_⟩
  refine br_eq (fun _ => ?_) fun h => absurd rfl h
  refine br_eq (fun _ => ?_) fun h => absurd rfl h
  refine br_eq (fun _ => ?_) fun h => absurd rfl h
  refine br_eq (fun _ => ?_) fun h => absurd rfl h
  refine br_eq (fun _ => ?_) fun h => absurd rfl h
  intro B1 w₇ hn7
  have hcnt : countS (lowL [⟨3, 1, []⟩]) [⟨3, 1, []⟩] = [3] := by decide
  have hdrp : dropS' (lowL [⟨3, 1, []⟩]) [⟨3, 1, []⟩] = [] := by decide
  rw [hcnt] at hi4 ⊢
  rw [hdrp] at hi5 ⊢
  refine (ints_same (l := [3]) (ca := c4) (cb := 1) (hi4.1.row.ext hn7.upd) (RowAt.of hn7.get fun j v hj => by simpa using hj) (by decide)).mono ?_
  rintro _ w₈ ⟨rfl, he8⟩
  refine ⟨_, rfl, ?_⟩
  rw [br_true]
  exact br_eq (fun _ => ⟨rfl, ((e5.trans he6).trans hn7.upd).trans he8⟩) fun h => absurd rfl h
end Go.Den
end
section
set_option linter.unusedVariables false
set_option linter.unusedSimpArgs false
set_option maxRecDepth 8000
namespace Go.Den
/-! ### The order, plainly -/
theorem code_tail (c d : Int) : ∀ (x y : List UInt8), listLt (x.map (fun b => (b.toNat : Int) + 1) ++ [0, c]) (y.map (fun b => (b.toNat : Int) + 1) ++ [0, d]) = (Op.bytesLess x y || (decide (x = y) && decide (c < d)))
  | [], [] => by simp [listLt, Op.bytesLess]
  | [], b :: ys => by
    have : (0 : Int) < (b.toNat : Int) + 1 := by omega
    simp [listLt, Op.bytesLess, this]
  | a :: xs, [] => by
    have h1 : ¬ ((a.toNat : Int) + 1 < 0) := by omega
    have h2 : ¬ ((a.toNat : Int) + 1 = 0) := by omega
    simp [listLt, Op.bytesLess, h1, h2]
  | a :: xs, b :: ys => by
    have ih := code_tail c d xs ys
    have h1 : decide ((a.toNat : Int) + 1 < (b.toNat : Int) + 1) = decide (a < b) := by
      rw [decide_eq_decide, UInt8.lt_iff_toNat_lt]; omega
    have h2 : decide ((a.toNat : Int) + 1 = (b.toNat : Int) + 1) = decide (a = b) := by
      rw [decide_eq_decide, ← UInt8.toNat_inj]; omega
    simp only [List.map_cons, List.cons_append, listLt, ih, h1, h2, Op.bytesLess, List.cons.injEq]
    by_cases hab : a = b
    · subst hab
      simp
    · simp [hab]
theorem before_eq (a b : Key) : before a b = (decide (a.ino < b.ino) || (decide (a.ino = b.ino) && (decide (a.what < b.what) || (decide (a.what = b.what) && (Op.bytesLess a.bytes b.bytes || (decide (a.bytes = b.bytes) && decide (a.chunk < b.chunk))))))) := by
  unfold before Key.code
  simp only [listLt, code_tail]
  have h1 : decide ((a.what.toNat : Int) < (b.what.toNat : Int)) = decide (a.what < b.what) := by
    rw [decide_eq_decide, UInt8.lt_iff_toNat_lt]; omega
  have h2 : decide ((a.what.toNat : Int) = (b.what.toNat : Int)) = decide (a.what = b.what) := by
    rw [decide_eq_decide, ← UInt8.toNat_inj]; omega
  rw [h1, h2]
theorem less_irrefl : ∀ x : List UInt8, Op.bytesLess x x = false
  | [] => rfl
  | a :: x => by simp [Op.bytesLess, less_irrefl x]
/-- below 0, 0, above -/
def cmpI (x y : Int) : Int := if x < y then -1 else if x > y then 1 else 0
def cmpS (x y : List UInt8) : Int := if Op.bytesLess x y then -1 else if x = y then 0 else 1
def firstOf : List Int → Int
  | [] => 0
  | x :: l => if x ≠ 0 then x else firstOf l
def orderK (a b : Key) : Int := firstOf [cmpI a.ino b.ino, cmpI a.what.toNat b.what.toNat, cmpS a.bytes b.bytes, cmpI a.chunk b.chunk]
theorem orderK_lt (a b : Key) : decide (orderK a b < 0) = before a b := by
  rw [before_eq]
  unfold orderK cmpI cmpS
  simp only [firstOf]
  have hw : a.what < b.what ↔ a.what.toNat < b.what.toNat := UInt8.lt_iff_toNat_lt
  have hw2 : a.what = b.what ↔ a.what.toNat = b.what.toNat := UInt8.toNat_inj.symm
  by_cases h1 : a.ino < b.ino
  · simp [h1]
  by_cases h2 : a.ino > b.ino
  · have : a.ino ≠ b.ino := by omega
    simp [h1, h2, this]
  have h3 : a.ino = b.ino := by omega
  by_cases h4 : a.what.toNat < b.what.toNat
  · have h4' : (a.what.toNat : Int) < (b.what.toNat : Int) := by omega
    simp [h3, hw, h4, h4']
  by_cases h5 : a.what.toNat > b.what.toNat
  · have h5' : ¬ (a.what.toNat : Int) < (b.what.toNat : Int) := by omega
    have h5'' : (b.what.toNat : Int) < (a.what.toNat : Int) := by omega
    have h6 : ¬ a.what.toNat = b.what.toNat := by omega
    simp [h3, hw, hw2, h4, h5, h5', h5'', h6]
  have h6 : a.what.toNat = b.what.toNat := by omega
  have h7 : a.what = b.what := hw2.2 h6
  cases hb : Op.bytesLess a.bytes b.bytes with
  | true => simp [h3, h7, hb]
  | false =>
    by_cases he : a.bytes = b.bytes
    · by_cases hc : a.chunk < b.chunk
      · simp [h3, h7, he, hc, less_irrefl]
      · by_cases hc2 : a.chunk > b.chunk
        · simp [h3, h7, he, hc, hc2, less_irrefl]
        · simp [h3, h7, he, hc, hc2, less_irrefl]
    · simp [h3, h7, hb, he]
/-! ### cmp -/
theorem cmp_int_spec (x y : Int) (w : World) : CallsR prog K.cmp_Compare_int #[.int .i64 x, .int .i64 y] w fun v w' => v = .int .i64 (cmpI x y) ∧ w' = w := by
  apply cmp_Compare_int.sh
  unfold cmp_Compare_int.body
  have nan : ∀ x : Int, CallsR prog K.cmp_isNaN_int #[.int .i64 x] w fun v w' => v = .bool false ∧ w' = w := fun x => by
    apply cmp_isNaN_int.sh
    unfold cmp_isNaN_int.body
    exact ⟨by simp, rfl⟩
  refine (nan x).mono ?_
  rintro _ _ ⟨rfl, rfl⟩
  refine ⟨_, rfl, (nan y).mono ?_⟩
  rintro _ _ ⟨rfl, rfl⟩
  refine ⟨_, rfl, ?_⟩
  simp only [br_false]
  unfold cmpI
  refine br_dec (fun h => ⟨by rw [if_pos h], by trivial⟩) fun h => br_dec (fun h2 => ⟨by rw [if_neg h, if_pos h2], by trivial⟩) fun h2 => ⟨by rw [if_neg h, if_neg h2], by trivial⟩
theorem cmp_u8_spec (x y : UInt8) (w : World) : CallsR prog K.cmp_Compare_uint8 #[bv x, bv y] w fun v w' => v = .int .i64 (cmpI x.toNat y.toNat) ∧ w' = w := by
  apply cmp_Compare_uint8.sh
  unfold cmp_Compare_uint8.body
  have nan : ∀ x : UInt8, CallsR prog K.cmp_isNaN_uint8 #[bv x] w fun v w' => v = .bool false ∧ w' = w := fun x => by
    apply cmp_isNaN_uint8.sh
    unfold cmp_isNaN_uint8.body
    exact ⟨by simp, rfl⟩
  refine (nan x).mono ?_
  rintro _ _ ⟨rfl, rfl⟩
  refine ⟨_, rfl, (nan y).mono ?_⟩
  rintro _ _ ⟨rfl, rfl⟩
  refine ⟨_, rfl, ?_⟩
  simp only [br_false]
  unfold cmpI
  refine br_dec (fun h => ⟨by rw [if_pos h], by trivial⟩) fun h => br_dec (fun h2 => ⟨by rw [if_neg h, if_pos h2], by trivial⟩) fun h2 => ⟨by rw [if_neg h, if_neg h2], by trivial⟩
theorem toList_data (s : ByteArray) : s.toList = s.data.toList := by rw [ByteArray.toList_eq]
theorem cmp_str_spec (x y : ByteArray) (w : World) : CallsR prog K.cmp_Compare_string #[.string x, .string y] w fun v w' => v = .int .i64 (cmpS x.data.toList y.data.toList) ∧ w' = w := by
  apply cmp_Compare_string.sh
  unfold cmp_Compare_string.body
  have nan : ∀ x : ByteArray, CallsR prog K.cmp_isNaN_string #[.string x] w fun v w' => v = .bool false ∧ w' = w := fun x => by
    apply cmp_isNaN_string.sh
    unfold cmp_isNaN_string.body
    exact ⟨by simp, rfl⟩
  refine (nan x).mono ?_
  rintro _ _ ⟨rfl, rfl⟩
  refine ⟨_, rfl, (nan y).mono ?_⟩
  rintro _ _ ⟨rfl, rfl⟩
  refine ⟨_, rfl, ?_⟩
  simp only [br_false, toList_data]
  unfold cmpS
  refine br_intro (fun h => ⟨by rw [if_pos h], by trivial⟩) fun h => br_intro (fun h2 => ⟨?_, by trivial⟩) fun h2 => ⟨?_, by trivial⟩
  · rw [if_neg (by rw [h]; decide)]
    have : ¬ x.data.toList = y.data.toList := by intro e; rw [e] at h2; simp at h2
    rw [if_neg this]
  · rw [if_neg (by rw [h]; decide)]
    have : x.data.toList = y.data.toList := by rw [h] at h2; simpa using h2
    rw [if_pos this]
theorem cmp_or_spec {w : World} {b : Nat} {l : List Int} (hr : RowAt w (some ⟨b, 0, none⟩) (l.map (Value.int .i64))) (hn : l.length < 1000000) (c : Nat) : CallsR prog K.cmp_Or_int #[.slice (some ⟨b, 0, none⟩) l.length c] w fun v w' => v = .int .i64 (firstOf l) ∧ w' = w := by
  apply cmp_Or_int.sh
  unfold cmp_Or_int.body
  refine ⟨fun x u => ∃ i : Nat, x = i ∧ i ≤ l.length ∧ u = w ∧ firstOf l = firstOf (l.drop i), fun x _ => ((l.length : Int) - x).toNat, ⟨0, rfl, by omega, rfl, rfl⟩, ?_⟩
  rintro x u ⟨i, rfl, hi, rfl, hf⟩
  refine br_dec (fun hlt => ?_) fun hge => ?_
  · have hi' : i < l.length := by omega
    refine ⟨by omega, by omega, ?_⟩
    simp only [nilC_some', add_lit, Nat.zero_add, Nat.mul_one, Int.toNat_natCast]
    have hd : l.drop i = l[i] :: l.drop (i + 1) := List.drop_eq_getElem_cons hi'
    have hcell := row_cell hr (j := i) (v := .int .i64 l[i]) (by simp [hi'])
    rw [Nat.zero_add] at hcell
    refine ⟨_, hcell, br_ne (fun h => ⟨?_, by trivial⟩) fun h => ?_⟩
    · rw [hf, hd]; simp only [firstOf]; rw [if_pos h]
    · rw [w64 (by omega) (by omega)]
      exact ⟨⟨i + 1, by omega, hi', by trivial, by rw [hf, hd]; simp only [firstOf]; rw [if_neg (by simpa using h)]⟩, by omega⟩
  · have : l.drop i = [] := List.drop_of_length_le (by omega)
    rw [this] at hf
    exact ⟨by rw [hf]; rfl, rfl⟩
theorem fact_order_spec (a b : Key) (w : World) : CallsR prog K.fact_order #[keyV a, keyV b] w fun v w' => v = .int .i64 (orderK a b) ∧ Ext w w' := by
  apply fact_order.sh
  suffices H : ∀ R : Value → World → Prop, (∀ v w', v = .int .i64 (orderK a b) ∧ Ext w w' → R v w') → fact_order.body a.ino a.what.toNat a.name a.chunk b.ino b.what.toNat b.name b.chunk w R from H _ fun _ _ h => h
  intro R hR
  unfold fact_order.body
  simp only [add_lit, Nat.zero_add]
  intro B1 w₁ hn1 B2 w₂ hn2 w₃ hd3
  have g1 : KeyAt w₃ B1 a := Ext.get hd3.upd (Ext.get hn2.upd hn1.get)
  have g2 : KeyAt w₃ B2 b := Ext.get hd3.upd hn2.get
  have e3 : Ext w w₃ := (hn1.upd.trans hn2.upd).trans hd3.upd
  refine ⟨fun u => Ext w₃ u, Upd.refl _ _, _, fun u h => cell_of (Ext.get h g1) rfl, _, fun u h => cell_of (Ext.get h g2) rfl, _, fun u h => cell_of (Ext.get h g1) rfl, _, fun u h => cell_of (Ext.get h g2) rfl, _, fun u h => cell_of (Ext.get h g1) rfl, _, fun u h => cell_of (Ext.get h g2) rfl, _, fun u h => cell_of (Ext.get h g1) rfl, _, fun u h => cell_of (Ext.get h g2) rfl, ?_⟩
  refine (cmp_int_spec _ _ w₃).mono ?_
  rintro _ _ ⟨rfl, rfl⟩
  refine ⟨_, rfl, Upd.refl _ _, (cmp_u8_spec _ _ _).mono ?_⟩
  rintro _ _ ⟨rfl, rfl⟩
  refine ⟨_, rfl, Upd.refl _ _, (cmp_str_spec _ _ _).mono ?_⟩
  rintro _ _ ⟨rfl, rfl⟩
  refine ⟨_, rfl, Upd.refl _ _, (cmp_int_spec _ _ _).mono ?_⟩
  rintro _ _ ⟨rfl, rfl⟩
  refine ⟨_, rfl, Upd.refl _ _, fun B3 w₈ hn8 => ⟨hn8.upd, ?_⟩⟩
  refine (cmp_or_spec (l := [cmpI a.ino b.ino, cmpI a.what.toNat b.what.toNat, cmpS a.bytes b.bytes, cmpI a.chunk b.chunk]) (RowAt.of hn8.get fun j v hj => by simpa [Key.bytes] using hj) (by simp) 4).mono ?_
  rintro _ _ ⟨rfl, rfl⟩
  exact ⟨_, rfl, hn8.upd, hR _ _ ⟨rfl, e3.trans hn8.upd⟩⟩
theorem fact_Before_spec (a b : Key) (w : World) : CallsR prog K.fact_Before #[keyV a, keyV b] w fun v w' => v = .bool (before a b) ∧ Ext w w' := by
  apply fact_Before.sh
  suffices H : ∀ R : Value → World → Prop, (∀ v w', v = .bool (before a b) ∧ Ext w w' → R v w') → fact_Before.body a.ino a.what.toNat a.name a.chunk b.ino b.what.toNat b.name b.chunk w R from H _ fun _ _ h => h
  intro R hR
  unfold fact_Before.body
  intro B1 w₁ hn1 B2 w₂ hn2
  have g1 : KeyAt w₂ B1 a := Ext.get hn2.upd hn1.get
  have g2 : KeyAt w₂ B2 b := hn2.get
  refine ⟨_, _, _, _, key_cells g1, _, _, _, _, key_cells g2, (fact_order_spec a b w₂).mono ?_⟩
  rintro _ w₃ ⟨rfl, he3⟩
  exact ⟨_, rfl, hR _ _ ⟨by rw [orderK_lt], (hn1.upd.trans hn2.upd).trans he3⟩⟩
/-! ### Facts -/
def factR : ERep Fact := ERep.pair keyR bytesR (fun x : Fact => x.key) (fun x => x.val)
abbrev factVs (k : Key) (a : Option Addr) (n c : Nat) : List Value := [.int .i64 k.ino, bv k.what, .string k.name, .int .i64 k.chunk, .slice a n c]
theorem factR_intro {w : World} {G : Nat → Prop} {x : Fact} {a : Option Addr} {c : Nat} (hc : x.val.length ≤ c) (hb : BytesAt w a x.val) (hg : x.val ≠ [] → ∀ p, a = some p → G p.block) : factR.R w G (factVs x.key a x.val.length c) x :=
  ⟨x.key.vals, [.slice a x.val.length c], rfl, rfl, a, c, rfl, hc, hb, hg⟩
theorem factR_elim {w : World} {G : Nat → Prop} {x : Fact} {vs : List Value} (h : factR.R w G vs x) : ∃ a c, vs = factVs x.key a x.val.length c ∧ x.val.length ≤ c ∧ BytesAt w a x.val ∧ (x.val ≠ [] → ∀ p, a = some p → G p.block) := by
  obtain ⟨u, v, rfl, hu, a, c, hs, hc, hb, hg⟩ := h
  have hu' : u = x.key.vals := hu
  have hs' : v = [.slice a x.val.length c] := hs
  subst hu'; subst hs'
  exact ⟨a, c, rfl, hc, hb, hg⟩
theorem ordered_take (l : List Fact) {i : Nat} (hi : i + 1 < l.length) : ordered (l.take (i + 2)) = (ordered (l.take (i + 1)) && before (l[i]'(by omega)).key l[i + 1].key) := by
  induction l generalizing i with
  | nil => simp at hi
  | cons x l ih =>
    cases l with
    | nil => simp at hi
    | cons y l =>
      cases i with
      | zero => simp [ordered]
      | succ i =>
        have := ih (i := i) (by simpa using hi)
        simp only [List.take_succ_cons, ordered, List.getElem_cons_succ] at this ⊢
        rw [this, Bool.and_assoc]
theorem ordered_small {l : List Fact} (h : l.length ≤ 1) : ordered l = true := by
  match l, h with
  | [], _ => rfl
  | [x], _ => rfl
theorem ordered_false {l : List Fact} : ∀ {n : Nat}, ordered (l.take n) = false → ordered l = false := by
  intro n h
  cases ho : ordered l with
  | false => rfl
  | true =>
    have := ordered_sorted.1 ho
    have h2 : ordered (l.take n) = true := ordered_sorted.2 (List.Pairwise.sublist (List.take_sublist _ _) this)
    rw [h] at h2; cases h2
theorem fact_isOrdered_spec {w : World} {G : Nat → Prop} {a : Option Addr} {c : Nat} {l : List Fact} (h : SliceAt factR w G a l) (hn : l.length < 9000000000000000000) :
    CallsR prog K.fact_isOrdered #[.slice a l.length c] w fun v w' => v = .bool (ordered l) ∧ Ext w w' := by
  apply fact_isOrdered.sh
  unfold fact_isOrdered.body
  refine ⟨fun x u => ∃ i : Nat, x = ((i + 1 : Nat) : Int) ∧ (i + 1 ≤ l.length ∨ i = 0) ∧ Ext w u ∧ ordered (l.take (i + 1)) = true, fun x _ => ((l.length : Int) - x).toNat, ⟨0, rfl, .inr rfl, Upd.refl _ _, ordered_small (by rw [List.length_take]; omega)⟩, ?_⟩
  rintro x u ⟨i, rfl, hi, heu, ho⟩
  refine br_dec (fun hlt => ?_) fun hge => ⟨?_, heu⟩
  · have hi' : i + 1 < l.length := by omega
    have hi0 : i < l.length := by omega
    intro w₂ hd2
    have e2 := heu.trans hd2.upd
    have q1 : IntKind.i64.wrap (((i + 1 : Nat) : Int) - 1) = (i : Int) := by rw [w64 (by omega) (by omega)]; omega
    have q2 : IntKind.i64.wrap (((i + 1 : Nat) : Int) + 1) = ((i + 1 + 1 : Nat) : Int) := by rw [w64 (by omega) (by omega)]; omega
    simp only [q1, q2]
    refine ⟨fun u => Ext w₂ u, Upd.refl _ _, SliceAt.idx (r := factR) (h.ext e2) rfl hi0 fun b o vs _ hrow hR _ => ?_⟩
    obtain ⟨_, _, rfl, _, _, _⟩ := factR_elim hR
    refine ⟨_, _, _, _, fun u1 hu1 => (RowAt.take (hrow.ext hu1) 4).cells, SliceAt.idx (r := factR) (h.ext e2) rfl hi' fun b o vs _ hrow hR _ => ?_⟩
    obtain ⟨_, _, rfl, _, _, _⟩ := factR_elim hR
    refine ⟨_, _, _, _, fun u1 hu1 => (RowAt.take (hrow.ext hu1) 4).cells, (fact_Before_spec l[i].key l[i + 1].key w₂).mono ?_⟩
    rintro _ w₃ ⟨rfl, he3⟩
    have hstep := ordered_take l hi'
    rw [ho, Bool.true_and] at hstep
    refine ⟨_, rfl, br_intro (fun hb => ⟨?_, e2.trans he3⟩) fun hb => ⟨⟨i + 1, rfl, .inl hi', e2.trans he3, by rw [hstep]; simpa using hb⟩, by omega⟩⟩
    rw [ordered_false (n := i + 2) (by rw [hstep]; simpa using hb)]
  · rw [List.take_of_length_le (by omega)] at ho
    rw [ho]
/-! ### The reference's -/
theorem less_cons_iff (a b : UInt8) (x y : List UInt8) : Op.bytesLess (a :: x) (b :: y) = (decide (a < b) || (a == b && Op.bytesLess x y)) := rfl
theorem less_at : ∀ {x y : List UInt8} (i : Nat) (hx : i < x.length) (hy : i < y.length), x.take i = y.take i → x[i] ≠ y[i] → Op.bytesLess x y = decide (x[i] < y[i])
  | a :: x, b :: y, 0, _, _, _, hne => by
    simp only [List.getElem_cons_zero] at hne ⊢
    rw [less_cons_iff]
    simp [hne]
  | a :: x, b :: y, i + 1, hx, hy, ht, hne => by
    simp only [List.take_succ_cons, List.cons.injEq] at ht
    obtain ⟨rfl, ht⟩ := ht
    simp only [List.getElem_cons_succ] at hne ⊢
    rw [less_cons_iff, less_at i (by simpa using hx) (by simpa using hy) ht hne]
    have : ¬ a < a := by rw [UInt8.lt_iff_toNat_lt]; omega
    simp [this]
theorem less_pre : ∀ {x y : List UInt8} (i : Nat), x.take i = y.take i → (i = x.length ∨ i = y.length) → i ≤ x.length → i ≤ y.length → Op.bytesLess x y = decide (x.length < y.length) ∧ (x.length = y.length → x = y)
  | [], [], _, _, _, _, _ => ⟨rfl, fun _ => rfl⟩
  | [], b :: y, i, _, h, h1, h2 => ⟨by simp [Op.bytesLess], fun e => by simp at e⟩
  | a :: x, [], i, _, h, h1, h2 => ⟨by simp [Op.bytesLess], fun e => by simp at e⟩
  | a :: x, b :: y, 0, _, h, _, _ => by simp at h
  | a :: x, b :: y, i + 1, ht, h, h1, h2 => by
    simp only [List.take_succ_cons, List.cons.injEq] at ht
    obtain ⟨rfl, ht⟩ := ht
    have ih := less_pre i ht (by simpa using h) (by simpa using h1) (by simpa using h2)
    rw [less_cons_iff, ih.1]
    have : ¬ a < a := by rw [UInt8.lt_iff_toNat_lt]; omega
    exact ⟨by simp [this], fun e => by rw [ih.2 (by simpa using e)]⟩
theorem carrackref06_order_spec (s t : ByteArray) (hs : s.size < 9223372036854775807) (ht : t.size < 9223372036854775807) (w : World) :
    CallsR prog K.carrackref06_order #[.string s, .string t] w fun v w' => Ext w w' ∧ ∃ n : Int, v = .int .i64 n ∧ (decide (n < 0) = Op.bytesLess s.data.toList t.data.toList) ∧ (n = 0 ↔ s.data.toList = t.data.toList) := by
  apply carrackref06_order.sh
  unfold carrackref06_order.body
  have e1 := size_data s
  have e2 := size_data t
  rw [e1, e2]
  generalize s.data.toList = x at *
  generalize t.data.toList = y at *
  refine ⟨fun z u => ∃ i : Nat, z = i ∧ i ≤ x.length ∧ i ≤ y.length ∧ Ext w u ∧ x.take i = y.take i, fun z _ => ((x.length : Int) - z).toNat, ⟨0, rfl, by omega, by omega, Upd.refl _ _, rfl⟩, ?_⟩
  rintro z u ⟨i, rfl, hx, hy, heu, heq⟩
  have fin : (i = x.length ∨ i = y.length) → (Ext w u ∧ ∃ n : Int, Value.int .i64 (IntKind.i64.wrap (((x.length : Nat) : Int) - ((y.length : Nat) : Int))) = .int .i64 n ∧ (decide (n < 0) = Op.bytesLess x y) ∧ (n = 0 ↔ x = y)) := fun h => by
    obtain ⟨p1, p2⟩ := less_pre i heq h hx hy
    refine ⟨heu, _, rfl, ?_, ?_⟩
    · rw [w64 (by omega) (by omega), p1, decide_eq_decide]; omega
    · rw [w64 (by omega) (by omega)]
      exact ⟨fun e => p2 (by omega), fun e => by rw [e]; omega⟩
  refine br_dec (fun hlt => br_dec (fun hlt2 => ?_) fun h => fin (.inr (by omega))) fun h => fin (.inl (by omega))
  have hx' : i < x.length := by omega
  have hy' : i < y.length := by omega
  intro w₂ hd2
  refine ⟨(· = w₂), rfl, by omega, x[i], by simp [hx'], by omega, y[i], by simp [hy'], br_ne (fun hne => ?_) fun heq' => ?_⟩
  · intro w₃ hd3
    refine ⟨(· = w₃), rfl, by omega, x[i], by simp [hx'], by omega, y[i], by simp [hy'], (heu.trans hd2.upd).trans hd3.upd, _, rfl, ?_, ?_⟩
    · have hne' : x[i] ≠ y[i] := fun e => hne (by rw [e])
      rw [less_at i hx' hy' heq hne', w64n (by have := x[i].toNat_lt; omega), w64n (by have := y[i].toNat_lt; omega), w64 (by have := x[i].toNat_lt; have := y[i].toNat_lt; omega) (by have := x[i].toNat_lt; have := y[i].toNat_lt; omega), decide_eq_decide, UInt8.lt_iff_toNat_lt]
      omega
    · rw [w64n (by have := x[i].toNat_lt; omega), w64n (by have := y[i].toNat_lt; omega), w64 (by have := x[i].toNat_lt; have := y[i].toNat_lt; omega) (by have := x[i].toNat_lt; have := y[i].toNat_lt; omega)]
      constructor
      · intro e; exact absurd (by omega) hne
      · rintro rfl; exact absurd rfl hne
  · rw [w64 (by omega) (by omega)]
    have hxy : x[i] = y[i] := UInt8.toNat_inj.1 (by have : (x[i].toNat : Int) = (y[i].toNat : Int) := heq'; omega)
    exact ⟨⟨i + 1, rfl, hx', hy', heu.trans hd2.upd, by rw [List.take_succ_eq_append_getElem hx', List.take_succ_eq_append_getElem hy', heq, hxy]⟩, meas hx'⟩
theorem carrackref06_Before_spec (a b : Key) (ha : a.name.size < 9223372036854775807) (hb : b.name.size < 9223372036854775807) (w : World) : CallsR prog K.carrackref06_Before #[keyV a, keyV b] w fun v w' => v = .bool (before a b) ∧ Ext w w' := by
  apply carrackref06_Before.sh
  suffices H : ∀ R : Value → World → Prop, (∀ v w', v = .bool (before a b) ∧ Ext w w' → R v w') → carrackref06_Before.body a.ino a.what.toNat a.name a.chunk b.ino b.what.toNat b.name b.chunk w R from H _ fun _ _ h => h
  intro R hR
  unfold carrackref06_Before.body
  simp only [add_lit, Nat.zero_add]
  intro B1 w₁ hn1 B2 w₂ hn2
  have g1 : KeyAt w₂ B1 a := Ext.get hn2.upd hn1.get
  have g2 : KeyAt w₂ B2 b := hn2.get
  have e2 := hn1.upd.trans hn2.upd
  rw [before_eq] at hR
  refine ⟨_, cell_of g1 rfl, _, cell_of g2 rfl, br_ne (fun hne => ⟨_, cell_of g1 rfl, _, cell_of g2 rfl, hR _ _ ⟨?_, e2⟩⟩) fun h1 => ?_⟩
  · rw [decide_eq_false (p := a.ino = b.ino) hne]; simp
  rw [decide_eq_false (p := a.ino < b.ino) (by omega), decide_eq_true (p := a.ino = b.ino) h1, Bool.false_or, Bool.true_and] at hR
  refine ⟨_, cell_of g1 rfl, _, cell_of g2 rfl, br_ne (fun hne => ⟨_, cell_of g1 rfl, _, cell_of g2 rfl, hR _ _ ⟨?_, e2⟩⟩) fun h2 => ?_⟩
  · have hne' : a.what ≠ b.what := fun e => hne (by rw [e])
    rw [decide_eq_false (p := a.what = b.what) hne']
    simp only [Bool.false_and, Bool.or_false]
    congr 1
    rw [decide_eq_decide, UInt8.lt_iff_toNat_lt]; omega
  have h2' : a.what = b.what := UInt8.toNat_inj.1 (by have : (a.what.toNat : Int) = (b.what.toNat : Int) := h2; omega)
  rw [decide_eq_false (p := a.what < b.what) (by rw [UInt8.lt_iff_toNat_lt]; omega), decide_eq_true (p := a.what = b.what) h2', Bool.false_or, Bool.true_and] at hR
  refine ⟨_, cell_of g1 rfl, _, cell_of g2 rfl, (carrackref06_order_spec a.name b.name ha hb w₂).mono ?_⟩
  rintro _ w₃ ⟨he3, n, rfl, hn1', hn2'⟩
  have hbl : Op.bytesLess a.bytes b.bytes = decide (n < 0) := hn1'.symm
  have hbe : n = 0 ↔ a.bytes = b.bytes := hn2'
  refine ⟨_, rfl, br_ne (fun hne => hR _ _ ⟨?_, e2.trans he3⟩) fun h3 => ⟨_, cell_of (Ext.get he3 g1) rfl, _, cell_of (Ext.get he3 g2) rfl, hR _ _ ⟨?_, e2.trans he3⟩⟩⟩
  · rw [hbl, decide_eq_false (p := a.bytes = b.bytes) (fun e => hne (hbe.2 e))]; simp
  · rw [hbl, decide_eq_true (p := a.bytes = b.bytes) (hbe.1 h3), decide_eq_false (p := n < 0) (by omega)]; simp
end Go.Den
end
section
set_option linter.unusedVariables false
set_option linter.unusedSimpArgs false
set_option maxRecDepth 8000
namespace Go.Den
/-! ### The reference's one, plainly -/
def stepO (c : Change) (s : List Fact × Bool) (x : Fact) : List Fact × Bool :=
  if x.key = c.key then (if s.2 then s else (s.1 ++ [⟨c.key, c.val⟩], true))
  else if !s.2 && before c.key x.key then (s.1 ++ [⟨c.key, c.val⟩] ++ [x], true)
  else (s.1 ++ [x], s.2)
def oneGo (c : Change) (l : List Fact) : List Fact × Bool := l.foldl (stepO c) ([], c.gone)
def oneF (c : Change) (l : List Fact) : List Fact := cond (oneGo c l).2 (oneGo c l).1 ((oneGo c l).1 ++ [⟨c.key, c.val⟩])
theorem stepO_behind {c : Change} : ∀ {l : List Fact} {acc : List Fact}, (∀ x ∈ l, x.key ≠ c.key) → l.foldl (stepO c) (acc, true) = (acc ++ l, true)
  | [], acc, _ => by simp
  | x :: l, acc, h => by
    have hx := h x (by simp)
    rw [List.foldl_cons]
    have : stepO c (acc, true) x = (acc ++ [x], true) := by unfold stepO; rw [if_neg hx]; simp
    rw [this, stepO_behind fun y hy => h y (by simp [hy])]
    simp
theorem behind_ne {x : Fact} {l : List Fact} {k : Key} (h : ∀ y ∈ l, before x.key y.key = true) (hk : x.key = k ∨ before k x.key = true) : ∀ y ∈ l, y.key ≠ k := fun y hy e => by
  have h1 := h y hy
  rcases hk with hk | hk
  · rw [e, hk, before_irrefl] at h1; cases h1
  · have := before_trans hk h1
    rw [e, before_irrefl] at this; cases this
theorem oneGo_acc {c : Change} : ∀ {l : List Fact} {acc : List Fact}, Sorted l →
    cond (l.foldl (stepO c) (acc, c.gone)).2 (l.foldl (stepO c) (acc, c.gone)).1 ((l.foldl (stepO c) (acc, c.gone)).1 ++ [⟨c.key, c.val⟩]) = acc ++ putF c l
  | [], acc, _ => by
    simp only [List.foldl_nil]
    cases hg : c.gone <;> simp [putF, hg]
  | x :: l, acc, h => by
    obtain ⟨h1, h2⟩ := List.pairwise_cons.1 h
    rw [List.foldl_cons]
    unfold putF
    by_cases he : x.key = c.key
    · rw [if_pos he]
      have hne := behind_ne (k := c.key) h1 (.inl he)
      by_cases hg : c.gone = true
      · have : stepO c (acc, c.gone) x = (acc, true) := by unfold stepO; rw [if_pos he, if_pos hg, hg]
        rw [this, stepO_behind hne, if_pos hg]; rfl
      · have : stepO c (acc, c.gone) x = (acc ++ [⟨c.key, c.val⟩], true) := by unfold stepO; rw [if_pos he, if_neg hg]
        rw [this, stepO_behind hne, if_neg hg]; simp
    · rw [if_neg he]
      by_cases hb : before c.key x.key = true
      · rw [if_pos hb]
        have hne : ∀ y ∈ l, y.key ≠ c.key := behind_ne h1 (.inr hb)
        by_cases hg : c.gone = true
        · have : stepO c (acc, c.gone) x = (acc ++ [x], true) := by unfold stepO; rw [if_neg he, hg]; simp
          rw [this, stepO_behind hne, if_pos hg]; simp
        · have hg' : c.gone = false := by simpa using hg
          have : stepO c (acc, c.gone) x = (acc ++ [⟨c.key, c.val⟩] ++ [x], true) := by unfold stepO; rw [if_neg he, hg', hb]; simp
          rw [this, stepO_behind hne, if_neg hg]; simp
      · rw [if_neg hb]
        have hb' : before c.key x.key = false := by simpa using hb
        have : stepO c (acc, c.gone) x = (acc ++ [x], c.gone) := by unfold stepO; rw [if_neg he, hb']; simp
        rw [this, oneGo_acc h2]; simp
theorem oneF_put {c : Change} {l : List Fact} (h : Sorted l) : oneF c l = putF c l := by
  exact oneGo_acc (c := c) (acc := []) h
theorem oneGo_succ (c : Change) {l : List Fact} {i : Nat} (hi : i < l.length) : oneGo c (l.take (i + 1)) = stepO c (oneGo c (l.take i)) l[i] := by
  unfold oneGo
  rw [List.take_succ_eq_append_getElem hi, List.foldl_append]; rfl
theorem stepO_len (c : Change) (s : List Fact × Bool) (x : Fact) : (stepO c s x).1.length ≤ s.1.length + 2 := by
  unfold stepO
  split
  · split <;> simp
  · split <;> simp
theorem oneGo_len (c : Change) (l : List Fact) : ∀ i, (oneGo c (l.take i)).1.length ≤ 2 * i
  | 0 => by simp [oneGo]
  | i + 1 => by
    by_cases hi : i < l.length
    · rw [oneGo_succ c hi]
      have := stepO_len c (oneGo c (l.take i)) l[i]
      have := oneGo_len c l i
      omega
    · have : l.take (i + 1) = l.take i := by rw [List.take_of_length_le (by omega), List.take_of_length_le (by omega)]
      rw [this]
      have := oneGo_len c l i
      omega
/-- keys are compared as the code does it -/
theorem key_beq (a b : Key) : ((a.ino == b.ino) && (((a.what.toNat : Int) == (b.what.toNat : Int)) && ((a.name.toList == b.name.toList) && ((a.chunk == b.chunk) && true)))) = decide (a = b) := by
  rw [u8b, str_beq, Bool.eq_iff_iff]
  simp only [Bool.and_eq_true, beq_iff_eq, and_true, decide_eq_true_eq]
  constructor
  · rintro ⟨h1, h2, h3, h4⟩
    obtain ⟨a1, a2, ⟨⟨a3⟩⟩, a4⟩ := a
    obtain ⟨b1, b2, ⟨⟨b3⟩⟩, b4⟩ := b
    simp only at h1 h2 h3 h4
    subst h1; subst h2; subst h3; subst h4; rfl
  · rintro rfl; exact ⟨rfl, rfl, rfl, rfl⟩
theorem facts_same {w : World} {G H : Nat → Prop} {a b : Option Addr} {ca cb : Nat} {l : List Fact} (ha : SliceAt factR w G a l) (hb : SliceAt factR w H b l) (hv : ∀ x ∈ l, x.val.length ≤ 1000000000000) (hn : l.length < 9000000000000000000) :
    CallsR prog K.carrackref00_Facts #[.slice a l.length ca, .slice b l.length cb] w fun v w' => v = .bool true ∧ Ext w w' := by
  apply carrackref00_Facts.sh
  unfold carrackref00_Facts.body
  refine br_ne (fun h => absurd rfl h) fun _ => ⟨fun x u => ∃ i : Nat, x = i ∧ i ≤ l.length ∧ Ext w u, fun x _ => ((l.length : Int) - x).toNat, ⟨0, rfl, by omega, Upd.refl _ _⟩, ?_⟩
  rintro x u ⟨i, rfl, hi, heu⟩
  refine br_dec (fun hlt => ?_) fun _ => ⟨rfl, heu⟩
  have hi' : i < l.length := by omega
  intro w₂ hd2
  have e2 := heu.trans hd2.upd
  refine ⟨fun u => Ext w₂ u, Upd.refl _ _, SliceAt.idx (r := factR) (ha.ext e2) rfl hi' fun b1 o1 vs1 _ hrow1 hR1 _ => ?_⟩
  obtain ⟨a1, c1, rfl, hc1, hb1, _⟩ := factR_elim hR1
  refine ⟨_, _, _, _, fun u1 hu1 => (RowAt.take (hrow1.ext hu1) 4).cells, SliceAt.idx (r := factR) (hb.ext e2) rfl hi' fun b2 o2 vs2 _ hrow2 hR2 _ => ?_⟩
  obtain ⟨a2, c2, rfl, hc2, hb2, _⟩ := factR_elim hR2
  refine ⟨_, _, _, _, fun u1 hu1 => (RowAt.take (hrow2.ext hu1) 4).cells, br_intro (fun h => by simp at h) fun _ => ?_⟩
  refine SliceAt.idx (r := factR) (ha.ext e2) rfl hi' fun b5 o5 vs5 _ hrow5 hR5 _ => ?_
  obtain ⟨a5, c5, rfl, _, hb5, _⟩ := factR_elim hR5
  simp only [add_lit]
  refine ⟨_, _, _, fun u1 hu1 => row_cell (hrow5.ext hu1) (j := 4) rfl, SliceAt.idx (r := factR) (hb.ext e2) rfl hi' fun b6 o6 vs6 _ hrow6 hR6 _ => ?_⟩
  obtain ⟨a6, c6, rfl, _, hb6, _⟩ := factR_elim hR6
  simp only [add_lit]
  refine ⟨_, _, _, fun u1 hu1 => row_cell (hrow6.ext hu1) (j := 4) rfl, (carrackref00_Same_spec hb5 hb6 (hv _ (List.getElem_mem _))).mono ?_⟩
  rintro _ w₃ ⟨rfl, he3⟩
  refine ⟨_, rfl, he3, br_intro (fun h => by simp at h) fun _ => ?_⟩
  rw [w64 (by omega) (by omega)]
  exact ⟨⟨i + 1, rfl, hi', e2.trans he3⟩, meas hi'⟩
theorem carrackref06_one_spec {w : World} {G : Nat → Prop} {a av : Option Addr} {cp cv : Nat} {l : List Fact} {x : Change} (h : SliceAt factR w G a l) (hG : ∀ b, G b → b < w.heap.size) (hb : BytesAt w av x.val) (hbl : x.val.length ≤ 140737488355232) (hn : l.length ≤ 100000000)
    (hnl : ∀ f ∈ l, f.key.name.size < 9223372036854775807) (hnx : x.key.name.size < 9223372036854775807) :
    CallsR prog K.carrackref06_one #[.slice a l.length cp, .agg #[.int .i64 x.key.ino, bv x.key.what, .string x.key.name, .int .i64 x.key.chunk, .slice av x.val.length cv, .bool x.gone]] w fun v w' => ∃ a' c', v = .slice a' (oneF x l).length c' ∧ ListAt factR G w.heap.size w' a' c' T.api_Fact (oneF x l) ∧ Ext w w' := by
  apply carrackref06_one.sh
  suffices H : ∀ R : Value → World → Prop, (∀ v w', (∃ a' c', v = .slice a' (oneF x l).length c' ∧ ListAt factR G w.heap.size w' a' c' T.api_Fact (oneF x l) ∧ Ext w w') → R v w') → carrackref06_one.body a l.length cp x.key.ino x.key.what.toNat x.key.name x.key.chunk av x.val.length cv x.gone w R from H _ fun _ _ h => h
  intro R hR
  unfold carrackref06_one.body
  simp only [add_lit, Nat.zero_add]
  intro B1 w₁ hn1
  have hb1 : B1 = w.heap.size := hn1.num
  have hs1 := hn1.size
  have g1 : w₁.heap[B1]? = some (.cells (changeVs x.key av x.val.length cv x.gone).toArray T.api_Change (0, 0)) := hn1.get
  refine ⟨_, cell_of g1 rfl, _, _, _, cell_of g1 rfl, append_copy (hb.ext hn1.upd) (by omega) fun a2 c2 w₂ he2 hb2 hc2 hf2 hnil => ?_⟩
  have e2 := hn1.upd.trans he2
  have hs2 := he2.size
  have g2 := Ext.get he2 g1
  have hf2' : ∀ p, a2 = some p → w₁.heap.size ≤ p.block ∧ p.block < w₂.heap.size := fun p hp => ⟨hf2 p hp, by
    by_cases hl0 : x.val = []
    · rw [hnil hl0] at hp; cases hp
    · obtain ⟨b', o, hab, hlt⟩ := RowAt.blk hb2 (by simpa using hl0)
      rw [hab] at hp; cases hp; exact hlt⟩
  have kcell : ∀ {u : World}, Ext w₂ u → cellsAt u ⟨B1, 0, none⟩ [.int .i64 x.key.ino, bv x.key.what, .string x.key.name, .int .i64 x.key.chunk] 0 := fun he => cellsAt_of (o := 0) (vs := x.key.vals) (Ext.get he g2) (fun j v hj => by
    rcases j with _ | _ | _ | _ | j
    all_goals simp [Key.vals] at hj ⊢
    all_goals exact hj)
  -- the loop
  refine ⟨fun a3 l3 c3 b2 x1 u => ∃ i : Nat, x1 = i ∧ i ≤ l.length ∧ l3 = (oneGo x (l.take i)).1.length ∧ b2 = (oneGo x (l.take i)).2 ∧ ListAt factR (fun b => G b ∨ (w₁.heap.size ≤ b ∧ b < w₂.heap.size)) w₂.heap.size u a3 c3 T.api_Fact (oneGo x (l.take i)).1 ∧ Ext w₂ u, fun _ _ _ _ y _ => ((l.length : Int) - y).toNat,
    ⟨0, rfl, by omega, rfl, rfl, ListAt.nil _ _, Upd.refl _ _⟩, ?_⟩
  rintro a3 l3 c3 b2 x1 u ⟨i, rfl, hi, rfl, rfl, hl, heu⟩
  have hlen := oneGo_len x l i
  have hsu := heu.size
  -- what is appended
  have pushNew : ∀ {u u' : World} {B : Nat} {a3 : Option Addr} {c3 : Nat} {acc : List Fact} {K : Option Addr → Nat → Nat → World → Prop}, ListAt factR (fun b => G b ∨ (w₁.heap.size ≤ b ∧ b < w₂.heap.size)) w₂.heap.size u a3 c3 T.api_Fact acc → acc.length ≤ 900000000 → Ext w₂ u → New u (.cells #[.int .i64 x.key.ino, bv x.key.what, .string x.key.name, .int .i64 x.key.chunk, .slice a2 x.val.length c2] T.api_Fact) B u' →
      (∀ a' c' w', ListAt factR (fun b => G b ∨ (w₁.heap.size ≤ b ∧ b < w₂.heap.size)) w₂.heap.size w' a' c' T.api_Fact (acc ++ [(⟨x.key, x.val⟩ : Fact)]) → Ext w₂ w' → K a' (acc ++ [(⟨x.key, x.val⟩ : Fact)]).length c' w') → appendP T.api_Fact 5 64 [.int .i64 0, .int .u8 0, .string ByteArray.empty, .int .i64 0, .slice none 0 0] a3 acc.length c3 (.slice (some ⟨B, 0, none⟩) 1 1) u' K := by
    intro u u' B a3 c3 acc K hl hal he hn hK
    have hs := hn.size
    have hse := he.size
    refine ListAt.push (r := factR) (H := fun b => w₁.heap.size ≤ b ∧ b < w₂.heap.size) (x := ⟨x.key, x.val⟩) (hl.ext hn.upd) (factR_intro (x := ⟨x.key, x.val⟩) hc2 ((hb2.ext he).ext hn.upd) fun _ p hp => hf2' p hp) (fun b hb => ⟨.inr (.inr hb), by omega, fun hab => ?_⟩) hn rfl rfl (by omega) (by omega) (by omega) fun a' c' w' hu hl' => hK a' c' w' hl' (Ext.own (he.trans hn.upd) hu (Nat.le_refl _))
    obtain ⟨_, _, _, h3⟩ := hl
    have := (h3 b hab).1
    omega
  have pushOld : ∀ {u u' : World} {B : Nat} {a3 ao : Option Addr} {c3 co : Nat} {acc : List Fact} {f : Fact} {K : Option Addr → Nat → Nat → World → Prop}, f.val.length ≤ co → BytesAt u ao f.val → (f.val ≠ [] → ∀ p, ao = some p → G p.block) → ListAt factR (fun b => G b ∨ (w₁.heap.size ≤ b ∧ b < w₂.heap.size)) w₂.heap.size u a3 c3 T.api_Fact acc → acc.length ≤ 900000000 → Ext w₂ u → New u (.cells (factVs f.key ao f.val.length co).toArray T.api_Fact) B u' →
      (∀ a' c' w', ListAt factR (fun b => G b ∨ (w₁.heap.size ≤ b ∧ b < w₂.heap.size)) w₂.heap.size w' a' c' T.api_Fact (acc ++ [f]) → Ext w₂ w' → K a' (acc ++ [f]).length c' w') → appendP T.api_Fact 5 64 [.int .i64 0, .int .u8 0, .string ByteArray.empty, .int .i64 0, .slice none 0 0] a3 acc.length c3 (.slice (some ⟨B, 0, none⟩) 1 1) u' K := by
    intro u u' B a3 ao c3 co acc f K hco hbo hgo hl hal he hn hK
    have hs := hn.size
    have hse := he.size
    refine ListAt.push (r := factR) (H := fun b => G b) (x := f) (hl.ext hn.upd) (factR_intro hco (hbo.ext hn.upd) hgo) (fun b hb => ⟨.inr (.inl hb), by have := hG b hb; omega, fun hab => ?_⟩) hn rfl rfl (by omega) (by omega) (by omega) fun a' c' w' hu hl' => hK a' c' w' hl' (Ext.own (he.trans hn.upd) hu (Nat.le_refl _))
    obtain ⟨_, _, _, h3⟩ := hl
    have := (h3 b hab).1
    have := hG b hb
    omega
  refine br_dec (fun hlt => ?_) fun hge => ?_
  · have hi' : i < l.length := by omega
    have ew : IntKind.i64.wrap ((i : Int) + 1) = ((i + 1 : Nat) : Int) := w64 (by omega) (by omega)
    simp only [ew]
    have hsucc := oneGo_succ x hi'
    intro w₄ hd4
    have e4 := heu.trans hd4.upd
    have hl4 := hl.ext hd4.upd
    have step : ∀ {a' : Option Addr} {l' c' : Nat} {b' : Bool} {w' : World} {acc : List Fact}, (acc, b') = stepO x (oneGo x (l.take i)) l[i] → l' = acc.length → ListAt factR (fun b => G b ∨ (w₁.heap.size ≤ b ∧ b < w₂.heap.size)) w₂.heap.size w' a' c' T.api_Fact acc → Ext w₂ w' →
        (∃ k : Nat, ((i + 1 : Nat) : Int) = k ∧ k ≤ l.length ∧ l' = (oneGo x (l.take k)).1.length ∧ b' = (oneGo x (l.take k)).2 ∧ ListAt factR (fun b => G b ∨ (w₁.heap.size ≤ b ∧ b < w₂.heap.size)) w₂.heap.size w' a' c' T.api_Fact (oneGo x (l.take k)).1 ∧ Ext w₂ w') ∧ ((l.length : Int) - ((i + 1 : Nat) : Int)).toNat < ((l.length : Int) - (i : Int)).toNat := fun {a' l' c' b' w' acc} hacc hll hla he => by
      have h1 : oneGo x (l.take (i + 1)) = (acc, b') := by rw [hsucc, ← hacc]
      exact ⟨⟨i + 1, rfl, hi', by rw [h1]; exact hll, by rw [h1], by rw [h1]; exact hla, he⟩, meas hi'⟩
    refine ⟨fun u => Ext w₄ u, Upd.refl _ _, SliceAt.idx (r := factR) (h.ext (e2.trans e4)) rfl hi' fun b1 o1 vs1 _ hrow1 hR1 _ => ?_⟩
    obtain ⟨a1, c1, rfl, hc1, hb1', hg1'⟩ := factR_elim hR1
    refine ⟨_, _, _, _, fun u1 hu1 => (RowAt.take (hrow1.ext hu1) 4).cells, _, _, _, _, fun u1 hu1 => kcell (e4.trans hu1), ?_⟩
    rw [key_beq]
    have hal : (oneGo x (l.take i)).1.length ≤ 200000000 := by omega
    generalize hst : oneGo x (l.take i) = st at *
    -- an old fact is appended, in whatever world behind
    have old : ∀ {v : World} {a5 : Option Addr} {c5 : Nat} {acc : List Fact} {b' : Bool} {l5 : Nat}, l5 = acc.length → acc.length ≤ 800000000 → (acc ++ [l[i]], b') = stepO x st l[i] → Ext w₂ v → ListAt factR (fun b => G b ∨ (w₁.heap.size ≤ b ∧ b < w₂.heap.size)) w₂.heap.size v a5 c5 T.api_Fact acc →
        idxP a l.length (i : Int) 5 fun q => ∃ x8 x9 : Int, ∃ s3 : ByteArray, ∃ x10 : Int, ∃ (a6 : Option Addr) (l6 c6 : Nat), cellsAt v q [.int .i64 x8, .int .u8 x9, .string s3, .int .i64 x10, .slice a6 l6 c6] 0 ∧
          ∀ B4 v', New v (.cells #[.int .i64 x8, .int .u8 x9, .string s3, .int .i64 x10, .slice a6 l6 c6] T.api_Fact) B4 v' → appendP T.api_Fact 5 64 [.int .i64 0, .int .u8 0, .string ByteArray.empty, .int .i64 0, .slice none 0 0] a5 l5 c5 (.slice (some ⟨B4, 0, none⟩) 1 1) v' fun a7 l7 c7 v'' =>
            (∃ k : Nat, ((i + 1 : Nat) : Int) = k ∧ k ≤ l.length ∧ l7 = (oneGo x (l.take k)).1.length ∧ b' = (oneGo x (l.take k)).2 ∧ ListAt factR (fun b => G b ∨ (w₁.heap.size ≤ b ∧ b < w₂.heap.size)) w₂.heap.size v'' a7 c7 T.api_Fact (oneGo x (l.take k)).1 ∧ Ext w₂ v'') ∧ ((l.length : Int) - ((i + 1 : Nat) : Int)).toNat < ((l.length : Int) - (i : Int)).toNat := by
      intro v a5 c5 acc b' l5 hl5 hacc hstep hev hla
      subst hl5
      refine SliceAt.idx (r := factR) (h.ext (e2.trans hev)) rfl hi' fun b1 o1 vs1 _ hrow1 hR1 _ => ?_
      obtain ⟨ao, co, rfl, hco, hbo, hgo⟩ := factR_elim hR1
      refine ⟨_, _, _, _, _, _, _, hrow1.cells, fun B4 v' hn' => ?_⟩
      exact pushOld hco hbo hgo hla (by omega) hev hn' fun a' c' w' hl' he' => step hstep rfl hl' he'
    have new : ∀ {v : World} {K : Option Addr → Nat → Nat → World → Prop}, Ext w₄ v → (∀ a' c' w', ListAt factR (fun b => G b ∨ (w₁.heap.size ≤ b ∧ b < w₂.heap.size)) w₂.heap.size w' a' c' T.api_Fact (st.1 ++ [(⟨x.key, x.val⟩ : Fact)]) → Ext w₂ w' → K a' (st.1 ++ [(⟨x.key, x.val⟩ : Fact)]).length c' w') →
        ∃ x8 x9 : Int, ∃ s3 : ByteArray, ∃ x10 : Int, cellsAt v ⟨B1, 0, none⟩ [.int .i64 x8, .int .u8 x9, .string s3, .int .i64 x10] 0 ∧ ∀ B2 v', New v (.cells #[.int .i64 x8, .int .u8 x9, .string s3, .int .i64 x10, .slice a2 x.val.length c2] T.api_Fact) B2 v' →
          appendP T.api_Fact 5 64 [.int .i64 0, .int .u8 0, .string ByteArray.empty, .int .i64 0, .slice none 0 0] a3 st.1.length c3 (.slice (some ⟨B2, 0, none⟩) 1 1) v' K := by
      intro v K hev hK
      exact ⟨_, _, _, _, kcell (e4.trans hev), fun B2 v' hn' => pushNew (hl4.ext hev) (by omega) (e4.trans hev) hn' hK⟩
    refine br_dec (fun hkey => br_intro (fun hd => ?_) fun hd => ?_) fun hkey => ?_
    · have hd' : st.2 = false := by simpa using hd
      refine new (Upd.refl _ _) fun a' c' w' hl' he' => step (acc := st.1 ++ [⟨x.key, x.val⟩]) ?_ rfl hl' he'
      unfold stepO
      rw [if_pos hkey, hd']; rfl
    · have hd' : st.2 = true := by simpa using hd
      refine step (acc := st.1) ?_ rfl hl4 e4
      unfold stepO
      rw [if_pos hkey, hd', if_pos rfl]
      rw [← hd']
    · intro w₇ hd7
      have e7 := e4.trans hd7.upd
      refine ⟨fun u => Ext w₇ u, Upd.refl _ _, br_intro (fun hd => ?_) fun hd => ?_⟩
      · have hd' : st.2 = false := by simpa using hd
        refine ⟨_, _, _, _, fun u3 hu3 => kcell (e7.trans hu3), SliceAt.idx (r := factR) (h.ext (e2.trans e7)) rfl hi' fun b1 o1 vs1 _ hrow1 hR1 _ => ?_⟩
        obtain ⟨ao, co, rfl, hco, hbo, hgo⟩ := factR_elim hR1
        refine ⟨_, _, _, _, fun u3 hu3 => (RowAt.take (hrow1.ext hu3) 4).cells, (carrackref06_Before_spec x.key l[i].key hnx (hnl _ (List.getElem_mem _)) w₇).mono ?_⟩
        rintro _ w₈ ⟨rfl, he8⟩
        refine ⟨_, rfl, br_intro (fun hbf => ?_) fun hbf => ?_⟩
        · refine new (hd7.upd.trans he8) fun a' c' w' hl' he' => old (acc := st.1 ++ [⟨x.key, x.val⟩]) (b' := true) rfl (by simp; omega) ?_ he' hl'
          unfold stepO
          rw [if_neg hkey, hd', hbf]; rfl
        · refine old (acc := st.1) (b' := st.2) rfl (by omega) ?_ (e7.trans he8) (hl4.ext (hd7.upd.trans he8))
          unfold stepO
          rw [if_neg hkey, hbf]; simp
      · have hd' : st.2 = true := by simpa using hd
        refine old (acc := st.1) (b' := st.2) rfl (by omega) ?_ e7 (hl4.ext hd7.upd)
        unfold stepO
        rw [if_neg hkey, hd']; simp
  · have hii : i = l.length := by omega
    subst hii
    rw [List.take_length] at hl hlen ⊢
    have hw : ∀ {u a c acc}, ListAt factR (fun b => G b ∨ (w₁.heap.size ≤ b ∧ b < w₂.heap.size)) w₂.heap.size u a c T.api_Fact acc → ListAt factR G w.heap.size u a c T.api_Fact acc := fun h => h.weak (by omega) fun b hb => by
      rcases hb with hb | hb
      · exact .inr hb
      · exact .inl (by omega)
    have hone : oneF x l = cond (oneGo x l).2 (oneGo x l).1 ((oneGo x l).1 ++ [⟨x.key, x.val⟩]) := rfl
    refine br_intro (fun hd => ?_) fun hd => ?_
    · have hd' : (oneGo x l).2 = false := by simpa using hd
      rw [hd'] at hone
      rw [hone] at hR
      refine ⟨_, _, _, _, kcell heu, fun B7 v' hn' => pushNew hl (by omega) heu hn' fun a' c' w' hl' he' => hR _ _ ⟨a', c', rfl, hw hl', e2.trans he'⟩⟩
    · have hd' : (oneGo x l).2 = true := by simpa using hd
      rw [hd'] at hone
      rw [hone] at hR
      exact hR _ _ ⟨a3, c3, rfl, hw hl, e2.trans heu⟩
end Go.Den
end
section
set_option linter.unusedVariables false
set_option linter.unusedSimpArgs false
set_option maxRecDepth 8000
namespace Go.Den
def NamesF (l : List Fact) : Prop := ∀ f ∈ l, f.key.name.size < 9223372036854775807
def SmallC (l : List Change) : Prop := ∀ x ∈ l, x.key.name.size < 9223372036854775807 ∧ x.val.length ≤ 140737488355232
theorem NamesF.put {c : Change} {l : List Fact} (h : NamesF l) (hc : c.key.name.size < 9223372036854775807) : NamesF (putF c l) := fun f hf => by
  rcases putF_mem hf with hf | ⟨_, rfl⟩
  · exact h f hf
  · exact hc
theorem applyL_succ (l : List Fact) {cs : List Change} {i : Nat} (hi : i < cs.length) : applyL l (cs.take (i + 1)) = putF cs[i] (applyL l (cs.take i)) := by
  unfold applyL
  rw [List.take_succ_eq_append_getElem hi, List.foldl_append]; rfl
theorem applyL_length (l : List Fact) (cs : List Change) : ∀ i, (applyL l (cs.take i)).length ≤ l.length + i
  | 0 => by simp [applyL]
  | i + 1 => by
    by_cases hi : i < cs.length
    · rw [applyL_succ l hi]
      have := putF_length cs[i] (applyL l (cs.take i))
      have := applyL_length l cs i
      omega
    · have : cs.take (i + 1) = cs.take i := by rw [List.take_of_length_le (by omega), List.take_of_length_le (by omega)]
      rw [this]
      have := applyL_length l cs i
      omega
theorem applyL_names {l : List Fact} {cs : List Change} (h : NamesF l) (hc : SmallC cs) : ∀ i, NamesF (applyL l (cs.take i))
  | 0 => by simpa [applyL] using h
  | i + 1 => by
    by_cases hi : i < cs.length
    · rw [applyL_succ l hi]
      exact (applyL_names h hc i).put (hc _ (List.getElem_mem _)).1
    · have : cs.take (i + 1) = cs.take i := by rw [List.take_of_length_le (by omega), List.take_of_length_le (by omega)]
      rw [this]
      exact applyL_names h hc i
theorem carrackref06_Ordered_spec {w : World} {G : Nat → Prop} {a : Option Addr} {c : Nat} {l : List Fact} (h : SliceAt factR w G a l) (hn : l.length < 9000000000000000000) (hnl : NamesF l) :
    CallsR prog K.carrackref06_Ordered #[.slice a l.length c] w fun v w' => v = .bool (ordered l) ∧ Ext w w' := by
  apply carrackref06_Ordered.sh
  unfold carrackref06_Ordered.body
  refine ⟨fun x u => ∃ i : Nat, x = ((i + 1 : Nat) : Int) ∧ (i + 1 ≤ l.length ∨ i = 0) ∧ Ext w u ∧ ordered (l.take (i + 1)) = true, fun x _ => ((l.length : Int) - x).toNat, ⟨0, rfl, .inr rfl, Upd.refl _ _, ordered_small (by rw [List.length_take]; omega)⟩, ?_⟩
  rintro x u ⟨i, rfl, hi, heu, ho⟩
  refine br_dec (fun hlt => ?_) fun hge => ⟨?_, heu⟩
  · have hi' : i + 1 < l.length := by omega
    have hi0 : i < l.length := by omega
    intro w₂ hd2
    have e2 := heu.trans hd2.upd
    have q1 : IntKind.i64.wrap (((i + 1 : Nat) : Int) - 1) = (i : Int) := by rw [w64 (by omega) (by omega)]; omega
    have q2 : IntKind.i64.wrap (((i + 1 : Nat) : Int) + 1) = ((i + 1 + 1 : Nat) : Int) := by rw [w64 (by omega) (by omega)]; omega
    simp only [q1, q2]
    refine ⟨fun u => Ext w₂ u, Upd.refl _ _, SliceAt.idx (r := factR) (h.ext e2) rfl hi0 fun b o vs _ hrow hR _ => ?_⟩
    obtain ⟨_, _, rfl, _, _, _⟩ := factR_elim hR
    refine ⟨_, _, _, _, fun u1 hu1 => (RowAt.take (hrow.ext hu1) 4).cells, SliceAt.idx (r := factR) (h.ext e2) rfl hi' fun b o vs _ hrow hR _ => ?_⟩
    obtain ⟨_, _, rfl, _, _, _⟩ := factR_elim hR
    refine ⟨_, _, _, _, fun u1 hu1 => (RowAt.take (hrow.ext hu1) 4).cells, (carrackref06_Before_spec l[i].key l[i + 1].key (hnl _ (List.getElem_mem _)) (hnl _ (List.getElem_mem _)) w₂).mono ?_⟩
    rintro _ w₃ ⟨rfl, he3⟩
    have hstep := ordered_take l hi'
    rw [ho, Bool.true_and] at hstep
    refine ⟨_, rfl, br_intro (fun hb => ⟨?_, e2.trans he3⟩) fun hb => ⟨⟨i + 1, rfl, .inl hi', e2.trans he3, by rw [hstep]; simpa using hb⟩, by omega⟩⟩
    rw [ordered_false (n := i + 2) (by rw [hstep]; simpa using hb)]
  · rw [List.take_of_length_le (by omega)] at ho
    rw [ho]
theorem carrackref06_Apply_spec {w : World} {G Gc : Nat → Prop} {a ac : Option Addr} {c cc : Nat} {l : List Fact} {cs : List Change} (h : SliceAt factR w G a l) (hG : ∀ b, G b → b < w.heap.size) (hc : SliceAt changeR w Gc ac cs) (hn : l.length + cs.length ≤ 100000000) (hnl : NamesF l) (hnc : SmallC cs) :
    CallsR prog K.carrackref06_Apply #[.slice a l.length c, .slice ac cs.length cc] w fun v w' => ∃ a' c', v = .slice a' (applyF l cs).length c' ∧ ListAt factR G w.heap.size w' a' c' T.api_Fact (applyF l cs) ∧ Ext w w' := by
  apply carrackref06_Apply.sh
  suffices H : ∀ R : Value → World → Prop, (∀ v w', (∃ a' c', v = .slice a' (applyF l cs).length c' ∧ ListAt factR G w.heap.size w' a' c' T.api_Fact (applyF l cs) ∧ Ext w w') → R v w') → carrackref06_Apply.body a l.length c ac cs.length cc w R from H _ fun _ _ h => h
  intro R hR
  unfold carrackref06_Apply.body
  refine (carrackref06_Ordered_spec h (by omega) hnl).mono ?_
  rintro _ w₁ ⟨rfl, he1⟩
  have hs1 := he1.size
  refine ⟨_, rfl, br_intro (fun ho => ?_) fun ho => ?_⟩
  · have ho' : ordered l = false := by simpa using ho
    have hap : applyF l cs = [] := by unfold applyF; rw [if_neg (by rw [ho']; decide)]
    rw [hap] at hR
    exact hR _ _ ⟨none, 0, rfl, ListAt.nil _ _, he1⟩
  have ho' : ordered l = true := by simpa using ho
  have hsorted := ordered_sorted.1 ho'
  have hap : applyF l cs = applyL l cs := by unfold applyF; rw [if_pos ho']
  rw [hap] at hR
  refine ListAt.concat (r := factR) (H := G) (Q := G) (S := w.heap.size) (l := []) (ListAt.nil _ _) (h.ext he1) (fun b hb => ⟨.inr hb, by have := hG b hb; omega, fun hab => by cases hab⟩) rfl rfl rfl (by simp; omega) (by omega) hs1 fun a1 c1 w₂ hu2 hl2 => ?_
  have e2 := Ext.own he1 hu2 (Nat.le_refl _)
  rw [List.nil_append] at hl2 ⊢
  refine ⟨fun a2 l2 c2 x u => ∃ i : Nat, x = i ∧ i ≤ cs.length ∧ l2 = (applyL l (cs.take i)).length ∧ ListAt factR G w.heap.size u a2 c2 T.api_Fact (applyL l (cs.take i)) ∧ Ext w u, fun _ _ _ x _ => ((cs.length : Int) - x).toNat,
    ⟨0, rfl, by omega, rfl, hl2, e2⟩, ?_⟩
  rintro a2 l2 c2 x u ⟨i, rfl, hi, rfl, hl, heu⟩
  refine br_dec (fun hlt => ?_) fun hge => ?_
  · have hi' : i < cs.length := by omega
    have ew : IntKind.i64.wrap ((i : Int) + 1) = ((i + 1 : Nat) : Int) := w64 (by omega) (by omega)
    simp only [ew]
    have hcs := hnc _ (List.getElem_mem hi')
    have hlen := applyL_length l cs i
    refine SliceAt.idx (r := changeR) (hc.ext heu) rfl hi' fun b o vs _ hrow hR' _ => ?_
    obtain ⟨av, cv, rfl, hcv, hbv, _⟩ := changeR_elim hR'
    obtain ⟨G', hG1, hG2⟩ := hl.slice
    refine ⟨_, _, _, _, _, _, _, _, hrow.cells, (carrackref06_one_spec (x := cs[i]) hG1 (fun b hb => (hG2 b hb).2) hbv hcs.2 (by omega) (applyL_names hnl hnc i) hcs.1).mono ?_⟩
    rintro _ w₄ ⟨a', c', rfl, hl4, he4⟩
    have hput : oneF cs[i] (applyL l (cs.take i)) = applyL l (cs.take (i + 1)) := by
      rw [applyL_succ l hi', oneF_put (applyL_sorted hsorted)]
    rw [hput] at hl4 ⊢
    exact ⟨_, _, _, rfl, ⟨i + 1, rfl, hi', rfl, hl4.weak heu.size fun b hb => (hG2 b hb).1, heu.trans he4⟩, meas hi'⟩
  · have hii : i = cs.length := by omega
    subst hii
    rw [List.take_length] at hl ⊢
    exact hR _ _ ⟨a2, c2, rfl, hl, heu⟩
/-! ### Where a key stands -/
theorem half {lo hi : Nat} (h : lo + hi < 9000000000000000000) : IntKind.i64.wrap (Int.fdiv (IntKind.u64.wrap (IntKind.i64.wrap ((lo : Int) + (hi : Int)))) (2 ^ (min (Int.toNat (1 : Int)) (IntKind.bits .u64)))) = (((lo + hi) / 2 : Nat) : Int) := by
  have e1 : IntKind.i64.wrap ((lo : Int) + (hi : Int)) = ((lo + hi : Nat) : Int) := by rw [w64 (by omega) (by omega)]; omega
  have e2 : min (Int.toNat (1 : Int)) (IntKind.bits .u64) = 1 := by decide
  rw [e1, wu64n (by omega), e2]
  have e3 : Int.fdiv ((lo + hi : Nat) : Int) (2 ^ 1) = (((lo + hi) / 2 : Nat) : Int) := by
    rw [Int.fdiv_eq_ediv_of_nonneg _ (by decide)]; omega
  rw [e3, w64n (by omega)]
theorem sort_Search_spec {n m : Nat} (hm : m ≤ n) (hn : n < 4000000000000000000) {f : Value} {w : World} (hf : ∀ u, Ext w u → ∀ i, i < n → callT f [.int .i64 i] u fun v u' => v = .bool (decide (m ≤ i)) ∧ Ext u u') :
    CallsR prog K.sort_Search #[.int .i64 n, f] w fun v w' => v = .int .i64 m ∧ Ext w w' := by
  apply sort_Search.sh
  unfold sort_Search.body
  refine ⟨fun x y u => ∃ lo hi : Nat, x = lo ∧ y = hi ∧ lo ≤ m ∧ m ≤ hi ∧ hi ≤ n ∧ Ext w u, fun x y _ => (y - x).toNat, ⟨0, n, rfl, rfl, by omega, hm, by omega, Upd.refl _ _⟩, ?_⟩
  rintro x y u ⟨lo, hi, rfl, rfl, h1, h2, h3, heu⟩
  refine br_dec (fun hlt => ⟨by decide, ?_⟩) fun hge => ⟨by rw [show lo = m by omega], heu⟩
  have hh := half (lo := lo) (hi := hi) (by omega)
  simp only [hh]
  have hmid : (lo + hi) / 2 < hi := by omega
  have hmid2 : lo ≤ (lo + hi) / 2 := by omega
  refine (hf u heu ((lo + hi) / 2) (by omega)).mono ?_
  rintro _ u' ⟨rfl, he'⟩
  have ew : IntKind.i64.wrap ((((lo + hi) / 2 : Nat) : Int) + 1) = (((lo + hi) / 2 + 1 : Nat) : Int) := by rw [w64 (by omega) (by omega)]; omega
  refine ⟨_, rfl, br_intro (fun hb => ?_) fun hb => ?_⟩
  · have hb' : ¬ m ≤ (lo + hi) / 2 := by simpa using hb
    rw [ew]
    exact ⟨⟨(lo + hi) / 2 + 1, hi, rfl, rfl, by omega, h2, h3, heu.trans he'⟩, by omega⟩
  · have hb' : m ≤ (lo + hi) / 2 := by simpa using hb
    exact ⟨⟨lo, (lo + hi) / 2, rfl, rfl, h1, hb', by omega, heu.trans he'⟩, by omega⟩
theorem fact_place_spec {w : World} {G : Nat → Prop} {a : Option Addr} {c : Nat} {l : List Fact} {k : Key} (h : SliceAt factR w G a l) (hs : Sorted l) (hn : l.length < 4000000000000000000) :
    CallsR prog K.fact_place #[.slice a l.length c, keyV k] w fun v w' => v = .tuple #[.int .i64 (placeF l k : Nat), .bool (decide (∃ h : placeF l k < l.length, l[placeF l k].key = k))] ∧ Ext w w' := by
  apply fact_place.sh
  suffices H : ∀ R : Value → World → Prop, (∀ v w', v = .tuple #[.int .i64 (placeF l k : Nat), .bool (decide (∃ h : placeF l k < l.length, l[placeF l k].key = k))] ∧ Ext w w' → R v w') → fact_place.body a l.length c k.ino k.what.toNat k.name k.chunk w R from H _ fun _ _ h => h
  intro R hR
  unfold fact_place.body
  intro B1 w₁ hn1 B2 w₂ hn2
  have g1 : w₂.heap[B1]? = some (.cells #[.slice a l.length c] T.L_api_Fact (0, 0)) := Ext.get hn2.upd hn1.get
  have g2 : KeyAt w₂ B2 k := hn2.get
  have e2 := hn1.upd.trans hn2.upd
  have hm := placeF_le l k
  refine ⟨_, _, _, cell_of g1 rfl, (sort_Search_spec hm hn fun u hu i hi => ?_).mono ?_⟩
  · refine ⟨by kernel_rfl, ?_⟩
    apply fact_place_1.sh
    unfold fact_place_1.body
    intro w₃ hd3
    have e3 := hu.trans hd3.upd
    refine ⟨fun v => Ext w₃ v, Upd.refl _ _, _, _, _, fun v hv => cell_of (Ext.get (e3.trans hv) g1) rfl, ?_⟩
    refine SliceAt.idx (r := factR) (h.ext (e2.trans e3)) rfl hi fun b o vs _ hrow hR' _ => ?_
    obtain ⟨_, _, rfl, _, _, _⟩ := factR_elim hR'
    refine ⟨_, _, _, _, fun v hv => (RowAt.take (hrow.ext hv) 4).cells, _, _, _, _, fun v hv => key_cells (Ext.get (e3.trans hv) g2), (fact_Before_spec l[i].key k w₃).mono ?_⟩
    rintro _ w₄ ⟨rfl, he4⟩
    refine ⟨_, rfl, he4, ?_, hd3.upd.trans he4⟩
    congr 1
    have := placeF_at hs i hi (k := k)
    rw [Bool.eq_iff_iff]
    simp only [Bool.not_eq_true', decide_eq_true_eq]
    rw [← Bool.not_eq_true, this]
    omega
  · rintro _ w₃ ⟨rfl, he3⟩
    refine ⟨_, rfl, fun w₄ hd4 => ?_⟩
    have e34 := he3.trans hd4.upd
    refine ⟨fun v => Ext w₄ v, Upd.refl _ _, _, _, _, fun v hv => cell_of (Ext.get (e34.trans hv) g1) rfl, br_dec (fun hlt => ?_) fun hge => ?_⟩
    · have hlt' : placeF l k < l.length := by omega
      refine ⟨_, _, _, fun v hv => cell_of (Ext.get (e34.trans hv) g1) rfl, SliceAt.idx (r := factR) (h.ext (e2.trans e34)) rfl hlt' fun b o vs _ hrow hR' _ => ?_⟩
      obtain ⟨_, _, rfl, _, _, _⟩ := factR_elim hR'
      refine ⟨_, _, _, _, fun v hv => (RowAt.take (hrow.ext hv) 4).cells, _, _, _, _, fun v hv => key_cells (Ext.get (e34.trans hv) g2), hR _ _ ⟨?_, e2.trans e34⟩⟩
      rw [key_beq]
      have hd : decide (l[placeF l k].key = k) = decide (∃ h : placeF l k < l.length, l[placeF l k].key = k) := by
        rw [decide_eq_decide]
        exact ⟨fun h => ⟨hlt', h⟩, fun ⟨_, h⟩ => h⟩
      rw [hd]
    · refine hR _ _ ⟨?_, e2.trans e34⟩
      rw [decide_eq_false (fun ⟨hx, _⟩ => hge (by omega))]
end Go.Den
end
section
set_option linter.unusedSimpArgs false
set_option linter.unusedVariables false
namespace Go.Den
def spl (C : List Value) (o : Nat) (vs : List Value) : List Value := C.take o ++ vs ++ C.drop (o + vs.length)
theorem spl_length {C : List Value} {o : Nat} {vs : List Value} (h : o + vs.length ≤ C.length) : (spl C o vs).length = C.length := by
  unfold spl
  simp only [List.length_append, List.length_take, List.length_drop]
  omega
theorem spl_take_at {C : List Value} {o : Nat} {vs : List Value} (h : o ≤ C.length) : (spl C o vs).take (o + vs.length) = C.take o ++ vs := by
  unfold spl
  have : (C.take o ++ vs).length = o + vs.length := by simp; omega
  rw [← this, List.take_append_of_le_length (Nat.le_refl _), List.take_length]
theorem spl_take_lo {C : List Value} {o q : Nat} {vs : List Value} (hq : q ≤ o) (h : o ≤ C.length) : (spl C o vs).take q = C.take q := by
  unfold spl
  rw [List.append_assoc, List.take_append_of_le_length (by simp; omega), List.take_take]
  congr 1
  omega
theorem spl_drop_at {C : List Value} {o : Nat} {vs : List Value} (h : o ≤ C.length) : (spl C o vs).drop o = vs ++ C.drop (o + vs.length) := by
  unfold spl
  have : (C.take o).length = o := by simp; omega
  rw [List.append_assoc, List.drop_append, this, List.drop_eq_nil_of_le (by omega)]
  simp
/-- all cells of a block -/
def Full (w : World) (b : Nat) (e : TypeId) (C : List Value) : Prop := w.heap[b]? = some (.cells C.toArray e (0, 0))
theorem OwnAt.full {w : World} {b len cap size : Nat} {e : TypeId} {cells : List Value} (h : OwnAt w (some ⟨b, 0, none⟩) len cap e size cells) : ∃ C, Full w b e C ∧ C.length = cap * size ∧ C.take (len * size) = cells := by
  obtain ⟨hl, hc, h⟩ := h
  rcases h with ⟨hx, _⟩ | ⟨b', cur, hx, hb, hs, ht⟩
  · cases hx
  · cases hx
    exact ⟨cur.toList, by unfold Full; rw [hb], by simpa using hs, ht⟩
theorem Full.own {w : World} {b len cap size : Nat} {e : TypeId} {C : List Value} (h : Full w b e C) (hs : C.length = cap * size) (hl : len ≤ cap) : OwnAt w (some ⟨b, 0, none⟩) len cap e size (C.take (len * size)) :=
  ⟨by rw [List.length_take, hs]; exact Nat.min_eq_left (Nat.mul_le_mul_right _ hl), hl, .inr ⟨b, C.toArray, rfl, h, by simpa using hs, by simp⟩⟩
theorem Full.row {w : World} {b : Nat} {e : TypeId} {C : List Value} (h : Full w b e C) (o m : Nat) : RowAt w (some ⟨b, o, none⟩) ((C.drop o).take m) := by
  refine RowAt.take (RowAt.of h fun j v hj => ?_) m
  rw [List.getElem?_drop] at hj
  simpa using hj
theorem Full.store {w : World} {b : Nat} {e : TypeId} {C : List Value} (h : Full w b e C) {o : Nat} {vs : List Value} (hf : o + vs.length ≤ C.length) {K : World → Prop} (hk : ∀ w', Upd (· = b) w w' → Full w' b e (spl C o vs) → K w') : storeP w ⟨b, o, none⟩ vs K :=
  store_of h (by simpa using hf) fun w' hp => hk w' hp.upd1 hp.get
theorem slice_any {size b len cap lo hi mx : Nat} {lo' hi' mx' : Option Int} (e1 : lo'.getD 0 = lo) (e2 : hi'.getD len = hi) (e3 : mx'.getD cap = mx) (h1 : lo ≤ hi) (h2 : hi ≤ mx) (h3 : mx ≤ cap) (h4 : mx'.isSome = true → hi'.isSome = true) {K : Option Addr → Nat → Nat → Prop}
    (hk : ∀ a, (a = some ⟨b, lo * size, none⟩ ∨ (mx = lo ∧ a = some ⟨b, 0, none⟩)) → K a (hi - lo) (mx - lo)) : sliceP size (some ⟨b, 0, none⟩) len cap lo' hi' mx' K := by
  unfold sliceP
  rw [e1, e2, e3]
  refine ⟨by omega, by omega, by omega, by omega, by omega, by omega, h4, ?_⟩
  simp only [Int.toNat_natCast]
  split
  · rename_i h; exact hk _ (.inr ⟨h, rfl⟩)
  · refine hk _ (.inl ?_)
    simp
/-- append onto a part of a block, where there is room -/
theorem Full.append_in {w : World} {b : Nat} {e : TypeId} {C : List Value} (h : Full w b e C) {len cap size bytes : Nat} {z : List Value} {x : Value} {m : Nat} {new : List Value} (hC : C.length = cap * size) (hx : lenV x = some m) (hr : readP w size x m new) (hm : new.length = m * size) (h1 : ∀ v ∈ new, v.oneCell' = true) (hroom : len + m ≤ cap)
    {K : Option Addr → Nat → Nat → World → Prop} (hk : ∀ w', Upd (· = b) w w' → Full w' b e (spl C (len * size) new) → K (some ⟨b, 0, none⟩) (len + m) cap w') : appendP e size bytes z (some ⟨b, 0, none⟩) len cap x w K := by
  refine ⟨m, hx, new, hr, h1, fun _ => ?_, fun hg => absurd hg (by omega)⟩
  simp only [add_lit, Nat.zero_add]
  refine h.store ?_ fun w' hu hf => hk w' hu hf
  rw [hm, hC, ← Nat.add_mul]
  exact Nat.mul_le_mul_right _ hroom
theorem Rows.cut {α : Type} {r : ERep α} {w : World} {G : Nat → Prop} {l : List α} {vs : List Value} (h : Rows r w G vs l) (i : Nat) : Rows r w G (vs.take (i * r.k) ++ vs.drop ((i + 1) * r.k)) (l.take i ++ l.drop (i + 1)) := (Rows.take i h).append (Rows.drop (i + 1) h)
theorem Rows.insert {α : Type} {r : ERep α} {w : World} {G : Nat → Prop} {l : List α} {vs us : List Value} {x : α} (h : Rows r w G vs l) (hx : r.R w G us x) (i : Nat) : Rows r w G (vs.take (i * r.k) ++ us ++ vs.drop (i * r.k)) (l.take i ++ [x] ++ l.drop i) := ((Rows.take i h).append (Rows.single hx)).append (Rows.drop i h)
/-- one more; what changes is the list's own block alone -/
theorem ListAt.push' {α : Type} {r : ERep α} {Q : Nat → Prop} {S : Nat} {w₀ w₁ : World} {H : Nat → Prop} {a : Option Addr} {cap n bytes : Nat} {e : TypeId} {l : List α} {z : List Value} (h : ListAt r Q S w₁ a cap e l) {B : Nat} {x : α} {cs : Array Value} (hx : r.R w₁ H cs.toList x) (hH : ∀ b, H b → (S ≤ b ∨ Q b) ∧ b < w₁.heap.size ∧ a ≠ some ⟨b, 0, none⟩) (hn : New w₀ (.cells cs e) B w₁) (hnl : n = l.length)
    (hz : z.length = r.k) (hb : l.length ≤ 1000000000) (hby : bytes ≤ 10000) (hS : S ≤ w₁.heap.size) {K : Option Addr → Nat → Nat → World → Prop}
    (hk : ∀ a' c' w', Upd (fun b => a = some ⟨b, 0, none⟩) w₁ w' → ListAt r Q S w' a' c' e (l ++ [x]) → K a' (l ++ [x]).length c' w') :
    appendP e r.k bytes z a n cap (.slice (some ⟨B, 0, none⟩) 1 1) w₁ K := by
  obtain ⟨G, h1, h2, h3⟩ := h
  have hG : ∀ b, G b ∨ H b → (S ≤ b ∨ Q b) ∧ b < w₁.heap.size := fun b hb => by
    rcases hb with hb | hb
    · exact h2 b hb
    · exact ⟨(hH b hb).1, (hH b hb).2.1⟩
  have hno : ∀ b, a = some ⟨b, 0, none⟩ → ¬ (G b ∨ H b) := fun b hb hb' => by
    rcases hb' with hb' | hb'
    · exact (h3 b hb).2 hb'
    · exact (hH b hb').2.2 hb
  refine OwnS.push (G := fun b => G b ∨ H b) (h1.mono fun _ hb => .inl hb) (r.mono hx fun _ hb => .inr hb) hn hnl hz hb hby hno fun a' c' w' hu ho hf => ?_
  refine hk a' c' w' hu ⟨_, ho, fun b hb => ⟨(hG b hb).1, Nat.lt_of_lt_of_le (hG b hb).2 hu.size⟩, fun b hb => ?_⟩
  rcases hf with hf | ⟨b', hb', hl⟩
  · subst hf; exact ⟨(h3 b hb).1, hno b hb⟩
  · rw [hb'] at hb
    cases hb
    exact ⟨Nat.le_trans hS hl, fun hb => absurd (hG _ hb).2 (by omega)⟩
/-- what was changed then was to be changed, or lay beyond a -/
theorem Upd.over {F F' : Nat → Prop} {a b c : World} (h : Upd F a b) (k : Upd F' b c) (hF : ∀ x, F' x → F x ∨ a.heap.size ≤ x) : Upd F a c :=
  ⟨Nat.le_trans h.size k.size, fun i hi hf => (k.blk i (Nat.lt_of_lt_of_le hi h.size) (fun hx => by rcases hF i hx with h | h; exact hf h; omega)).trans (h.blk i hi hf), k.os.trans h.os, k.tape.trans h.tape, k.output.trans h.output, fun b o hb ho => k.book b o (h.book b o hb ho) ho⟩
end Go.Den
end
