/- How arguments are opened: the reach (no slice is longer than memory); fields of structs. (Merged by program: Rep7 SPut11 SLoad SLaw12 SChip MLaw12 SScan3 Frame Frame2 Frame3.) -/
import Derived.Test.YtdngiobkannbnaaGreatQ4
import Derived.ProofKit
import Derived.Carry
import Derived.OpenShut
import Derived.SizedLaws
section
set_option linter.unusedSimpArgs false
set_option linter.unusedVariables false
namespace Go.Den
/-- bytes whose cells a call owns, at S or behind -/
def BList (S : Nat) (w : World) (a : Option Addr) (cap : Nat) (l : List UInt8) : Prop := OwnAt w a l.length cap T.uint8 1 (l.map bv) ∧ ∀ b, a = some ⟨b, 0, none⟩ → S ≤ b
theorem BList.nil (S : Nat) (w : World) : BList S w none 0 [] := ⟨OwnAt.nil _ _ _, fun _ h => by cases h⟩
theorem BList.bytes {S : Nat} {w : World} {a : Option Addr} {cap : Nat} {l : List UInt8} (h : BList S w a cap l) : BytesAt w a l := h.1.row
theorem BList.cap {S : Nat} {w : World} {a : Option Addr} {cap : Nat} {l : List UInt8} (h : BList S w a cap l) : l.length ≤ cap := h.1.2.1
theorem BList.weak {S S' : Nat} {w : World} {a : Option Addr} {cap : Nat} {l : List UInt8} (h : BList S w a cap l) (hS : S' ≤ S) : BList S' w a cap l := ⟨h.1, fun b hb => Nat.le_trans hS (h.2 b hb)⟩
theorem BList.upd {S : Nat} {w w' : World} {F : Nat → Prop} {a : Option Addr} {cap : Nat} {l : List UInt8} (h : BList S w a cap l) (k : Upd F w w') (hF : ∀ x, F x → x < S) : BList S w' a cap l :=
  ⟨h.1.upd k fun b hb hf => absurd (h.2 b hb) (by have := hF b hf; omega), h.2⟩
theorem BList.ext {S : Nat} {w w' : World} {a : Option Addr} {cap : Nat} {l : List UInt8} (h : BList S w a cap l) (k : Ext w w') : BList S w' a cap l := ⟨h.1.ext k, h.2⟩
theorem BList.lt {S : Nat} {w : World} {a : Option Addr} {cap : Nat} {l : List UInt8} (h : BList S w a cap l) {p : Addr} (hp : a = some p) : S ≤ p.block ∧ p.block < w.heap.size := by
  have hb := h.1.2.2
  rcases hb with ⟨hx, _⟩ | ⟨b, cur, hx, hb, _⟩
  · rw [hx] at hp; cases hp
  · have hs := h.2 b hx
    rw [hx] at hp; cases hp
    exact ⟨hs, (Array.getElem?_eq_some_iff.1 hb).1⟩
theorem BList.new {S : Nat} {w w' : World} {B : Nat} {cs : Array Value} (h : New w (.cells cs T.uint8) B w') {l : List UInt8} (hl : cs.toList = l.map bv) (hS : S ≤ w.heap.size) : BList S w' (some ⟨B, 0, none⟩) l.length l := by
  have hsz : cs.size = l.length * 1 := by rw [← Array.length_toList, hl]; simp
  have := OwnAt.new h (n := l.length) (size := 1) hsz
  rw [hl] at this
  exact ⟨this, fun b hb => by cases hb; rw [h.num]; exact hS⟩
theorem BList.cat {S : Nat} {w : World} {a ax : Option Addr} {cap n m cx : Nat} {l xs : List UInt8} (h : BList S w a cap l) (hn : n = l.length) (hm : m = xs.length) (hx : BytesAt w ax xs) (hb : l.length + xs.length ≤ 140737488355232) (hS : S ≤ w.heap.size) {K : Option Addr → Nat → Nat → World → Prop}
    (hk : ∀ a' c' w', Upd (fun b => S ≤ b) w w' → BList S w' a' c' (l ++ xs) → K a' (l ++ xs).length c' w') : appendP T.uint8 1 1 [Value.int .u8 0] a n cap (.slice ax m cx) w K := by
  subst hn; subst hm
  refine append_bytes h.1 hx hb fun a' c' w' hu ho hf => hk a' c' w' (hu.mono fun b _ hb => h.2 b hb) ⟨ho, fun b hb => ?_⟩
  rcases hf with hf | ⟨b', hb', hl⟩
  · subst hf; exact h.2 b hb
  · rw [hb'] at hb; cases hb; omega
theorem BList.push {S : Nat} {w w₁ : World} {a : Option Addr} {cap n : Nat} {l : List UInt8} {B : Nat} {x : UInt8} (h : BList S w a cap l) (hn : n = l.length) (hnew : New w (.cells #[bv x] T.uint8) B w₁) (hb : l.length + 1 ≤ 140737488355232) (hS : S ≤ w.heap.size) {K : Option Addr → Nat → Nat → World → Prop}
    (hk : ∀ a' c' w', Upd (fun b => S ≤ b) w w' → BList S w' a' c' (l ++ [x]) → K a' (l ++ [x]).length c' w') : appendP T.uint8 1 1 [Value.int .u8 0] a n cap (.slice (some ⟨B, 0, none⟩) 1 1) w₁ K :=
  BList.cat (xs := [x]) (h.ext hnew.upd) hn rfl (RowAt.of hnew.get fun j v hj => by simpa using hj) (by simpa using hb) (by have := hnew.size; omega) fun a' c' w' hu hl => hk a' c' w' ((Upd.ext hnew.upd).trans hu) hl
/-- likewise; blocks of G stay -/
theorem BList.catX {G : Nat → Prop} {S : Nat} {w : World} {a ax : Option Addr} {cap n m cx : Nat} {l xs : List UInt8} (h : BList S w a cap l) (hG : ∀ b, a = some ⟨b, 0, none⟩ → ¬ G b) (hGs : ∀ x, G x → x < w.heap.size) (hn : n = l.length) (hm : m = xs.length) (hx : BytesAt w ax xs) (hb : l.length + xs.length ≤ 140737488355232) (hS : S ≤ w.heap.size) {K : Option Addr → Nat → Nat → World → Prop}
    (hk : ∀ a' c' w', Upd (fun b => S ≤ b ∧ ¬ G b) w w' → BList S w' a' c' (l ++ xs) → (∀ b, a' = some ⟨b, 0, none⟩ → ¬ G b) → K a' (l ++ xs).length c' w') : appendP T.uint8 1 1 [Value.int .u8 0] a n cap (.slice ax m cx) w K := by
  subst hn; subst hm
  refine append_bytes h.1 hx hb fun a' c' w' hu ho hf => hk a' c' w' (hu.mono fun b _ hb => ⟨h.2 b hb, hG b hb⟩) ⟨ho, fun b hb => ?_⟩ fun b hb hg => ?_
  · rcases hf with hf | ⟨b', hb', hl⟩
    · subst hf; exact h.2 b hb
    · rw [hb'] at hb; cases hb; omega
  · rcases hf with hf | ⟨b', hb', hl⟩
    · subst hf; exact hG b hb hg
    · rw [hb'] at hb; cases hb
      have := hGs _ hg
      omega
theorem BList.pushX {G : Nat → Prop} {S : Nat} {w w₁ : World} {a : Option Addr} {cap n : Nat} {l : List UInt8} {B : Nat} {x : UInt8} (h : BList S w a cap l) (hG : ∀ b, a = some ⟨b, 0, none⟩ → ¬ G b) (hGs : ∀ x, G x → x < w.heap.size) (hn : n = l.length) (hnew : New w (.cells #[bv x] T.uint8) B w₁) (hb : l.length + 1 ≤ 140737488355232) (hS : S ≤ w.heap.size) {K : Option Addr → Nat → Nat → World → Prop}
    (hk : ∀ a' c' w', Upd (fun b => S ≤ b ∧ ¬ G b) w w' → BList S w' a' c' (l ++ [x]) → (∀ b, a' = some ⟨b, 0, none⟩ → ¬ G b) → K a' (l ++ [x]).length c' w') : appendP T.uint8 1 1 [Value.int .u8 0] a n cap (.slice (some ⟨B, 0, none⟩) 1 1) w₁ K :=
  BList.catX (G := G) (xs := [x]) (h.ext hnew.upd) hG (fun x hx => by have := hGs x hx; have := hnew.size; omega) hn rfl (RowAt.of hnew.get fun j v hj => by simpa using hj) (by simpa using hb) (by have := hnew.size; omega) fun a' c' w' hu hl => hk a' c' w' ((Upd.ext hnew.upd).trans hu) hl
end Go.Den
end
section
set_option linter.unusedVariables false
set_option linter.unusedSimpArgs false
set_option maxRecDepth 8000
namespace Go.Den
/-- bytes that are answered with a number -/
def BytesOut (w w' : World) (v : Value) (l : List UInt8) (e : Nat) : Prop := ∃ a c, v = .tuple #[.slice a l.length c, .int .i64 (e : Nat)] ∧ BList w.heap.size w' a c l ∧ Ext w w'
theorem BytesOut.none {w w' : World} {e : Nat} (h : Ext w w') : BytesOut w w' (.tuple #[.slice .none 0 0, .int .i64 (e : Nat)]) [] e := ⟨.none, 0, rfl, BList.nil _ _, h⟩
def rowB (b : List UInt8) : List UInt8 × Nat := if b.length ≤ 255 then (UInt8.ofNat b.length :: b, 0) else ([], 3)
theorem carrackref01_Row_spec {w : World} {a : Option Addr} {b : List UInt8} {c : Nat} (hb : BytesAt w a b) :
    CallsR prog K.carrackref01_Row #[.slice a b.length c] w fun v w' => BytesOut w w' v (rowB b).1 (rowB b).2 := by
  apply carrackref01_Row.sh
  suffices H : ∀ R : Value → World → Prop, (∀ v w', BytesOut w w' v (rowB b).1 (rowB b).2 → R v w') → carrackref01_Row.body a b.length c w R from H _ fun _ _ h => h
  intro R hR
  unfold carrackref01_Row.body
  refine br_dec (fun hl => ?_) fun hl => ?_
  · have h : rowB b = ([], 3) := by unfold rowB; rw [if_neg (by omega)]
    rw [h] at hR
    exact hR _ _ (BytesOut.none (e := 3) (Upd.refl _ _))
  · have h : rowB b = (UInt8.ofNat b.length :: b, 0) := by unfold rowB; rw [if_pos (by omega)]
    rw [h] at hR
    intro B1 w₁ hn1
    rw [bv_mod, Nat.mod_eq_of_lt (by omega)] at hn1
    have hs1 := hn1.size
    refine BList.cat (l := [UInt8.ofNat b.length]) (S := w.heap.size) (BList.new hn1 rfl (Nat.le_refl _)) rfl rfl (hb.ext hn1.upd) (by simp; omega) (by omega) fun a' c' w' hu hl' => ?_
    exact hR _ _ ⟨a', c', rfl, hl', hn1.upd.own hu (Nat.le_refl _)⟩
/-! ### Keys -/
def keyB (k : Key) : List UInt8 := leB k.ino.toNat 2 ++ [k.what] ++ (if k.what = 2 then UInt8.ofNat k.bytes.length :: k.bytes else if k.what = 3 then [UInt8.ofNat k.chunk.toNat] else [])
def putKeyB (k : Key) : List UInt8 × Nat := if k.may then (keyB k, 0) else ([], 2)
theorem Key.may_elim {k : Key} (h : k.may = true) : 1 ≤ k.ino ∧ k.ino ≤ 65535 ∧ ((k.what = 1 ∧ k.bytes = [] ∧ k.chunk = 0) ∨ (k.what = 2 ∧ isName k.bytes = true ∧ k.chunk = 0) ∨ (k.what = 3 ∧ k.bytes = [] ∧ 0 ≤ k.chunk ∧ k.chunk < 8)) := by
  unfold Key.may at h
  simp only [Bool.and_eq_true, Bool.or_eq_true, decide_eq_true_eq] at h
  obtain ⟨⟨h1, h2⟩, h3⟩ := h
  refine ⟨h1, h2, ?_⟩
  rcases h3 with (⟨⟨h, h'⟩, h''⟩ | ⟨⟨h, h'⟩, h''⟩) | ⟨⟨⟨h, h'⟩, h''⟩, h'''⟩
  · exact .inl ⟨UInt8.toNat_inj.1 h, h', h''⟩
  · exact .inr (.inl ⟨UInt8.toNat_inj.1 h, h', h''⟩)
  · exact .inr (.inr ⟨UInt8.toNat_inj.1 h, h', h'', h'''⟩)
theorem isName_len {s : List UInt8} (h : isName s = true) : 1 ≤ s.length ∧ s.length ≤ 12 := by
  unfold isName at h
  simp only [Bool.and_eq_true, decide_eq_true_eq] at h
  exact ⟨h.1.1.1.2, h.1.1.2⟩
theorem keyB_len {k : Key} (h : k.may = true) : 3 ≤ (keyB k).length ∧ (keyB k).length ≤ 16 := by
  obtain ⟨_, _, h3⟩ := Key.may_elim h
  unfold keyB
  simp only [List.length_append, leB_length, List.length_cons, List.length_nil]
  rcases h3 with ⟨h, _⟩ | ⟨h, h', _⟩ | ⟨h, _⟩
  · rw [h, if_neg (by decide), if_neg (by decide)]; simp
  · have := isName_len h'
    rw [h, if_pos rfl]
    simp only [List.length_cons]
    omega
  · rw [h, if_neg (by decide), if_pos rfl]; simp
theorem tmod_256 {n : Nat} : Int.tmod (n : Int) 256 = ((n % 256 : Nat) : Int) := tmod_nat n 256
theorem tdiv_256 {n : Nat} : Int.tdiv (n : Int) 256 = ((n / 256 : Nat) : Int) := tdiv_nat n 256
theorem carrackref06_PutKey_spec (k : Key) (hn : k.name.size < 9223372036854775807) (w : World) :
    CallsR prog K.carrackref06_PutKey #[keyV k] w fun v w' => BytesOut w w' v (putKeyB k).1 (putKeyB k).2 := by
  apply carrackref06_PutKey.sh
  suffices H : ∀ R : Value → World → Prop, (∀ v w', BytesOut w w' v (putKeyB k).1 (putKeyB k).2 → R v w') → carrackref06_PutKey.body k.ino k.what.toNat k.name k.chunk w R from H _ fun _ _ h => h
  intro R hR
  unfold carrackref06_PutKey.body
  simp only [add_lit, Nat.zero_add]
  intro B1 w₁ hn1
  have g1 : KeyAt w₁ B1 k := hn1.get
  have hb1 : B1 = w.heap.size := hn1.num
  have hs1 := hn1.size
  refine ⟨_, _, _, _, key_cells g1, (carrackref06_MayKey_spec k hn w₁).mono ?_⟩
  rintro _ w₂ ⟨rfl, he2⟩
  have g2 : KeyAt w₂ B1 k := Ext.get he2 g1
  have e2 : Ext w w₂ := hn1.upd.trans he2
  have hs2 := he2.size
  refine ⟨_, rfl, br_intro (fun hm => ?_) fun hm => ?_⟩
  · have h : putKeyB k = ([], 2) := by unfold putKeyB; rw [if_neg (by simpa using hm)]
    rw [h] at hR
    exact hR _ _ (BytesOut.none (e := 2) e2)
  have hm' : k.may = true := by simpa using hm
  have h : putKeyB k = (keyB k, 0) := by unfold putKeyB; rw [if_pos hm']
  rw [h] at hR
  obtain ⟨h1, h2, h3⟩ := Key.may_elim hm'
  obtain ⟨n, hn0⟩ : ∃ n : Nat, k.ino = n := ⟨k.ino.toNat, by omega⟩
  refine ⟨_, cell_of g2 rfl, by decide, _, cell_of g2 rfl, by decide, _, cell_of g2 rfl, fun B2 w₃ hn3 => ?_⟩
  rw [hn0, tmod_256, tdiv_256, w64n (by omega), bv_mod, bv_mod, Nat.mod_mod] at hn3
  have hbl : (leB k.ino.toNat 2 ++ [k.what]).length = 3 := by simp [leB_length]
  have hbase : BList w₂.heap.size w₃ (some ⟨B2, 0, none⟩) 3 (leB k.ino.toNat 2 ++ [k.what]) := by
    have := BList.new (S := w₂.heap.size) (l := leB k.ino.toNat 2 ++ [k.what]) hn3 (by rw [hn0, leB_two]; rfl) (Nat.le_refl _)
    rw [hbl] at this
    exact this
  have hs3 := hn3.size
  have e3 : Ext w w₃ := e2.trans hn3.upd
  have g3 : KeyAt w₃ B1 k := Ext.get hn3.upd g2
  refine ⟨_, cell_of g3 rfl, br_eq (fun hw => ?_) fun hw => br_eq (fun hw3 => ?_) fun hw3 => ?_⟩
  · have hw' : k.what = 2 := UInt8.toNat_inj.1 (by show k.what.toNat = 2; omega)
    have hname : isName k.bytes = true := by
      rcases h3 with ⟨h, _⟩ | ⟨_, h, _⟩ | ⟨h, _⟩
      · rw [hw'] at h; cases h
      · exact h
      · rw [hw'] at h; cases h
    have hlen := isName_len hname
    have hbs : k.name.size = k.bytes.length := size_data _
    have hkey : keyB k = leB k.ino.toNat 2 ++ [k.what] ++ [UInt8.ofNat k.bytes.length] ++ k.bytes := by unfold keyB; rw [if_pos hw']; simp
    have hpl : (leB k.ino.toNat 2 ++ [k.what] ++ [UInt8.ofNat k.bytes.length]).length = 4 := by simp [leB_length]
    refine ⟨_, cell_of g3 rfl, fun B3 w₄ hn4 => ?_⟩
    rw [hbs, bv_mod, Nat.mod_eq_of_lt (by omega)] at hn4
    refine BList.push hbase hbl.symm hn4 (by omega) (by omega) fun a1 c1 w₅ hu5 hl5 => ?_
    have e5 : Ext w w₅ := Ext.own e3 hu5 (by omega)
    have hs5 := hu5.size
    generalize hpre : leB k.ino.toNat 2 ++ [k.what] ++ [UInt8.ofNat k.bytes.length] = pre at *
    refine ⟨fun a l c x u => ∃ i : Nat, x = i ∧ i ≤ k.bytes.length ∧ l = (pre ++ k.bytes.take i).length ∧ BList w₂.heap.size u a c (pre ++ k.bytes.take i) ∧ Ext w u ∧ KeyAt u B1 k ∧ w₂.heap.size ≤ u.heap.size, fun _ _ _ x _ => ((k.bytes.length : Int) - x).toNat,
      ⟨0, rfl, by omega, by simp, by simpa using hl5, e5, hu5.get g3 (by omega), by omega⟩, ?_⟩
    rintro a l c x u ⟨i, rfl, hi, rfl, hl, heu, gu, hsu⟩
    refine ⟨_, cell_of gu rfl, ?_⟩
    rw [hbs]
    refine br_dec (fun hlt => ?_) fun hge => ?_
    · have hi' : i < k.bytes.length := by omega
      refine ⟨_, cell_of gu rfl, by omega, k.bytes[i], by rw [Int.toNat_natCast]; exact List.getElem?_eq_getElem hi', fun B4 w₇ hn7 => ?_⟩
      have hplen : (pre ++ k.bytes.take i).length ≤ 20 := by simp [hpl]; omega
      refine BList.push hl rfl hn7 (by omega) hsu fun a' c' w₈ hu8 hl8 => ?_
      have ew : IntKind.i64.wrap ((i : Int) + 1) = ((i + 1 : Nat) : Int) := w64 (by omega) (by omega)
      simp only [ew]
      have htk : pre ++ k.bytes.take i ++ [k.bytes[i]] = pre ++ k.bytes.take (i + 1) := by rw [List.append_assoc, List.take_succ_eq_append_getElem hi']
      rw [htk] at hl8 ⊢
      exact ⟨⟨i + 1, rfl, hi', rfl, hl8, Ext.own heu hu8 (by omega), hu8.get gu (by omega), by have := hu8.size; omega⟩, meas hi'⟩
    · have : i = k.bytes.length := by omega
      subst this
      rw [List.take_length] at hl ⊢
      rw [hkey] at hR
      exact hR _ _ ⟨a, c, rfl, hl.weak (by omega), heu⟩
  · have hw' : k.what = 3 := UInt8.toNat_inj.1 (by show k.what.toNat = 3; omega)
    have hch : 0 ≤ k.chunk ∧ k.chunk < 8 := by
      rcases h3 with ⟨h, _⟩ | ⟨h, _⟩ | ⟨_, _, h⟩
      · rw [hw'] at h; cases h
      · rw [hw'] at h; cases h
      · exact h
    obtain ⟨m, hm0⟩ : ∃ m : Nat, k.chunk = m := ⟨k.chunk.toNat, by omega⟩
    have hkey : keyB k = leB k.ino.toNat 2 ++ [k.what] ++ [UInt8.ofNat m] := by unfold keyB; rw [if_neg (by rw [hw']; decide), if_pos hw', hm0]; rfl
    refine ⟨_, cell_of g3 rfl, fun B5 w₉ hn9 => ?_⟩
    rw [hm0, bv_mod, Nat.mod_eq_of_lt (by omega)] at hn9
    refine BList.push hbase hbl.symm hn9 (by omega) (by omega) fun a1 c1 w₅ hu5 hl5 => ?_
    rw [← hkey] at hl5 ⊢
    exact hR _ _ ⟨a1, c1, rfl, hl5.weak (by omega), Ext.own e3 hu5 (by omega)⟩
  · have hkey : keyB k = leB k.ino.toNat 2 ++ [k.what] := by
      unfold keyB
      rw [if_neg (by intro h; rw [h] at hw; exact hw rfl), if_neg (by intro h; rw [h] at hw3; exact hw3 rfl), List.append_nil]
    rw [← hkey] at hbase hbl
    refine hR _ _ ⟨some ⟨B2, 0, none⟩, 3, ?_, hbase.weak (by omega), e3⟩
    rw [hbl]; rfl
/-! ### Changes -/
def mayC (c : Change) : Bool := c.key.may && (if c.gone then decide (c.val.length = 0) else decide (1 ≤ c.val.length) && decide (c.val.length ≤ 255))
def mayL (l : List Change) : Bool := decide (1 ≤ l.length) && decide (l.length ≤ 255) && l.all mayC
def chgB (c : Change) : List UInt8 := if c.gone then 0 :: keyB c.key else 1 :: (keyB c.key ++ UInt8.ofNat c.val.length :: c.val)
def bodyB (l : List Change) : List UInt8 := UInt8.ofNat l.length :: l.flatMap chgB
/-- no name is too great -/
def Small (l : List Change) : Prop := ∀ x ∈ l, x.key.name.size < 9223372036854775807
theorem carrackref11_may_spec (x : Change) {w : World} {a : Option Addr} {c : Nat} (hn : x.key.name.size < 9223372036854775807) :
    CallsR prog K.carrackref11_may #[.agg #[.int .i64 x.key.ino, bv x.key.what, .string x.key.name, .int .i64 x.key.chunk, .slice a x.val.length c, .bool x.gone]] w fun v w' => v = .bool (mayC x) ∧ Ext w w' := by
  apply carrackref11_may.sh
  suffices H : ∀ R : Value → World → Prop, (∀ v w', v = .bool (mayC x) ∧ Ext w w' → R v w') → carrackref11_may.body x.key.ino x.key.what.toNat x.key.name x.key.chunk a x.val.length c x.gone w R from H _ fun _ _ h => h
  intro R hR
  unfold carrackref11_may.body
  simp only [add_lit, Nat.zero_add]
  intro B1 w₁ hn1
  have g1 : w₁.heap[B1]? = some (.cells (changeVs x.key a x.val.length c x.gone).toArray T.api_Change (0, 0)) := hn1.get
  refine ⟨_, _, _, _, cellsAt_of (o := 0) (vs := x.key.vals) g1 (fun j v hj => by
    rcases j with _ | _ | _ | _ | j
    all_goals simp [Key.vals] at hj ⊢
    all_goals exact hj), (carrackref06_MayKey_spec x.key hn w₁).mono ?_⟩
  rintro _ w₂ ⟨rfl, he2⟩
  have g2 := Ext.get he2 g1
  have e2 : Ext w w₂ := hn1.upd.trans he2
  refine ⟨_, rfl, br_intro (fun hm => ?_) fun hm => ?_⟩
  · exact hR _ _ ⟨by unfold mayC; rw [show x.key.may = false by simpa using hm]; rfl, e2⟩
  have hm' : x.key.may = true := by simpa using hm
  refine ⟨_, cell_of g2 rfl, br_intro (fun hg => ?_) fun hg => ?_⟩
  · refine ⟨_, _, _, cell_of g2 rfl, hR _ _ ⟨?_, e2⟩⟩
    unfold mayC
    rw [hm', if_pos hg, Bool.true_and]
    congr 1
    rw [Bool.eq_iff_iff]; simp
  · have hmc : mayC x = (decide (1 ≤ x.val.length) && decide (x.val.length ≤ 255)) := by
      unfold mayC
      rw [hm', if_neg (by rw [hg]; decide), Bool.true_and]
    rw [hmc] at hR
    refine ⟨_, _, _, cell_of g2 rfl, br_dec (fun h1 => ⟨_, _, _, cell_of g2 rfl, hR _ _ ⟨?_, e2⟩⟩) fun h1 => hR _ _ ⟨?_, e2⟩⟩
    · rw [decide_eq_true (by omega : 1 ≤ x.val.length), Bool.true_and]
      congr 1
      rw [Bool.eq_iff_iff]; simp; omega
    · rw [decide_eq_false (by omega : ¬ 1 ≤ x.val.length), Bool.false_and]
theorem carrackref11_May_spec {l : List Change} {w : World} {G : Nat → Prop} {a : Option Addr} {c : Nat} (h : SliceAt changeR w G a l) (hs : Small l) :
    CallsR prog K.carrackref11_May #[.slice a l.length c] w fun v w' => v = .bool (mayL l) ∧ Ext w w' := by
  apply carrackref11_May.sh
  suffices H : ∀ R : Value → World → Prop, (∀ v w', v = .bool (mayL l) ∧ Ext w w' → R v w') → carrackref11_May.body a l.length c w R from H _ fun _ _ h => h
  intro R hR
  unfold carrackref11_May.body
  refine br_dec (fun h1 => hR _ _ ⟨by unfold mayL; rw [decide_eq_false (by omega : ¬ 1 ≤ l.length)]; rfl, Upd.refl _ _⟩) fun h1 => br_dec (fun h2 => hR _ _ ⟨by unfold mayL; rw [decide_eq_false (by omega : ¬ l.length ≤ 255)]; simp, Upd.refl _ _⟩) fun h2 => ?_
  have hml : mayL l = l.all mayC := by unfold mayL; rw [decide_eq_true (by omega : 1 ≤ l.length), decide_eq_true (by omega : l.length ≤ 255)]; rfl
  rw [hml] at hR
  refine ⟨fun x u => ∃ i : Nat, x = i ∧ i ≤ l.length ∧ Ext w u ∧ (l.take i).all mayC = true, fun x _ => ((l.length : Int) - x).toNat, ⟨0, rfl, by omega, Upd.refl _ _, by simp⟩, ?_⟩
  rintro x u ⟨i, rfl, hi, heu, hall⟩
  refine br_dec (fun hlt => ?_) fun hge => ?_
  · have hi' : i < l.length := by omega
    refine SliceAt.idx (r := changeR) (h.ext heu) rfl hi' fun b o vs ha hrow hR' hG => ?_
    obtain ⟨a', c', rfl, hc', hb', hg'⟩ := changeR_elim hR'
    refine ⟨_, _, _, _, _, _, _, _, hrow.cells, (carrackref11_may_spec l[i] (hs _ (List.getElem_mem _))).mono ?_⟩
    rintro _ w₂ ⟨rfl, he2⟩
    have ew : IntKind.i64.wrap ((i : Int) + 1) = ((i + 1 : Nat) : Int) := w64 (by omega) (by omega)
    simp only [ew]
    refine ⟨_, rfl, br_intro (fun hm => ?_) fun hm => ?_⟩
    · refine hR _ _ ⟨?_, heu.trans he2⟩
      have : l.all mayC = false := by
        rw [List.all_eq_false]
        exact ⟨l[i], List.getElem_mem _, by simpa using hm⟩
      rw [this]
    · exact ⟨⟨i + 1, rfl, hi', heu.trans he2, by rw [List.take_succ_eq_append_getElem hi', List.all_append, hall]; simpa using hm⟩, meas hi'⟩
  · have : i = l.length := by omega
    subst this
    rw [List.take_length] at hall
    exact hR _ _ ⟨by rw [hall], heu⟩
theorem row_cell {w : World} {b o : Nat} {vs : List Value} (h : RowAt w (some ⟨b, o, none⟩) vs) {j : Nat} {v : Value} (hj : vs[j]? = some v) : w.cell? ⟨b, o + j, none⟩ = some v := by
  obtain ⟨b', o', e, hc⟩ := h.cell hj
  cases e
  exact hc
theorem chgB_len {x : Change} (h : mayC x = true) : (chgB x).length ≤ 300 := by
  unfold mayC at h
  rw [Bool.and_eq_true] at h
  have hk := keyB_len h.1
  unfold chgB
  split
  · simp; omega
  · rename_i hg
    rw [if_neg hg, Bool.and_eq_true, decide_eq_true_eq, decide_eq_true_eq] at h
    simp; omega
theorem flat_len_le {α : Type} {f : α → List UInt8} {n : Nat} : ∀ (l : List α), (∀ x ∈ l, (f x).length ≤ n) → (l.flatMap f).length ≤ l.length * n
  | [], _ => by simp
  | x :: l, h => by
    rw [List.flatMap_cons, List.length_append, List.length_cons, Nat.succ_mul]
    have := h x (by simp)
    have := flat_len_le l fun y hy => h y (by simp [hy])
    omega
theorem mayL_elim {l : List Change} (h : mayL l = true) : 1 ≤ l.length ∧ l.length ≤ 255 ∧ ∀ x ∈ l, mayC x = true := by
  unfold mayL at h
  simp only [Bool.and_eq_true, decide_eq_true_eq, List.all_eq_true] at h
  exact ⟨h.1.1, h.1.2, h.2⟩
theorem bodyB_len {l : List Change} (h : mayL l = true) : (bodyB l).length ≤ 100000 := by
  obtain ⟨h1, h2, h3⟩ := mayL_elim h
  unfold bodyB
  have := flat_len_le (f := chgB) l (fun x hx => chgB_len (h3 x hx))
  simp only [List.length_cons]
  omega
theorem carrackref11_body_spec {l : List Change} {w : World} {G : Nat → Prop} {a : Option Addr} {c : Nat} (h : SliceAt changeR w G a l) (hs : Small l) (hm : mayL l = true) :
    CallsR prog K.carrackref11_body #[.slice a l.length c] w fun v w' => ∃ a' c', v = .slice a' (bodyB l).length c' ∧ BList w.heap.size w' a' c' (bodyB l) ∧ Ext w w' := by
  apply carrackref11_body.sh
  suffices H : ∀ R : Value → World → Prop, (∀ v w', (∃ a' c', v = .slice a' (bodyB l).length c' ∧ BList w.heap.size w' a' c' (bodyB l) ∧ Ext w w') → R v w') → carrackref11_body.body a l.length c w R from H _ fun _ _ h => h
  intro R hR
  unfold carrackref11_body.body
  obtain ⟨h1, h2, h3⟩ := mayL_elim hm
  intro B1 w₁ hn1
  rw [bv_mod, Nat.mod_eq_of_lt (by omega)] at hn1
  have hs1 := hn1.size
  refine ⟨fun a' l' c' x u => ∃ i : Nat, x = i ∧ i ≤ l.length ∧ l' = (UInt8.ofNat l.length :: (l.take i).flatMap chgB).length ∧ BList w.heap.size u a' c' (UInt8.ofNat l.length :: (l.take i).flatMap chgB) ∧ Ext w u, fun _ _ _ x _ => ((l.length : Int) - x).toNat,
    ⟨0, rfl, by omega, by simp, BList.new (l := [UInt8.ofNat l.length]) hn1 rfl (Nat.le_refl _), hn1.upd⟩, ?_⟩
  rintro a1 l1 c1 x u ⟨i, rfl, hi, rfl, hl, heu⟩
  have hsu := heu.size
  refine br_dec (fun hlt => ?_) fun hge => ?_
  · have hi' : i < l.length := by omega
    have ew : IntKind.i64.wrap ((i : Int) + 1) = ((i + 1 : Nat) : Int) := w64 (by omega) (by omega)
    simp only [ew]
    have hmx := h3 l[i] (List.getElem_mem _)
    have hacc : (UInt8.ofNat l.length :: (l.take i).flatMap chgB).length ≤ 100000 := by
      have := flat_len_le (f := chgB) (l.take i) (fun x hx => chgB_len (h3 x (List.mem_of_mem_take hx)))
      simp only [List.length_cons, List.length_take] at this ⊢
      have : min i l.length * 300 ≤ 255 * 300 := Nat.mul_le_mul_right _ (by omega)
      omega
    have hsucc : UInt8.ofNat l.length :: (l.take (i + 1)).flatMap chgB = (UInt8.ofNat l.length :: (l.take i).flatMap chgB) ++ chgB l[i] := by
      rw [List.take_succ_eq_append_getElem hi', List.flatMap_append]; simp
    generalize hpre : UInt8.ofNat l.length :: (l.take i).flatMap chgB = pre at *
    have hkm : l[i].key.may = true := by unfold mayC at hmx; rw [Bool.and_eq_true] at hmx; exact hmx.1
    have hkl := keyB_len hkm
    refine SliceAt.idx (r := changeR) (h.ext heu) rfl hi' fun b o vs ha hrow hR' hG => ?_
    obtain ⟨av, cv, rfl, hcv, hbv, hgv⟩ := changeR_elim hR'
    refine ⟨_, _, _, _, (RowAt.take hrow 4).cells, (carrackref06_PutKey_spec l[i].key (hs _ (List.getElem_mem _)) u).mono ?_⟩
    rintro _ w₃ ⟨a2, c2, rfl, hl2, he3⟩
    have hpk : putKeyB l[i].key = (keyB l[i].key, 0) := by unfold putKeyB; rw [if_pos hkm]
    rw [hpk] at hl2 ⊢
    simp only [] at hl2 ⊢
    have hs3 := he3.size
    have e3 := heu.trans he3
    have hl3 := hl.ext he3
    refine ⟨_, _, _, _, rfl, SliceAt.idx (r := changeR) (h.ext e3) rfl hi' fun b' o' vs' ha' hrow' hR'' hG' => ?_⟩
    obtain ⟨av', cv', rfl, hcv', hbv', hgv'⟩ := changeR_elim hR''
    simp only [add_lit]
    refine ⟨_, row_cell hrow' (j := 5) rfl, br_intro (fun hg => ?_) fun hg => ?_⟩
    · have hcb : chgB l[i] = [0] ++ keyB l[i].key := by unfold chgB; rw [if_pos hg]; rfl
      intro B2 w₄ hn4
      have hs4 := hn4.size
      refine BList.pushX (G := fun b => u.heap.size ≤ b ∧ b < w₃.heap.size) (x := 0) hl3 (fun b hb hg => by have := (hl.lt hb).2; have : b < u.heap.size := this; omega) (fun x hx => hx.2) rfl hn4 (by omega) (by omega) fun a3 c3 w₅ hu5 hl5 hg5 => ?_
      have hs5 := hu5.size
      have hkb : BytesAt w₅ a2 (keyB l[i].key) := RowAt.upd hl2.bytes hu5 fun p hp hF => hF.2 (hl2.lt hp)
      have e5 : Ext w w₅ := e3.beyond hu5 fun x hx => hx.1
      refine BList.catX (G := NoB) hl5 (fun _ _ h => h) (fun _ h => h.elim) rfl rfl hkb (by simp; omega) (by omega) fun a4 c4 w₆ hu6 hl6 _ => ?_
      rw [List.append_assoc, ← hcb, ← hsucc] at hl6 ⊢
      exact ⟨⟨i + 1, rfl, hi', rfl, hl6, e5.beyond hu6 fun x hx => hx.1⟩, meas hi'⟩
    · have hmv : 1 ≤ l[i].val.length ∧ l[i].val.length ≤ 255 := by
        unfold mayC at hmx
        rw [hkm, if_neg (by rw [hg]; decide), Bool.true_and, Bool.and_eq_true, decide_eq_true_eq, decide_eq_true_eq] at hmx
        exact hmx
      have hcb : chgB l[i] = [1] ++ keyB l[i].key ++ (UInt8.ofNat l[i].val.length :: l[i].val) := by unfold chgB; rw [if_neg (by rw [hg]; decide)]; simp
      refine SliceAt.idx (r := changeR) (h.ext e3) rfl hi' fun b' o' vs' ha' hrow' hR'' hG' => ?_
      obtain ⟨av', cv', rfl, hcv', hbv', hgv'⟩ := changeR_elim hR''
      simp only [add_lit]
      refine ⟨_, _, _, row_cell hrow' (j := 4) rfl, (carrackref01_Row_spec hbv').mono ?_⟩
      rintro _ w₇ ⟨a6, c6, rfl, hl6, he7⟩
      have hrb : rowB l[i].val = (UInt8.ofNat l[i].val.length :: l[i].val, 0) := by unfold rowB; rw [if_pos hmv.2]
      rw [hrb] at hl6 ⊢
      simp only [] at hl6 ⊢
      have hs7 := he7.size
      have e7 := e3.trans he7
      refine ⟨_, _, _, _, rfl, fun B3 w₈ hn8 => ?_⟩
      have hs8 := hn8.size
      refine BList.pushX (G := fun b => u.heap.size ≤ b ∧ b < w₇.heap.size) (x := 1) (hl3.ext he7) (fun b hb hg => by have : b < u.heap.size := (hl.lt hb).2; omega) (fun x hx => hx.2) rfl hn8 (by omega) (by omega) fun a3 c3 w₉ hu9 hl9 hg9 => ?_
      have hs9 := hu9.size
      have hkb : BytesAt w₉ a2 (keyB l[i].key) := RowAt.upd (hl2.bytes.ext he7) hu9 fun p hp hF => hF.2 (by have := hl2.lt hp; omega)
      have hvb : BytesAt w₉ a6 (UInt8.ofNat l[i].val.length :: l[i].val) := RowAt.upd hl6.bytes hu9 fun p hp hF => hF.2 (by have := hl6.lt hp; omega)
      have e9 : Ext w w₉ := e7.beyond hu9 fun x hx => hx.1
      refine BList.catX (G := fun b => u.heap.size ≤ b ∧ b < w₇.heap.size) hl9 hg9 (fun x hx => by omega) rfl rfl hkb (by simp; omega) (by omega) fun a4 c4 w₁₀ hu10 hl10 _ => ?_
      have hs10 := hu10.size
      have hvb10 : BytesAt w₁₀ a6 (UInt8.ofNat l[i].val.length :: l[i].val) := RowAt.upd hvb hu10 fun p hp hF => hF.2 (by have := hl6.lt hp; omega)
      have e10 : Ext w w₁₀ := e9.beyond hu10 fun x hx => hx.1
      refine BList.catX (G := NoB) hl10 (fun _ _ h => h) (fun _ h => h.elim) rfl rfl hvb10 (by simp; omega) (by omega) fun a5 c5 w₁₁ hu11 hl11 _ => ?_
      have hassoc : pre ++ [1] ++ keyB l[i].key ++ (UInt8.ofNat l[i].val.length :: l[i].val) = UInt8.ofNat l.length :: (l.take (i + 1)).flatMap chgB := by rw [hsucc, hcb]; simp
      rw [hassoc] at hl11 ⊢
      exact ⟨⟨i + 1, rfl, hi', rfl, hl11, e10.beyond hu11 fun x hx => hx.1⟩, meas hi'⟩
  · have : i = l.length := by omega
    subst this
    rw [List.take_length] at hl ⊢
    exact hR _ _ ⟨a1, c1, rfl, hl, heu⟩
/-- a page out of a body -/
def putPage (size : Int) (kind : UInt8) (body : List UInt8) : List UInt8 × Nat :=
  if isSize size = false ∨ kind < 1 ∨ kind > 7 then ([], 2) else if (body.length : Int) > size - 5 then ([], 3) else (pageOf size.toNat kind body, 0)
def putL (size : Int) (l : List Change) : List UInt8 × Nat := if mayL l then putPage size 2 (bodyB l) else ([], 2)
def putDropB (size : Int) (seq : Nat) : List UInt8 × Nat := if seq = 0 then ([], 2) else putPage size 3 (leB seq 8)
theorem putPage_ref {size k : Int} {kind : UInt8} (hk : k = (kind.toNat : Int)) {a : Option Addr} {body : List UInt8} {c : Nat} {w : World} (h : BytesAt w a body) (hn : body.length ≤ 281474976710656) (hsz : size < 9223372036854775808) (hsz0 : -9223372036854775808 ≤ size) :
    CallsR prog K.carrackref02_Put #[.int .i64 size, .int .u8 k, .slice a body.length c] w fun v w' => BytesOut w w' v (putPage size kind body).1 (putPage size kind body).2 := by
  refine (carrackref02_Put_own size k kind hk h hn hsz hsz0).mono ?_
  rintro v w' ⟨he, hv⟩
  unfold putPage
  by_cases h1 : isSize size = false ∨ kind < 1 ∨ kind > 7
  · rw [if_pos h1] at hv
    rw [if_pos h1, hv]
    exact BytesOut.none (e := 2) he
  · rw [if_neg h1] at hv
    rw [if_neg h1]
    by_cases h2 : (body.length : Int) > size - 5
    · rw [if_pos h2] at hv
      rw [if_pos h2, hv]
      exact BytesOut.none (e := 3) he
    · rw [if_neg h2] at hv
      rw [if_neg h2]
      obtain ⟨a', c', rfl, hb, hf, hc⟩ := hv
      have hl : (pageOf size.toNat kind body).length = size.toNat := pageOf_length _ _ _ (by omega)
      exact ⟨a', c', by rw [hl]; rfl, ⟨by rw [hl]; exact hb, fun b hb => hf _ hb⟩, he⟩
theorem putPage_len {size : Int} {kind : UInt8} {body : List UInt8} (hsz : 0 ≤ size) : (putPage size kind body).1.length = 0 ∨ (putPage size kind body).1.length = size.toNat := by
  unfold putPage
  split
  · exact .inl rfl
  · split
    · exact .inl rfl
    · exact .inr (pageOf_length _ _ _ (by omega))
theorem carrackref11_Put_spec {l : List Change} {w : World} {G : Nat → Prop} {a : Option Addr} {c : Nat} (h : SliceAt changeR w G a l) (hs : Small l) (size : Int) (hsz : size < 9223372036854775808) (hsz0 : -9223372036854775808 ≤ size) :
    CallsR prog K.carrackref11_Put #[.int .i64 size, .slice a l.length c] w fun v w' => BytesOut w w' v (putL size l).1 (putL size l).2 := by
  apply carrackref11_Put.sh
  suffices H : ∀ R : Value → World → Prop, (∀ v w', BytesOut w w' v (putL size l).1 (putL size l).2 → R v w') → carrackref11_Put.body size a l.length c w R from H _ fun _ _ h => h
  intro R hR
  unfold carrackref11_Put.body
  refine (carrackref11_May_spec h hs).mono ?_
  rintro _ w₁ ⟨rfl, he1⟩
  refine ⟨_, rfl, br_intro (fun hm => ?_) fun hm => ?_⟩
  · have hp : putL size l = ([], 2) := by unfold putL; rw [if_neg (by simpa using hm)]
    rw [hp] at hR
    exact hR _ _ (BytesOut.none (e := 2) he1)
  · have hm' : mayL l = true := by simpa using hm
    have hp : putL size l = putPage size 2 (bodyB l) := by unfold putL; rw [if_pos hm']
    rw [hp] at hR
    refine (carrackref11_body_spec (h.ext he1) hs hm').mono ?_
    rintro _ w₂ ⟨a2, c2, rfl, hl2, he2⟩
    have := bodyB_len hm'
    refine ⟨_, _, _, rfl, (putPage_ref (kind := 2) rfl hl2.bytes (by omega) hsz hsz0).mono ?_⟩
    rintro _ w₃ ⟨a3, c3, rfl, hb3, he3⟩
    exact ⟨_, _, _, _, rfl, hR _ _ ⟨a3, c3, rfl, hb3.weak (he1.trans he2).size, (he1.trans he2).trans he3⟩⟩
theorem carrackref11_PutDrop_spec (size : Int) (hsz : size < 9223372036854775808) (hsz0 : -9223372036854775808 ≤ size) (seq : Nat) (hq : seq < 18446744073709551616) (w : World) :
    CallsR prog K.carrackref11_PutDrop #[.int .i64 size, .int .u64 seq] w fun v w' => BytesOut w w' v (putDropB size seq).1 (putDropB size seq).2 := by
  apply carrackref11_PutDrop.sh
  suffices H : ∀ R : Value → World → Prop, (∀ v w', BytesOut w w' v (putDropB size seq).1 (putDropB size seq).2 → R v w') → carrackref11_PutDrop.body size seq w R from H _ fun _ _ h => h
  intro R hR
  unfold carrackref11_PutDrop.body
  refine br_eq (fun h0 => ?_) fun h0 => ?_
  · have hp : putDropB size seq = ([], 2) := by unfold putDropB; rw [if_pos (by omega)]
    rw [hp] at hR
    exact hR _ _ (BytesOut.none (e := 2) (Upd.refl _ _))
  · have hp : putDropB size seq = putPage size 3 (leB seq 8) := by unfold putDropB; rw [if_neg (by omega)]
    rw [hp] at hR
    refine (carrackref01_Put_spec seq 8 w (by rfl) (by rw [show (256 : Nat) ^ 8 = 18446744073709551616 by decide]; exact hq)).mono ?_
    rintro _ w₁ ⟨a1, c1, rfl, ho1, hf1, he1⟩
    have hlen := leB_length 8 seq
    refine ⟨_, _, _, _, rfl, ?_⟩
    have hput := putPage_ref (kind := 3) (c := c1) rfl ho1.row (by omega) hsz hsz0
    rw [hlen] at hput
    refine hput.mono ?_
    rintro _ w₃ ⟨a3, c3, rfl, hb3, he3⟩
    exact ⟨_, _, _, _, rfl, hR _ _ ⟨a3, c3, rfl, hb3.weak he1.size, he1.trans he3⟩⟩
end Go.Den
end
section
set_option linter.unusedVariables false
set_option linter.unusedSimpArgs false
set_option maxRecDepth 8000
namespace Go.Den
/-- a chip that nothing was done on yet -/
structure Still (c : Chip) (nb np sz sp : Nat) : Prop where
  nb : c.nb = nb
  np : c.np = np
  sz : c.sz = sz
  sp : c.sp = sp
  hits : c.hits = []
  since : c.since = 0
  dead : c.dead = false
  deeds : c.deeds = 0
theorem Still.blk {c : Chip} {nb np sz sp : Nat} (h : Still c nb np sz sp) (i : Nat) (b : List UInt8) : Still (c.setBlk i b) nb np sz sp := ⟨h.1, h.2, h.3, h.4, h.5, h.6, h.7, h.8⟩
theorem Still.bad {c : Chip} {nb np sz sp : Nat} (h : Still c nb np sz sp) (b : List Bool) : Still { c with bad := b } nb np sz sp := ⟨h.1, h.2, h.3, h.4, h.5, h.6, h.7, h.8⟩
theorem nand_Load_spec (w : World) {nb np sz sp : Nat} (nb1 : 8 ≤ nb) (nb2 : nb ≤ 64) (np1 : 4 ≤ np) (np2 : np ≤ 32) (sz1 : 128 ≤ sz) (sz2 : sz ≤ 256) (sp2 : sp ≤ 4)
    {a : Option Addr} {all : List UInt8} {c : Nat} (hall : BytesAt w a all) (hlen : all.length = nb * (np * sz)) (hcap : all.length ≤ c) {ai : Option Addr} {is : List Int} {ci : Nat} (hi : RowAt w ai (is.map (Value.int .i64))) (his : ∀ x ∈ is, 0 ≤ x ∧ x < nb) (hic : is.length < 9000000000000000000) :
    CallsR prog K.nand_Load #[.agg #[.int .i64 nb, .int .i64 np, .int .i64 sz, .int .i64 sp], .slice a all.length c, .slice ai is.length ci] w fun v w' => Ext w w' ∧ ∃ p c', v = .tuple #[.pointer (some ⟨p, 0, none⟩), .int .i64 0] ∧ ChipAt w' p c' (fun x => w.heap.size ≤ x ∧ x < w'.heap.size) ∧ Still c' nb np sz sp ∧ (is = [] → c'.bad = List.replicate nb false) := by
  apply nand_Load.sh
  suffices H : ∀ R : Value → World → Prop, (∀ v w', (Ext w w' ∧ ∃ p c', v = .tuple #[.pointer (some ⟨p, 0, none⟩), .int .i64 0] ∧ ChipAt w' p c' (fun x => w.heap.size ≤ x ∧ x < w'.heap.size) ∧ Still c' nb np sz sp ∧ (is = [] → c'.bad = List.replicate nb false)) → R v w') → nand_Load.body nb np sz sp a all.length c ai is.length ci w R from H _ fun _ _ h => h
  intro R hR
  unfold nand_Load.body
  simp only [add_lit, Nat.zero_add]
  intro B1 w₁ hn1
  have g1 := hn1.get
  have hb1 : B1 = w.heap.size := hn1.num
  have hs1 := hn1.size
  refine ⟨_, _, _, _, cellsAt_of (o := 0) g1 (fun j v hj => by simpa using hj), (nand_New_spec w₁ nb1 nb2 np1 np2 sz1 sz2 sp2).mono ?_⟩
  rintro _ w₂ ⟨he2, p, rfl, L, G, hrep, hF, hGF, _⟩
  have hs2 := he2.size
  have g2 := Ext.get he2 g1
  have e2 : Ext w w₂ := hn1.upd.trans he2
  have hN1 : 512 ≤ np * sz := Nat.mul_le_mul np1 sz1
  have hN2 : np * sz ≤ 8192 := Nat.mul_le_mul np2 sz2
  have q1 : IntKind.i64.wrap ((np : Int) * (sz : Int)) = ((np * sz : Nat) : Int) := by rw [w64 (by have := Int.natCast_mul np sz; omega) (by have := Int.natCast_mul np sz; omega)]; exact (Int.natCast_mul np sz).symm
  have hNN : nb * (np * sz) ≤ 64 * 8192 := Nat.mul_le_mul nb2 hN2
  generalize hN : np * sz = N at *
  have q2 : IntKind.i64.wrap ((nb : Int) * (N : Int)) = ((nb * N : Nat) : Int) := by rw [w64 (by have := Int.natCast_mul nb N; omega) (by have := Int.natCast_mul nb N; omega)]; exact (Int.natCast_mul nb N).symm
  refine ⟨_, _, rfl, br_ne (fun h => absurd rfl h) fun _ => ⟨_, cell_of g2 rfl, _, cell_of g2 rfl, _, cell_of g2 rfl, ?_⟩⟩
  rw [q1, q2, hlen]
  refine br_ne (fun h => absurd rfl h) fun _ => ?_
  simp only [nilC_some', add_lit, Nat.zero_add]
  have hpF : ∀ x, x ∈ p :: L.bb :: L.locs → w₁.heap.size ≤ x ∧ x < w₂.heap.size := hF
  refine ⟨_, _, _, cell_of hrep.head rfl, ?_⟩
  refine ⟨fun x u => ∃ (i : Nat) (c' : Chip), x = i ∧ i ≤ nb ∧ ChipRep u p c' L G ∧ (Still c' nb np sz sp ∧ c'.bad = List.replicate nb false) ∧ Ext w u ∧ w₂.heap.size ≤ u.heap.size ∧ u.heap[B1]? = some (.cells #[.int .i64 nb, .int .i64 np, .int .i64 sz, .int .i64 sp] T.api_Geo (0, 0)), fun x _ => ((nb : Int) - x).toNat,
    ⟨0, _, rfl, by omega, hrep, ⟨⟨rfl, rfl, rfl, rfl, rfl, rfl, rfl, rfl⟩, rfl⟩, e2, Nat.le_refl _, g2⟩, ?_⟩
  rintro x u ⟨i, c', rfl, hi', hr, ⟨hst, hcb⟩, heu, hsu, gu⟩
  refine br_dec (fun hlt => ?_) fun hge => ?_
  · have hin : i < nb := by
      have : ((i : Int)) < (nb : Int) := hlt
      omega
    intro w₄ hd4
    have hr4 := hr.ext hd4.upd
    have hcn : c'.np * c'.sz = N := by rw [hst.np, hst.sz, hN]
    obtain ⟨vs, ho, hv⟩ := hr4.rows
    obtain ⟨l, cap, hl, hvi, hbi⟩ := hv i (by rw [hst.nb]; exact hin)
    have hnd := hr4.nodup
    have hlm := List.mem_of_getElem? hl
    have hpl : p ≠ l := fun e => by rw [e] at hnd; exact (List.nodup_cons.1 hnd).1 (by simp [hlm])
    have hpbl : L.pb ≠ l := fun e => hr4.apart l (by simp [hlm]) (e ▸ hr4.pbG)
    have hlF := hpF l (by simp [hlm])
    have keep : ∀ {u'}, Upd (· = l) w₄ u' → u'.heap[p]? = some (.cells (chipCells c' L) T.nand_Chip (0, 0)) ∧ OwnAt u' (some ⟨L.pb, 0, none⟩) c'.nb L.cb T.L_uint8 1 vs := fun k => ⟨k.get hr4.head hpl, ho.upd k fun b hb => by cases hb; exact hpbl⟩
    refine ⟨fun u' => Upd (· = l) w₄ u', Upd.refl _ _, some ⟨L.pb, 0, none⟩, c'.nb, L.cb, ?_, ?_⟩
    · intro u' k
      exact cell_of (keep k).1 rfl
    have hcnb : c'.nb = nb := hst.nb
    refine ⟨by omega, by omega, ?_⟩
    simp only [nilC_some', add_lit, Nat.zero_add, Nat.mul_one, Int.toNat_natCast]
    refine ⟨some ⟨l, 0, none⟩, N, cap, ?_, ?_⟩
    · intro u' k
      obtain ⟨b', o', e, hc⟩ := (keep k).2.row.cell hvi
      cases e
      rw [← hcn]
      simpa using hc
    have q3 : IntKind.i64.wrap ((i : Int) * (N : Int)) = ((i * N : Nat) : Int) := by
      have hle : i * N ≤ nb * N := Nat.mul_le_mul_right _ (by omega)
      rw [w64 (by have := Int.natCast_mul i N; omega) (by have := Int.natCast_mul i N; omega)]; exact (Int.natCast_mul i N).symm
    have hiN : i * N + N ≤ nb * N := by
      have : (i + 1) * N ≤ nb * N := Nat.mul_le_mul_right _ hin
      rwa [Nat.succ_mul] at this
    rw [q3, ← hlen]
    refine slice_bytes_from ((hall.ext heu).ext hd4.upd) (by omega) (by omega) hcap fun a4 c4 hb4 hc4 _ _ _ => ?_
    simp only [Int.toNat_natCast] at hb4 hc4 ⊢
    have hdl : (all.drop (i * N)).length = all.length - i * N := List.length_drop
    have hmin : min (all.drop (i * N)).length N = N := by omega
    have htk : ((all.drop (i * N)).take N).length = N := by rw [List.length_take]; omega
    refine ⟨_, rfl, ((all.drop (i * N)).take N).map bv, ?_, oneCell_bytes, ?_⟩
    · rw [hmin]
      have := read_row (cap := c4) (size := 1) (hb4.take N) (len := N) (by rw [List.length_map, htk]; omega)
      revert this
      unfold readP
      cases a4 with
      | none => exact fun h => h
      | some q => exact fun h => h
    · rw [hmin]
      rw [hcn] at hbi
      have hblen := hr4.ok.blk_len (i := i) (by rw [hst.nb]; exact hin)
      rw [hcn] at hblen
      refine own_store hbi (o := 0) (by rw [List.length_map, List.length_map, htk]; omega) fun w₅ hu5 ho5 => ?_
      have hfull : ((c'.blk i).map bv).take 0 ++ ((all.drop (i * N)).take N).map bv ++ ((c'.blk i).map bv).drop (0 + (((all.drop (i * N)).take N).map bv).length) = ((all.drop (i * N)).take N).map bv := by
        have e1 : ((c'.blk i).map bv).drop (0 + (((all.drop (i * N)).take N).map bv).length) = [] := List.drop_of_length_le (by rw [List.length_map, List.length_map, htk]; omega)
        rw [e1, List.take_zero, List.nil_append, List.append_nil]
      rw [hfull] at ho5
      have ew : IntKind.i64.wrap ((i : Int) + 1) = ((i + 1 : Nat) : Int) := w64 (by omega) (by omega)
      refine ⟨hu5, ⟨i + 1, c'.setBlk i ((all.drop (i * N)).take N), ew, hin, ?_, ⟨hst.blk _ _, hcb⟩, ?_, ?_, ?_⟩, ?_⟩
      · exact hr4.reblk hu5 (by rw [hst.nb]; exact hin) hl (by rw [htk, hcn]) (by rw [hcn]; exact hbi) (by rw [hcn]; exact ho5)
      · exact (heu.trans hd4.upd).beyond hu5 fun x hx => by omega
      · have := hd4.upd.size
        have := hu5.size
        omega
      · exact hu5.get (Ext.get hd4.upd gu) (by omega)
      · rw [ew]; exact meas hin
  · refine ⟨fun x u' => ∃ (k : Nat) (d : Chip), x = k ∧ k ≤ is.length ∧ ChipRep u' p d L G ∧ (Still d nb np sz sp ∧ (is = [] → d.bad = List.replicate nb false)) ∧ Ext w u' ∧ w₂.heap.size ≤ u'.heap.size ∧ u'.heap[B1]? = some (.cells #[.int .i64 nb, .int .i64 np, .int .i64 sz, .int .i64 sp] T.api_Geo (0, 0)), fun x _ => ((is.length : Int) - x).toNat,
      ⟨0, c', rfl, by omega, hr, ⟨hst, fun _ => hcb⟩, heu, hsu, gu⟩, ?_⟩
    rintro x v ⟨k, d, rfl, hk, hrd, ⟨hsd, hdb⟩, hev, hsv, gv⟩
    refine br_dec (fun hlt => ?_) fun hge => ?_
    · have hk' : k < is.length := by omega
      have hrng := his is[k] (List.getElem_mem _)
      have hrow := hi.ext hev
      obtain ⟨b0, o0, hai, _⟩ := RowAt.blk hrow (by intro e; have := congrArg List.length e; simp at this; rw [this] at hk'; simp at hk')
      subst hai
      refine ⟨by omega, by omega, ?_⟩
      simp only [nilC_some', add_lit, Nat.zero_add, Nat.mul_one, Int.toNat_natCast]
      obtain ⟨b', o', e, hc⟩ := hrow.cell (i := k) (v := .int .i64 is[k]) (by simp [hk'])
      cases e
      refine ⟨_, hc, br_dec (fun h => absurd h (by omega)) fun _ => ⟨_, cell_of gv rfl, br_dec (fun h => absurd h (by omega)) fun _ => ?_⟩⟩
      refine ⟨_, _, _, cell_of hrd.head rfl, ?_⟩
      obtain ⟨j, hj⟩ : ∃ j : Nat, is[k] = j := ⟨is[k].toNat, by omega⟩
      rw [hj] at hrng ⊢
      have hjn : j < d.nb := by rw [hsd.nb]; omega
      refine ⟨by omega, by omega, ?_⟩
      simp only [nilC_some', add_lit, Nat.zero_add, Nat.mul_one, Int.toNat_natCast]
      have hbl := hrd.ok.bad
      refine own_store hrd.bad (o := j) (by simp; omega) fun w₇ hu7 ho7 => ?_
      have hbb := hpF L.bb (by simp)
      have hset : (d.bad.map Value.bool).take j ++ [Value.bool true] ++ (d.bad.map Value.bool).drop (j + [Value.bool true].length) = (d.bad.set j true).map Value.bool := by
        rw [List.set_eq_take_append_cons_drop, if_pos (by omega)]
        simp
      rw [hset] at ho7
      have ew : IntKind.i64.wrap ((k : Int) + 1) = ((k + 1 : Nat) : Int) := w64 (by omega) (by omega)
      simp only [ew]
      exact ⟨⟨k + 1, _, rfl, hk', hrd.rebad hu7 (by simpa using hbl) ho7, ⟨hsd.bad _, fun e => by rw [e] at hk'; simp at hk'⟩, hev.beyond hu7 fun x hx => by omega, by have := hu7.size; omega, hu7.get gv (by omega)⟩, meas hk'⟩
    · refine hR _ _ ⟨hev, p, d, rfl, ⟨L, G, hrd, fun x hx => ?_, fun x hx => ?_, fun x hx => hx.2⟩, hsd, hdb⟩
      · have := hpF x hx; omega
      · have := hGF x hx; omega
end Go.Den
end
section
set_option linter.unusedVariables false
set_option linter.unusedSimpArgs false
set_option maxRecDepth 8000
namespace Go.Den
structure Sheet where
  how : Int
  changes : List Change
  n : UInt8
  bytes : List UInt8
structure LBlk where
  none : Bool
  kind : UInt8
  era : UInt8
  seq : UInt8
  sheets : List Sheet
def sheetR : ERep Sheet := ERep.pair intR (ERep.pair (sliceR changeR) (ERep.pair u8R bytesR (fun x : UInt8 × List UInt8 => x.1) (fun x => x.2)) (fun x : List Change × (UInt8 × List UInt8) => x.1) (fun x => x.2)) (fun x : Sheet => x.how) (fun x => (x.changes, (x.n, x.bytes)))
def blkR : ERep LBlk := ERep.pair boolR (ERep.pair u8R (ERep.pair u8R (ERep.pair u8R (sliceR sheetR) (fun x : UInt8 × List Sheet => x.1) (fun x => x.2)) (fun x : UInt8 × (UInt8 × List Sheet) => x.1) (fun x => x.2)) (fun x : UInt8 × (UInt8 × (UInt8 × List Sheet)) => x.1) (fun x => x.2)) (fun x : LBlk => x.none) (fun x => (x.kind, (x.era, (x.seq, x.sheets))))
theorem sheetR_elim {w : World} {G : Nat → Prop} {x : Sheet} {vs : List Value} (h : sheetR.R w G vs x) : ∃ a c ab cb, vs = [.int .i64 x.how, .slice a x.changes.length c, bv x.n, .slice ab x.bytes.length cb] ∧ SliceAt changeR w G a x.changes ∧ BytesAt w ab x.bytes := by
  obtain ⟨u, v, rfl, hu, s, t, rfl, ⟨a, c, hs, hc, hb⟩, y, z, rfl, hy, ab, cb, hz, hcb, hbb, _⟩ := h
  have hu' : u = [.int .i64 x.how] := hu
  have hy' : y = [bv x.n] := hy
  have hs' : s = [.slice a x.changes.length c] := hs
  have hz' : z = [.slice ab x.bytes.length cb] := hz
  subst hu'; subst hy'; subst hs'; subst hz'
  exact ⟨a, c, ab, cb, rfl, hb, hbb⟩
theorem blkR_elim {w : World} {G : Nat → Prop} {x : LBlk} {vs : List Value} (h : blkR.R w G vs x) : ∃ a c, vs = [.bool x.none, bv x.kind, bv x.era, bv x.seq, .slice a x.sheets.length c] ∧ SliceAt sheetR w G a x.sheets := by
  obtain ⟨u, v, rfl, hu, s, t, rfl, hs, s2, t2, rfl, hs2, s3, t3, rfl, hs3, a, c, ht, hc, hb⟩ := h
  have e1 : u = [.bool x.none] := hu
  have e2 : s = [bv x.kind] := hs
  have e3 : s2 = [bv x.era] := hs2
  have e4 : s3 = [bv x.seq] := hs3
  have e5 : t3 = [.slice a x.sheets.length c] := ht
  rw [e1, e2, e3, e4, e5]
  exact ⟨a, c, rfl, hb⟩
def SmallB (l : List LBlk) : Prop := ∀ b ∈ l, ∀ s ∈ b.sheets, Small s.changes
theorem zeros_bytes1 (n : Nat) : (zerosL [Value.int .u8 0] n).toArray.toList = (List.replicate n (0 : UInt8)).map bv := by
  rw [List.toList_toArray, zeros_bytes, List.map_replicate]; rfl
/-- a byte of bytes of the call's own is written -/
theorem BList.store {S : Nat} {w : World} {a : Option Addr} {cap : Nat} {l : List UInt8} (h : BList S w a cap l) {i : Nat} (hi : i < l.length) {x : UInt8} {K : World → Prop}
    (hk : ∀ b w', a = some ⟨b, 0, none⟩ → S ≤ b → Upd (fun x => a = some ⟨x, 0, none⟩) w w' → BList S w' a cap (l.set i x) → K w') : idxP a l.length (i : Int) 1 fun q => storeP w q [bv x] K := by
  obtain ⟨b, rfl⟩ : ∃ b, a = some ⟨b, 0, none⟩ := by
    rcases h.1.2.2 with ⟨_, hx, _⟩ | ⟨b, cur, hx, _⟩
    · omega
    · exact ⟨b, hx⟩
  refine ⟨by omega, by omega, ?_⟩
  simp only [nilC_some', add_lit, Nat.zero_add, Nat.mul_one, Int.toNat_natCast]
  refine own_store h.1 (o := i) (by simp; omega) fun w' hu ho => hk b w' rfl (h.2 b rfl) (hu.mono fun x _ hx => by subst hx; rfl) ⟨?_, h.2⟩
  have e : (l.map bv).take i ++ [bv x] ++ (l.map bv).drop (i + [bv x].length) = (l.set i x).map bv := by
    rw [List.set_eq_take_append_cons_drop, if_pos hi]
    simp
  rw [e] at ho
  rw [List.length_set]
  exact ho
theorem carracklaw12_page_spec {s : Sheet} {w : World} {G : Nat → Prop} {a ab : Option Addr} {c cb : Nat} (h : SliceAt changeR w G a s.changes) (hb : BytesAt w ab s.bytes) (hs : Small s.changes) :
    CallsR prog K.carracklaw12_page #[.agg #[.int .i64 s.how, .slice a s.changes.length c, bv s.n, .slice ab s.bytes.length cb]] w fun v w' => ∃ a' c' l, v = .slice a' 128 c' ∧ l.length = 128 ∧ BytesAt w' a' l ∧ Fresh w a' ∧ Ext w w' := by
  apply carracklaw12_page.sh
  suffices H : ∀ R : Value → World → Prop, (∀ v w', (∃ a' c' l, v = .slice a' 128 c' ∧ l.length = 128 ∧ BytesAt w' a' l ∧ Fresh w a' ∧ Ext w w') → R v w') → carracklaw12_page.body s.how a s.changes.length c s.n.toNat ab s.bytes.length cb w R from H _ fun _ _ h => h
  intro R hR
  unfold carracklaw12_page.body
  simp only [add_lit, Nat.zero_add]
  intro B1 w₁ hn1
  have g1 := hn1.get
  have hb1 : B1 = w.heap.size := hn1.num
  have hs1 := hn1.size
  let SH : World → Prop := fun u => u.heap[B1]? = some (.cells #[.int .i64 s.how, .slice a s.changes.length c, bv s.n, .slice ab s.bytes.length cb] T.carracklaw12_Sheet (0, 0)) ∧ Ext w u ∧ w₁.heap.size ≤ u.heap.size
  have keep : ∀ {u u' : World}, SH u → Ext u u' → SH u' := fun h k => ⟨Ext.get k h.1, h.2.1.trans k, Nat.le_trans h.2.2 k.size⟩
  have keepU : ∀ {u u' : World} {F : Nat → Prop}, SH u → Upd F u u' → (∀ x, F x → w₁.heap.size ≤ x) → SH u' := fun h k hF => ⟨k.get h.1 (fun hf => by have := hF _ hf; omega), h.2.1.beyond k fun x hx => by have := hF _ hx; omega, Nat.le_trans h.2.2 k.size⟩
  have sh1 : SH w₁ := ⟨g1, hn1.upd, Nat.le_refl _⟩
  refine ⟨fun a' l' c' u => ∃ l, l' = l.length ∧ (l.length = 0 ∨ l.length = 128) ∧ BList w₁.heap.size u a' c' l ∧ SH u, ⟨_, cell_of g1 rfl, br_eq (fun h2 => ?_) fun h2 => br_eq (fun h3 => ?_) fun h3 => ?_⟩, ?_⟩
  · refine ⟨_, cell_of g1 rfl, ?_⟩
    have hnl := s.n.toNat_lt
    rw [wu64n (by omega)]
    refine (carrackref11_PutDrop_spec 128 (by decide) (by decide) s.n.toNat (by omega) w₁).mono ?_
    rintro _ w₂ ⟨a2, c2, rfl, hl2, he2⟩
    refine ⟨_, _, _, _, rfl, _, rfl, ?_, hl2, keep sh1 he2⟩
    unfold putDropB
    split
    · exact .inl rfl
    · exact putPage_len (by decide)
  · exact ⟨[], rfl, .inl rfl, BList.nil _ _, sh1⟩
  · refine ⟨_, _, _, cell_of g1 rfl, (carrackref11_Put_spec (h.ext hn1.upd) hs 128 (by decide) (by decide)).mono ?_⟩
    rintro _ w₂ ⟨a2, c2, rfl, hl2, he2⟩
    refine ⟨_, _, _, _, rfl, _, rfl, ?_, hl2, keep sh1 he2⟩
    unfold putL
    split
    · exact putPage_len (by decide)
    · exact .inl rfl
  · rintro a4 l4 c4 w₄ ⟨l, rfl, hl, hbl, sh4⟩
    have hbs : ∀ {u}, SH u → BytesAt u ab s.bytes := fun h => hb.ext h.2.1
    refine ⟨fun a' l' c' u => ∃ l, l' = 128 ∧ l.length = 128 ∧ BList w₁.heap.size u a' c' l ∧ SH u, br_eq (fun h0 => ?_) fun h0 => ?_, ?_⟩
    · refine ⟨by decide, by decide, by decide, by decide, rfl, fun B5 w₅ hn5 => ?_⟩
      have sh5 := keep sh4 hn5.upd
      have hbl5 : BList w₁.heap.size w₅ (some ⟨B5, 0, none⟩) 128 (List.replicate 128 0) := by
        have := BList.new (S := w₁.heap.size) (l := List.replicate 128 0) hn5 (zeros_bytes1 _) sh4.2.2
        rw [List.length_replicate] at this
        exact this
      refine ⟨fun x u => ∃ (i : Nat) (l : List UInt8), x = i ∧ i ≤ 128 ∧ l.length = 128 ∧ BList w₁.heap.size u (some ⟨B5, 0, none⟩) 128 l ∧ SH u, fun x _ => ((128 : Int) - x).toNat, ⟨0, _, rfl, by omega, by rw [List.length_replicate], hbl5, sh5⟩, ?_⟩
      rintro x u ⟨i, l, rfl, hi, hl', hbu, shu⟩
      refine br_dec (fun hlt => ⟨_, _, _, cell_of shu.1 rfl, br_dec (fun hpos => ?_) fun _ => ⟨l, rfl, hl', hbu, shu⟩⟩) fun _ => ⟨l, rfl, hl', hbu, shu⟩
      have hi' : i < 128 := by
        have : (i : Int) < ((128 : Int).toNat : Int) := hlt
        simp at this; omega
      intro w₇ hd7
      have sh7 := keep shu hd7.upd
      have hb7 := hbu.ext hd7.upd
      have hmod : Int.tmod (i : Int) (s.bytes.length : Int) = ((i % s.bytes.length : Nat) : Int) := tmod_nat i s.bytes.length
      have hml : i % s.bytes.length < s.bytes.length := Nat.mod_lt _ (by omega)
      refine ⟨(· = w₇), rfl, ab, s.bytes.length, cb, ?_, ab, s.bytes.length, cb, ?_, by omega, ?_⟩
      · rintro u rfl; exact cell_of sh7.1 rfl
      · rintro u rfl; exact cell_of sh7.1 rfl
      rw [hmod]
      refine idx_byteS (S := (· = w₇)) (l := s.bytes) (a := ab) (by rintro u rfl; exact hbs sh7) ⟨_, rfl⟩ (by omega) (by omega) ?_
      refine (show (128 : Int).toNat = l.length from hl'.symm) ▸ ?_
      refine BList.store (i := i) hb7 (by omega) fun b w₈ _ hSb hu8 hl8 => ?_
      have ew : IntKind.i64.wrap ((i : Int) + 1) = ((i + 1 : Nat) : Int) := w64 (by omega) (by omega)
      simp only [ew]
      exact ⟨⟨i + 1, _, rfl, hi', by rw [List.length_set]; exact hl', hl8, keepU sh7 hu8 fun x hx => hl8.2 x hx⟩, meas hi'⟩
    · exact ⟨l, by omega, by omega, hbl, sh4⟩
    · rintro a9 l9 c9 w₉ ⟨l, rfl, hl, hbl, sh9⟩
      refine ⟨fun x u => ∃ (i : Nat) (l : List UInt8), x = i ∧ i ≤ 128 ∧ l.length = 128 ∧ BList w₁.heap.size u a9 c9 l ∧ SH u, fun x _ => ((128 : Int) - x).toNat, ⟨0, l, rfl, by omega, hl, hbl, sh9⟩, ?_⟩
      rintro x u ⟨i, l, rfl, hi, hl', hbu, shu⟩
      have fin : R (.slice a9 128 c9) u := hR _ _ ⟨a9, c9, l, rfl, hl', hbu.bytes, fun p hp => by have := hbu.lt hp; omega, shu.2.1⟩
      refine ⟨fun u' => u' = u ∧ i < 128 ∧ 0 < s.bytes.length, ⟨_, cell_of shu.1 rfl, br_eq (fun h4 => br_dec (fun hlt => ⟨_, _, _, cell_of shu.1 rfl, br_dec (fun hpos => ⟨rfl, by omega, by omega⟩) fun _ => fin⟩) fun _ => fin) fun _ => fin⟩, ?_⟩
      rintro _ ⟨rfl, hi', hpos⟩ w₁₂ hd12
      rename_i u
      have sh12 := keep shu hd12.upd
      have hb12 := hbu.ext hd12.upd
      have hmod : Int.tmod (i : Int) (s.bytes.length : Int) = ((i % s.bytes.length : Nat) : Int) := tmod_nat i s.bytes.length
      have hml : i % s.bytes.length < s.bytes.length := Nat.mod_lt _ hpos
      refine ⟨(· = w₁₂), rfl, ?_⟩
      rw [← hl']
      refine idx_byteS (S := (· = w₁₂)) (l := l) (a := a9) (by rintro u rfl; exact hb12.bytes) ⟨_, rfl⟩ (by omega) (by omega) ?_
      refine ⟨ab, s.bytes.length, cb, ?_, ab, s.bytes.length, cb, ?_, by omega, ?_⟩
      · rintro u rfl; exact cell_of sh12.1 rfl
      · rintro u rfl; exact cell_of sh12.1 rfl
      rw [hmod]
      refine idx_byteS (S := (· = w₁₂)) (l := s.bytes) (a := ab) (by rintro u rfl; exact hbs sh12) ⟨_, rfl⟩ (by omega) (by omega) ?_
      rw [bv_mod]
      refine BList.store (i := i) hb12 (by omega) fun b w₈ _ hSb hu8 hl8 => ?_
      have ew : IntKind.i64.wrap ((i : Int) + 1) = ((i + 1 : Nat) : Int) := w64 (by omega) (by omega)
      simp only [ew]
      exact ⟨⟨i + 1, _, rfl, by omega, by rw [List.length_set], hl8, keepU sh12 hu8 fun x hx => hl8.2 x hx⟩, meas hi'⟩
theorem ff_bv : Value.int .u8 255 = bv 255 := rfl
theorem tn16384 : Int.toNat 16384 = 16384 := rfl
theorem putHead_len0 {size : Int} {h : Head} (hz : (putHead size h).2 = 0) : (putHead size h).1.length = size.toNat := by
  unfold putHead at hz ⊢
  split
  · rename_i hc
    rw [if_pos hc] at hz; cases hz
  · rename_i hc
    have hs : isSize size = true := by
      cases hb : isSize size with
      | true => rfl
      | false => exact absurd (.inr hb) hc
    have hs' := putHead_size hs
    exact pageOf_length _ _ _ (by rw [Head.body_length]; omega)
/-- ints that a call builds -/
def IList (S : Nat) (w : World) (a : Option Addr) (cap : Nat) (l : List Int) : Prop := OwnAt w a l.length cap T.int 1 (l.map (Value.int .i64)) ∧ ∀ b, a = some ⟨b, 0, none⟩ → S ≤ b
theorem IList.nil (S : Nat) (w : World) : IList S w none 0 [] := ⟨OwnAt.nil _ _ _, fun _ h => by cases h⟩
theorem IList.ext {S : Nat} {w w' : World} {a : Option Addr} {cap : Nat} {l : List Int} (h : IList S w a cap l) (k : Ext w w') : IList S w' a cap l := ⟨h.1.ext k, h.2⟩
theorem IList.upd {S : Nat} {w w' : World} {F : Nat → Prop} {a : Option Addr} {cap : Nat} {l : List Int} (h : IList S w a cap l) (k : Upd F w w') (hF : ∀ x, F x → x < S) : IList S w' a cap l :=
  ⟨h.1.upd k fun b hb hf => absurd (h.2 b hb) (by have := hF b hf; omega), h.2⟩
theorem IList.weak {S S' : Nat} {w : World} {a : Option Addr} {cap : Nat} {l : List Int} (h : IList S w a cap l) (hS : S' ≤ S) : IList S' w a cap l := ⟨h.1, fun b hb => Nat.le_trans hS (h.2 b hb)⟩
theorem IList.push {S : Nat} {w w₁ : World} {a : Option Addr} {cap n : Nat} {l : List Int} {B : Nat} {x : Int} (h : IList S w a cap l) (hn : n = l.length) (hnew : New w (.cells #[.int .i64 x] T.int) B w₁) (hb : l.length + 1 ≤ 17592186044000) (hS : S ≤ w.heap.size) {K : Option Addr → Nat → Nat → World → Prop}
    (hk : ∀ a' c' w', Upd (fun b => S ≤ b) w w' → IList S w' a' c' (l ++ [x]) → K a' (l ++ [x]).length c' w') : appendP T.int 1 8 [Value.int .i64 0] a n cap (.slice (some ⟨B, 0, none⟩) 1 1) w₁ K := by
  subst hn
  have hrow : RowAt w₁ (some ⟨B, 0, none⟩) [.int .i64 x] := RowAt.of hnew.get fun j v hj => by simpa using hj
  refine append_own (h.1.ext hnew.upd) rfl (read_row hrow rfl) rfl (fun v hv => by simp at hv; rw [hv]; rfl) rfl (by omega) (by omega) fun a' c' w' hu ho hf => ?_
  have hs := hnew.size
  have := hk a' c' w' ((Upd.ext hnew.upd).trans (hu.mono fun b _ hb => h.2 b hb)) ⟨by simpa using ho, fun b hb => by
    rcases hf with hf | ⟨b', hb', hl⟩
    · subst hf; exact h.2 b hb
    · rw [hb'] at hb; cases hb; omega⟩
  simpa using this
theorem carracklaw12_chip_spec {l : List LBlk} {bad : List Int} {w : World} {G : Nat → Prop} {a ab : Option Addr} {c cb : Nat} (h : SliceAt blkR w G a l) (hs : SmallB l) (hb : RowAt w ab (bad.map (Value.int .i64))) (hbl : bad.length ≤ 17592186043904) :
    CallsR prog K.carracklaw12_chip #[.slice a l.length c, .slice ab bad.length cb] w fun v w' => Ext w w' ∧ ∃ p d, v = .pointer (some ⟨p, 0, none⟩) ∧ ChipAt w' p d (fun x => w.heap.size ≤ x ∧ x < w'.heap.size) ∧ Still d 16 8 128 0 ∧ (bad = [] → d.bad = List.replicate 16 false) := by
  apply carracklaw12_chip.sh
  suffices H : ∀ R : Value → World → Prop, (∀ v w', (Ext w w' ∧ ∃ p d, v = .pointer (some ⟨p, 0, none⟩) ∧ ChipAt w' p d (fun x => w.heap.size ≤ x ∧ x < w'.heap.size) ∧ Still d 16 8 128 0 ∧ (bad = [] → d.bad = List.replicate 16 false)) → R v w') → carracklaw12_chip.body a l.length c ab bad.length cb w R from H _ fun _ _ h => h
  intro R hR
  unfold carracklaw12_chip.body
  refine new_put (vs := [.int .i64 16, .int .i64 8, .int .i64 128, .int .i64 0]) rfl fun B1 w₂ hb1 hs2 he2 g2 => ?_
  refine ⟨by decide, by decide, by decide, by decide, rfl, fun Ba w₃ hn3 => ?_⟩
  have hs3 := hn3.size
  have hba : Ba = w₂.heap.size := hn3.num
  have e3 : Ext w w₃ := he2.trans hn3.upd
  have st0 : OwnAt w₃ (some ⟨Ba, 0, none⟩) 16384 16384 T.uint8 1 ((List.replicate 16384 (0 : UInt8)).map bv) := by
    have := (BList.new (S := w₂.heap.size) (l := List.replicate 16384 0) hn3 (zeros_bytes1 _) (Nat.le_refl _)).1
    rw [List.length_replicate] at this
    exact this
  obtain ⟨N, hN⟩ : ∃ N : Nat, Int.toNat 16384 = N := ⟨_, rfl⟩
  rw [hN]
  rw [← tn16384, hN] at st0
  replace hN : N = 16384 := hN.symm
  let ST : World → Prop := fun u => (∃ l : List UInt8, l.length = N ∧ OwnAt u (some ⟨Ba, 0, none⟩) N N T.uint8 1 (l.map bv)) ∧ Ext w u ∧ u.heap[B1]? = some (.cells [Value.int .i64 16, .int .i64 8, .int .i64 128, .int .i64 0].toArray T.api_Geo (0, 0)) ∧ w₃.heap.size ≤ u.heap.size
  have keepU : ∀ {u u' : World} {F : Nat → Prop}, ST u → Upd F u u' → (∀ x, F x → w₃.heap.size ≤ x) → ST u' := fun {u u' F} h k hF =>
    ⟨by obtain ⟨l, h1, h2⟩ := h.1; exact ⟨l, h1, h2.upd k fun b hb hf => by cases hb; have := hF _ hf; omega⟩, h.2.1.beyond k fun x hx => by have := hF x hx; omega, k.get h.2.2.1 (fun hf => by have := hF _ hf; omega), Nat.le_trans h.2.2.2 k.size⟩
  have keep : ∀ {u u' : World}, ST u → Ext u u' → ST u' := fun h k => keepU h k fun _ hf => hf.elim
  have put : ∀ {u : World} {j : Int} {x : UInt8} {K : World → Prop}, ST u → 0 ≤ j → j < N → (∀ u', Upd (· = Ba) u u' → ST u' → K u') → idxP (some ⟨Ba, 0, none⟩) N j 1 fun q => storeP u q [bv x] K := fun {u j x K} hst h0 h1 hk => by
    obtain ⟨i, rfl⟩ : ∃ i : Nat, j = i := ⟨j.toNat, by omega⟩
    obtain ⟨⟨l', hl, ho⟩, h2, h3, h4⟩ := hst
    have hbl' : BList w₂.heap.size u (some ⟨Ba, 0, none⟩) N l' := ⟨by rw [hl]; exact ho, fun b hb => by cases hb; omega⟩
    have st' : ∀ w', Upd (fun x => some (⟨Ba, 0, none⟩ : Addr) = some ⟨x, 0, none⟩) u w' → BList w₂.heap.size w' (some ⟨Ba, 0, none⟩) N (l'.set i x) → ST w' := fun w' hu hl' => by
      refine ⟨⟨l'.set i x, by rw [List.length_set]; exact hl, ?_⟩, h2.beyond hu fun x hx => by cases hx; omega, hu.get h3 (fun hx => by cases hx; omega), Nat.le_trans h4 hu.size⟩
      have := hl'.1
      rw [List.length_set, hl] at this
      exact this
    have := hbl'.store (i := i) (x := x) (K := K) (by omega) fun b w' hb hS hu hl' => hk w' (hu.mono fun x _ hx => by cases hx; rfl) (st' w' hu hl')
    rw [hl] at this
    exact this
  have st3 : ST w₃ := by
    exact ⟨⟨_, by rw [List.length_replicate], st0⟩, e3, Ext.get hn3.upd g2, Nat.le_refl _⟩
  have ewi : ∀ {i : Nat}, i < 17592186044000 → IntKind.i64.wrap ((i : Int) + 1) = ((i + 1 : Nat) : Int) := fun h => w64 (by omega) (by omega)
  -- the bad ones, and Load
  have load : ∀ {u : World} {is : List Int} {ai : Option Addr} {ci : Nat}, ST u → IList w₃.heap.size u ai ci is → (∀ x ∈ is, 0 ≤ x ∧ x < (16 : Nat)) → is.length ≤ bad.length →
      ∃ x y : Int, ∃ z t : Int, cellsAt u ⟨B1, 0, none⟩ [.int .i64 x, .int .i64 y, .int .i64 z, .int .i64 t] 0 ∧ CallsR prog K.nand_Load #[.agg #[.int .i64 x, .int .i64 y, .int .i64 z, .int .i64 t], (.slice (some ⟨Ba, 0, none⟩) N N), .slice ai is.length ci] u fun v w' => ∃ p : Option Addr, ∃ x : Int, v = .tuple #[.pointer p, .int .i64 x] ∧ R (.pointer p) w' := fun {u is ai ci} hst hil his hic => by
    obtain ⟨⟨l', hl, ho⟩, h2, h3, h4⟩ := hst
    refine ⟨_, _, _, _, cells_all h3, ?_⟩
    have hld := nand_Load_spec (nb := 16) (np := 8) (sz := 128) (sp := 0) (c := N) u (by decide) (by decide) (by decide) (by decide) (by decide) (by decide) (by decide) ho.row (by rw [hl, hN]) (by omega) (ci := ci) hil.1.row his (by omega)
    rw [hl] at hld
    refine hld.mono ?_
    rintro _ w' ⟨he, p, d, rfl, hc, hstill, hdb⟩
    have hsu := h2.size
    exact ⟨_, _, rfl, hR _ _ ⟨h2.trans he, p, d, rfl, hc.mono (fun x hx => ⟨by omega, hx.2⟩) fun x hx => hx.2, hstill, fun e => hdb (List.eq_nil_of_length_eq_zero (by rw [e] at hic; simpa using hic))⟩⟩
  have bads : ∀ {u : World}, ST u → ∃ (J4 : Option Addr → Nat → Nat → Int → World → Prop) (μ3 : Option Addr → Nat → Nat → Int → World → Nat), J4 none 0 0 0 u ∧
      ∀ (a2 : Option Addr) (l2 c2 : Nat) (x3 : Int) (w7 : World), J4 a2 l2 c2 x3 w7 →
      br (decide (x3 < (bad.length : Int))) (idxP ab bad.length x3 1 fun q2 => ∃ x4 : Int, w7.cell? q2 = some (.int .i64 x4) ∧
        br (decide (x4 ≥ 0)) (idxP ab bad.length x3 1 fun q3 => ∃ x5 : Int, w7.cell? q3 = some (.int .i64 x5) ∧
          br (decide (x5 < 16)) (idxP ab bad.length x3 1 fun q4 => ∃ x6 : Int, w7.cell? q4 = some (.int .i64 x6) ∧
            ∀ B2 w8, New w7 (.cells #[.int .i64 x6] T.int) B2 w8 → appendP T.int 1 8 [.int .i64 0] a2 l2 c2 (.slice (some ⟨B2, 0, none⟩) 1 1) w8 fun a3 l3 c3 w9 => J4 a3 l3 c3 (IntKind.i64.wrap (x3 + 1)) w9 ∧ μ3 a3 l3 c3 (IntKind.i64.wrap (x3 + 1)) w9 < μ3 a2 l2 c2 x3 w7)
            (J4 a2 l2 c2 (IntKind.i64.wrap (x3 + 1)) w7 ∧ μ3 a2 l2 c2 (IntKind.i64.wrap (x3 + 1)) w7 < μ3 a2 l2 c2 x3 w7))
          (J4 a2 l2 c2 (IntKind.i64.wrap (x3 + 1)) w7 ∧ μ3 a2 l2 c2 (IntKind.i64.wrap (x3 + 1)) w7 < μ3 a2 l2 c2 x3 w7))
        (∃ x y : Int, ∃ z t : Int, cellsAt w7 ⟨B1, 0, none⟩ [.int .i64 x, .int .i64 y, .int .i64 z, .int .i64 t] 0 ∧ CallsR prog K.nand_Load #[.agg #[.int .i64 x, .int .i64 y, .int .i64 z, .int .i64 t], (.slice (some ⟨Ba, 0, none⟩) N N), .slice a2 l2 c2] w7 fun v w' => ∃ p : Option Addr, ∃ x : Int, v = .tuple #[.pointer p, .int .i64 x] ∧ R (.pointer p) w') := fun {u} hst => by
    refine ⟨fun a2 l2 c2 x v => ∃ (k : Nat) (is : List Int), x = k ∧ k ≤ bad.length ∧ l2 = is.length ∧ is.length ≤ k ∧ IList w₃.heap.size v a2 c2 is ∧ (∀ x ∈ is, 0 ≤ x ∧ x < (16 : Nat)) ∧ ST v, fun _ _ _ x _ => ((bad.length : Int) - x).toNat,
      ⟨0, [], rfl, by omega, rfl, by simp, IList.nil _ _, fun x hx => by simp at hx, hst⟩, ?_⟩
    rintro a2 l2 c2 x v ⟨k, is, rfl, hk, rfl, hik, hil, his, stv⟩
    refine br_dec (fun hlt => ?_) fun hge => load stv hil his (by omega)
    have hk' : k < bad.length := by omega
    simp only [ewi (show k < 17592186044000 by omega)]
    have hrow := hb.ext stv.2.1
    obtain ⟨b0, o0, hai, _⟩ := RowAt.blk hrow (by intro e; have := congrArg List.length e; simp at this; rw [this] at hk'; simp at hk')
    have hix : ∀ {K : Addr → Prop}, (∀ q, v.cell? q = some (.int .i64 bad[k]) → K q) → idxP ab bad.length (k : Int) 1 K := fun hK => by
      obtain ⟨b', o', e, hc⟩ := hrow.cell (i := k) (v := .int .i64 bad[k]) (by simp [hk'])
      subst e
      refine ⟨by omega, by omega, ?_⟩
      simp only [nilC_some', add_lit, Nat.mul_one, Int.toNat_natCast]
      exact hK _ hc
    have same : (∃ (k' : Nat) (is : List Int), ((k + 1 : Nat) : Int) = k' ∧ k' ≤ bad.length ∧ is.length = is.length ∧ is.length ≤ k' ∧ IList w₃.heap.size v a2 c2 is ∧ (∀ x ∈ is, 0 ≤ x ∧ x < (16 : Nat)) ∧ ST v) → True := fun _ => trivial
    refine hix fun q hq => ⟨_, hq, br_dec (fun h0 => hix fun q' hq' => ⟨_, hq', br_dec (fun h16 => hix fun q'' hq'' => ⟨_, hq'', fun B2 w₈ hn8 => ?_⟩) fun _ => ?_⟩) fun _ => ?_⟩
    · refine IList.push hil rfl hn8 (by omega) stv.2.2.2 fun a3 c3 w₉ hu9 hl9 => ?_
      refine ⟨⟨k + 1, _, rfl, hk', rfl, by simp; omega, hl9, fun x hx => ?_, keepU stv hu9 fun x hx => hx⟩, meas hk'⟩
      rcases List.mem_append.1 hx with hx | hx
      · exact his x hx
      · simp at hx; subst hx; exact ⟨h0, h16⟩
    · exact ⟨⟨k + 1, is, rfl, hk', rfl, by omega, hil, his, stv⟩, meas hk'⟩
    · exact ⟨⟨k + 1, is, rfl, hk', rfl, by omega, hil, his, stv⟩, meas hk'⟩
  refine ⟨fun x u => ∃ i : Nat, x = i ∧ i ≤ N ∧ ST u, fun x _ => ((N : Int) - x).toNat, ⟨0, rfl, by omega, st3⟩, ?_⟩
  intro x u hx
  obtain ⟨i, hxi, hi, stu⟩ := hx
  subst hxi
  refine br_dec (fun hlt => ?_) fun _ => ?_
  · have hi' : i < N := by omega
    have ew := ewi (i := i) (by omega)
    simp only [ew, ff_bv]
    refine put stu (by omega) (by omega) fun u' _ st' => ?_
    exact ⟨⟨i + 1, rfl, hi', st'⟩, meas hi'⟩
  · refine ⟨fun x u => ∃ i : Nat, x = i ∧ i ≤ l.length ∧ i ≤ 16 ∧ ST u, fun x _ => ((16 : Int) - x).toNat, ⟨0, rfl, by omega, by omega, stu⟩, ?_⟩
    rintro x u ⟨i, rfl, hi, hi16, stu⟩
    refine ⟨fun u' => u' = u ∧ i < l.length ∧ i < 16, br_dec (fun hlt => br_dec (fun hlt16 => ⟨rfl, by omega, by omega⟩) fun _ => bads stu) fun _ => bads stu, ?_⟩
    rintro _ ⟨rfl, hil, hil16⟩
    rename_i u
    have hil' : i < l.length := hil
    have hik : (16 : Nat) ≥ i + 1 := by omega
    have q1 : IntKind.i64.wrap ((i : Int) * 8) = ((i * 8 : Nat) : Int) := by rw [w64 (by omega) (by omega)]; omega
    have q2 : IntKind.i64.wrap (((i * 8 : Nat) : Int) * 128) = ((i * 8 * 128 : Nat) : Int) := by rw [w64 (by omega) (by omega)]; omega
    have q3 : ∀ {k : Nat}, k < 128 → IntKind.i64.wrap (((i * 8 * 128 : Nat) : Int) + (k : Int)) = ((i * 8 * 128 + k : Nat) : Int) := fun h => by rw [w64 (by omega) (by omega)]; omega
    simp only [q1, q2]
    have hsh := hs l[i] (List.getElem_mem _)
    refine ⟨ST, fun w₁₆ hd16 => ?_, fun w₂₅ st25 => ⟨⟨i + 1, w64 (by omega) (by omega), hil', by omega, st25⟩, by rw [w64 (by omega) (by omega)]; omega⟩⟩
    have st16 := keep stu hd16.upd
    refine ⟨fun u => Ext w₁₆ u, Upd.refl _ _, SliceAt.idx (r := blkR) (h.ext st16.2.1) rfl hil' fun b o vs ha hrow hR' hG => ?_⟩
    obtain ⟨as1, cs1, rfl, hsl⟩ := blkR_elim hR'
    simp only [add_lit]
    refine ⟨_, fun u1 hu1 => row_cell (hrow.ext hu1) (j := 1) rfl, SliceAt.idx (r := blkR) (h.ext st16.2.1) rfl hil' fun b2 o2 vs2 ha2 hrow2 hR2 hG2 => ?_⟩
    obtain ⟨as2, cs2, rfl, _⟩ := blkR_elim hR2
    simp only [add_lit]
    refine ⟨_, fun u1 hu1 => row_cell (hrow2.ext hu1) (j := 2) rfl, SliceAt.idx (r := blkR) (h.ext st16.2.1) rfl hil' fun b3 o3 vs3 ha3 hrow3 hR3 hG3 => ?_⟩
    obtain ⟨as3, cs3, rfl, _⟩ := blkR_elim hR3
    simp only [add_lit]
    refine ⟨_, fun u1 hu1 => row_cell (hrow3.ext hu1) (j := 3) rfl, ?_⟩
    have hera := l[i].era.toNat_lt
    have hseq := l[i].seq.toNat_lt
    rw [wrap32 (by omega), wu64n (by omega)]
    refine (carrackref04_PutHead_spec 128 ⟨l[i].kind, l[i].era.toNat, l[i].seq.toNat⟩ ⟨by show l[i].era.toNat < _; omega, by show l[i].seq.toNat < _; omega⟩ w₁₆ (by decide) (by decide)).mono ?_
    rintro _ w₁₇ ⟨he17, a6, c6, rfl, hb6, hf6, hc6⟩
    have st17 := keep st16 he17
    refine ⟨_, _, _, _, rfl, he17, ST, br_eq (fun hz => ?_) fun _ => st17, ?_⟩
    · refine SliceAt.idx (r := blkR) (h.ext st17.2.1) rfl hil' fun b4 o4 vs4 ha4 hrow4 hR4 hG4 => ?_
      obtain ⟨as4, cs4, rfl, _⟩ := blkR_elim hR4
      refine ⟨_, row_cell hrow4 (j := 0) rfl, br_intro (fun _ => ?_) fun _ => st17⟩
      have hlen : (putHead 128 ⟨l[i].kind, l[i].era.toNat, l[i].seq.toNat⟩).1.length = 128 := putHead_len0 (size := 128) (by omega)
      generalize putHead 128 ⟨l[i].kind, l[i].era.toNat, l[i].seq.toNat⟩ = pp at *
      refine ⟨fun x v => ∃ k : Nat, x = k ∧ k ≤ 128 ∧ ST v ∧ BytesAt v a6 pp.1, fun x _ => ((128 : Int) - x).toNat, ⟨0, rfl, by omega, st17, hb6⟩, ?_⟩
      rintro x v ⟨k, rfl, hk, stv, hbv⟩
      refine br_dec (fun hlt => ?_) fun _ => stv
      have hk' : k < 128 := by omega
      simp only [q3 hk', ewi (show k < 17592186044000 by omega)]
      refine idx_byte hbv (by omega) (by omega) ?_
      simp only [Int.toNat_natCast]
      refine put stv (by omega) (by omega) fun u' hu st' => ⟨⟨k + 1, rfl, hk', st', RowAt.upd hbv hu fun p hp e => ?_⟩, by omega⟩
      have := hf6 p hp
      have := st16.2.2.2
      omega
    · intro w₂₀ st20
      refine ⟨fun x v => ∃ k : Nat, x = k ∧ k ≤ 7 ∧ ST v, fun x _ => ((7 : Int) - x).toNat, ⟨0, rfl, by omega, st20⟩, ?_⟩
      rintro x v ⟨k, rfl, hk, stv⟩
      refine SliceAt.idx (r := blkR) (h.ext stv.2.1) rfl hil' fun b5 o5 vs5 ha5 hrow5 hR5 hG5 => ?_
      obtain ⟨as5, cs5, rfl, hsl5⟩ := blkR_elim hR5
      simp only [add_lit]
      refine ⟨_, _, _, row_cell hrow5 (j := 4) rfl, br_dec (fun hlt => br_dec (fun hlt7 => ?_) fun _ => stv) fun _ => stv⟩
      have hk7 : k < 7 := by omega
      have hks : k < l[i].sheets.length := by omega
      refine SliceAt.idx (r := blkR) (h.ext stv.2.1) rfl hil' fun b6 o6 vs6 ha6 hrow6 hR6 hG6 => ?_
      obtain ⟨as6, cs6, rfl, hsl6⟩ := blkR_elim hR6
      simp only [add_lit]
      refine ⟨_, _, _, row_cell hrow6 (j := 4) rfl, SliceAt.idx (r := sheetR) hsl6 rfl hks fun b7 o7 vs7 ha7 hrow7 hR7 hG7 => ?_⟩
      obtain ⟨ac, cc, ab7, cb7, rfl, hch, hby⟩ := sheetR_elim hR7
      refine ⟨_, _, _, _, _, _, _, _, hrow7.cells, (carracklaw12_page_spec hch hby (hsh _ (List.getElem_mem _))).mono ?_⟩
      rintro _ w₂₂ ⟨a11, c11, pg, rfl, hpl, hpb, hpf, he22⟩
      have st22 := keep stv he22
      refine ⟨_, _, _, rfl, fun x z => ∃ m : Nat, x = m ∧ m ≤ 128 ∧ ST z ∧ BytesAt z a11 pg, fun x _ => ((128 : Int) - x).toNat, ⟨0, rfl, by omega, st22, hpb⟩, ?_⟩
      rintro x z ⟨m, rfl, hm, stz, hbz⟩
      have q4 : IntKind.i64.wrap ((k : Int) + 1) = ((k + 1 : Nat) : Int) := w64 (by omega) (by omega)
      have q5 : IntKind.i64.wrap (((k + 1 : Nat) : Int) * 128) = (((k + 1) * 128 : Nat) : Int) := by rw [w64 (by omega) (by omega)]; omega
      have q6 : IntKind.i64.wrap (((i * 8 * 128 : Nat) : Int) + (((k + 1) * 128 : Nat) : Int)) = ((i * 8 * 128 + (k + 1) * 128 : Nat) : Int) := by rw [w64 (by omega) (by omega)]; omega
      simp only [q4, q5, q6]
      refine br_dec (fun hlt => ?_) fun _ => ⟨⟨k + 1, rfl, by omega, stz⟩, by omega⟩
      have hm' : m < 128 := by omega
      have q7 : IntKind.i64.wrap (((i * 8 * 128 + (k + 1) * 128 : Nat) : Int) + (m : Int)) = ((i * 8 * 128 + (k + 1) * 128 + m : Nat) : Int) := by rw [w64 (by omega) (by omega)]; omega
      simp only [q7, ewi (show m < 17592186044000 by omega)]
      have hix : ∀ {K : Int → Prop}, K ((pg.getD m 0).toNat : Int) → idxP a11 128 (m : Int) 1 fun q => ∃ x : Int, z.cell? q = some (.int .u8 x) ∧ K x := fun {K} hK => by
        have := idx_byte (K := K) hbz (i := (m : Int)) (by omega) (by omega) (by simpa using hK)
        rwa [hpl] at this
      refine hix ?_
      refine put stz (by omega) (by omega) fun u' hu st' => ⟨⟨m + 1, rfl, by omega, st', RowAt.upd hbz hu fun p hp e => ?_⟩, by omega⟩
      have := hpf p hp
      have := stv.2.2.2
      omega
end Go.Den
end
section
set_option linter.unusedVariables false
set_option linter.unusedSimpArgs false
set_option maxRecDepth 8000
namespace Go.Den
theorem CAt.low {A S : Nat} {w : World} {p : Nat} {c : Chip} (h : CAt A S w p c) : A ≤ p ∧ p < S := by
  obtain ⟨L, G, hr, hF, _⟩ := h
  exact hF p (by simp)
theorem cHits {A S : Nat} {w : World} {p : Nat} {c : Chip} (h : CAt A S w p c) (hA : A ≤ w.heap.size) {Gin : Nat → Prop} {a : Option Addr} {vs : List Value} {hs : List Hit} {cp : Nat} (hr : RowAt w a vs) (hh : HitRow w Gin vs hs)
    (hG : ∀ x, Gin x → x < A ∨ S ≤ x) (hap : hs ≠ [] → ∀ q, a = some q → q.block < A ∨ S ≤ q.block) (hn : hs.length ≤ 100000) (hm : ∀ t ∈ hs, t.mask.length ≤ 140737488355232) :
    CallsR prog K.nand_Chip_Hits #[.pointer (some ⟨p, 0, none⟩), .slice a hs.length cp] w fun v w' => v = .int .i64 ((c.setHits hs).2 : Nat) ∧ Upd (Bet A S) w w' ∧ CAt A S w' p (c.setHits hs).1 := by
  have hlow := h.low
  obtain ⟨L, G, hp, hF, hGG⟩ := h
  refine (nand_Hits_spec hp hr hh (fun x hx e => by have := hG x hx; omega) (fun hne q hq e => by have := hap hne q hq; omega) hn hm).mono ?_
  rintro _ w' ⟨hu, L', G', hs', hc, hG', rfl⟩
  refine ⟨rfl, hu.mono fun x _ hx => by rw [hx]; exact hlow, L', G', hc, fun x hx => hF x (by rw [hs'.1, hs'.2.2.2.2] at hx; exact hx), fun x hx => ?_⟩
  rcases hG' x hx with hx | hx
  · have := hGG x hx; have := hu.size; omega
  · omega
theorem cProgF {F : Nat → Prop} {A : Nat} {w : World} {p : Nat} {c : Chip} (h : CIn F A w p c) (block page : Int) {a : Option Addr} {b : List UInt8} {cp : Nat} (hb : BytesAt w a b) (hap : ∀ q, a = some q → ¬ F q.block) :
    CallsR prog K.nand_Chip_Program #[.pointer (some ⟨p, 0, none⟩), .int .i64 block, .int .i64 page, .slice a b.length cp] w fun v w' => v = .int .i64 ((c.program block page b).2 : Nat) ∧ Upd F w w' ∧ CIn F A w' p (c.program block page b).1 := by
  obtain ⟨L, G, hr, hF, hG⟩ := h
  refine (nand_Program_spec hr block page hb (fun q hq hm => hap q hq (hF _ (by
    simp only [List.mem_cons] at hm ⊢
    rcases hm with hm | hm
    · exact .inl hm
    · exact .inr (.inr hm))))).mono ?_
  rintro _ w' ⟨hu, L', hs', hc, rfl⟩
  exact ⟨rfl, hu.mono fun x _ hx => hF x hx, L', G, hc, fun x hx => hF x (by rw [hs'.1, hs'.2.2.2.2] at hx; exact hx), fun x hx => ⟨(hG x hx).1, Nat.lt_of_lt_of_le (hG x hx).2 hu.size⟩⟩
theorem cEraseF {F : Nat → Prop} {A : Nat} {w : World} {p : Nat} {c : Chip} (h : CIn F A w p c) (block : Int) :
    CallsR prog K.nand_Chip_Erase #[.pointer (some ⟨p, 0, none⟩), .int .i64 block] w fun v w' => v = .int .i64 ((c.erase block).2 : Nat) ∧ Upd F w w' ∧ CIn F A w' p (c.erase block).1 := by
  obtain ⟨L, G, hr, hF, hG⟩ := h
  refine (nand_Erase_spec hr block).mono ?_
  rintro _ w' ⟨hu, L', hs', hc, rfl⟩
  exact ⟨rfl, hu.mono fun x _ hx => hF x hx, L', G, hc, fun x hx => hF x (by rw [hs'.1, hs'.2.2.2.2] at hx; exact hx), fun x hx => ⟨(hG x hx).1, Nat.lt_of_lt_of_le (hG x hx).2 hu.size⟩⟩
end Go.Den
end
section
set_option linter.unusedVariables false
set_option linter.unusedSimpArgs false
set_option maxRecDepth 100000
namespace Go.Den
def w12 : Chip := newChip 16 8 128 0
def h12 : List UInt8 × Nat := putHead 128 ⟨1, 1, 1⟩
def x12 : Chip × Nat := w12.program 3 0 h12.1
def works12 : Bool := decide (h12.2 = 0) && decide (h12.1.length = 128) && decide (takenPool (scanPool w12) w12 = []) && !w12.dead && decide (x12.2 = 0) && !x12.1.dead && decide (takenPool (scanPool x12.1) x12.1 = [⟨3, ⟨1, 1, 1⟩, false⟩]) && (pagesS x12.1 3).isEmpty
theorem works12_true : works12 = true := by decide +kernel
end Go.Den
end
section
set_option linter.unusedVariables false
set_option linter.unusedSimpArgs false
set_option maxRecDepth 8000
namespace Go.Den
theorem IList.pushX {G : Nat → Prop} {S : Nat} {w w₁ : World} {a : Option Addr} {cap n : Nat} {l : List Int} {B : Nat} {x : Int} (h : IList S w a cap l) (hG : ∀ b, a = some ⟨b, 0, none⟩ → ¬ G b) (hGs : ∀ x, G x → x < w.heap.size) (hn : n = l.length) (hnew : New w (.cells #[.int .i64 x] T.int) B w₁) (hb : l.length + 1 ≤ 17592186044000) (hS : S ≤ w.heap.size) {K : Option Addr → Nat → Nat → World → Prop}
    (hk : ∀ a' c' w', Upd (fun b => S ≤ b ∧ ¬ G b) w w' → IList S w' a' c' (l ++ [x]) → (∀ b, a' = some ⟨b, 0, none⟩ → ¬ G b) → K a' (l ++ [x]).length c' w') : appendP T.int 1 8 [Value.int .i64 0] a n cap (.slice (some ⟨B, 0, none⟩) 1 1) w₁ K := by
  subst hn
  have hrow : RowAt w₁ (some ⟨B, 0, none⟩) [.int .i64 x] := RowAt.of hnew.get fun j v hj => by simpa using hj
  refine append_own (h.1.ext hnew.upd) rfl (read_row hrow rfl) rfl (fun v hv => by simp at hv; rw [hv]; rfl) rfl (by omega) (by omega) fun a' c' w' hu ho hf => ?_
  have hs := hnew.size
  have := hk a' c' w' ((Upd.ext hnew.upd).trans (hu.mono fun b _ hb => ⟨h.2 b hb, hG b hb⟩)) ⟨by simpa using ho, fun b hb => by
    rcases hf with hf | ⟨b', hb', hl⟩
    · subst hf; exact h.2 b hb
    · rw [hb'] at hb; cases hb; omega⟩ (fun b hb hg => by
    rcases hf with hf | ⟨b', hb', hl⟩
    · subst hf; exact hG b hb hg
    · rw [hb'] at hb; cases hb; have := hGs _ hg; omega)
  simpa using this
theorem IList.lt {S : Nat} {w : World} {a : Option Addr} {cap : Nat} {l : List Int} (h : IList S w a cap l) {b : Nat} (hb : a = some ⟨b, 0, none⟩) : b < w.heap.size := h.1.blk hb
def countS (low : Nat) (l : List Part) : List Int := (l.filter fun x => decide (low ≤ x.seq)).map (·.block)
def dropS' (low : Nat) (l : List Part) : List Int := (l.filter fun x => !decide (low ≤ x.seq)).map (·.block)
theorem filter_map_succ {α β : Type} (p : α → Bool) (f : α → β) {l : List α} {i : Nat} (hi : i < l.length) : ((l.take (i + 1)).filter p).map f = ((l.take i).filter p).map f ++ if p l[i] then [f l[i]] else [] := by
  rw [List.take_succ_eq_append_getElem hi, List.filter_append, List.map_append]
  congr 1
  rw [List.filter_cons]
  split <;> rfl
theorem filter_map_len {α β : Type} (p : α → Bool) (f : α → β) (l : List α) : ((l.filter p).map f).length ≤ l.length := by
  rw [List.length_map]
  exact List.length_filter_le _ _
theorem readParts_length {c : Chip} (era : Nat) : (readParts c era).length ≤ c.nb := by
  unfold readParts
  split
  · exact Nat.zero_le _
  · refine Nat.le_trans (partsL_length _ _ _) ?_
    unfold takenPool
    rw [isort_length]
    exact takenRaw_length _ _ _
theorem scan_Blocks_spec {F : Nat → Prop} {A : Nat} {w : World} {p : Nat} {c : Chip} (h : CIn F A w p c) (hnb : c.nb < 20) (era : Nat) :
    CallsR prog K.scan_Blocks #[.pointer (some ⟨p, 0, none⟩), .int .u32 era] w fun v w' => ∃ a ca b cb, v = .tuple #[.slice a (countS (lowL (readParts c era)) (readParts c era)).length ca, .slice b (dropS' (lowL (readParts c era)) (readParts c era)).length cb, .int .i64 (readErr c era : Nat)] ∧
      IList w.heap.size w' a ca (countS (lowL (readParts c era)) (readParts c era)) ∧ IList w.heap.size w' b cb (dropS' (lowL (readParts c era)) (readParts c era)) ∧ Ext w w' := by
  apply scan_Blocks.sh
  suffices H : ∀ R : Value → World → Prop, (∀ v w', (∃ a ca b cb, v = .tuple #[.slice a (countS (lowL (readParts c era)) (readParts c era)).length ca, .slice b (dropS' (lowL (readParts c era)) (readParts c era)).length cb, .int .i64 (readErr c era : Nat)] ∧
      IList w.heap.size w' a ca (countS (lowL (readParts c era)) (readParts c era)) ∧ IList w.heap.size w' b cb (dropS' (lowL (readParts c era)) (readParts c era)) ∧ Ext w w') → R v w') → scan_Blocks.body (some ⟨p, 0, none⟩) era w R from H _ fun _ _ h => h
  intro R hR
  unfold scan_Blocks.body
  refine (scan_read_spec h hnb era).mono ?_
  have hlen := readParts_length (c := c) era
  generalize readParts c era = l at *
  generalize lowL l = low at *
  rintro _ w₁ ⟨a1, c1, rfl, hl, he1⟩
  have hs1 := he1.size
  obtain ⟨G, hG1, hG2⟩ := hl.slice
  refine ⟨_, _, _, _, _, rfl, fun a2 l2 c2 a3 l3 c3 x u => ∃ i : Nat, x = i ∧ i ≤ l.length ∧ l2 = (countS low (l.take i)).length ∧ l3 = (dropS' low (l.take i)).length ∧ IList w₁.heap.size u a2 c2 (countS low (l.take i)) ∧ IList w₁.heap.size u a3 c3 (dropS' low (l.take i)) ∧ (∀ b, a2 = some ⟨b, 0, none⟩ → a3 ≠ some ⟨b, 0, none⟩) ∧ Ext w₁ u, fun _ _ _ _ _ _ x _ => ((l.length : Int) - x).toNat,
    ⟨0, rfl, by omega, rfl, rfl, IList.nil _ _, IList.nil _ _, fun _ h => by (cases h), Upd.refl _ _⟩, ?_⟩
  rintro a2 l2 c2 a3 l3 c3 x u ⟨i, rfl, hi, rfl, rfl, hi2, hi3, hne, heu⟩
  have k2 := filter_map_len (fun x : Part => decide (low ≤ x.seq)) (·.block) (l.take i)
  have k3 := filter_map_len (fun x : Part => !decide (low ≤ x.seq)) (·.block) (l.take i)
  rw [List.length_take] at k2 k3
  change (countS low (l.take i)).length ≤ _ at k2
  change (dropS' low (l.take i)).length ≤ _ at k3
  refine br_dec (fun hlt => ?_) fun hge => ?_
  · have hi' : i < l.length := by omega
    have ew : IntKind.i64.wrap ((i : Int) + 1) = ((i + 1 : Nat) : Int) := w64 (by omega) (by omega)
    simp only [ew]
    have s2 : countS low (l.take (i + 1)) = countS low (l.take i) ++ if decide (low ≤ l[i].seq) then [l[i].block] else [] := filter_map_succ _ _ hi'
    have s3 : dropS' low (l.take (i + 1)) = dropS' low (l.take i) ++ if !decide (low ≤ l[i].seq) then [l[i].block] else [] := filter_map_succ _ _ hi'
    refine SliceAt.idx (r := partR) (hG1.ext heu) rfl hi' fun b o vs ha hrow hR' hG => ?_
    obtain ⟨ac, cc, rfl, _, _⟩ := partR_elim hR'
    refine ⟨_, _, _, _, _, hrow.cells, new_put (vs := partVs l[i].block l[i].seq ac l[i].pages.length cc) rfl fun B1 w₄ hb4 hs4 he4 g4 => ?_⟩
    simp only [add_lit, Nat.zero_add]
    have hsu := heu.size
    refine ⟨_, cell_of g4 rfl, br_dec (fun hge => ⟨_, cell_of g4 rfl, fun B2 w₅ hn5 => ?_⟩) fun hlt' => ⟨_, cell_of g4 rfl, fun B2 w₅ hn5 => ?_⟩⟩
    · rw [decide_eq_true (by omega : low ≤ l[i].seq)] at s2 s3
      simp only [if_true, Bool.not_true, Bool.false_eq_true, if_false, List.append_nil] at s2 s3
      refine IList.pushX (G := fun x => a3 = some ⟨x, 0, none⟩) (hi2.ext he4) (fun b hb hb' => hne b hb hb') (fun x hx => (hi3.ext he4).lt hx) rfl hn5 (by omega) (by omega) fun a' c' w₆ hu6 hl6 hne6 => ?_
      rw [← s2] at hl6 ⊢
      have h3 : IList w₁.heap.size w₆ a3 c3 (dropS' low (l.take i)) := ⟨(hi3.ext he4).1.upd hu6 fun b hb hF => hF.2 hb, hi3.2⟩
      refine ⟨⟨i + 1, rfl, hi', rfl, by rw [s3], hl6, by rw [s3]; exact h3, fun b hb hb' => hne6 b hb hb', (heu.trans he4).beyond hu6 fun x hx => hx.1⟩, meas hi'⟩
    · rw [decide_eq_false (by omega : ¬ low ≤ l[i].seq)] at s2 s3
      simp only [if_true, Bool.not_false, Bool.false_eq_true, if_false, List.append_nil] at s2 s3
      refine IList.pushX (G := fun x => a2 = some ⟨x, 0, none⟩) (hi3.ext he4) (fun b hb hb' => hne b hb' hb) (fun x hx => (hi2.ext he4).lt hx) rfl hn5 (by omega) (by omega) fun a' c' w₆ hu6 hl6 hne6 => ?_
      rw [← s3] at hl6 ⊢
      have h3 : IList w₁.heap.size w₆ a2 c2 (countS low (l.take i)) := ⟨(hi2.ext he4).1.upd hu6 fun b hb hF => hF.2 hb, hi2.2⟩
      refine ⟨⟨i + 1, rfl, hi', by rw [s2], rfl, by rw [s2]; exact h3, hl6, fun b hb hb' => hne6 b hb' hb, (heu.trans he4).beyond hu6 fun x hx => hx.1⟩, meas hi'⟩
  · have hii : i = l.length := by omega
    subst hii
    rw [List.take_length] at hi2 hi3 ⊢
    exact hR _ _ ⟨a2, c2, a3, c3, rfl, hi2.weak hs1, hi3.weak hs1, he1.trans heu⟩
/-- of no block nothing is said -/
theorem scan_Facts_none {F : Nat → Prop} {A : Nat} {w : World} {p : Nat} {c : Chip} (h : CIn F A w p c) (hnb : c.nb < 20) (era : Nat) (hno : readParts c era = []) :
    CallsR prog K.scan_Facts #[.pointer (some ⟨p, 0, none⟩), .int .u32 era] w fun v w' => v = .tuple #[.slice none 0 0, .int .i64 (readErr c era : Nat)] ∧ Ext w w' := by
  apply scan_Facts.sh
  unfold scan_Facts.body
  refine (scan_read_spec h hnb era).mono ?_
  rw [hno]
  rintro _ w₁ ⟨a1, c1, rfl, hl, he1⟩
  refine ⟨_, _, _, _, _, rfl, fun a l c x u => a = none ∧ l = 0 ∧ c = 0 ∧ x = 0 ∧ u = w₁, fun _ _ _ _ _ => 0, ⟨rfl, rfl, rfl, rfl, rfl⟩, ?_⟩
  rintro a l c' x u ⟨rfl, rfl, rfl, rfl, rfl⟩
  exact br_dec (fun h => absurd h (by simp)) fun _ => ⟨rfl, he1⟩
/-- the same numbers are the same -/
theorem ints_same {w : World} {a b : Option Addr} {ca cb : Nat} {l : List Int} (ha : RowAt w a (l.map (Value.int .i64))) (hb : RowAt w b (l.map (Value.int .i64))) (hn : l.length < 9000000000000000000) :
    CallsR prog K.carrackref00_Ints #[.slice a l.length ca, .slice b l.length cb] w fun v w' => v = .bool true ∧ Ext w w' := by
  apply carrackref00_Ints.sh
  unfold carrackref00_Ints.body
  refine br_ne (fun h => absurd rfl h) fun _ => ⟨fun x u => ∃ i : Nat, x = i ∧ i ≤ l.length ∧ Ext w u, fun x _ => ((l.length : Int) - x).toNat, ⟨0, rfl, by omega, Upd.refl _ _⟩, ?_⟩
  rintro x u ⟨i, rfl, hi, heu⟩
  refine br_dec (fun hlt => ?_) fun _ => ⟨rfl, heu⟩
  have hi' : i < l.length := by omega
  intro w₂ hd2
  have e2 := heu.trans hd2.upd
  have ix : ∀ {a : Option Addr} {K : Int → Prop}, RowAt w a (l.map (Value.int .i64)) → K l[i] → idxP a l.length (i : Int) 1 fun q => ∃ x : Int, (∀ u1, u1 = w₂ → u1.cell? q = some (.int .i64 x)) ∧ K x := fun {a K} hr hK => by
    obtain ⟨b', o', e, hc⟩ := (hr.ext e2).cell (i := i) (v := .int .i64 l[i]) (by simp [hi'])
    subst e
    refine ⟨by omega, by omega, ?_⟩
    simp only [nilC_some', add_lit, Nat.mul_one, Int.toNat_natCast]
    exact ⟨_, fun u1 hu1 => hu1 ▸ hc, hK⟩
  refine ⟨(· = w₂), rfl, ix ha (ix hb (br_ne (fun h => absurd rfl h) fun _ => ?_))⟩
  rw [w64 (by omega) (by omega)]
  exact ⟨⟨i + 1, rfl, hi', e2⟩, meas hi'⟩
theorem Still.ask {c : Chip} {nb np sz sp : Nat} (h : Still c nb np sz sp) (i j : Int) : c.ask i j = if i < 0 ∨ i ≥ nb ∨ j < 0 ∨ j ≥ np then 2 else 0 := by
  unfold Chip.ask
  rw [h.dead, h.nb, h.np]; rfl
/-- what works tells -/
theorem carracklaw12_works_spec (w : World) : CallsR prog K.carracklaw12_works #[] w fun v w' => v = .bool true ∧ Ext w w' := by
  have hM := works12_true
  simp only [works12, Bool.and_eq_true, decide_eq_true_eq, Bool.not_eq_true', List.isEmpty_iff] at hM
  obtain ⟨⟨⟨⟨⟨⟨⟨m0, m1⟩, m2⟩, m3⟩, m4⟩, m5⟩, m6⟩, m7⟩ := hM
  apply carracklaw12_works.sh
  unfold carracklaw12_works.body
  refine (cNew w (A := w.heap.size) (nb := 16) (np := 8) (sz := 128) (sp := 0) (Nat.le_refl _) (by omega) (by omega) (by omega) (by omega) (by omega) (by omega) (by omega)).mono ?_
  rintro _ w₁ ⟨he1, p, rfl, hc1⟩
  have hnb : w12.nb < 20 := by decide
  change CAt w.heap.size w₁.heap.size w₁ p w12 at hc1
  have hnb' : x12.1.nb < 20 := by
    have : x12.1.nb = w12.nb := (Chip.program_geo w12 3 0 h12.1).1
    omega
  have hx : x12 = w12.program 3 0 h12.1 := rfl
  have hh : h12 = putHead 128 ⟨1, 1, 1⟩ := rfl
  generalize x12 = X at *
  generalize h12 = H at *
  generalize w12 = W at *
  have hr1 : readParts W 1 = [] := by unfold readParts; rw [m2]; split <;> rfl
  have hr0 : readParts W 0 = [] := by unfold readParts; rw [m2]; split <;> rfl
  have he1' : readErr W 1 = 0 := by unfold readErr; rw [m3]; rfl
  have he0' : readErr W 0 = 2 := by unfold readErr; rw [m3]; rfl
  refine ⟨_, _, rfl, (scan_Facts_none hc1 hnb 1 hr1).mono ?_⟩
  rintro _ w₂ ⟨rfl, he2⟩
  rw [he1']
  refine ⟨_, _, _, _, rfl, (scan_Facts_none (hc1.ext he2) hnb 0 hr0).mono ?_⟩
  rintro _ w₃ ⟨rfl, he3⟩
  rw [he0']
  refine ⟨_, _, _, _, rfl, (carrackref04_PutHead_spec 128 ⟨1, 1, 1⟩ ⟨by decide, by decide⟩ w₃ (by decide) (by decide)).mono ?_⟩
  rw [← hh]
  rintro _ w₄ ⟨he4, a3, c3, rfl, hb3, hf3, hc3⟩
  have e4 := (he2.trans he3).trans he4
  have hs2 := he2.size
  have hs3 := he3.size
  have hcx := cProgF (((hc1.ext he2).ext he3).ext he4) 3 0 (cp := c3) hb3 (fun q hq hF => by have := hf3 q hq; have := hF.2; omega)
  rw [← hx, m4] at hcx
  refine ⟨_, _, _, _, rfl, hcx.mono ?_⟩
  rintro _ w₅ ⟨rfl, hu5, hc5⟩
  have e5 : Ext w w₅ := (he1.trans e4).beyond hu5 fun x hx => hx.1
  have hpx : readParts X.1 1 = [⟨3, 1, []⟩] := by
    unfold readParts readErr
    rw [m5, m6]
    unfold partsL partOf
    simp only [List.filter_cons, List.filter_nil, isLog]
    rw [← m7]; rfl
  have hex : readErr X.1 1 = 0 := by unfold readErr; rw [m5]; rfl
  refine ⟨_, rfl, (scan_Blocks_spec hc5 hnb' 1).mono ?_⟩
  rw [hpx, hex]
  rintro _ w₆ ⟨a4, c4, a5, c5, rfl, hi4, hi5, he6⟩
  refine ⟨_, _, _, _, _, _, _, rfl, ?_⟩
  refine br_eq (fun _ => ?_) fun h => absurd rfl h
  refine br_eq (fun _ => ?_) fun h => absurd rfl h
  refine br_eq (fun _ => ?_) fun h => absurd rfl h
  refine br_eq (fun _ => ?_) fun h => absurd rfl h
  refine br_eq (fun _ => ?_) fun h => absurd rfl h
  intro B1 w₇ hn7
  have hcnt : countS (lowL [⟨3, 1, []⟩]) [⟨3, 1, []⟩] = [3] := by decide
  have hdrp : dropS' (lowL [⟨3, 1, []⟩]) [⟨3, 1, []⟩] = [] := by decide
  rw [hcnt] at hi4 ⊢
  rw [hdrp] at hi5 ⊢
  refine (ints_same (l := [3]) (ca := c4) (cb := 1) (hi4.1.row.ext hn7.upd) (RowAt.of hn7.get fun j v hj => by simpa using hj) (by decide)).mono ?_
  rintro _ w₈ ⟨rfl, he8⟩
  refine ⟨_, rfl, ?_⟩
  rw [br_true]
  exact br_eq (fun _ => ⟨rfl, ((e5.trans he6).trans hn7.upd).trans he8⟩) fun h => absurd rfl h
end Go.Den
end
section
set_option linter.unusedVariables false
set_option linter.unusedSimpArgs false
namespace Go.Den
open Go.ChangeShapes Go.WideShapes Go.ChangeAt Go.RowKit
theorem Ext.below {w w' : World} (h : Ext w w') : Below w.heap.size w w' := ⟨h.os, h.tape, h.output, h.size, fun k hk => h.blk k hk (fun hf => hf)⟩
section
variable {H : Type} {enc : TypeId × Value → H} {P : Program}
theorem trodAll_stays (hl : laidOutB P = true) {W W' : World} (hb : Below W.heap.size W W') {sp : Nat → Bool} : ∀ {ts : List TypeId} {vs : List Value} {ds : List (DataW H)} {ps : List MemPlace}, (∀ t ∈ ts, P.readableRec t = true ∧ t < P.types.size) →
    DataW.TrodAll enc P W 0 (fun _ => true) true ts vs ds ps → (∀ x ∈ ps, x.block < W.heap.size) → (∀ x ∈ ps, sp x.block = true) → DataW.TrodAll enc P W' 0 sp true ts vs ds ps
  | [], _, _, _, _, h, _, _ => by
    obtain ⟨rfl, rfl, rfl⟩ := trodAll_nil h
    rfl
  | t :: ts, _, _, _, hr, h, hlt, hsp => by
    obtain ⟨v, vs1, d, ds1, a, b, rfl, rfl, rfl, h1, h2⟩ := trodAll_cons h
    exact ⟨a, b, WideElems.Trod_stays hl (hr t (by simp)).1 (hr t (by simp)).2 h1 (fun x hx => hb.same (hlt x (by simp [hx]))) (fun x hx => hsp x (by simp [hx])),
      trodAll_stays hl hb (fun u hu => hr u (by simp [hu])) h2 (fun x hx => hlt x (by simp [hx])) (fun x hx => hsp x (by simp [hx])), rfl⟩
/-- a law's answer: true, and all arguments as they were -/
theorem post_true (hl : laidOutB P = true) {f : Func} {s : ChangeSpec} {apart fresh handsOn again : Bool} {W W' : World} {args : Array Value} {ds gs : List (DataW H)} {before : List MemPlace} {tb : TypeId}
    (hW : DataW.Whole enc P f.params.toList s.vars apart W args.toList ds gs before) (hv : s.vars = []) (hrows : ∀ t ∈ f.params.toList, P.readableRec t = true ∧ t < P.types.size) (hb : Below W.heap.size W W')
    (ht : P.underlying tb = some .bool) (hres : f.resultTypes = #[tb]) (hfn : (s.fn H (ds ++ gs)) = { results := [.lit (.bool true)], args := ds }) :
    s.post enc P f apart fresh handsOn again W args (.bool true) W' := by
  have hlt := hW.lt
  have hW' := hW
  obtain ⟨p, q, hA, hV, hpq, hz, hn⟩ := hW'
  rw [hv] at hV
  obtain ⟨rfl, rfl⟩ := trodVars_none hV
  simp only [List.append_nil] at hpq
  subst hpq
  have hargs : ∀ sp : Nat → Bool, (∀ x ∈ before, sp x.block = true) → DataW.TrodAll enc P W' 0 sp true f.params.toList args.toList ds before := fun sp hsp => trodAll_stays hl hb hrows hA hlt hsp
  have hresT : ∀ (b : Nat) (sp : Nat → Bool) (hd : Bool), DataW.TrodAll enc P W' b sp hd f.resultTypes.toList ((Value.bool true).resultList f.resultTypes.size) [.lit (.bool true)] [] := by
    intro b sp hd
    rw [hres]
    exact trodAll_cons_mk (shut_bool ht _) trodAll_mk0
  refine ⟨ds, [], before, [], before, [], hW, ?_, ?_, ?_, hb.frame _, fun _ => ⟨?_, .lit (.bool true) :: ds, [], before, ⟨before, [], ?_, ?_, by simp, ?_, hn⟩, fun p hp _ => hp⟩⟩
  · rw [hfn]; exact hresT _ _ _
  · rw [hfn]; exact hargs _ (fun x hx => by simpa using hlt x hx)
  · rw [hv, hfn]; rfl
  · exact ok_one hres rfl (okWide_bool_mk ht _)
  · have := trodAll_append (hargs _ (fun _ _ => rfl)) (hresT 0 (fun _ => true) true)
    exact this
  · rw [hv]; rfl
  · intro b off hp
    have hbl := hlt _ hp
    rw [hb.frozen (p := ⟨b, off, none⟩) hbl]
    exact hz b off hp
/-! ### Arguments -/
end
end Go.Den
end
section
set_option linter.unusedVariables false
set_option linter.unusedSimpArgs false
namespace Go.Den
open Go.ChangeShapes Go.WideShapes Go.ChangeAt Go.RowKit
section
variable {H : Type} {enc : TypeId × Value → H} {P : Program}
end
end Go.Den
end
section
set_option linter.unusedVariables false
set_option linter.unusedSimpArgs false
namespace Go.Den
open Go.ChangeShapes Go.WideShapes Go.ChangeAt Go.RowKit
section
variable {H : Type} {enc : TypeId × Value → H} {P : Program}
/-- within the reach -/
def Fits (P : Program) (t : TypeId) (d : DataW H) : Prop := ∀ n ∈ d.weights P t, n ≤ reachBytes
theorem Fits.len {t e : TypeId} {elems spare : List (DataW H)} (h : Fits P t (.slice elems spare)) (hu : P.underlying t = some (.slice e)) : (elems.length + spare.length) * P.bytesOf e ≤ reachBytes := by
  refine h _ ?_
  simp only [DataW.weights, hu, List.mem_cons]
  exact .inl trivial
theorem Fits.part {t : TypeId} {fs : Array Field} {parts : List (DataW H)} (h : Fits P t (.agg parts)) (hu : P.underlying t = some (.struct fs)) {i : Nat} {f : Field} {d : DataW H} (hf : fs[i]? = some f) (hd : parts[i]? = some d) : Fits P f.type d := fun n hn => by
  refine h n ?_
  simp only [DataW.weights, hu]
  refine DataW.weights_mem_each (j := i) ?_ hd n hn
  simp [hf]
end
end Go.Den
end
