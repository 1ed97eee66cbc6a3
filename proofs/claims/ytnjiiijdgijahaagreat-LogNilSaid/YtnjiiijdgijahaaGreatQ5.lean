/- Contracts of layer 22 (jour): Says; the reference's Of, Says. (Merged by program: SHead2 Rep3 MPool RPool SPool SPool2 SPool3 SPool4 SRef4 MLaw4a SLaw4 Rep4 Rep5 Rep6 SRead MFact SFact SKey SRec Rep7 SPut11 SPutRec MBerger MHead MDeed MPlay MPlay2 MPlay3 MPlay4 MRises MCuts MPage MJour MJour2 SJour SJour2.) -/
import Derived.Test.YtnjiiijdgijahaaGreatQ4
section
set_option linter.unusedVariables false
set_option linter.unusedSimpArgs false
set_option maxRecDepth 8000
namespace Go.Den
theorem take_any (r k : Nat) (l : List UInt8) (no : Bool) (w : World) (hk : isSz k = true) (h : ReaderAt w r l no) :
    CallsR prog K.ends_Reader_Take #[.pointer (some ⟨r, 0, none⟩), .int .i64 k] w fun v w' => Upd (· = r) w w' ∧ ∃ (x e : Nat) (l' : List UInt8) (no' : Bool), v = .tuple #[.int .u64 x, .int .i64 e] ∧ ReaderAt w' r l' no' ∧ x < 256 ^ k ∧
      (no = false → k ≤ l.length → x = fromLE (l.take k) ∧ l' = l.drop k ∧ no' = false) := by
  refine (ends_Reader_Take_spec r k l no w hk h).mono ?_
  rintro v w' ⟨hu, hv⟩
  refine ⟨hu, ?_⟩
  split at hv
  · rename_i hc
    refine ⟨0, 4, l, true, hv.1, hv.2, Nat.pow_pos (by omega), fun h1 h2 => ?_⟩
    rcases hc with hc | hc
    · rw [h1] at hc; cases hc
    · omega
  · rename_i hc
    have hkl : k ≤ l.length := by
      rcases Nat.lt_or_ge l.length k with h' | h'
      · exact absurd (.inr h') hc
      · exact h'
    refine ⟨fromLE (l.take k), 0, l.drop k, false, hv.1, hv.2, ?_, fun h1 h2 => ⟨rfl, rfl, rfl⟩⟩
    have := fromLE_lt (l.take k)
    simpa [Nat.min_eq_left hkl] using this
theorem wrap8 {x : Nat} (h : x < 256) : Value.int .u8 (IntKind.u8.wrap (x : Int)) = bv (UInt8.ofNat x) := by
  rw [bv_mod, Nat.mod_eq_of_lt h]
theorem wrap32 {x : Nat} (h : x < 4294967296) : IntKind.u32.wrap (x : Int) = (x : Int) := wu32 (by omega) (by omega)
/-- a head is written over another, and read -/
theorem head_put {w : World} {B : Nat} {cs : Array Value} {h : Head} {K : World → Prop} (hc : w.heap[B]? = some (.cells cs T.api_Head (0, 0))) (hs : cs.size = 3) (hk : ∀ w', Put w B (.cells h.vals.toArray T.api_Head (0, 0)) w' → K w') :
    storeP w ⟨B, 0, none⟩ [bv h.kind, .int .u32 h.era, .int .u64 h.seq] K := by
  refine store_of hc (by simp [hs]) fun w' hput => ?_
  rw [splice_all _ _ (by simp [hs])] at hput
  exact hk w' hput
theorem head_cells {w : World} {B : Nat} {h : Head} (hc : w.heap[B]? = some (.cells h.vals.toArray T.api_Head (0, 0))) : cellsAt w ⟨B, 0, none⟩ [bv h.kind, .int .u32 h.era, .int .u64 h.seq] 0 :=
  cellsAt_of (o := 0) hc (fun j v hj => by simpa [Head.vals] using hj)
theorem head_zero : (#[Value.int .u8 0, Value.int .u32 0, Value.int .u64 0] : Array Value) = Head.none.vals.toArray := rfl
theorem pool_GetHead_spec {a : Option Addr} {b : List UInt8} {c : Nat} {w : World} (h : BytesAt w a b) (hc : b.length ≤ c) :
    CallsR prog K.pool_GetHead #[.slice a b.length c] w fun v w' => Ext w w' ∧ v = .tuple #[headV (getHead b).1, .int .i64 ((getHead b).2 : Nat)] := by
  apply pool_GetHead.sh
  intro B w₁ hn
  have hB : B = w.heap.size := hn.num
  rw [head_zero] at hn
  have hcB := hn.get
  refine (seal_Get_spec (h.ext hn.upd) hc).mono ?_
  rintro _ w₂ ⟨he2, a1, c1, rfl, hb2, hc2⟩
  have e2 : Ext w w₂ := hn.upd.trans he2
  have hcB2 := Ext.get he2 hcB
  have fin : ∀ {u u' : World} {h' : Head}, Ext w u → Put u B (.cells h'.vals.toArray T.api_Head (0, 0)) u' → Ext w u' := fun hu hp => Put.upd hu hp (.inl (by omega))
  refine ⟨_, _, _, _, _, rfl, br_ne (fun hne => ?_) fun heq => ?_⟩
  · refine head_put (h := Head.none) hcB2 rfl fun w₃ hput => ⟨_, _, _, head_cells hput.get, fin e2 hput, ?_⟩
    unfold getHead
    rw [if_pos (by omega)]
  have he0 : (getPage b).2.2 = 0 := by omega
  have hgb : isSize b.length = true := by
    cases hs : isSize b.length with
    | true => rfl
    | false =>
      have : (getPage b).2.2 = 2 := by unfold getPage; rw [if_pos hs]
      omega
  have hbb := hgb
  simp [isSize] at hbb
  have hbl : (getPage b).2.1.length ≤ 1000 := by
    unfold getPage
    split
    · simp
    · split
      · simp
      · split
        · simp
        · split
          · simp
          · simp; omega
  generalize hG : getPage b = G at *
  obtain ⟨kd, body, er⟩ := G
  simp only [] at *
  refine (ends_New_spec a1 body c1 w₂ hb2 (by omega)).mono ?_
  rintro _ w₄ ⟨r, rfl, hr, hra, he4⟩
  refine ⟨_, rfl, ?_⟩
  refine (take_any r 1 body false w₄ rfl hra).mono ?_
  rintro _ w₅ ⟨hu5, x6, x7, l5, no5, rfl, hr5, hx6, hg5⟩
  refine ⟨_, _, rfl, ?_⟩
  refine (take_any r 4 l5 no5 w₅ rfl hr5).mono ?_
  rintro _ w₆ ⟨hu6, x8, x9, l6, no6, rfl, hr6, hx8, hg6⟩
  refine ⟨_, _, rfl, ?_⟩
  refine (take_any r 8 l6 no6 w₆ rfl hr6).mono ?_
  rintro _ w₇ ⟨hu7, x10, x11, l7, no7, rfl, hr7, hx10, hg7⟩
  refine ⟨_, _, rfl, fun B2 w₈ hn8 => ?_⟩
  have e4 : Ext w w₄ := e2.trans he4
  have hs2 := e2.size
  have hu57 : Upd (· = r) w₄ w₇ := (hu5.trans hu6).trans hu7
  have e7 : Ext w w₇ := Upd.beyond e4 hu57 (fun x hx => by omega)
  have hs0 := hn.size
  have hs1 := he2.size
  have hcB7 : w₇.heap[B]? = _ := hu57.get (Ext.get he4 hcB2) (by omega)
  rw [show (256 : Nat) ^ 1 = 256 by decide] at hx6
  rw [show (256 : Nat) ^ 4 = 4294967296 by decide] at hx8
  rw [show (256 : Nat) ^ 8 = 18446744073709551616 by decide] at hx10
  rw [wrap8 hx6, wrap32 hx8]
  rw [head_zero] at hn8
  have hHok : (Head.mk (UInt8.ofNat x6) x8 x10).Ok := ⟨hx8, hx10⟩
  generalize hH : Head.mk (UInt8.ofNat x6) x8 x10 = H at hHok
  have hH1 : bv (UInt8.ofNat x6) = bv H.kind := by rw [← hH]
  have hH2 : (x8 : Int) = H.era := by rw [← hH]
  have hH3 : (x10 : Int) = H.seq := by rw [← hH]
  rw [hH1, hH2, hH3]
  refine head_put (h := H) hn8.get rfl fun w₉ hput9 => ⟨_, _, _, head_cells hput9.get, ?_⟩
  have hB2 : B2 = w₇.heap.size := hn8.num
  have hs7 := e7.size
  have e9 : Ext w w₉ := Put.upd (e7.trans hn8.upd) hput9 (.inl (by omega))
  have hsu57 := hu57.size
  have hs4 := he4.size
  have hcB9 : w₉.heap[B]? = _ := hput9.upd1.get (Ext.get hn8.upd hcB7) (by omega)
  refine (pool_PutHead_spec b.length H hHok w₉).mono ?_
  rintro _ w₁₀ ⟨he10, a2, c2, rfl, _, _⟩
  have e10 := e9.trans he10
  have hcB10 := Ext.get he10 hcB9
  have hpe : (putHead b.length H).2 = if H.may = false then 2 else 0 := by
    unfold putHead
    rw [hgb]
    cases H.may <;> simp
  have hcond : ¬ er ≠ 0 := by omega
  have hgen : kd = 1 → body.length = 13 → H = ⟨body.getD 0 0, fromLE ((body.drop 1).take 4), fromLE ((body.drop 5).take 8)⟩ := by
    intro hkd hbl
    obtain ⟨g1, g2, g3⟩ := hg5 rfl (by omega)
    obtain ⟨g4, g5, g6⟩ := hg6 g3 (by rw [g2]; simp; omega)
    obtain ⟨g7, g8, g9⟩ := hg7 g6 (by rw [g5, g2]; simp; omega)
    rw [← hH, g1, g4, g7, g5, g2, fromLE_take1]
    simp [List.drop_drop]
  have hcondG : getHead b = if kd ≠ 1 ∨ body.length ≠ 13 then (Head.none, 5) else if H.may = true then (H, 0) else (Head.none, 5) := by
    unfold getHead
    rw [hG]
    simp only []
    rw [if_neg hcond]
    by_cases hk : kd ≠ 1 ∨ body.length ≠ 13
    · rw [if_pos hk, if_pos hk]
    · rw [if_neg hk, if_neg hk]
      have hk' : kd = 1 ∧ body.length = 13 := ⟨Classical.byContradiction fun h => hk (.inl h), Classical.byContradiction fun h => hk (.inr h)⟩
      rw [hgen hk'.1 hk'.2]
  refine ⟨_, _, _, _, rfl, br_ne (fun hne => ?_) fun heq => ?_⟩
  · refine head_put (h := Head.none) hcB10 rfl fun w₃ hput => ⟨_, _, _, head_cells hput.get, fin e10 hput, ?_⟩
    have hm : H.may = false := by
      cases hm : H.may with
      | false => rfl
      | true => rw [hpe, hm] at hne; simp at hne
    rw [hcondG, hm]
    split <;> rfl
  have hm : H.may = true := by
    cases hm : H.may with
    | true => rfl
    | false => rw [hpe, hm] at heq; simp at heq
  have hkd : kd = 1 ↔ (kd.toNat : Int) = 1 := by
    constructor
    · rintro rfl; rfl
    · intro h; exact UInt8.toNat_inj.1 (by show kd.toNat = 1; omega)
  refine br_ne (fun hne => ?_) fun heq1 => ?_
  · refine head_put (h := Head.none) hcB10 rfl fun w₃ hput => ⟨_, _, _, head_cells hput.get, fin e10 hput, ?_⟩
    rw [hcondG, if_pos (.inl (fun h => hne (hkd.1 h)))]
    rfl
  refine br_ne (fun hne => ?_) fun heq2 => ?_
  · refine head_put (h := Head.none) hcB10 rfl fun w₃ hput => ⟨_, _, _, head_cells hput.get, fin e10 hput, ?_⟩
    rw [hcondG, if_pos (.inr (by omega))]
    rfl
  have hc9 := Ext.get he10 hput9.get
  refine ⟨_, _, _, head_cells hc9, head_put hcB10 rfl fun w₁₁ hput => ⟨_, _, _, head_cells hput.get, fin e10 hput, ?_⟩⟩
  have hk : ¬ (kd ≠ 1 ∨ body.length ≠ 13) := by
    rintro (h | h)
    · exact h (hkd.2 heq1)
    · omega
  rw [hcondG, if_neg hk, if_pos hm]
  rfl
end Go.Den
end
section
set_option linter.unusedSimpArgs false
set_option linter.unusedVariables false
namespace Go.Den
theorem meas {n i : Nat} (h : i < n) : ((n : Int) - ((i + 1 : Nat) : Int)).toNat < ((n : Int) - (i : Int)).toNat := by omega
variable {α : Type} {f : α → List Value} {k : Nat}
theorem flat_len (hf : ∀ x, (f x).length = k) (l : List α) : (l.flatMap f).length = l.length * k := by
  induction l with
  | nil => simp
  | cons x l ih => simp [hf, ih, Nat.succ_mul, Nat.add_comm]
theorem flat_drop (hf : ∀ x, (f x).length = k) (l : List α) (i : Nat) : (l.flatMap f).drop (i * k) = (l.drop i).flatMap f := by
  induction i generalizing l with
  | zero => simp
  | succ i ih =>
    cases l with
    | nil => simp
    | cons x l =>
      rw [List.flatMap_cons, List.drop_succ_cons, ← ih, Nat.succ_mul, Nat.add_comm, ← List.drop_drop]
      congr 1
      rw [← hf x]; simp
theorem flat_take (hf : ∀ x, (f x).length = k) (l : List α) (i : Nat) : (l.flatMap f).take (i * k) = (l.take i).flatMap f := by
  induction i generalizing l with
  | zero => simp
  | succ i ih =>
    cases l with
    | nil => simp
    | cons x l =>
      rw [List.flatMap_cons, List.take_succ_cons, List.flatMap_cons, ← ih, Nat.succ_mul, Nat.add_comm, List.take_append, hf x]
      rw [List.take_of_length_le (by rw [hf]; omega)]
      congr 2
      omega
theorem flat_set (hf : ∀ x, (f x).length = k) (l : List α) {i : Nat} (hi : i < l.length) (x : α) : (l.flatMap f).take (i * k) ++ f x ++ (l.flatMap f).drop (i * k + k) = (l.set i x).flatMap f := by
  have e : i * k + k = (i + 1) * k := by rw [Nat.succ_mul]
  rw [e, flat_drop hf, flat_take hf, List.set_eq_take_append_cons_drop, if_pos hi]
  simp
theorem flat_get (hf : ∀ x, (f x).length = k) (l : List α) {i : Nat} (hi : i < l.length) : ((l.flatMap f).drop (i * k)).take k = f l[i] := by
  rw [flat_drop hf, List.drop_eq_getElem_cons hi, List.flatMap_cons, ← hf l[i]]
  simp
/-- an element is pointed at -/
theorem idx_flat (hf : ∀ x, (f x).length = k) (hk : 1 ≤ k) {w : World} {a : Option Addr} {l : List α} {n i : Nat} (hr : RowAt w a (l.flatMap f)) (hn : n = l.length) (hi : i < l.length) {K : Addr → Prop}
    (h : ∀ b o, a = some ⟨b, o, none⟩ → RowAt w (some ⟨b, o + i * k, none⟩) (f l[i]) → K ⟨b, o + i * k, none⟩) : idxP a n (i : Int) k K := by
  subst hn
  refine ⟨by omega, by omega, ?_⟩
  have hne : l.flatMap f ≠ [] := List.ne_nil_of_length_pos (by rw [flat_len hf]; exact Nat.mul_pos (by omega) (by omega))
  obtain ⟨b, o, rfl, _⟩ := RowAt.blk hr hne
  simp only [nilC_some', add_lit, Int.toNat_natCast]
  refine h b o rfl ?_
  rw [← flat_get hf l hi]
  exact RowAt.take (RowAt.drop hr (i * k)) k
/-- append of an element out of a block of its own -/
theorem append_flat (hf : ∀ x, (f x).length = k) {w₀ w₁ : World} {a : Option Addr} {l : List α} {cap n bytes : Nat} {e : TypeId} {z : List Value} (h : OwnAt w₁ a l.length cap e k (l.flatMap f)) {B : Nat} {x : α} {cs : Array Value} (hcs : cs.toList = f x) (hn : New w₀ (.cells cs e) B w₁) (hnl : n = l.length)
    (h1 : ∀ v ∈ f x, v.oneCell' = true) (hz : z.length = k) (hb : l.length ≤ 1000000000) (hby : bytes ≤ 10000) {K : Option Addr → Nat → Nat → World → Prop}
    (hk : ∀ a' c' w', Upd (fun b => a = some ⟨b, 0, none⟩) w₁ w' → OwnAt w' a' (l ++ [x]).length c' e k ((l ++ [x]).flatMap f) → (a' = a ∨ ∃ b, a' = some ⟨b, 0, none⟩ ∧ w₁.heap.size ≤ b) → K a' (l ++ [x]).length c' w') :
    appendP e k bytes z a n cap (.slice (some ⟨B, 0, none⟩) 1 1) w₁ K := by
  subst hnl
  have hrow : RowAt w₁ (some ⟨B, 0, none⟩) (f x) := RowAt.of hn.get fun j v hj => by rw [← hcs] at hj; simpa using hj
  refine append_own h rfl (read_row hrow (by rw [hf]; omega)) (by rw [hf]; omega) h1 hz ?_ (by omega) fun a' c' w' hu ho hf' => ?_
  · have : (2 * (l.length + 1) + 192) * bytes ≤ (2 * (1000000000 + 1) + 192) * 10000 := Nat.mul_le_mul (by omega) hby
    omega
  · have := hk a' c' w' hu (by simpa using ho) hf'
    simpa using this
end Go.Den
end
section
set_option linter.unusedVariables false
namespace Go.Den
structure Blk where
  what : Nat
  head : Head
namespace Blk
def vals (b : Blk) : List Value := [.int .i64 b.what, bv b.head.kind, .int .u32 b.head.era, .int .u64 b.head.seq]
def zero : Blk := ⟨0, Head.none⟩
end Blk
structure Pool where
  blocks : List Blk
  last : Nat
  turn : Nat
structure Taken where
  block : Nat
  head : Head
  bad : Bool
  deriving DecidableEq
namespace Taken
def vals (t : Taken) : List Value := [.int .i64 t.block, bv t.head.kind, .int .u32 t.head.era, .int .u64 t.head.seq, .bool t.bad]
end Taken
/-- what is read of a block -/
def lookAt (c : Chip) (i : Nat) (old : Blk) : Blk :=
  if c.dead then old
  else if (getHead (c.page i 0)).2 = 0 then ⟨2, (getHead (c.page i 0)).1⟩
  else if isBlank (c.blk i) then ⟨0, Head.none⟩ else ⟨1, Head.none⟩
namespace Pool
def blk (P : Pool) (i : Nat) : Blk := P.blocks.getD i Blk.zero
def setBlk (P : Pool) (i : Nat) (b : Blk) : Pool := { P with blocks := P.blocks.set i b }
/-- a block's own look -/
def relook (P : Pool) (c : Chip) (i : Nat) : Pool := P.setBlk i (lookAt c i (P.blk i))
def raise (P : Pool) : Pool := { P with last := (P.last + 1) % 18446744073709551616 }
end Pool
/-- the second half of try: a head is written -/
def writeHead (P : Pool) (c : Chip) (i : Nat) (kind : UInt8) (era : Nat) : Pool × Chip × Nat :=
  (P.raise.relook (c.program i 0 (putHead c.sz ⟨kind, era, P.raise.last⟩).1).1 i, (c.program i 0 (putHead c.sz ⟨kind, era, P.raise.last⟩).1).1, (c.program i 0 (putHead c.sz ⟨kind, era, P.raise.last⟩).1).2)
def tryBlk (P : Pool) (c : Chip) (i : Nat) (kind : UInt8) (era : Nat) : Pool × Chip × Nat :=
  if (P.blk i).what = 1 then
    if (c.erase i).2 ≠ 0 then (P.relook (c.erase i).1 i, (c.erase i).1, (c.erase i).2)
    else writeHead (P.relook (c.erase i).1 i) (c.erase i).1 i kind era
  else writeHead P c i kind era
structure TakeR where
  pool : Pool
  chip : Chip
  block : Nat
  err : Nat
def takeGo (kind : UInt8) (era : Nat) (P : Pool) (c : Chip) : List Nat → TakeR
  | [] => ⟨P, c, 0, 11⟩
  | k :: ks =>
    if c.isBad ((P.turn + k) % c.nb) = true ∨ (P.blk ((P.turn + k) % c.nb)).what = 2 then takeGo kind era P c ks
    else
      if (tryBlk P c ((P.turn + k) % c.nb) kind era).2.2 = 0 then ⟨{ (tryBlk P c ((P.turn + k) % c.nb) kind era).1 with turn := (P.turn + k) % c.nb + 1 }, (tryBlk P c ((P.turn + k) % c.nb) kind era).2.1, (P.turn + k) % c.nb, 0⟩
      else if (tryBlk P c ((P.turn + k) % c.nb) kind era).2.2 = 10 then ⟨(tryBlk P c ((P.turn + k) % c.nb) kind era).1, (tryBlk P c ((P.turn + k) % c.nb) kind era).2.1, 0, 10⟩
      else takeGo kind era (tryBlk P c ((P.turn + k) % c.nb) kind era).1 (tryBlk P c ((P.turn + k) % c.nb) kind era).2.1 ks
def takePool (P : Pool) (c : Chip) (kind : UInt8) (era : Nat) : TakeR :=
  if kind.toNat < 1 ∨ kind.toNat > 3 ∨ era < 1 then ⟨P, c, 0, 2⟩
  else if c.ask 0 0 ≠ 0 then ⟨P, c, 0, c.ask 0 0⟩
  else takeGo kind era P c (List.range c.nb)
def freePool (P : Pool) (c : Chip) (i : Int) : Pool × Chip × Nat :=
  if i < 0 ∨ i ≥ c.nb ∨ (P.blk i.toNat).what ≠ 2 ∨ c.isBad i.toNat = true then (P, c, 12)
  else (P.relook (c.erase i).1 i.toNat, (c.erase i).1, if (c.erase i).2 = 9 then 0 else (c.erase i).2)
/-- insertion from the right, in a row that is turned round -/
def sink {α : Type} (lt : α → α → Bool) (x : α) : List α → List α
  | [] => [x]
  | y :: ys => if lt x y then y :: sink lt x ys else x :: y :: ys
def takenLt (a b : Taken) : Bool := decide (a.head.seq < b.head.seq) || (decide (a.head.seq = b.head.seq) && decide (a.block < b.block))
def isort {α : Type} (lt : α → α → Bool) (l : List α) : List α := (l.foldl (fun acc x => sink lt x acc) []).reverse
/-- the taken blocks, in their own order -/
def takenRaw (P : Pool) (c : Chip) (n : Nat) : List Taken := (List.range n).filterMap fun i => if (P.blk i).what = 2 then some ⟨i, (P.blk i).head, c.isBad i⟩ else none
def takenPool (P : Pool) (c : Chip) : List Taken := isort takenLt (takenRaw P c c.nb)
def blanksPool (P : Pool) (c : Chip) : Nat := ((List.range c.nb).filter fun i => decide ((P.blk i).what ≠ 2) && !c.isBad i).length
/-- what Scan makes of block after block -/
def scanGo (c : Chip) : Nat → Pool
  | 0 => ⟨List.replicate c.nb Blk.zero, 0, 0⟩
  | i + 1 =>
    if (((scanGo c i).relook c i).blk i).head.seq > (scanGo c i).last ∨ ((((scanGo c i).relook c i).blk i).head.seq = (scanGo c i).last ∧ (((scanGo c i).relook c i).blk i).head.seq > 0) then
      { (scanGo c i).relook c i with last := (((scanGo c i).relook c i).blk i).head.seq, turn := i + 1 }
    else (scanGo c i).relook c i
def scanPool (c : Chip) : Pool := scanGo c c.nb
/-! ### Geometry stays -/
def Chip.SameGeo (c d : Chip) : Prop := d.nb = c.nb ∧ d.np = c.np ∧ d.sz = c.sz ∧ d.sp = c.sp
theorem Chip.SameGeo.refl (c : Chip) : c.SameGeo c := ⟨rfl, rfl, rfl, rfl⟩
theorem Chip.SameGeo.trans {a b c : Chip} (h : a.SameGeo b) (k : b.SameGeo c) : a.SameGeo c := ⟨k.1.trans h.1, k.2.1.trans h.2.1, k.2.2.1.trans h.2.2.1, k.2.2.2.trans h.2.2.2⟩
theorem Chip.strike_geo (c : Chip) : c.SameGeo c.strike.1 := by
  unfold Chip.strike
  split
  · exact ⟨rfl, rfl, rfl, rfl⟩
  · split <;> exact ⟨rfl, rfl, rfl, rfl⟩
theorem Chip.finish_geo (c : Chip) (b : Nat) (h : Option Hit) : c.SameGeo (c.finish b h).1 := by
  unfold Chip.finish
  split
  · exact ⟨rfl, rfl, rfl, rfl⟩
  · split <;> exact ⟨rfl, rfl, rfl, rfl⟩
theorem Chip.done_geo (c : Chip) (b off n : Nat) (new : List UInt8) : c.SameGeo (c.done b off n new).1 := by
  unfold Chip.done
  refine (c.strike_geo).trans (Chip.SameGeo.trans ?_ (Chip.finish_geo _ _ _))
  exact ⟨rfl, rfl, rfl, rfl⟩
theorem Chip.program_geo (c : Chip) (b p : Int) (x : List UInt8) : c.SameGeo (c.program b p x).1 := by
  unfold Chip.program
  split
  · exact .refl _
  · split
    · exact .refl _
    · split
      · exact .refl _
      · split
        · exact .refl _
        · exact c.done_geo _ _ _ _
theorem Chip.erase_geo (c : Chip) (b : Int) : c.SameGeo (c.erase b).1 := by
  unfold Chip.erase
  split
  · exact .refl _
  · split
    · exact .refl _
    · exact c.done_geo _ _ _ _
end Go.Den
end
section
set_option linter.unusedVariables false
set_option linter.unusedSimpArgs false
namespace Go.Den
theorem Blk.vals_length (b : Blk) : b.vals.length = 4 := rfl
theorem Taken.vals_length (b : Taken) : b.vals.length = 5 := rfl
/-- where a pool and its chip lie -/
structure PLoc where
  q : Nat
  pb : Nat
  cap : Nat
  p : Nat
abbrev poolCells (P : Pool) (c : Chip) (M : PLoc) : Array Value := #[.pointer (some ⟨M.p, 0, none⟩), .slice (some ⟨M.pb, 0, none⟩) c.nb M.cap, .int .u64 P.last, .int .i64 P.turn]
structure PC (w : World) (M : PLoc) (P : Pool) (c : Chip) (L : Loc) (G : Nat → Prop) : Prop where
  chip : ChipRep w M.p c L G
  head : w.heap[M.q]? = some (.cells (poolCells P c M) T.pool_Pool (0, 0))
  own : OwnAt w (some ⟨M.pb, 0, none⟩) c.nb M.cap T.pool_block 4 (P.blocks.flatMap Blk.vals)
  turn : P.turn ≤ c.nb
  apart : ∀ x, x = M.q ∨ x = M.pb → x ∉ M.p :: L.bb :: L.locs ∧ ¬ G x
  ne : M.q ≠ M.pb
/-- the blocks that a pool's deeds write -/
def PF (M : PLoc) (L : Loc) : Nat → Prop := fun x => x = M.q ∨ x = M.pb ∨ x ∈ M.p :: L.bb :: L.locs
theorem PF.same {M : PLoc} {L L' : Loc} (h : SameLoc L L') : PF M L' = PF M L := by
  unfold PF
  rw [h.1, h.2.2.2.2]
theorem PC.len {w : World} {M : PLoc} {P : Pool} {c : Chip} {L : Loc} {G : Nat → Prop} (h : PC w M P c L G) : P.blocks.length = c.nb := by
  have := h.own.1
  rw [flat_len Blk.vals_length] at this
  exact Nat.eq_of_mul_eq_mul_right (by omega) this
theorem PC.upd {F : Nat → Prop} {w w' : World} {M : PLoc} {P : Pool} {c : Chip} {L : Loc} {G : Nat → Prop} (h : PC w M P c L G) (k : Upd F w w') (hf : ∀ x, PF M L x → ¬ F x) (hg : ∀ x, G x → ¬ F x) : PC w' M P c L G :=
  ⟨h.chip.upd k (fun x hx => hf x (.inr (.inr hx))) hg, k.get h.head (hf _ (.inl rfl)), OwnAt.upd h.own k (fun b hb => by cases hb; exact hf _ (.inr (.inl rfl))), h.turn, h.apart, h.ne⟩
theorem PC.ext {w w' : World} {M : PLoc} {P : Pool} {c : Chip} {L : Loc} {G : Nat → Prop} (h : PC w M P c L G) (k : Ext w w') : PC w' M P c L G := h.upd k (fun _ _ hf => hf) (fun _ _ hf => hf)
/-- the chip became another -/
theorem PC.rechip {w w' : World} {M : PLoc} {P : Pool} {c c' : Chip} {L L' : Loc} {G G' : Nat → Prop} (h : PC w M P c L G) (k : Upd (fun x => x ∈ M.p :: L.bb :: L.locs) w w') (hc : ChipRep w' M.p c' L' G') (hs : SameLoc L L') (hg : c.SameGeo c')
    (hG : ∀ x, x = M.q ∨ x = M.pb → ¬ G' x) : PC w' M P c' L' G' := by
  refine ⟨hc, ?_, ?_, by rw [hg.1]; exact h.turn, fun x hx => ⟨?_, hG x hx⟩, h.ne⟩
  · have := k.get h.head (h.apart _ (.inl rfl)).1
    rw [this]
    simp only [poolCells, hg.1]
  · rw [hg.1]; exact OwnAt.upd h.own k (fun b hb => by cases hb; exact (h.apart _ (.inr rfl)).1)
  · rw [hs.1, hs.2.2.2.2]; exact (h.apart x hx).1
/-- last and turn become others -/
theorem PC.rehead {w w' : World} {M : PLoc} {P : Pool} {c : Chip} {L : Loc} {G : Nat → Prop} (h : PC w M P c L G) (k : Upd (· = M.q) w w') {last turn : Nat} (ht : turn ≤ c.nb)
    (hd : w'.heap[M.q]? = some (.cells (poolCells { P with last := last, turn := turn } c M) T.pool_Pool (0, 0))) : PC w' M { P with last := last, turn := turn } c L G := by
  have ha := h.apart _ (.inl rfl)
  exact ⟨h.chip.upd k (fun x hx e => ha.1 (e ▸ hx)) (fun x hx e => ha.2 (e ▸ hx)), hd, OwnAt.upd h.own k (fun b hb => by cases hb; exact fun e => h.ne e.symm), ht, h.apart, h.ne⟩
/-- a block is known anew -/
theorem PC.reblk {w w' : World} {M : PLoc} {P : Pool} {c : Chip} {L : Loc} {G : Nat → Prop} (h : PC w M P c L G) (k : Upd (· = M.pb) w w') {i : Nat} {b : Blk}
    (ho : OwnAt w' (some ⟨M.pb, 0, none⟩) c.nb M.cap T.pool_block 4 ((P.setBlk i b).blocks.flatMap Blk.vals)) : PC w' M (P.setBlk i b) c L G := by
  have ha := h.apart _ (.inr rfl)
  exact ⟨h.chip.upd k (fun x hx e => ha.1 (e ▸ hx)) (fun x hx e => ha.2 (e ▸ hx)), k.get h.head h.ne, ho, h.turn, h.apart, h.ne⟩
theorem PC.blk {w : World} {M : PLoc} {P : Pool} {c : Chip} {L : Loc} {G : Nat → Prop} (h : PC w M P c L G) {i : Nat} (hi : i < c.nb) : ∃ hl : i < P.blocks.length, P.blk i = P.blocks[i] := by
  have hl : i < P.blocks.length := by rw [h.len]; exact hi
  exact ⟨hl, by simp [Pool.blk, List.getD, hl]⟩
/-- a block's cells are pointed at -/
theorem PC.idx {w : World} {M : PLoc} {P : Pool} {c : Chip} {L : Loc} {G : Nat → Prop} (h : PC w M P c L G) {i : Nat} (hi : i < c.nb) {K : Addr → Prop}
    (hk : RowAt w (some ⟨M.pb, i * 4, none⟩) (P.blk i).vals → K ⟨M.pb, i * 4, none⟩) : idxP (some ⟨M.pb, 0, none⟩) c.nb (i : Int) 4 K := by
  obtain ⟨hl, e⟩ := h.blk hi
  refine idx_flat (f := Blk.vals) Blk.vals_length (by omega) h.own.row h.len.symm hl fun b o ha hr => ?_
  cases ha
  rw [Nat.zero_add] at hr ⊢
  rw [← e] at hr
  exact hk hr
/-- a block is written -/
theorem PC.store {w : World} {M : PLoc} {P : Pool} {c : Chip} {L : Loc} {G : Nat → Prop} (h : PC w M P c L G) {i : Nat} (hi : i < c.nb) (b : Blk) {K : World → Prop}
    (hk : ∀ w', Upd (· = M.pb) w w' → PC w' M (P.setBlk i b) c L G → K w') : storeP w ⟨M.pb, i * 4, none⟩ b.vals K := by
  obtain ⟨hl, _⟩ := h.blk hi
  refine own_store h.own (by rw [flat_len Blk.vals_length, Blk.vals_length]; omega) fun w' hu ho => hk w' hu (h.reblk hu ?_)
  have := flat_set Blk.vals_length P.blocks hl b
  rw [Blk.vals_length] at ho
  rw [this] at ho
  exact ho
end Go.Den
end
section
set_option linter.unusedVariables false
set_option linter.unusedSimpArgs false
set_option maxRecDepth 8000
namespace Go.Den
theorem ask_ok {c : Chip} {i k : Nat} (hd : c.dead = false) (hi : i < c.nb) (hk : k < c.np) : c.ask i k = 0 := by
  unfold Chip.ask
  rw [if_neg (by rw [hd]; simp), if_neg (by omega)]
theorem ask_dead {c : Chip} {i k : Int} (hd : c.dead = true) : c.ask i k = 10 := by unfold Chip.ask; rw [if_pos hd]
theorem ask00 {c : Chip} (h : c.Ok) : c.ask 0 0 = if c.dead then 10 else 0 := by
  cases hd : c.dead with
  | true => rw [ask_dead hd]; rfl
  | false =>
    have := h.nb1
    have := h.np1
    exact ask_ok (i := 0) (k := 0) hd (by omega) (by omega)
theorem pool_off_spec {w : World} {M : PLoc} {P : Pool} {c : Chip} {L : Loc} {G : Nat → Prop} (h : PC w M P c L G) :
    CallsR prog K.pool_Pool_off #[.pointer (some ⟨M.q, 0, none⟩)] w fun v w' => v = .bool false ∧ w' = w := by
  apply pool_Pool_off.sh
  simp only [pool_Pool_off.body, Option.isNone_some, br_false, nilC_some', add_lit]
  exact ⟨_, _, _, cell_of h.head rfl, rfl, by trivial⟩
theorem pool_alive_spec {w : World} {M : PLoc} {P : Pool} {c : Chip} {L : Loc} {G : Nat → Prop} (h : PC w M P c L G) :
    CallsR prog K.pool_Pool_alive #[.pointer (some ⟨M.q, 0, none⟩)] w fun v w' => v = .int .i64 (c.ask 0 0 : Nat) ∧ Ext w w' := by
  apply pool_Pool_alive.sh
  unfold pool_Pool_alive.body
  refine (pool_off_spec h).mono ?_
  rintro _ _ ⟨rfl, rfl⟩
  rename_i w
  refine ⟨_, rfl, ?_⟩
  simp only [br_false, nilC_some', add_lit]
  refine ⟨_, cell_of h.head rfl, ?_⟩
  refine (nand_Read_spec h.chip 0 0).mono ?_
  rintro v w₂ ⟨he, hv⟩
  split at hv
  · rename_i h0
    obtain ⟨a, cp, rfl, _⟩ := hv
    exact ⟨_, _, _, _, rfl, by rw [h0]; rfl, he⟩
  · subst hv
    exact ⟨_, _, _, _, rfl, rfl, he⟩
theorem setBlk_self (P : Pool) (i : Nat) (hi : i < P.blocks.length) : P.setBlk i (P.blk i) = P := by
  have : P.blk i = P.blocks[i] := by simp [Pool.blk, List.getD, hi]
  unfold Pool.setBlk
  rw [this, List.set_getElem_self]
theorem isBlank_append (l m : List UInt8) : isBlank (l ++ m) = (isBlank l && isBlank m) := by simp [isBlank]
theorem page_take (c : Chip) (i k : Nat) : (c.blk i).take ((k + 1) * c.sz) = (c.blk i).take (k * c.sz) ++ c.page i k := by
  rw [Nat.succ_mul, List.take_add]; rfl
theorem page_len {c : Chip} (h : c.Ok) {i k : Nat} (hi : i < c.nb) (hk : k < c.np) : (c.page i k).length = c.sz := by
  have h1 := h.blk_len hi
  have h2 := page_in hk
  simp [Chip.page, h1]
  omega
theorem pool_look_spec {w : World} {M : PLoc} {P : Pool} {c : Chip} {L : Loc} {G : Nat → Prop} (h : PC w M P c L G) {i : Nat} (hi : i < c.nb) :
    CallsR prog K.pool_Pool_look #[.pointer (some ⟨M.q, 0, none⟩), .int .i64 i] w fun v w' => v = .tuple #[] ∧ Upd (· = M.pb) w w' ∧ PC w' M (P.relook c i) c L G := by
  have hok := h.chip.ok
  have hnp1 := hok.np1
  have hnp2 := hok.np2
  have hnb2 := hok.nb2
  have hsz1 := hok.sz1
  have hsz2 := hok.sz2
  have hblen := hok.blk_len hi
  obtain ⟨hil, _⟩ := h.blk hi
  apply pool_Pool_look.sh
  intro B w₁ hn
  have hB : B = w.heap.size := hn.num
  refine store_of hn.get (by simp) fun w₂ hput => ?_
  have e2 : Ext w w₂ := Put.upd hn.upd hput (.inl (by omega))
  have hgB := hput.get
  rw [splice_all _ _ (by simp)] at hgB
  have h2 := h.ext e2
  simp only [nilC_some', add_lit]
  refine ⟨_, cell_of h2.head rfl, ?_⟩
  refine (nand_Geo_spec h2.chip).mono ?_
  rintro _ w₃ ⟨rfl, he3⟩
  have e3 := e2.trans he3
  have hgB3 := Ext.get he3 hgB
  refine ⟨_, _, _, _, rfl, ?_⟩
  refine ⟨fun x u => ∃ k : Nat, x = k ∧ k ≤ c.np ∧ Ext w u ∧ u.heap[B]? = some (.cells #[.int .i64 (if isBlank ((c.blk i).take (k * c.sz)) then 0 else 1), .int .u8 0, .int .u32 0, .int .u64 0] T.pool_block (0, 0)) ∧ (0 < k → c.dead = false ∧ (getHead (c.page i 0)).2 ≠ 0),
    fun x _ => (c.np - x).toNat, ⟨0, rfl, by omega, e3, by simpa [isBlank] using hgB3, fun h => by omega⟩, ?_⟩
  rintro x u ⟨k, rfl, hk, heu, hgu, hpos⟩
  have hu := h.ext heu
  have hsu := heu.size
  refine br_dec (fun hlt => ?_) fun hge => ?_
  · have hk' : k < c.np := by omega
    refine ⟨_, cell_of hu.head rfl, ?_⟩
    refine (nand_Read_spec hu.chip i k).mono ?_
    rintro v w₅ ⟨he5, hv⟩
    have e5 := heu.trans he5
    rcases Bool.eq_false_or_eq_true c.dead with hd | hd
    · rw [if_neg (by rw [ask_dead hd]; omega), ask_dead hd] at hv
      subst hv
      refine ⟨_, _, _, _, rfl, ?_⟩
      refine br_ne (fun _ => ⟨by trivial, Upd.ext e5, ?_⟩) fun h => by omega
      have : P.relook c i = P := by unfold Pool.relook lookAt; rw [if_pos hd]; exact setBlk_self P i hil
      rw [this]
      exact h.ext e5
    rw [if_pos (ask_ok hd hi hk')] at hv
    obtain ⟨a, cp, rfl, hba, hcp, hfa⟩ := hv
    simp only [Int.toNat_natCast] at hba
    have hpl := page_len hok hi hk'
    refine ⟨_, _, _, _, rfl, br_ne (fun h => by omega) fun _ => ?_⟩
    have hgh := pool_GetHead_spec (c := cp) hba (by omega)
    rw [hpl] at hgh
    refine hgh.mono ?_
    rintro _ w₆ ⟨he6, rfl⟩
    have e6 := e5.trans he6
    refine ⟨_, _, _, _, rfl, fun B2 w₇ hn7 => ?_⟩
    have hB2 : B2 = w₆.heap.size := hn7.num
    have hs6 := e6.size
    have hs56 := (he5.trans he6).size
    rw [head_zero] at hn7
    refine head_put (h := (getHead (c.page i k)).1) hn7.get rfl fun w₈ hput8 => ?_
    have e8 : Ext w w₈ := Put.upd (e6.trans hn7.upd) hput8 (.inl (by omega))
    have hBs : B < u.heap.size := (Array.getElem?_eq_some_iff.1 hgu).1
    have hg8 : w₈.heap[B]? = _ := hput8.upd1.get (Ext.get ((he5.trans he6).trans hn7.upd) hgu) (by omega)
    -- the page is no head: the next one
    have hblank : ∀ {X : Prop}, (0 < k ∨ (getHead (c.page i 0)).2 ≠ 0) → (∀ u', Ext w u' → u'.heap[B]? = some (.cells #[.int .i64 (if isBlank ((c.blk i).take ((k + 1) * c.sz)) then 0 else 1), .int .u8 0, .int .u32 0, .int .u64 0] T.pool_block (0, 0)) →
        (∃ k' : Nat, IntKind.i64.wrap ((k : Int) + 1) = k' ∧ k' ≤ c.np ∧ Ext w u' ∧ u'.heap[B]? = some (.cells #[.int .i64 (if isBlank ((c.blk i).take (k' * c.sz)) then 0 else 1), .int .u8 0, .int .u32 0, .int .u64 0] T.pool_block (0, 0)) ∧ (0 < k' → c.dead = false ∧ (getHead (c.page i 0)).2 ≠ 0)) ∧
          ((c.np : Int) - IntKind.i64.wrap ((k : Int) + 1)).toNat < ((c.np : Int) - (k : Int)).toNat) := by
      intro _ hno u' hu' hg'
      have e1 : IntKind.i64.wrap ((k : Int) + 1) = ((k + 1 : Nat) : Int) := w64 (by omega) (by omega)
      rw [e1]
      refine ⟨⟨k + 1, rfl, hk', hu', hg', fun _ => ⟨hd, ?_⟩⟩, by omega⟩
      rcases hno with hno | hno
      · exact (hpos hno).2
      · exact hno
    have hstep : (0 < k ∨ (getHead (c.page i 0)).2 ≠ 0) → CallsR prog K.seal_Blank #[Value.slice a c.sz cp] w₈ fun v4 w11 =>
        ∃ b1 : Bool, v4 = Value.bool b1 ∧
        br (!b1) (
          storeP w11 ⟨B, 0, none⟩ [Value.int .i64 1] fun w12 => (∃ k' : Nat, IntKind.i64.wrap ((k : Int) + 1) = k' ∧ k' ≤ c.np ∧ Ext w w12 ∧ w12.heap[B]? = some (.cells #[.int .i64 (if isBlank ((c.blk i).take (k' * c.sz)) then 0 else 1), .int .u8 0, .int .u32 0, .int .u64 0] T.pool_block (0, 0)) ∧ (0 < k' → c.dead = false ∧ (getHead (c.page i 0)).2 ≠ 0)) ∧
            ((c.np : Int) - IntKind.i64.wrap ((k : Int) + 1)).toNat < ((c.np : Int) - (k : Int)).toNat)
          ((∃ k' : Nat, IntKind.i64.wrap ((k : Int) + 1) = k' ∧ k' ≤ c.np ∧ Ext w w11 ∧ w11.heap[B]? = some (.cells #[.int .i64 (if isBlank ((c.blk i).take (k' * c.sz)) then 0 else 1), .int .u8 0, .int .u32 0, .int .u64 0] T.pool_block (0, 0)) ∧ (0 < k' → c.dead = false ∧ (getHead (c.page i 0)).2 ≠ 0)) ∧
            ((c.np : Int) - IntKind.i64.wrap ((k : Int) + 1)).toNat < ((c.np : Int) - (k : Int)).toNat) := by
      intro hno
      have hba8 : BytesAt w₈ a (c.page i k) := RowAt.upd (RowAt.ext (RowAt.ext hba he6) hn7.upd) hput8.upd1 (fun p hp e => by
        obtain ⟨b', o', hab, hlt⟩ := RowAt.blk hba (List.ne_nil_of_length_pos (by simp [hpl]; omega))
        rw [hp] at hab
        cases hab
        have : b' = B2 := e
        have := he6.size
        omega)
      have hsb := seal_Blank_spec (c := cp) hba8 (by omega)
      rw [hpl] at hsb
      refine hsb.mono ?_
      rintro _ _ ⟨rfl, rfl⟩
      rename_i w₈
      refine ⟨_, rfl, ?_⟩
      have hpt := page_take c i k
      cases hbp : isBlank (c.page i k) with
      | false =>
        simp only [Bool.not_false, br_true]
        refine store_of hg8 (by simp) fun w₁₂ hput12 => ?_
        refine hblank (X := True) hno w₁₂ (Put.upd e8 hput12 (.inl (by omega))) ?_
        have := hput12.get
        rw [this, hpt, isBlank_append, hbp, Bool.and_false]
        rfl
      | true =>
        simp only [Bool.not_true, br_false]
        refine hblank (X := True) hno w₈ e8 ?_
        rw [hg8, hpt, isBlank_append, hbp, Bool.and_true]
    refine br_eq (fun hk0 => ?_) fun hk0 => hstep (.inl (by omega))
    have hk0' : k = 0 := by omega
    subst hk0'
    refine br_eq (fun hz => ?_) fun hz => hstep (.inr (by omega))
    intro w₉ hd9
    have e9 := e8.trans hd9.upd
    have h9 := h.ext e9
    refine ⟨fun u => u = w₉, rfl, _, _, _, fun u hu => hu ▸ cell_of h9.head rfl, _, _, _, fun u hu => hu ▸ head_cells (Ext.get hd9.upd hput8.get), ?_⟩
    refine h9.idx hi fun _ => ?_
    refine h9.store hi ⟨2, (getHead (c.page i 0)).1⟩ fun w' hu' hp' => ⟨by trivial, (Upd.ext e9).trans hu', ?_⟩
    have : P.relook c i = P.setBlk i ⟨2, (getHead (c.page i 0)).1⟩ := by
      unfold Pool.relook lookAt
      rw [if_neg (by rw [hd]; simp), if_pos (by omega)]
    rw [this]
    exact hp'
  · have hk' : k = c.np := by omega
    subst hk'
    obtain ⟨hd, hno⟩ := hpos (by omega)
    rw [List.take_of_length_le (by omega)] at hgu
    intro w₁₅ hd15
    have e15 := heu.trans hd15.upd
    have h15 := h.ext e15
    refine ⟨fun u => u = w₁₅, rfl, _, _, _, fun u hu => hu ▸ cell_of h15.head rfl, (if isBlank (c.blk i) then 0 else 1), 0, 0, 0, fun u hu => hu ▸ cellsAt_of (o := 0) (Ext.get hd15.upd hgu) (fun j v hj => by simpa using hj), ?_⟩
    refine h15.idx hi fun _ => ?_
    have hv : (if isBlank (c.blk i) = true then (0 : Int) else 1) = (((if isBlank (c.blk i) = true then 0 else 1) : Nat) : Int) := by split <;> rfl
    have hval : [Value.int .i64 (if isBlank (c.blk i) = true then (0 : Int) else 1), Value.int .u8 0, Value.int .u32 0, Value.int .u64 0] = Blk.vals ⟨if isBlank (c.blk i) = true then 0 else 1, Head.none⟩ := by rw [hv]; rfl
    rw [hval]
    refine h15.store hi _ fun w' hu' hp' => ⟨by trivial, (Upd.ext e15).trans hu', ?_⟩
    have : P.relook c i = P.setBlk i ⟨if isBlank (c.blk i) = true then 0 else 1, Head.none⟩ := by
      unfold Pool.relook lookAt
      rw [if_neg (by rw [hd]; simp), if_neg hno]
      split <;> rfl
    rw [this]
    exact hp'
end Go.Den
end
section
set_option linter.unusedVariables false
set_option linter.unusedSimpArgs false
set_option maxRecDepth 8000
namespace Go.Den
theorem ChipRep.lt {w : World} {p : Nat} {c : Chip} {L : Loc} {G : Nat → Prop} (h : ChipRep w p c L G) : ∀ x, x ∈ p :: L.bb :: L.locs → x < w.heap.size := by
  intro x hx
  simp only [List.mem_cons] at hx
  rcases hx with rfl | rfl | hx
  · exact (Array.getElem?_eq_some_iff.1 h.head).1
  · exact OwnAt.blk h.bad rfl
  · obtain ⟨j, hj, e⟩ := List.getElem_of_mem hx
    obtain ⟨vs0, _, hv0⟩ := h.rows
    obtain ⟨l, cap, hl, _, hbi⟩ := hv0 j (by rw [← h.len]; exact hj)
    rw [List.getElem?_eq_getElem hj, e] at hl
    cases hl
    exact OwnAt.blk hbi rfl
theorem write_half {w : World} {M : PLoc} {P : Pool} {c : Chip} {L : Loc} {G : Nat → Prop} (h : PC w M P c L G) {i : Nat} (hi : i < c.nb) {kind : UInt8} {era : Nat} (hera : era < 4294967296) {R : Value → World → Prop}
    (hR : ∀ w' L', Upd (PF M L) w w' → SameLoc L L' → PC w' M (writeHead P c i kind era).1 (writeHead P c i kind era).2.1 L' G → R (.int .i64 ((writeHead P c i kind era).2.2 : Nat)) w') :
    ∃ x11 : Int, World.cell? w ⟨M.q, 0 + 2, none⟩ = some (Value.int .u64 x11) ∧
    storeP w ⟨M.q, 0 + 2, none⟩ [Value.int .u64 (IntKind.u64.wrap (x11 + 1))] fun w9 =>
    ∀ w10 : World, Drew w9 w10 →
    ∃ S2 : World → Prop, S2 w10 ∧
    ∃ p4 : Option Addr, (∀ u3, S2 u3 → World.cell? u3 ⟨M.q, 0, none⟩ = some (Value.pointer p4)) ∧
    ∃ x12 : Int, (∀ u4, S2 u4 → World.cell? u4 ⟨M.q, 0 + 2, none⟩ = some (Value.int .u64 x12)) ∧
    CallsR prog K.nand_Chip_Geo #[Value.pointer p4] w10 fun v7 w11 =>
    ∃ x13 : Int, ∃ x14 : Int, ∃ x15 : Int, ∃ x16 : Int, v7 = Value.agg #[Value.int .i64 x13, Value.int .i64 x14, Value.int .i64 x15, Value.int .i64 x16] ∧ S2 w11 ∧
    CallsR prog K.pool_PutHead #[Value.int .i64 x15, Value.agg #[Value.int .u8 (kind.toNat : Int), Value.int .u32 (era : Int), Value.int .u64 x12]] w11 fun v8 w12 =>
    ∃ (a3 : Option Addr) (l3 c3 : Nat), ∃ x17 : Int, v8 = Value.tuple #[Value.slice a3 l3 c3, Value.int .i64 x17] ∧ S2 w12 ∧
    ∃ p5 : Option Addr, World.cell? w12 ⟨M.q, 0, none⟩ = some (Value.pointer p5) ∧
    CallsR prog K.nand_Chip_Program #[Value.pointer p5, Value.int .i64 (i : Int), Value.int .i64 0, Value.slice a3 l3 c3] w12 fun v9 w13 =>
    ∃ x18 : Int, v9 = Value.int .i64 x18 ∧
    CallsR prog K.pool_Pool_look #[Value.pointer (some ⟨M.q, 0, none⟩), Value.int .i64 (i : Int)] w13 fun v10 w14 => v10 = Value.tuple #[] ∧ R (Value.int .i64 x18) w14 := by
  refine ⟨_, cell_of h.head rfl, store_of h.head (by simp) fun w₉ hput => ?_⟩
  have hq : IntKind.u64.wrap ((P.last : Int) + 1) = ((P.raise.last : Nat) : Int) := by
    rw [wu64_mod]; rfl
  have hlast : P.raise.last < 18446744073709551616 := Nat.mod_lt _ (by omega)
  have h9 : PC w₉ M P.raise c L G := h.rehead (Put.upd1 hput) (last := P.raise.last) (turn := P.turn) h.turn (by
    have := hput.get
    rw [this, hq]; rfl)
  intro w₁₀ hd10
  have h10 := h9.ext hd10.upd
  have hu10 : Upd (· = M.q) w w₁₀ := (Put.upd1 hput).then hd10.upd
  refine ⟨fun u => Ext w₁₀ u, Upd.refl _ _, _, fun u hu => cell_of (h10.ext hu).head rfl, _, fun u hu => cell_of (h10.ext hu).head rfl, ?_⟩
  refine (nand_Geo_spec h10.chip).mono ?_
  rintro _ w₁₁ ⟨rfl, he11⟩
  refine ⟨_, _, _, _, rfl, he11, ?_⟩
  refine (pool_PutHead_spec (c.sz : Nat) ⟨kind, era, P.raise.last⟩ ⟨hera, hlast⟩ w₁₁).mono ?_
  rintro _ w₁₂ ⟨he12, a3, c3, rfl, hb3, hf3, _⟩
  have e12 := he11.trans he12
  have h12 := h10.ext e12
  have h11 := h10.ext he11
  refine ⟨_, _, _, _, rfl, e12, _, cell_of h12.head rfl, ?_⟩
  refine (nand_Program_spec h12.chip (i : Int) 0 (cp := c3) hb3 (fun p hp hm => ?_)).mono ?_
  · have h1 := hf3 p hp
    have h2 := h11.chip.lt p.block (by
      simp only [List.mem_cons] at hm ⊢
      rcases hm with hm | hm
      · exact .inl hm
      · exact .inr (.inr hm))
    omega
  rintro _ w₁₃ ⟨hu13, L', hs13, h13, rfl⟩
  have hpc13 : PC w₁₃ M P.raise _ L' G := h12.rechip hu13 h13 hs13 (Chip.program_geo _ _ _ _) (fun x hx => (h.apart x hx).2)
  refine ⟨_, rfl, ?_⟩
  refine (pool_look_spec hpc13 (by rw [(Chip.program_geo c (i : Int) 0 _).1]; exact hi)).mono ?_
  rintro _ w₁₄ ⟨rfl, hu14, h14⟩
  refine ⟨rfl, hR w₁₄ L' ?_ hs13 h14⟩
  refine (((hu10.mono fun x _ hx => .inl hx).then e12).trans (hu13.mono fun x _ hx => .inr (.inr hx))).trans (hu14.mono fun x _ hx => .inr (.inl hx))
theorem pool_try_spec {w : World} {M : PLoc} {P : Pool} {c : Chip} {L : Loc} {G : Nat → Prop} (h : PC w M P c L G) {i : Nat} (hi : i < c.nb) {kind : UInt8} {era : Nat} (hera : era < 4294967296) :
    CallsR prog K.pool_Pool_try #[.pointer (some ⟨M.q, 0, none⟩), .int .i64 i, bv kind, .int .u32 era] w fun v w' => v = .int .i64 ((tryBlk P c i kind era).2.2 : Nat) ∧ Upd (PF M L) w w' ∧ ∃ L', SameLoc L L' ∧ PC w' M (tryBlk P c i kind era).1 (tryBlk P c i kind era).2.1 L' G := by
  apply pool_Pool_try.sh
  simp only [pool_Pool_try.body, nilC_some', add_lit]
  refine ⟨_, _, _, cell_of h.head rfl, ?_⟩
  refine h.idx hi fun hr => ?_
  have hc := RowAt.cell hr (i := 0) (v := .int .i64 (P.blk i).what) rfl
  obtain ⟨b, o, hab, hc⟩ := hc
  cases hab
  refine ⟨_, hc, br_eq (fun h1 => ?_) fun h1 => ?_⟩
  · have ht : tryBlk P c i kind era = if (c.erase i).2 ≠ 0 then (P.relook (c.erase i).1 i, (c.erase i).1, (c.erase i).2) else writeHead (P.relook (c.erase i).1 i) (c.erase i).1 i kind era := by
      unfold tryBlk; rw [if_pos (by omega)]
    rw [ht]
    refine ⟨_, cell_of h.head rfl, ?_⟩
    refine (nand_Erase_spec h.chip (i : Int)).mono ?_
    rintro _ w₁ ⟨hu1, L1, hs1, hc1, rfl⟩
    have hg := Chip.erase_geo c (i : Int)
    have hp1 : PC w₁ M P _ L1 G := h.rechip hu1 hc1 hs1 hg (fun x hx => (h.apart x hx).2)
    refine ⟨_, rfl, ?_⟩
    refine (pool_look_spec hp1 (by rw [hg.1]; exact hi)).mono ?_
    rintro _ w₂ ⟨rfl, hu2, hp2⟩
    refine ⟨rfl, ?_⟩
    have hu12 : Upd (PF M L) w w₂ := (hu1.mono fun x _ hx => .inr (.inr hx)).trans (hu2.mono fun x _ hx => .inr (.inl hx))
    refine br_ne (fun hne => ?_) fun heq => ?_
    · rw [if_pos (by omega)]
      exact ⟨by trivial, hu12, L1, hs1, hp2⟩
    · rw [if_neg (by omega)]
      refine write_half (kind := kind) hp2 (by rw [hg.1]; exact hi) hera (R := fun v w' => v = .int .i64 ((writeHead (P.relook (c.erase i).1 i) (c.erase i).1 i kind era).2.2 : Nat) ∧ Upd (PF M L) w w' ∧ ∃ L', SameLoc L L' ∧ PC w' M (writeHead (P.relook (c.erase i).1 i) (c.erase i).1 i kind era).1 (writeHead (P.relook (c.erase i).1 i) (c.erase i).1 i kind era).2.1 L' G) fun w' L' hu' hs' hp' => ⟨by trivial, hu12.trans (by rw [PF.same hs1] at hu'; exact hu'), L', hs1.trans hs', hp'⟩
  · have ht : tryBlk P c i kind era = writeHead P c i kind era := by unfold tryBlk; rw [if_neg (by omega)]
    rw [ht]
    exact write_half (kind := kind) h hi hera (R := fun v w' => v = .int .i64 ((writeHead P c i kind era).2.2 : Nat) ∧ Upd (PF M L) w w' ∧ ∃ L', SameLoc L L' ∧ PC w' M (writeHead P c i kind era).1 (writeHead P c i kind era).2.1 L' G) fun w' L' hu' hs' hp' => ⟨by trivial, hu', L', hs', hp'⟩
theorem SameLoc.symm {A B : Loc} (h : SameLoc A B) : SameLoc B A := by
  obtain ⟨a, b, c, d, e⟩ := h
  exact ⟨a.symm, b.symm, c.symm, d.symm, e.symm⟩
theorem tryBlk_geo (P : Pool) (c : Chip) (i : Nat) (kind : UInt8) (era : Nat) : c.SameGeo (tryBlk P c i kind era).2.1 := by
  unfold tryBlk writeHead
  split
  · split
    · exact Chip.erase_geo _ _
    · exact (Chip.erase_geo _ _).trans (Chip.program_geo _ _ _ _)
  · exact Chip.program_geo _ _ _ _
theorem pool_Take_spec {w : World} {M : PLoc} {P : Pool} {c : Chip} {L : Loc} {G : Nat → Prop} (h : PC w M P c L G) {kind : UInt8} {era : Nat} (hera : era < 4294967296) :
    CallsR prog K.pool_Pool_Take #[.pointer (some ⟨M.q, 0, none⟩), bv kind, .int .u32 era] w fun v w' =>
      v = .tuple #[.int .i64 ((takePool P c kind era).block : Nat), .int .i64 ((takePool P c kind era).err : Nat)] ∧ Upd (PF M L) w w' ∧ ∃ L', SameLoc L L' ∧ PC w' M (takePool P c kind era).pool (takePool P c kind era).chip L' G := by
  apply pool_Pool_Take.sh
  unfold pool_Pool_Take.body
  refine (pool_off_spec h).mono ?_
  rintro _ _ ⟨rfl, rfl⟩
  rename_i w
  refine ⟨_, rfl, ?_⟩
  simp only [br_false, nilC_some', add_lit]
  have hno : (kind.toNat < 1 ∨ kind.toNat > 3 ∨ era < 1) → takePool P c kind era = ⟨P, c, 0, 2⟩ := fun hc => by unfold takePool; rw [if_pos hc]
  refine ⟨fun u => u = w ∧ ¬ (kind.toNat < 1 ∨ kind.toNat > 3 ∨ era < 1), ?_, ?_⟩
  · refine br_dec (fun h1 => ?_) fun h1 => br_dec (fun h2 => ?_) fun h2 => br_dec (fun h3 => ?_) fun h3 => ⟨by trivial, by omega⟩
    · rw [hno (by omega)]; exact ⟨by trivial, Upd.refl _ _, L, SameLoc.refl _, h⟩
    · rw [hno (by omega)]; exact ⟨by trivial, Upd.refl _ _, L, SameLoc.refl _, h⟩
    · rw [hno (by omega)]; exact ⟨by trivial, Upd.refl _ _, L, SameLoc.refl _, h⟩
  rintro w₂ ⟨rfl, hcond⟩
  refine (pool_alive_spec h).mono ?_
  rintro _ w₃ ⟨rfl, he3⟩
  refine ⟨_, rfl, br_ne (fun hne => ?_) fun heq => ?_⟩
  · have : takePool P c kind era = ⟨P, c, 0, c.ask 0 0⟩ := by unfold takePool; rw [if_neg hcond, if_pos (by omega)]
    rw [this]
    exact ⟨by trivial, Upd.ext he3, L, SameLoc.refl _, h.ext he3⟩
  have ht : takePool P c kind era = takeGo kind era P c (List.range c.nb) := by unfold takePool; rw [if_neg hcond, if_neg (by omega)]
  rw [ht]
  have h3 := h.ext he3
  have hnb1 := h.chip.ok.nb1
  have hnb2 := h.chip.ok.nb2
  refine ⟨_, _, _, cell_of h3.head rfl, ?_⟩
  refine ⟨fun x u => ∃ (k : Nat) (P' : Pool) (c' : Chip) (L' : Loc), x = k ∧ k ≤ c.nb ∧ Upd (PF M L) w₂ u ∧ SameLoc L L' ∧ c.SameGeo c' ∧ PC u M P' c' L' G ∧ takeGo kind era P c (List.range c.nb) = takeGo kind era P' c' ((List.range c.nb).drop k),
    fun x _ => (c.nb - x).toNat, ⟨0, P, c, L, rfl, by omega, Upd.ext he3, SameLoc.refl _, .refl _, h3, by simp⟩, ?_⟩
  rintro x u ⟨k, P', c', L', rfl, hk, hu, hsl, hg, hp, htg⟩
  refine br_dec (fun hlt => ?_) fun hge => ?_
  · have hk' : k < c.nb := by omega
    have hturn := hp.turn
    rw [hg.1] at hturn
    have hdrop : (List.range c.nb).drop k = k :: (List.range c.nb).drop (k + 1) := by
      rw [List.drop_eq_getElem_cons (by simpa using hk')]; simp
    have hmod : (P'.turn + k) % c.nb < c.nb := Nat.mod_lt _ (by omega)
    have e1 : IntKind.i64.wrap ((k : Int) + 1) = ((k + 1 : Nat) : Int) := w64 (by omega) (by omega)
    have e2 : IntKind.i64.wrap ((P'.turn : Int) + (k : Int)) = ((P'.turn + k : Nat) : Int) := w64 (by omega) (by omega)
    have hnext : ∀ {u' : World} {P2 : Pool} {c2 : Chip} {L2 : Loc}, Upd (PF M L) w₂ u' → SameLoc L L2 → c.SameGeo c2 → PC u' M P2 c2 L2 G → takeGo kind era P c (List.range c.nb) = takeGo kind era P2 c2 ((List.range c.nb).drop (k + 1)) →
        (∃ (k' : Nat) (P' : Pool) (c' : Chip) (L' : Loc), IntKind.i64.wrap ((k : Int) + 1) = k' ∧ k' ≤ c.nb ∧ Upd (PF M L) w₂ u' ∧ SameLoc L L' ∧ c.SameGeo c' ∧ PC u' M P' c' L' G ∧ takeGo kind era P c (List.range c.nb) = takeGo kind era P' c' ((List.range c.nb).drop k')) ∧
          ((c.nb : Int) - IntKind.i64.wrap ((k : Int) + 1)).toNat < ((c.nb : Int) - (k : Int)).toNat := by
      intro u' P2 c2 L2 a1 a2 a3 a4 a5
      rw [e1]
      exact ⟨⟨k + 1, P2, c2, L2, rfl, hk', a1, a2, a3, a4, a5⟩, by omega⟩
    refine ⟨_, cell_of hp.head rfl, by omega, _, cell_of hp.head rfl, ?_⟩
    rw [e2, tmod_nat]
    rw [hdrop] at htg
    refine (nand_Bad_spec hp.chip _).mono ?_
    rintro _ _ ⟨rfl, rfl⟩
    rename_i u
    have hd0 : decide ((0 : Int) ≤ (((P'.turn + k) % c.nb : Nat) : Int)) = true := decide_eq_true (by omega)
    refine ⟨_, rfl, ?_⟩
    rw [hd0, Bool.true_and, Int.toNat_natCast]
    refine br_intro (fun hb => ?_) fun hb => ?_
    · refine hnext hu hsl hg hp ?_
      rw [htg, takeGo, if_pos (.inl (by rw [hg.1]; exact hb))]
    refine ⟨_, _, _, cell_of hp.head rfl, ?_⟩
    refine hp.idx (by rw [hg.1]; exact hmod) fun hr => ?_
    obtain ⟨b', o', hab, hc⟩ := RowAt.cell hr (i := 0) (v := .int .i64 (P'.blk ((P'.turn + k) % c.nb)).what) rfl
    cases hab
    refine ⟨_, hc, br_eq (fun h2 => ?_) fun h2 => ?_⟩
    · refine hnext hu hsl hg hp ?_
      rw [htg, takeGo, if_pos (.inr (by rw [hg.1]; omega))]
    have hcnd : ¬ (c'.isBad ((P'.turn + k) % c'.nb) = true ∨ (P'.blk ((P'.turn + k) % c'.nb)).what = 2) := by
      rw [hg.1, hb]; simp; omega
    rw [takeGo, if_neg hcnd, hg.1] at htg
    refine (pool_try_spec hp (by rw [hg.1]; exact hmod) hera).mono ?_
    rintro _ u' ⟨rfl, hu', L2, hs2, hp2⟩
    rw [PF.same hsl] at hu'
    have hg2 := hg.trans (tryBlk_geo P' c' ((P'.turn + k) % c.nb) kind era)
    refine ⟨_, rfl, br_eq (fun h0 => ?_) fun h0 => ?_⟩
    · rw [if_pos (by omega)] at htg
      refine store_of hp2.head (by simp) fun w₇ hput => ?_
      have e3 : IntKind.i64.wrap ((((P'.turn + k) % c.nb : Nat) : Int) + 1) = (((P'.turn + k) % c.nb + 1 : Nat) : Int) := w64 (by omega) (by omega)
      have h7 := hp2.rehead (Put.upd1 hput) (last := (tryBlk P' c' ((P'.turn + k) % c.nb) kind era).1.last) (turn := (P'.turn + k) % c.nb + 1) (by rw [hg2.1]; exact hmod) (by
        have := hput.get
        rw [this, e3]; rfl)
      rw [htg]
      exact ⟨by trivial, (hu.trans hu').trans ((Put.upd1 hput).mono fun x _ hx => .inl hx), L2, hsl.trans hs2, h7⟩
    rw [if_neg (by omega)] at htg
    refine br_eq (fun h10 => ?_) fun h10 => ?_
    · rw [if_pos (by omega)] at htg
      rw [htg, h10]
      exact ⟨by trivial, hu.trans hu', L2, hsl.trans hs2, hp2⟩
    · rw [if_neg (by omega)] at htg
      exact hnext (hu.trans hu') (hsl.trans hs2) hg2 hp2 htg
  · have : k = c.nb := by omega
    subst this
    rw [List.drop_of_length_le (by simp)] at htg
    rw [htg]
    exact ⟨by trivial, hu, L', hsl, hp⟩
theorem pool_Free_spec {w : World} {M : PLoc} {P : Pool} {c : Chip} {L : Loc} {G : Nat → Prop} (h : PC w M P c L G) (i : Int) :
    CallsR prog K.pool_Pool_Free #[.pointer (some ⟨M.q, 0, none⟩), .int .i64 i] w fun v w' =>
      v = .int .i64 ((freePool P c i).2.2 : Nat) ∧ Upd (PF M L) w w' ∧ ∃ L', SameLoc L L' ∧ PC w' M (freePool P c i).1 (freePool P c i).2.1 L' G := by
  apply pool_Pool_Free.sh
  unfold pool_Pool_Free.body
  refine (pool_off_spec h).mono ?_
  rintro _ _ ⟨rfl, rfl⟩
  rename_i w
  refine ⟨_, rfl, ?_⟩
  simp only [br_false, nilC_some', add_lit]
  have hno : (i < 0 ∨ i ≥ c.nb ∨ (P.blk i.toNat).what ≠ 2 ∨ c.isBad i.toNat = true) → freePool P c i = (P, c, 12) := fun hc => by unfold freePool; rw [if_pos hc]
  refine br_dec (fun h1 => ?_) fun h1 => ?_
  · rw [hno (.inl h1)]; exact ⟨by trivial, Upd.refl _ _, L, SameLoc.refl _, h⟩
  refine ⟨_, _, _, cell_of h.head rfl, br_dec (fun h2 => ?_) fun h2 => ?_⟩
  · rw [hno (.inr (.inl h2))]; exact ⟨by trivial, Upd.refl _ _, L, SameLoc.refl _, h⟩
  obtain ⟨j, rfl⟩ : ∃ j : Nat, i = j := ⟨i.toNat, by omega⟩
  have hj : j < c.nb := by omega
  simp only [Int.toNat_natCast] at hno
  refine ⟨_, _, _, cell_of h.head rfl, h.idx hj fun hr => ?_⟩
  obtain ⟨b', o', hab, hc⟩ := RowAt.cell hr (i := 0) (v := .int .i64 (P.blk j).what) rfl
  cases hab
  refine ⟨_, hc, br_ne (fun h3 => ?_) fun h3 => ?_⟩
  · rw [hno (.inr (.inr (.inl (by omega))))]; exact ⟨by trivial, Upd.refl _ _, L, SameLoc.refl _, h⟩
  refine ⟨_, cell_of h.head rfl, ?_⟩
  refine (nand_Bad_spec h.chip _).mono ?_
  rintro _ _ ⟨rfl, rfl⟩
  rename_i w
  have hd0 : decide ((0 : Int) ≤ ((j : Nat) : Int)) = true := decide_eq_true (by omega)
  refine ⟨_, rfl, ?_⟩
  rw [hd0, Bool.true_and, Int.toNat_natCast]
  refine br_intro (fun h4 => ?_) fun h4 => ?_
  · rw [hno (.inr (.inr (.inr h4)))]; exact ⟨by trivial, Upd.refl _ _, L, SameLoc.refl _, h⟩
  have hf : freePool P c (j : Int) = (P.relook (c.erase j).1 j, (c.erase j).1, if (c.erase j).2 = 9 then 0 else (c.erase j).2) := by
    unfold freePool
    rw [if_neg (by
      rw [Int.toNat_natCast, h4]
      rintro (h | h | h | h)
      · omega
      · omega
      · omega
      · cases h)]
    simp only [Int.toNat_natCast]
  rw [hf]
  refine ⟨_, cell_of h.head rfl, ?_⟩
  refine (nand_Erase_spec h.chip (j : Int)).mono ?_
  rintro _ w₁ ⟨hu1, L1, hs1, hc1, rfl⟩
  have hg := Chip.erase_geo c (j : Int)
  have hp1 : PC w₁ M P _ L1 G := h.rechip hu1 hc1 hs1 hg (fun x hx => (h.apart x hx).2)
  refine ⟨_, rfl, ?_⟩
  refine (pool_look_spec hp1 (by rw [hg.1]; exact hj)).mono ?_
  rintro _ w₂ ⟨rfl, hu2, hp2⟩
  have hu12 : Upd (PF M L) w w₂ := (hu1.mono fun x _ hx => .inr (.inr hx)).trans (hu2.mono fun x _ hx => .inr (.inl hx))
  refine ⟨rfl, br_eq (fun h9 => ?_) fun h9 => ?_⟩
  · rw [if_pos (by omega)]
    exact ⟨by trivial, hu12, L1, hs1, hp2⟩
  · rw [if_neg (by omega)]
    exact ⟨by trivial, hu12, L1, hs1, hp2⟩
theorem pool_Last_spec {w : World} {M : PLoc} {P : Pool} {c : Chip} {L : Loc} {G : Nat → Prop} (h : PC w M P c L G) :
    CallsR prog K.pool_Pool_Last #[.pointer (some ⟨M.q, 0, none⟩)] w fun v w' => v = .int .u64 (P.last : Nat) ∧ w' = w := by
  apply pool_Pool_Last.sh
  unfold pool_Pool_Last.body
  refine (pool_off_spec h).mono ?_
  rintro _ _ ⟨rfl, rfl⟩
  refine ⟨_, rfl, ?_⟩
  simp only [br_false, nilC_some', add_lit]
  exact ⟨_, cell_of h.head rfl, by trivial, by trivial⟩
theorem pool_Chip_spec {w : World} {M : PLoc} {P : Pool} {c : Chip} {L : Loc} {G : Nat → Prop} (h : PC w M P c L G) :
    CallsR prog K.pool_Pool_Chip #[.pointer (some ⟨M.q, 0, none⟩)] w fun v w' => v = .pointer (some ⟨M.p, 0, none⟩) ∧ w' = w := by
  apply pool_Pool_Chip.sh
  unfold pool_Pool_Chip.body
  refine (pool_off_spec h).mono ?_
  rintro _ _ ⟨rfl, rfl⟩
  refine ⟨_, rfl, ?_⟩
  simp only [br_false, nilC_some', add_lit]
  exact ⟨_, cell_of h.head rfl, by trivial, by trivial⟩
theorem pool_Blanks_spec {w : World} {M : PLoc} {P : Pool} {c : Chip} {L : Loc} {G : Nat → Prop} (h : PC w M P c L G) :
    CallsR prog K.pool_Pool_Blanks #[.pointer (some ⟨M.q, 0, none⟩)] w fun v w' => v = .int .i64 (blanksPool P c : Nat) ∧ Ext w w' := by
  apply pool_Pool_Blanks.sh
  unfold pool_Pool_Blanks.body
  refine (pool_off_spec h).mono ?_
  rintro _ _ ⟨rfl, rfl⟩
  rename_i w
  refine ⟨_, rfl, ?_⟩
  simp only [br_false, nilC_some', add_lit]
  have hnb2 := h.chip.ok.nb2
  refine ⟨_, _, _, cell_of h.head rfl, ?_⟩
  refine ⟨fun x y u => ∃ i : Nat, y = i ∧ i ≤ c.nb ∧ Ext w u ∧ x = (((List.range i).filter fun i => decide ((P.blk i).what ≠ 2) && !c.isBad i).length : Nat), fun _ y _ => (c.nb - y).toNat, ⟨0, rfl, by omega, Upd.refl _ _, rfl⟩, ?_⟩
  rintro x y u ⟨i, rfl, hi, hu, rfl⟩
  have hpu := h.ext hu
  refine br_dec (fun hlt => ?_) fun hge => ?_
  · have hi' : i < c.nb := by omega
    have e1 : IntKind.i64.wrap ((i : Int) + 1) = ((i + 1 : Nat) : Int) := w64 (by omega) (by omega)
    have hle : ((List.range i).filter fun i => decide ((P.blk i).what ≠ 2) && !c.isBad i).length ≤ i := Nat.le_trans (List.length_filter_le _ _) (by simp)
    refine hpu.idx hi' fun hr => ?_
    refine ⟨(P.blk i).what, (P.blk i).head.kind.toNat, (P.blk i).head.era, (P.blk i).head.seq, RowAt.cells hr, fun B w₃ hn3 => ?_⟩
    refine store_of hn3.get (by simp) fun w₄ hput4 => ?_
    have hB : B = u.heap.size := hn3.num
    have e4 : Ext w w₄ := Put.upd (hu.trans hn3.upd) hput4 (.inl (by have := hu.size; omega))
    have hg4 := hput4.get
    have hp4 := h.ext e4
    refine ⟨(P.blk i).what, ?_, ?_⟩
    · refine cell_of hg4 ?_
      rw [splice_all _ _ (by simp)]; rfl
    have hrs : ∀ b : Bool, (decide ((P.blk i).what ≠ 2) && !c.isBad i) = b → (((List.range (i + 1)).filter fun i => decide ((P.blk i).what ≠ 2) && !c.isBad i).length : Nat) = ((List.range i).filter fun i => decide ((P.blk i).what ≠ 2) && !c.isBad i).length + if b then 1 else 0 := by
      intro b hb
      rw [List.range_succ, List.filter_append, List.length_append]
      simp only [List.filter_cons, hb, List.filter_nil]
      cases b <;> rfl
    refine br_ne (fun hne => ?_) fun heq => ?_
    · refine ⟨_, cell_of hp4.head rfl, ?_⟩
      refine (nand_Bad_spec hp4.chip _).mono ?_
      rintro _ _ ⟨rfl, rfl⟩
      rename_i w₄
      have hd0 : decide ((0 : Int) ≤ ((i : Nat) : Int)) = true := decide_eq_true (by omega)
      have hd1 : decide ((P.blk i).what ≠ 2) = true := decide_eq_true (by omega)
      refine ⟨_, rfl, ?_⟩
      rw [hd0, Bool.true_and, Int.toNat_natCast, e1]
      refine br_intro (fun hb => ?_) fun hb => ?_
      · have := hrs true (by rw [hd1, hb]; rfl)
        refine ⟨⟨i + 1, rfl, hi', e4, ?_⟩, meas hi'⟩
        rw [this, w64 (by omega) (by omega)]
        simp
      · have := hrs false (by rw [hd1, hb]; rfl)
        refine ⟨⟨i + 1, rfl, hi', e4, ?_⟩, meas hi'⟩
        rw [this]
        simp
    · rw [e1]
      have hd1 : decide ((P.blk i).what ≠ 2) = false := decide_eq_false (by omega)
      have := hrs false (by rw [hd1]; rfl)
      refine ⟨⟨i + 1, rfl, hi', e4, ?_⟩, meas hi'⟩
      rw [this]
      simp
  · have : i = c.nb := by omega
    subst this
    exact ⟨by trivial, hu⟩
end Go.Den
end
section
set_option linter.unusedVariables false
set_option linter.unusedSimpArgs false
set_option maxRecDepth 8000
namespace Go.Den
theorem zerosL_flat {α : Type} (f : α → List Value) (b : α) (n : Nat) : zerosL (f b) n = (List.replicate n b).flatMap f := by
  induction n with
  | zero => rfl
  | succ n ih => simp [zerosL, List.replicate_succ] at ih ⊢; try exact ih
theorem pool_Scan_spec {w : World} {p : Nat} {c : Chip} {L : Loc} {G : Nat → Prop} (h : ChipRep w p c L G) (hG : ∀ x, G x → x < w.heap.size) :
    CallsR prog K.pool_Scan #[.pointer (some ⟨p, 0, none⟩)] w fun v w' => Ext w w' ∧
      if c.dead then v = .tuple #[.pointer none, .int .i64 10]
      else ∃ q pb, v = .tuple #[.pointer (some ⟨q, 0, none⟩), .int .i64 0] ∧ w.heap.size ≤ q ∧ w.heap.size ≤ pb ∧ q < w'.heap.size ∧ pb < w'.heap.size ∧ PC w' ⟨q, pb, c.nb, p⟩ (scanPool c) c L G := by
  have hok := h.ok
  have hnb1 := hok.nb1
  have hnb2 := hok.nb2
  apply pool_Scan.sh
  refine ⟨fun u => Ext w u, ?_, ?_⟩
  · simp only [Option.isNone_some, br_false]
    refine (nand_Geo_spec h).mono ?_
    rintro _ w₁ ⟨rfl, he1⟩
    exact ⟨_, _, _, _, rfl, br_eq (fun h => by omega) fun _ => he1⟩
  intro w₂ he2
  have h2 := h.ext he2
  refine (nand_Read_spec h2 0 0).mono ?_
  rintro v w₃ ⟨he3, hv⟩
  have e3 := he2.trans he3
  rw [ask00 hok] at hv
  rcases Bool.eq_false_or_eq_true c.dead with hd | hd
  · rw [hd] at hv
    simp only [if_true, if_neg (show ¬ (10 = 0) by omega)] at hv
    subst hv
    refine ⟨_, _, _, _, rfl, br_ne (fun _ => ⟨e3, ?_⟩) fun h => by omega⟩
    rw [if_pos hd]
    rfl
  rw [hd] at hv
  simp only [Bool.false_eq_true, if_false, if_true] at hv
  obtain ⟨a, cp, rfl, _⟩ := hv
  refine ⟨_, _, _, _, rfl, br_ne (fun h => by omega) fun _ => ?_⟩
  have h3 := h.ext e3
  refine (nand_Geo_spec h3).mono ?_
  rintro _ w₄ ⟨rfl, he4⟩
  have e4 := e3.trans he4
  refine ⟨_, _, _, _, rfl, ?_⟩
  refine ⟨by omega, by omega, by omega, by omega, rfl, fun pb w₅ hn5 q w₆ hn6 => ?_⟩
  have e6 := (e4.trans hn5.upd).trans hn6.upd
  have h6 := h.ext e6
  have hpb : pb = w₄.heap.size := hn5.num
  have hq : q = w₅.heap.size := hn6.num
  have hs4 := e4.size
  have hs5 := hn5.size
  have hs6 := hn6.size
  simp only [Int.toNat_natCast] at hn5 hn6 ⊢
  have hz : zerosL [Value.int .i64 0, Value.int .u8 0, Value.int .u32 0, Value.int .u64 0] c.nb = (List.replicate c.nb Blk.zero).flatMap Blk.vals := zerosL_flat Blk.vals Blk.zero c.nb
  rw [hz] at hn5
  have hpc6 : PC w₆ ⟨q, pb, c.nb, p⟩ (scanGo c 0) c L G := by
    refine ⟨h6, hn6.get, ?_, Nat.zero_le _, fun x hx => ?_, by show q ≠ pb; omega⟩
    · have := OwnAt.new (n := c.nb) (size := 4) hn5 (by simp [Blk.vals])
      exact OwnAt.ext this hn6.upd
    · have hxw : w.heap.size ≤ x := by
        rcases hx with hx | hx
        · have : x = q := hx
          omega
        · have : x = pb := hx
          omega
      exact ⟨fun hm => by have := h.lt x hm; omega, fun hg => by have := hG x hg; omega⟩
  simp only [add_lit]
  refine ⟨_, _, _, cell_of hn6.get rfl, ?_⟩
  refine ⟨fun x u => ∃ i : Nat, x = i ∧ i ≤ c.nb ∧ Upd (fun x => x = q ∨ x = pb) w₆ u ∧ PC u ⟨q, pb, c.nb, p⟩ (scanGo c i) c L G, fun x _ => (c.nb - x).toNat, ⟨0, rfl, by omega, Upd.refl _ _, hpc6⟩, ?_⟩
  rintro x u ⟨i, rfl, hi, hu, hp⟩
  have hfin : ∀ {u' : World}, Upd (fun x => x = q ∨ x = pb) w₆ u' → Ext w u' := fun hu' => Upd.beyond e6 hu' (fun x hx => by rcases hx with rfl | rfl <;> omega)
  refine br_dec (fun hlt => ?_) fun hge => ?_
  · have hi' : i < c.nb := by omega
    have e1 : IntKind.i64.wrap ((i : Int) + 1) = ((i + 1 : Nat) : Int) := w64 (by omega) (by omega)
    refine (pool_look_spec hp hi').mono ?_
    rintro _ w₈ ⟨rfl, hu8, hp8⟩
    have hu08 : Upd (fun x => x = q ∨ x = pb) w₆ w₈ := hu.trans (hu8.mono fun x _ hx => .inr hx)
    refine ⟨rfl, _, _, _, cell_of hp8.head rfl, hp8.idx hi' fun hr => ?_⟩
    simp only [add_lit]
    generalize hP8 : (scanGo c i).relook c i = P8 at *
    have hc1 := RowAt.cells (RowAt.drop hr 1)
    refine ⟨(P8.blk i).head.kind.toNat, (P8.blk i).head.era, (P8.blk i).head.seq, hc1, fun B w₉ hn9 => ?_⟩
    rw [head_zero] at hn9
    refine head_put (h := (P8.blk i).head) hn9.get rfl fun w₁₀ hput10 => ?_
    have hB : B = w₈.heap.size := hn9.num
    have hs8 := hu08.size
    have hu10 : Upd (fun x => x = q ∨ x = pb) w₆ w₁₀ := Put.upd (hu08.then hn9.upd) hput10 (.inl (by omega))
    intro w₁₁ hd11
    have hu11 := hu10.then hd11.upd
    have e811 : Ext w₈ w₁₁ := (Put.upd hn9.upd hput10 (.inl (by omega))).trans hd11.upd
    have hp11 := hp8.ext e811
    have hg11 := Ext.get hd11.upd hput10.get
    have hgo : scanGo c (i + 1) = if (P8.blk i).head.seq > (scanGo c i).last ∨ ((P8.blk i).head.seq = (scanGo c i).last ∧ (P8.blk i).head.seq > 0) then { P8 with last := (P8.blk i).head.seq, turn := i + 1 } else P8 := by
      rw [scanGo, hP8]
    have hl8 : P8.last = (scanGo c i).last := by rw [← hP8]; rfl
    have hset : ((P8.blk i).head.seq > (scanGo c i).last ∨ ((P8.blk i).head.seq = (scanGo c i).last ∧ (P8.blk i).head.seq > 0)) →
        storeP w₁₁ ⟨q, 0 + 2, none⟩ [Value.int .u64 ((P8.blk i).head.seq : Nat)] fun w12 =>
        storeP w12 ⟨q, 0 + 3, none⟩ [Value.int .i64 (IntKind.i64.wrap ((i : Int) + 1))] fun w13 =>
          (∃ i' : Nat, IntKind.i64.wrap ((i : Int) + 1) = i' ∧ i' ≤ c.nb ∧ Upd (fun x => x = q ∨ x = pb) w₆ w13 ∧ PC w13 ⟨q, pb, c.nb, p⟩ (scanGo c i') c L G) ∧ ((c.nb : Int) - IntKind.i64.wrap ((i : Int) + 1)).toNat < ((c.nb : Int) - (i : Int)).toNat := by
      intro hcnd
      refine store_of hp11.head (by simp) fun w₁₂ hput12 => ?_
      refine store_of hput12.get (by simp [splice]) fun w₁₃ hput13 => ?_
      rw [e1]
      have hq2 := (Put.upd1 hput12).trans (Put.upd1 hput13)
      refine ⟨⟨i + 1, rfl, hi', hu11.trans (hq2.mono fun x _ hx => .inl hx), ?_⟩, meas hi'⟩
      rw [hgo, if_pos hcnd]
      refine hp11.rehead hq2 (last := (P8.blk i).head.seq) (turn := i + 1) hi' ?_
      have := hput13.get
      rw [this, e1]; rfl
    have hkeep : ¬ ((P8.blk i).head.seq > (scanGo c i).last ∨ ((P8.blk i).head.seq = (scanGo c i).last ∧ (P8.blk i).head.seq > 0)) →
        (∃ i' : Nat, IntKind.i64.wrap ((i : Int) + 1) = i' ∧ i' ≤ c.nb ∧ Upd (fun x => x = q ∨ x = pb) w₆ w₁₁ ∧ PC w₁₁ ⟨q, pb, c.nb, p⟩ (scanGo c i') c L G) ∧ ((c.nb : Int) - IntKind.i64.wrap ((i : Int) + 1)).toNat < ((c.nb : Int) - (i : Int)).toNat := by
      intro hcnd
      rw [e1]
      refine ⟨⟨i + 1, rfl, hi', hu11, ?_⟩, meas hi'⟩
      rw [hgo, if_neg hcnd]
      exact hp11
    have hcq : World.cell? w₁₁ ⟨q, 0 + 2, none⟩ = some (.int .u64 ((scanGo c i).last : Nat)) := by rw [← hl8]; exact cell_of hp11.head rfl
    refine ⟨fun v => v = w₁₁, rfl, _, fun v hv => hv ▸ cell_of hg11 rfl, _, fun v hv => hv ▸ hcq, br_dec (fun h1 => ?_) fun h1 => ?_⟩
    · exact ⟨_, cell_of hg11 rfl, hset (.inl (by omega))⟩
    refine ⟨_, fun v hv => hv ▸ cell_of hg11 rfl, _, fun v hv => hv ▸ hcq, br_eq (fun h2 => ?_) fun h2 => hkeep (by omega)⟩
    refine ⟨_, fun v hv => hv ▸ cell_of hg11 rfl, br_dec (fun h3 => ?_) fun h3 => hkeep (by omega)⟩
    exact ⟨_, cell_of hg11 rfl, hset (.inr (by omega))⟩
  · have : i = c.nb := by omega
    subst this
    have hsu := hu.size
    refine ⟨hfin hu, ?_⟩
    rw [if_neg (by rw [hd]; simp)]
    exact ⟨q, pb, rfl, by omega, by omega, by omega, by omega, hp⟩
end Go.Den
end
section
set_option linter.unusedVariables false
set_option linter.unusedSimpArgs false
set_option maxRecDepth 8000
namespace Go.Den
/-! ### Sorting -/
def pref {α : Type} (lt : α → α → Bool) (l : List α) (i : Nat) : List α := (l.take i).foldl (fun acc x => sink lt x acc) []
theorem sink_length {α : Type} (lt : α → α → Bool) (x : α) (l : List α) : (sink lt x l).length = l.length + 1 := by
  induction l with
  | nil => rfl
  | cons y l ih => unfold sink; split <;> simp [ih]
theorem pref_succ {α : Type} (lt : α → α → Bool) (l : List α) (i : Nat) (hi : i < l.length) : pref lt l (i + 1) = sink lt l[i] (pref lt l i) := by
  unfold pref
  rw [List.take_succ_eq_append_getElem hi, List.foldl_append]
  rfl
theorem pref_length {α : Type} (lt : α → α → Bool) (l : List α) (i : Nat) (hi : i ≤ l.length) : (pref lt l i).length = i := by
  induction i with
  | zero => simp [pref]
  | succ i ih => rw [pref_succ lt l i hi, sink_length, ih (by omega)]
theorem pref_all {α : Type} (lt : α → α → Bool) (l : List α) : (pref lt l l.length).reverse = isort lt l := by simp [pref, isort]
theorem sink_mem {α : Type} (lt : α → α → Bool) (x y : α) (l : List α) : y ∈ sink lt x l ↔ y = x ∨ y ∈ l := by
  induction l with
  | nil => simp [sink]
  | cons z l ih =>
    unfold sink
    split
    · simp [ih]; constructor
      · rintro (h | h | h)
        · exact .inr (.inl h)
        · exact .inl h
        · exact .inr (.inr h)
      · rintro (h | h | h)
        · exact .inr (.inl h)
        · exact .inl h
        · exact .inr (.inr h)
    · simp
theorem isort_mem {α : Type} (lt : α → α → Bool) (y : α) (l : List α) : y ∈ isort lt l ↔ y ∈ l := by
  unfold isort
  rw [List.mem_reverse]
  have : ∀ (acc : List α), y ∈ l.foldl (fun acc x => sink lt x acc) acc ↔ y ∈ acc ∨ y ∈ l := by
    induction l with
    | nil => intro acc; simp
    | cons x l ih =>
      intro acc
      rw [List.foldl_cons, ih, sink_mem]
      simp only [List.mem_cons]
      constructor
      · rintro ((h | h) | h)
        · exact .inr (.inl h)
        · exact .inl h
        · exact .inr (.inr h)
      · rintro (h | h | h)
        · exact .inl (.inr h)
        · exact .inl (.inl h)
        · exact .inr h
  rw [this]; simp
theorem isort_length {α : Type} (lt : α → α → Bool) (l : List α) : (isort lt l).length = l.length := by
  rw [← pref_all, List.length_reverse, pref_length lt l _ (Nat.le_refl _)]
abbrev takenV (t : Taken) : Value := .agg #[.int .i64 t.block, bv t.head.kind, .int .u32 t.head.era, .int .u64 t.head.seq, .bool t.bad]
theorem pool_Taken_1_spec (a b : Taken) (ha : a.block < 1000000) (hb : b.block < 1000000) (w : World) :
    CallsR prog K.pool_Pool_Taken_1 #[takenV a, takenV b] w fun v w' => ∃ x : Int, v = .int .i64 x ∧ decide (x < 0) = takenLt a b ∧ Ext w w' := by
  apply pool_Pool_Taken_1.sh
  intro B₁ w₁ hn1 B₂ w₂ hn2
  have e2 := hn1.upd.trans hn2.upd
  have h1 := Ext.get hn2.upd hn1.get
  have h2 := hn2.get
  simp only [add_lit]
  refine ⟨_, cell_of h1 rfl, _, cell_of h2 rfl, br_dec (fun hlt => ⟨_, rfl, ?_, e2⟩) fun hge => ⟨_, cell_of h1 rfl, _, cell_of h2 rfl, br_dec (fun hgt => ⟨_, rfl, ?_, e2⟩) fun hle => ⟨_, cell_of h1 rfl, _, cell_of h2 rfl, _, rfl, ?_, e2⟩⟩⟩
  · have q : decide (a.head.seq < b.head.seq) = true := decide_eq_true (by omega)
    simp [takenLt, q]
  · have q : decide (a.head.seq < b.head.seq) = false := decide_eq_false (by omega)
    have q2 : decide (a.head.seq = b.head.seq) = false := decide_eq_false (by omega)
    simp [takenLt, q, q2]
  · have q : decide (a.head.seq < b.head.seq) = false := decide_eq_false (by omega)
    have q2 : decide (a.head.seq = b.head.seq) = true := decide_eq_true (by omega)
    rw [w64 (by omega) (by omega)]
    simp only [takenLt, q, q2, Bool.false_or, Bool.true_and]
    exact decide_eq_decide.2 (by omega)
theorem swap_list {α : Type} (A R : List α) (x y : α) : ((A ++ y :: x :: R).set (A.length + 1) y).set A.length x = A ++ x :: y :: R := by
  rw [List.set_append_right _ _ (by omega), List.set_append_right _ _ (by omega)]
  simp
/-- an element of a row of the call's own is written -/
theorem own_set {α : Type} {f : α → List Value} {k : Nat} (hf : ∀ x, (f x).length = k) {w : World} {b cap : Nat} {e : TypeId} {l : List α} (h : OwnAt w (some ⟨b, 0, none⟩) l.length cap e k (l.flatMap f)) {i : Nat} (hi : i < l.length) (x : α) {K : World → Prop}
    (hk : ∀ w', Upd (· = b) w w' → OwnAt w' (some ⟨b, 0, none⟩) (l.set i x).length cap e k ((l.set i x).flatMap f) → K w') : storeP w ⟨b, i * k, none⟩ (f x) K := by
  refine own_store h (by rw [flat_len hf, hf, ← Nat.succ_mul]; exact Nat.mul_le_mul_right _ hi) fun w' hu ho => hk w' hu ?_
  rw [hf, flat_set hf l hi x] at ho
  rw [List.length_set]
  exact ho
theorem insertionSort_spec {w : World} {a : Option Addr} {l : List Taken} {cap cp : Nat} (h : OwnAt w a l.length cap T.api_Taken 5 (l.flatMap Taken.vals)) (hb : ∀ t ∈ l, t.block < 1000000) (hl : l.length < 1000) :
    CallsR prog K.slices_insertionSortCmpFunc_api_Taken #[.slice a l.length cp, .int .i64 0, .int .i64 l.length, .func (.func K.pool_Pool_Taken_1) #[] #[]] w fun v w' => v = .tuple #[] ∧ Upd (fun b => a = some ⟨b, 0, none⟩) w w' ∧ OwnAt w' a (isort takenLt l).length cap T.api_Taken 5 ((isort takenLt l).flatMap Taken.vals) := by
  apply slices_insertionSortCmpFunc_api_Taken.sh
  have e01 : IntKind.i64.wrap ((0 : Int) + 1) = ((1 : Nat) : Int) := by decide
  unfold slices_insertionSortCmpFunc_api_Taken.body
  rw [e01]
  refine ⟨fun x u => ∃ i : Nat, x = i ∧ 1 ≤ i ∧ (i ≤ l.length ∨ i = 1) ∧ Upd (fun b => a = some ⟨b, 0, none⟩) w u ∧ OwnAt u a ((pref takenLt l i).reverse ++ l.drop i).length cap T.api_Taken 5 (((pref takenLt l i).reverse ++ l.drop i).flatMap Taken.vals),
    fun x _ => (l.length - x).toNat, ⟨1, rfl, by omega, .inr rfl, Upd.refl _ _, ?_⟩, ?_⟩
  · have : (pref takenLt l 1).reverse ++ l.drop 1 = l := by
      cases l with
      | nil => rfl
      | cons x l => rfl
    rw [this]; exact h
  rintro x u ⟨i, rfl, hi1, hi, hu, ho⟩
  refine br_dec (fun hlt => ?_) fun hge => ?_
  · have hil : i < l.length := by omega
    have hpl := pref_length takenLt l i (by omega)
    have hdrop : l.drop i = l[i] :: l.drop (i + 1) := List.drop_eq_getElem_cons hil
    have hblk : ∀ t, t ∈ pref takenLt l i → t.block < 1000000 := by
      intro t ht
      have : t ∈ isort takenLt (l.take i) := by unfold isort; exact List.mem_reverse.2 ht
      rw [isort_mem] at this
      exact hb t (List.mem_of_mem_take this)
    have hbi : l[i].block < 1000000 := hb _ (List.getElem_mem hil)
    rw [hdrop] at ho
    obtain ⟨B, rfl⟩ : ∃ B, a = some ⟨B, 0, none⟩ := by
      obtain ⟨_, _, hx⟩ := h
      rcases hx with ⟨_, hx, _⟩ | ⟨b, cur, hx, _⟩
      · omega
      · exact ⟨b, hx⟩
    have hF : ∀ {u u' : World}, Upd (· = B) u u' → Upd (fun b => (some ⟨B, 0, none⟩ : Option Addr) = some ⟨b, 0, none⟩) u u' := fun k => k.mono fun x _ hx => by rw [hx]
    have e1 : IntKind.i64.wrap ((i : Int) + 1) = ((i + 1 : Nat) : Int) := w64 (by omega) (by omega)
    -- the element's way
    refine ⟨fun x v => ∃ A D : List Taken, x = (A.length : Int) ∧ pref takenLt l i = D ++ A ∧ sink takenLt l[i] (pref takenLt l i) = D ++ sink takenLt l[i] A ∧ Upd (fun b => (some ⟨B, 0, none⟩ : Option Addr) = some ⟨b, 0, none⟩) w v ∧
        OwnAt v (some ⟨B, 0, none⟩) (A.reverse ++ l[i] :: (D.reverse ++ l.drop (i + 1))).length cap T.api_Taken 5 ((A.reverse ++ l[i] :: (D.reverse ++ l.drop (i + 1))).flatMap Taken.vals), fun x _ => x.toNat, ⟨pref takenLt l i, [], by rw [hpl], rfl, rfl, hu, ho⟩, ?_⟩
    rintro y v ⟨A, D, rfl, hAD, hsk, huv, hov⟩ w₃ hd3
    have hlen : ∀ X : Taken, (A.reverse ++ X :: (D.reverse ++ l.drop (i + 1))).length = l.length := by
      intro X
      have : D.length + A.length = i := by rw [← hpl, hAD, List.length_append]
      simp; omega
    -- the end of the way
    have hend : ∀ {v' : World}, sink takenLt l[i] A = l[i] :: A → Upd (fun b => (some ⟨B, 0, none⟩ : Option Addr) = some ⟨b, 0, none⟩) w v' →
        OwnAt v' (some ⟨B, 0, none⟩) (A.reverse ++ l[i] :: (D.reverse ++ l.drop (i + 1))).length cap T.api_Taken 5 ((A.reverse ++ l[i] :: (D.reverse ++ l.drop (i + 1))).flatMap Taken.vals) →
        (∃ i' : Nat, IntKind.i64.wrap ((i : Int) + 1) = i' ∧ 1 ≤ i' ∧ (i' ≤ l.length ∨ i' = 1) ∧ Upd (fun b => (some ⟨B, 0, none⟩ : Option Addr) = some ⟨b, 0, none⟩) w v' ∧ OwnAt v' (some ⟨B, 0, none⟩) ((pref takenLt l i').reverse ++ l.drop i').length cap T.api_Taken 5 (((pref takenLt l i').reverse ++ l.drop i').flatMap Taken.vals)) ∧
          ((l.length : Int) - IntKind.i64.wrap ((i : Int) + 1)).toNat < ((l.length : Int) - (i : Int)).toNat := by
      intro v' hs hu' ho'
      rw [e1]
      refine ⟨⟨i + 1, rfl, by omega, .inl hil, hu', ?_⟩, meas hil⟩
      have : (pref takenLt l (i + 1)).reverse ++ l.drop (i + 1) = A.reverse ++ l[i] :: (D.reverse ++ l.drop (i + 1)) := by
        rw [pref_succ takenLt l i hil, hsk, hs]
        simp
      rw [this]; exact ho'
    have hov3 := OwnAt.ext hov hd3.upd
    have huv3 := huv.then hd3.upd
    refine ⟨fun z => z = w₃, rfl, br_dec (fun hpos => ?_) fun hzero => ?_⟩
    · obtain ⟨y, A', rfl⟩ : ∃ y A', A = y :: A' := by
        cases A with
        | nil => simp at hpos
        | cons y A' => exact ⟨y, A', rfl⟩
      have hly := hlen l[i]
      simp only [List.reverse_cons, List.append_assoc, List.singleton_append, List.length_cons] at hov3 hpos hly ⊢
      generalize hR : D.reverse ++ l.drop (i + 1) = R at *
      have hA : A'.reverse.length = A'.length := List.length_reverse
      have hlx : A'.length + 1 < (A'.reverse ++ y :: l[i] :: R).length := by simp
      have hgx : (A'.reverse ++ y :: l[i] :: R)[A'.length + 1] = l[i] := by rw [List.getElem_append_right (by omega)]; simp
      have hgy : (A'.reverse ++ y :: l[i] :: R)[A'.length] = y := by rw [List.getElem_append_right (by omega)]; simp
      have em : IntKind.i64.wrap (((A'.length + 1 : Nat) : Int) - 1) = ((A'.length : Nat) : Int) := by rw [w64 (by omega) (by omega)]; omega
      rw [em]
      refine idx_flat (f := Taken.vals) (l := A'.reverse ++ y :: l[i] :: R) Taken.vals_length (by omega) hov3.row (by omega) hlx fun b o hab hr => ?_
      cases hab
      rw [hgx] at hr
      refine ⟨l[i].block, l[i].head.kind.toNat, l[i].head.era, l[i].head.seq, l[i].bad, fun z hz => hz ▸ RowAt.cells hr, ?_⟩
      refine idx_flat (f := Taken.vals) (l := A'.reverse ++ y :: l[i] :: R) Taken.vals_length (by omega) hov3.row (by omega) (by omega) fun b o hab hr => ?_
      cases hab
      rw [hgy] at hr
      refine ⟨y.block, y.head.kind.toNat, y.head.era, y.head.seq, y.bad, fun z hz => hz ▸ RowAt.cells hr, ?_⟩
      have hby : y.block < 1000000 := hblk y (by rw [hAD]; simp)
      refine ⟨rfl, ?_⟩
      refine (pool_Taken_1_spec l[i] y hbi hby w₃).mono ?_
      rintro _ w₄ ⟨x11, rfl, hx11, he4⟩
      have hov4 := OwnAt.ext hov3 he4
      have huv4 := huv3.then he4
      refine ⟨_, rfl, ?_⟩
      rw [hx11]
      refine br_intro (fun ht => ?_) fun hf => ?_
      · intro w₅ hd5
        have hov5 := OwnAt.ext hov4 hd5.upd
        have huv5 := huv4.then hd5.upd
        refine ⟨fun z => z = w₅, rfl, ?_⟩
        refine idx_flat (f := Taken.vals) (l := A'.reverse ++ y :: l[i] :: R) Taken.vals_length (by omega) hov5.row (by omega) (by omega) fun b o hab hr => ?_
        cases hab
        rw [hgy] at hr
        refine ⟨y.block, y.head.kind.toNat, y.head.era, y.head.seq, y.bad, fun z hz => hz ▸ RowAt.cells hr, ?_⟩
        refine idx_flat (f := Taken.vals) (l := A'.reverse ++ y :: l[i] :: R) Taken.vals_length (by omega) hov5.row (by omega) hlx fun b o hab hr => ?_
        cases hab
        rw [hgx] at hr
        refine ⟨l[i].block, l[i].head.kind.toNat, l[i].head.era, l[i].head.seq, l[i].bad, fun z hz => hz ▸ RowAt.cells hr, ?_⟩
        refine idx_flat (f := Taken.vals) (l := A'.reverse ++ y :: l[i] :: R) Taken.vals_length (by omega) hov5.row (by omega) hlx fun b o hab _ => ?_
        cases hab
        rw [Nat.zero_add]
        refine own_set Taken.vals_length hov5 hlx y fun w₆ hu6 ho6 => ?_
        refine idx_flat (f := Taken.vals) Taken.vals_length (by omega) ho6.row (by rw [List.length_set]; omega) (by rw [List.length_set]; omega) fun b o hab _ => ?_
        cases hab
        rw [Nat.zero_add]
        refine own_set Taken.vals_length ho6 (by rw [List.length_set]; omega) l[i] fun w₇ hu7 ho7 => ?_
        have hsw : ((A'.reverse ++ y :: l[i] :: R).set (A'.length + 1) y).set A'.length l[i] = A'.reverse ++ l[i] :: y :: R := by
          have := swap_list A'.reverse R l[i] y
          rw [hA] at this
          exact this
        rw [hsw] at ho7
        refine ⟨⟨A', D ++ [y], rfl, by rw [hAD]; simp, ?_, (huv5.trans (hF hu6)).trans (hF hu7), ?_⟩, by omega⟩
        · rw [hsk]
          have : sink takenLt l[i] (y :: A') = y :: sink takenLt l[i] A' := by rw [sink, if_pos ht]
          rw [this]; simp
        · have : A'.reverse ++ l[i] :: ((D ++ [y]).reverse ++ l.drop (i + 1)) = A'.reverse ++ l[i] :: y :: R := by rw [← hR]; simp
          rw [this]; exact ho7
      · refine hend ?_ huv4 ?_
        · rw [sink, if_neg (by rw [hf]; simp)]
        · simp only [List.reverse_cons, List.append_assoc, List.singleton_append]
          exact hov4
    · have : A = [] := List.eq_nil_of_length_eq_zero (by omega)
      subst this
      exact hend rfl huv3 hov3
  · refine ⟨by trivial, hu, ?_⟩
    rcases hi with hi | hi
    · have : i = l.length := by omega
      subst this
      rw [pref_all, List.drop_length, List.append_nil] at ho
      exact ho
    · subst hi
      have : (pref takenLt l 1).reverse ++ l.drop 1 = isort takenLt l := by
        match l, hge with
        | [], _ => rfl
        | [x], _ => rfl
        | x :: y :: l, hge => simp at hge; omega
      rw [this] at ho
      exact ho
theorem sortStable_spec {w : World} {a : Option Addr} {l : List Taken} {cap cp : Nat} (h : OwnAt w a l.length cap T.api_Taken 5 (l.flatMap Taken.vals)) (hb : ∀ t ∈ l, t.block < 1000000) (hl : l.length < 20) :
    CallsR prog K.slices_SortStableFunc_api_Taken #[.slice a l.length cp, .func (.func K.pool_Pool_Taken_1) #[] #[]] w fun v w' => v = .tuple #[] ∧ Upd (fun b => a = some ⟨b, 0, none⟩) w w' ∧ OwnAt w' a (isort takenLt l).length cap T.api_Taken 5 ((isort takenLt l).flatMap Taken.vals) := by
  apply slices_SortStableFunc_api_Taken.sh
  have key : CallsR prog K.slices_stableCmpFunc_api_Taken #[.slice a l.length cp, .int .i64 l.length, .func (.func K.pool_Pool_Taken_1) #[] #[]] w fun v w' => v = .tuple #[] ∧ Upd (fun b => a = some ⟨b, 0, none⟩) w w' ∧ OwnAt w' a (isort takenLt l).length cap T.api_Taken 5 ((isort takenLt l).flatMap Taken.vals) := by
    apply slices_stableCmpFunc_api_Taken.sh
    refine ⟨fun x y u => x = 0 ∧ y = 20 ∧ u = w, fun _ _ _ => 0, ⟨rfl, rfl, rfl⟩, ?_⟩
    rintro x y u ⟨rfl, rfl, rfl⟩
    refine br_dec (fun h => by omega) fun _ => ?_
    refine (insertionSort_spec (cp := cp) h hb (by omega)).mono ?_
    rintro _ w₃ ⟨rfl, hu, ho⟩
    refine ⟨rfl, fun x u => x = 20 ∧ u = w₃, fun _ _ => 0, ⟨rfl, rfl⟩, ?_⟩
    rintro x v ⟨rfl, rfl⟩
    exact br_dec (fun h => by omega) fun _ => ⟨by trivial, hu, ho⟩
  refine key.mono ?_
  rintro _ w' ⟨rfl, hr⟩
  exact ⟨rfl, by trivial, hr⟩
theorem takenRaw_length (P : Pool) (c : Chip) (n : Nat) : (takenRaw P c n).length ≤ n := by
  unfold takenRaw
  exact Nat.le_trans (List.length_filterMap_le _ _) (by simp)
theorem takenRaw_succ (P : Pool) (c : Chip) (n : Nat) : takenRaw P c (n + 1) = takenRaw P c n ++ if (P.blk n).what = 2 then [⟨n, (P.blk n).head, c.isBad n⟩] else [] := by
  unfold takenRaw
  rw [List.range_succ, List.filterMap_append]
  congr 1
  simp only [List.filterMap_cons, List.filterMap_nil]
  split <;> simp_all
theorem takenRaw_block {P : Pool} {c : Chip} {n : Nat} {t : Taken} (h : t ∈ takenRaw P c n) : t.block < n := by
  unfold takenRaw at h
  rw [List.mem_filterMap] at h
  obtain ⟨i, hi, h⟩ := h
  split at h
  · simp at h hi
    rw [← h]; exact hi
  · cases h
theorem pool_Taken_spec {w : World} {M : PLoc} {P : Pool} {c : Chip} {L : Loc} {G : Nat → Prop} (h : PC w M P c L G) (hnb : c.nb < 20) :
    CallsR prog K.pool_Pool_Taken #[.pointer (some ⟨M.q, 0, none⟩)] w fun v w' => Ext w w' ∧ ∃ a cap, v = .slice a (takenPool P c).length cap ∧ OwnAt w' a (takenPool P c).length cap T.api_Taken 5 ((takenPool P c).flatMap Taken.vals) ∧ Fresh w a := by
  apply pool_Pool_Taken.sh
  unfold pool_Pool_Taken.body
  refine (pool_off_spec h).mono ?_
  rintro _ _ ⟨rfl, rfl⟩
  rename_i w
  refine ⟨_, rfl, ?_⟩
  simp only [br_false, nilC_some', add_lit]
  refine ⟨_, _, _, cell_of h.head rfl, ?_⟩
  refine ⟨fun a l cap x u => ∃ i : Nat, x = i ∧ i ≤ c.nb ∧ l = (takenRaw P c i).length ∧ Ext w u ∧ OwnAt u a (takenRaw P c i).length cap T.api_Taken 5 ((takenRaw P c i).flatMap Taken.vals) ∧ Fresh w a, fun _ _ _ x _ => (c.nb - x).toNat,
    ⟨0, rfl, by omega, rfl, Upd.refl _ _, OwnAt.nil _ _ _, Fresh.none _⟩, ?_⟩
  rintro a l cap x u ⟨i, rfl, hi, rfl, hu, ho, hf⟩
  have hpu := h.ext hu
  refine br_dec (fun hlt => ?_) fun hge => ?_
  · have hi' : i < c.nb := by omega
    have e1 : IntKind.i64.wrap ((i : Int) + 1) = ((i + 1 : Nat) : Int) := w64 (by omega) (by omega)
    have hlen := takenRaw_length P c i
    have hsucc := takenRaw_succ P c i
    refine hpu.idx hi' fun hr => ?_
    refine ⟨(P.blk i).what, (P.blk i).head.kind.toNat, (P.blk i).head.era, (P.blk i).head.seq, RowAt.cells hr, fun B w₃ hn3 => ?_⟩
    refine store_of hn3.get (by simp) fun w₄ hput4 => ?_
    have hB : B = u.heap.size := hn3.num
    have hsu := hu.size
    have e34 : Ext u w₄ := Put.upd hn3.upd hput4 (.inl (by omega))
    have e4 := hu.trans e34
    have hg4 := hput4.get
    rw [splice_all _ _ (by simp)] at hg4
    have hp4 := h.ext e4
    refine ⟨(P.blk i).what, cell_of hg4 rfl, br_eq (fun h2 => ?_) fun h2 => ?_⟩
    · rw [if_pos (by omega)] at hsucc
      intro w₅ hd5
      have e5 := e4.trans hd5.upd
      have hp5 := h.ext e5
      have hg5 := Ext.get hd5.upd hg4
      have hs3 := hn3.size
      have hs4 := hput4.size
      have hown : ∀ b, a = some ⟨b, 0, none⟩ → w.heap.size ≤ b ∧ b < u.heap.size := fun b hb => ⟨hf _ hb, OwnAt.blk ho hb⟩
      have hqw : M.q < w.heap.size := (Array.getElem?_eq_some_iff.1 h.head).1
      refine ⟨fun v => Upd (fun b => a = some ⟨b, 0, none⟩) w₅ v, Upd.refl _ _, (P.blk i).head.kind.toNat, (P.blk i).head.era, (P.blk i).head.seq, fun v hv => ?_, _, fun v hv => cell_of (hv.get hp5.head (fun e => by have := hown _ e; omega)) rfl, ?_⟩
      · have := hv.get hg5 (fun e => by have := hown _ e; omega)
        exact cellsAt_of (o := 1) this (fun j v hj => by
          match j, hj with
          | 0, hj => simpa using hj
          | 1, hj => simpa using hj
          | 2, hj => simpa using hj
          | j + 3, hj => simp at hj)
      refine (nand_Bad_spec hp5.chip _).mono ?_
      rintro _ _ ⟨rfl, rfl⟩
      rename_i w₅
      have hd0 : decide ((0 : Int) ≤ ((i : Nat) : Int)) = true := decide_eq_true (by omega)
      refine ⟨_, rfl, Upd.refl _ _, ?_⟩
      rw [hd0, Bool.true_and, Int.toNat_natCast]
      intro B2 w₇ hn7
      refine ⟨Upd.ext hn7.upd, ?_⟩
      have ho7 : OwnAt w₇ a (takenRaw P c i).length cap T.api_Taken 5 ((takenRaw P c i).flatMap Taken.vals) := OwnAt.ext ho ((e34.trans hd5.upd).trans hn7.upd)
      refine append_flat (f := Taken.vals) Taken.vals_length (x := ⟨i, (P.blk i).head, c.isBad i⟩) ho7 (by simp [Taken.vals]) hn7 rfl (by intro v hv; simp [Taken.vals] at hv; rcases hv with rfl | rfl | rfl | rfl | rfl <;> rfl) rfl (by omega) (by omega) fun a' c' w₈ hu8 ho8 hf8 => ?_
      rw [← hsucc] at ho8 ⊢
      have e7 := e5.trans hn7.upd
      refine ⟨(Upd.ext hn7.upd).trans hu8, ⟨i + 1, e1, hi', rfl, Upd.beyond e7 hu8 (fun x hx => (hown x hx).1), ho8, ?_⟩, by rw [e1]; exact meas hi'⟩
      rcases hf8 with rfl | ⟨b, rfl, hb⟩
      · exact hf
      · exact Fresh.some (by have := e7.size; omega)
    · rw [if_neg (by omega), List.append_nil] at hsucc
      refine ⟨⟨i + 1, e1, hi', by rw [hsucc], e4, by rw [hsucc]; exact OwnAt.ext ho e34, hf⟩, by rw [e1]; exact meas hi'⟩
  · have : i = c.nb := by omega
    subst this
    have hlen := takenRaw_length P c c.nb
    refine (sortStable_spec (cp := cap) ho (fun t ht => by have := takenRaw_block ht; omega) (by omega)).mono ?_
    rintro _ w₉ ⟨rfl, hu9, ho9⟩
    have e9 : Ext w w₉ := Upd.beyond hu hu9 (fun x hx => hf _ hx)
    refine ⟨rfl, e9, a, cap, ?_, ho9, hf⟩
    unfold takenPool
    rw [isort_length]
end Go.Den
end
section
set_option linter.unusedVariables false
set_option linter.unusedSimpArgs false
set_option maxRecDepth 8000
namespace Go.Den
/-! ### The plain reference -/
end Go.Den
end
section
set_option linter.unusedVariables false
set_option maxRecDepth 100000
namespace Go.Den
def newChip (nb np sz sp : Nat) : Chip := ⟨nb, np, sz, sp, List.replicate nb (List.replicate (np * sz) 255), List.replicate nb false, [], 0, false, 0⟩
end Go.Den
end
section
set_option linter.unusedVariables false
set_option linter.unusedSimpArgs false
set_option maxRecDepth 8000
namespace Go.Den
/-- a chip whose parts lie in F; what it reads alone lies beyond A -/
def CIn (F : Nat → Prop) (A : Nat) (w : World) (p : Nat) (c : Chip) : Prop := ∃ L G, ChipRep w p c L G ∧ (∀ x, x ∈ p :: L.bb :: L.locs → F x) ∧ ∀ x, G x → A ≤ x ∧ x < w.heap.size
def PIn (F : Nat → Prop) (A : Nat) (w : World) (M : PLoc) (P : Pool) (c : Chip) : Prop := ∃ L G, PC w M P c L G ∧ (∀ x, PF M L x → F x) ∧ ∀ x, G x → A ≤ x ∧ x < w.heap.size
abbrev Bet (A S : Nat) : Nat → Prop := fun x => A ≤ x ∧ x < S
/-- a chip whose parts lie between A and S -/
abbrev CAt (A S : Nat) (w : World) (p : Nat) (c : Chip) : Prop := CIn (Bet A S) A w p c
/-- a pool beyond A -/
abbrev PAt (A S : Nat) (w : World) (M : PLoc) (P : Pool) (c : Chip) : Prop := PIn (Bet A S) A w M P c
theorem CIn.ext {F : Nat → Prop} {A : Nat} {w w' : World} {p : Nat} {c : Chip} (h : CIn F A w p c) (k : Ext w w') : CIn F A w' p c := by
  obtain ⟨L, G, hr, hF, hG⟩ := h
  exact ⟨L, G, hr.ext k, hF, fun x hx => ⟨(hG x hx).1, Nat.lt_of_lt_of_le (hG x hx).2 k.size⟩⟩
theorem PIn.ext {F : Nat → Prop} {A : Nat} {w w' : World} {M : PLoc} {P : Pool} {c : Chip} (h : PIn F A w M P c) (k : Ext w w') : PIn F A w' M P c := by
  obtain ⟨L, G, hr, hF, hG⟩ := h
  exact ⟨L, G, hr.ext k, hF, fun x hx => ⟨(hG x hx).1, Nat.lt_of_lt_of_le (hG x hx).2 k.size⟩⟩
theorem PIn.chip {F : Nat → Prop} {A : Nat} {w : World} {M : PLoc} {P : Pool} {c : Chip} (h : PIn F A w M P c) : CIn F A w M.p c := by
  obtain ⟨L, G, hr, hF, hG⟩ := h
  exact ⟨L, G, hr.chip, fun x hx => hF x (.inr (.inr hx)), hG⟩
theorem CIn.ok {F : Nat → Prop} {A : Nat} {w : World} {p : Nat} {c : Chip} (h : CIn F A w p c) : c.Ok := by
  obtain ⟨L, G, hr, hF, hG⟩ := h
  exact hr.ok
theorem CIn.mono {F F' : Nat → Prop} {A : Nat} {w : World} {p : Nat} {c : Chip} (h : CIn F A w p c) (hf : ∀ x, F x → F' x) : CIn F' A w p c := by
  obtain ⟨L, G, hr, hF, hG⟩ := h
  exact ⟨L, G, hr, fun x hx => hf x (hF x hx), hG⟩
theorem PIn.mono {F F' : Nat → Prop} {A : Nat} {w : World} {M : PLoc} {P : Pool} {c : Chip} (h : PIn F A w M P c) (hf : ∀ x, F x → F' x) : PIn F' A w M P c := by
  obtain ⟨L, G, hr, hF, hG⟩ := h
  exact ⟨L, G, hr, fun x hx => hf x (hF x hx), hG⟩
theorem CAt.ext {A S : Nat} {w w' : World} {p : Nat} {c : Chip} (h : CAt A S w p c) (k : Ext w w') : CAt A S w' p c := by
  obtain ⟨L, G, hr, hF, hG⟩ := h
  exact ⟨L, G, hr.ext k, hF, fun x hx => ⟨(hG x hx).1, Nat.lt_of_lt_of_le (hG x hx).2 k.size⟩⟩
theorem PAt.ext {A S : Nat} {w w' : World} {M : PLoc} {P : Pool} {c : Chip} (h : PAt A S w M P c) (k : Ext w w') : PAt A S w' M P c := by
  obtain ⟨L, G, hr, hF, hG⟩ := h
  exact ⟨L, G, hr.ext k, hF, fun x hx => ⟨(hG x hx).1, Nat.lt_of_lt_of_le (hG x hx).2 k.size⟩⟩
theorem PAt.chip {A S : Nat} {w : World} {M : PLoc} {P : Pool} {c : Chip} (h : PAt A S w M P c) : CAt A S w M.p c := by
  obtain ⟨L, G, hr, hF, hG⟩ := h
  exact ⟨L, G, hr.chip, fun x hx => hF x (.inr (.inr hx)), hG⟩
theorem CAt.ok {A S : Nat} {w : World} {p : Nat} {c : Chip} (h : CAt A S w p c) : c.Ok := by
  obtain ⟨L, G, hr, hF, hG⟩ := h
  exact hr.ok
theorem PAt.size {A S : Nat} {w : World} {M : PLoc} {P : Pool} {c : Chip} (h : PAt A S w M P c) : M.q < w.heap.size := by
  obtain ⟨L, G, hr, hF, hG⟩ := h
  exact (Array.getElem?_eq_some_iff.1 hr.head).1
theorem CAt.of {w w' : World} {p : Nat} {c : Chip} {A : Nat} (h : ChipAt w' p c (fun x => w.heap.size ≤ x ∧ x < w'.heap.size)) (hA : A ≤ w.heap.size) : CAt A w'.heap.size w' p c := by
  obtain ⟨L, G, hr, hF, hG, _⟩ := h
  exact ⟨L, G, hr, fun x hx => ⟨Nat.le_trans hA (hF x hx).1, (hF x hx).2⟩, fun x hx => ⟨Nat.le_trans hA (hG x hx).1, (hG x hx).2⟩⟩
theorem cScanF {F : Nat → Prop} {A : Nat} {w : World} {p : Nat} {c : Chip} (h : CIn F A w p c) :
    CallsR prog K.pool_Scan #[.pointer (some ⟨p, 0, none⟩)] w fun v w' => Ext w w' ∧
      if c.dead then v = .tuple #[.pointer none, .int .i64 10]
      else ∃ M : PLoc, M.p = p ∧ v = .tuple #[.pointer (some ⟨M.q, 0, none⟩), .int .i64 0] ∧ PIn (fun x => F x ∨ (w.heap.size ≤ x ∧ x < w'.heap.size)) A w' M (scanPool c) c := by
  obtain ⟨L, G, hr, hF, hG⟩ := h
  refine (pool_Scan_spec hr (fun x hx => (hG x hx).2)).mono ?_
  rintro v w' ⟨he, hv⟩
  refine ⟨he, ?_⟩
  split at hv
  · rename_i hd
    rw [if_pos hd]; exact hv
  · rename_i hd
    rw [if_neg hd]
    obtain ⟨q, pb, rfl, hq, hpb, hq', hpb', hp⟩ := hv
    refine ⟨⟨q, pb, c.nb, p⟩, rfl, rfl, L, G, hp, fun x hx => ?_, fun x hx => ⟨(hG x hx).1, Nat.lt_of_lt_of_le (hG x hx).2 he.size⟩⟩
    rcases hx with hx | hx | hx
    · have : x = q := hx
      exact .inr (by omega)
    · have : x = pb := hx
      exact .inr (by omega)
    · exact .inl (hF x hx)
theorem pBlanks {F : Nat → Prop} {A : Nat} {w : World} {M : PLoc} {P : Pool} {c : Chip} (h : PIn F A w M P c) :
    CallsR prog K.pool_Pool_Blanks #[.pointer (some ⟨M.q, 0, none⟩)] w fun v w' => v = .int .i64 (blanksPool P c : Nat) ∧ Ext w w' := by
  obtain ⟨L, G, hr, hF, hG⟩ := h
  exact pool_Blanks_spec hr
theorem pLast {F : Nat → Prop} {A : Nat} {w : World} {M : PLoc} {P : Pool} {c : Chip} (h : PIn F A w M P c) :
    CallsR prog K.pool_Pool_Last #[.pointer (some ⟨M.q, 0, none⟩)] w fun v w' => v = .int .u64 (P.last : Nat) ∧ w' = w := by
  obtain ⟨L, G, hr, hF, hG⟩ := h
  exact pool_Last_spec hr
theorem pChip {F : Nat → Prop} {A : Nat} {w : World} {M : PLoc} {P : Pool} {c : Chip} (h : PIn F A w M P c) :
    CallsR prog K.pool_Pool_Chip #[.pointer (some ⟨M.q, 0, none⟩)] w fun v w' => v = .pointer (some ⟨M.p, 0, none⟩) ∧ w' = w := by
  obtain ⟨L, G, hr, hF, hG⟩ := h
  exact pool_Chip_spec hr
/-- a row of taken blocks, of new memory -/
def TakenAt (w w' : World) (v : Value) (l : List Taken) : Prop := ∃ a cap, v = .slice a l.length cap ∧ OwnAt w' a l.length cap T.api_Taken 5 (l.flatMap Taken.vals) ∧ Fresh w a
theorem pTaken {F : Nat → Prop} {A : Nat} {w : World} {M : PLoc} {P : Pool} {c : Chip} (h : PIn F A w M P c) (hnb : c.nb < 20) {l : List Taken} (hl : takenPool P c = l) :
    CallsR prog K.pool_Pool_Taken #[.pointer (some ⟨M.q, 0, none⟩)] w fun v w' => Ext w w' ∧ TakenAt w w' v l := by
  subst hl
  obtain ⟨L, G, hr, hF, hG⟩ := h
  exact pool_Taken_spec hr hnb
theorem takePool_geo (P : Pool) (c : Chip) (kind : UInt8) (era : Nat) : c.SameGeo (takePool P c kind era).chip := by
  have go : ∀ (ks : List Nat) (P : Pool) (c : Chip), c.SameGeo (takeGo kind era P c ks).chip := by
    intro ks
    induction ks with
    | nil => intro P c; exact .refl _
    | cons k ks ih =>
      intro P c
      unfold takeGo
      split
      · exact ih P c
      · split
        · exact tryBlk_geo _ _ _ _ _
        · split
          · exact tryBlk_geo _ _ _ _ _
          · exact (tryBlk_geo P c _ kind era).trans (ih _ _)
  unfold takePool
  split
  · exact .refl _
  · split
    · exact .refl _
    · exact go _ _ _
end Go.Den
end
section
set_option linter.unusedVariables false
set_option linter.unusedSimpArgs false
namespace Go.Den
theorem new_put {w : World} {cs : Array Value} {T : TypeId} {vs : List Value} {K : Nat → World → Prop} (hl : vs.length = cs.size)
    (hk : ∀ B w2, B = w.heap.size → w2.heap.size = w.heap.size + 1 → Ext w w2 → w2.heap[B]? = some (.cells vs.toArray T (0, 0)) → K B w2) :
    ∀ (B : Nat) (w1 : World), New w (.cells cs T) B w1 → storeP w1 ⟨B, 0, none⟩ vs (fun w2 => K B w2) := by
  intro B w1 hn
  refine store_of hn.get (by simp [hl]) fun w2 hp => ?_
  have hB : B = w.heap.size := hn.num
  refine hk B w2 hB (by rw [hp.size, hn.size]) (Put.upd hn.upd hp (.inl (by omega))) ?_
  have := hp.get
  rwa [splice_all _ _ hl.symm] at this
theorem cells_all {w : World} {B : Nat} {vs : List Value} {T : TypeId} {fr : Nat × Nat} (h : w.heap[B]? = some (.cells vs.toArray T fr)) : cellsAt w ⟨B, 0, none⟩ vs 0 :=
  cellsAt_of (o := 0) h fun j v hj => by simpa using hj
/-- all cells of a block become others -/
theorem put_all {w : World} {B : Nat} {cs : Array Value} {vs : List Value} {T : TypeId} {K : World → Prop} (h : w.heap[B]? = some (.cells cs T (0, 0))) (hl : vs.length = cs.size)
    (hk : ∀ w2, Upd (· = B) w w2 → w2.heap.size = w.heap.size → w2.heap[B]? = some (.cells vs.toArray T (0, 0)) → K w2) : storeP w ⟨B, 0, none⟩ vs K := by
  refine store_of h (by simp [hl]) fun w2 hp => hk w2 hp.upd1 hp.size ?_
  have := hp.get
  rwa [splice_all _ _ hl.symm] at this
theorem exists_least {Q : Nat → Prop} (h : ∃ n, Q n) : ∃ n, Q n ∧ ∀ m, Q m → n ≤ m := by
  obtain ⟨n, hn⟩ := h
  induction n using Nat.strongRecOn with
  | _ n ih =>
    by_cases hx : ∃ m, m < n ∧ Q m
    · obtain ⟨m, h1, h2⟩ := hx
      exact ih m h1 h2
    · exact ⟨n, hn, fun m hm => Nat.le_of_not_lt fun hlt => hx ⟨m, hlt, hm⟩⟩
open Classical in
noncomputable def least (Q : Nat → Prop) : Nat := if h : ∃ n, Q n then Classical.choose (exists_least h) else 0
theorem least_spec {Q : Nat → Prop} (h : ∃ n, Q n) : Q (least Q) ∧ ∀ m, Q m → least Q ≤ m := by
  unfold least
  rw [dif_pos h]
  exact Classical.choose_spec (exists_least h)
/-- a loop without variables: what is left is told by the world -/
def LJ (J' : Nat → World → Prop) : World → Prop := fun u => ∃ n, J' n u
noncomputable def Lμ (J' : Nat → World → Prop) : World → Nat := fun u => least fun n => J' n u
theorem loop_step {J' : Nat → World → Prop} {u : World} (h : LJ J' u) : ∃ n, J' n u ∧ ∀ m u', m < n → J' m u' → LJ J' u' ∧ Lμ J' u' < Lμ J' u := by
  obtain ⟨h1, _⟩ := least_spec (Q := fun n => J' n u) h
  refine ⟨_, h1, fun m u' hm hj => ⟨⟨m, hj⟩, ?_⟩⟩
  exact Nat.lt_of_le_of_lt ((least_spec (Q := fun n => J' n u') ⟨m, hj⟩).2 m hj) hm
theorem u8b (x y : UInt8) : ((x.toNat : Int) == (y.toNat : Int)) = (x == y) := by
  rw [Bool.eq_iff_iff]
  simp only [beq_iff_eq, Int.natCast_inj, UInt8.toNat_inj]
end Go.Den
end
section
set_option linter.unusedSimpArgs false
set_option linter.unusedVariables false
namespace Go.Den
/-- how an element lies in cells; what it reads besides lies in blocks of G -/
structure ERep (α : Type) where
  k : Nat
  R : World → (Nat → Prop) → List Value → α → Prop
  pos : 1 ≤ k
  len : ∀ {w G vs x}, R w G vs x → vs.length = k
  one : ∀ {w G vs x}, R w G vs x → ∀ v ∈ vs, v.oneCell' = true
  upd : ∀ {w w' F G vs x}, R w G vs x → Upd F w w' → (∀ b, G b → ¬ F b) → R w' G vs x
  mono : ∀ {w G G' vs x}, R w G vs x → (∀ b, G b → G' b) → R w G' vs x
  cells : ∀ {w w' G vs x}, R w G vs x → CellsLe w w' → R w' G vs x
section
variable {α : Type} (r : ERep α)
theorem ERep.ext {r : ERep α} {w w' : World} {G : Nat → Prop} {vs : List Value} {x : α} (h : r.R w G vs x) (k : Ext w w') : r.R w' G vs x := r.upd h k fun _ _ hf => hf
def Rows (w : World) (G : Nat → Prop) : List Value → List α → Prop
  | vs, [] => vs = []
  | vs, x :: l => ∃ u t, vs = u ++ t ∧ r.R w G u x ∧ Rows w G t l
variable {r}
theorem Rows.len {w : World} {G : Nat → Prop} : ∀ {l : List α} {vs : List Value}, Rows r w G vs l → vs.length = l.length * r.k
  | [], vs, h => by cases h; simp
  | x :: l, vs, ⟨u, t, e, hu, ht⟩ => by rw [e, List.length_append, r.len hu, Rows.len ht, List.length_cons, Nat.succ_mul]; omega
theorem Rows.one {w : World} {G : Nat → Prop} : ∀ {l : List α} {vs : List Value}, Rows r w G vs l → ∀ v ∈ vs, v.oneCell' = true
  | [], vs, h => by cases h; simp
  | x :: l, vs, ⟨u, t, e, hu, ht⟩ => by
    intro v hv
    rw [e, List.mem_append] at hv
    rcases hv with hv | hv
    · exact r.one hu v hv
    · exact Rows.one ht v hv
theorem Rows.upd {w w' : World} {F G : Nat → Prop} (k : Upd F w w') (hf : ∀ b, G b → ¬ F b) : ∀ {l : List α} {vs : List Value}, Rows r w G vs l → Rows r w' G vs l
  | [], vs, h => h
  | x :: l, vs, ⟨u, t, e, hu, ht⟩ => ⟨u, t, e, r.upd hu k hf, Rows.upd k hf ht⟩
theorem Rows.ext {w w' : World} {G : Nat → Prop} {l : List α} {vs : List Value} (h : Rows r w G vs l) (k : Ext w w') : Rows r w' G vs l := Rows.upd k (fun _ _ hf => hf) h
theorem Rows.mono {w : World} {G G' : Nat → Prop} (hg : ∀ b, G b → G' b) : ∀ {l : List α} {vs : List Value}, Rows r w G vs l → Rows r w G' vs l
  | [], vs, h => h
  | x :: l, vs, ⟨u, t, e, hu, ht⟩ => ⟨u, t, e, r.mono hu hg, Rows.mono hg ht⟩
theorem Rows.cellsLe {w w' : World} {G : Nat → Prop} (k : CellsLe w w') : ∀ {l : List α} {vs : List Value}, Rows r w G vs l → Rows r w' G vs l
  | [], vs, h => h
  | x :: l, vs, ⟨u, t, e, hu, ht⟩ => ⟨u, t, e, r.cells hu k, Rows.cellsLe k ht⟩
theorem Rows.append {w : World} {G : Nat → Prop} : ∀ {l m : List α} {vs us : List Value}, Rows r w G vs l → Rows r w G us m → Rows r w G (vs ++ us) (l ++ m)
  | [], m, vs, us, h, h2 => by cases h; simpa using h2
  | x :: l, m, vs, us, ⟨u, t, e, hu, ht⟩, h2 => ⟨u, t ++ us, by rw [e, List.append_assoc], hu, Rows.append ht h2⟩
theorem Rows.single {w : World} {G : Nat → Prop} {vs : List Value} {x : α} (h : r.R w G vs x) : Rows r w G vs [x] := ⟨vs, [], by simp, h, rfl⟩
theorem Rows.drop {w : World} {G : Nat → Prop} : ∀ {l : List α} {vs : List Value} (i : Nat), Rows r w G vs l → Rows r w G (vs.drop (i * r.k)) (l.drop i)
  | l, vs, 0, h => by simpa using h
  | [], vs, i + 1, h => by cases h; simp; rfl
  | x :: l, vs, i + 1, ⟨u, t, e, hu, ht⟩ => by
    have hl := r.len hu
    rw [e, List.drop_succ_cons, Nat.succ_mul, Nat.add_comm, ← List.drop_drop]
    have : (u ++ t).drop r.k = t := by rw [← hl]; simp
    rw [this]
    exact Rows.drop i ht
theorem Rows.take {w : World} {G : Nat → Prop} : ∀ {l : List α} {vs : List Value} (i : Nat), Rows r w G vs l → Rows r w G (vs.take (i * r.k)) (l.take i)
  | l, vs, 0, h => by simp; rfl
  | [], vs, i + 1, h => by cases h; simp; rfl
  | x :: l, vs, i + 1, ⟨u, t, e, hu, ht⟩ => by
    have hl := r.len hu
    rw [e, List.take_succ_cons, Nat.succ_mul, Nat.add_comm, List.take_append, hl]
    rw [List.take_of_length_le (by omega)]
    exact ⟨u, _, rfl, hu, by rw [Nat.add_sub_cancel_left]; exact Rows.take i ht⟩
theorem Rows.get {w : World} {G : Nat → Prop} {l : List α} {vs : List Value} (h : Rows r w G vs l) {i : Nat} (hi : i < l.length) : r.R w G ((vs.drop (i * r.k)).take r.k) l[i] := by
  have h1 := Rows.drop i h
  rw [List.drop_eq_getElem_cons hi] at h1
  obtain ⟨u, t, e, hu, ht⟩ := h1
  have hl := r.len hu
  rw [e, ← hl]
  simpa using hu
theorem Rows.set {w : World} {G : Nat → Prop} {l : List α} {vs us : List Value} (h : Rows r w G vs l) {i : Nat} (hi : i < l.length) {x : α} (hx : r.R w G us x) : Rows r w G (vs.take (i * r.k) ++ us ++ vs.drop (i * r.k + r.k)) (l.set i x) := by
  rw [List.set_eq_take_append_cons_drop, if_pos hi]
  have e : l.take i ++ x :: l.drop (i + 1) = (l.take i ++ [x]) ++ l.drop (i + 1) := by simp
  rw [e, ← Nat.succ_mul]
  exact ((Rows.take i h).append (Rows.single hx)).append (Rows.drop (i + 1) h)
variable (r)
/-- a slice of such elements, at a -/
def SliceAt (w : World) (G : Nat → Prop) (a : Option Addr) (l : List α) : Prop := ∃ vs, RowAt w a vs ∧ Rows r w G vs l ∧ (l ≠ [] → ∀ p, a = some p → G p.block)
/-- one that the call has made itself: its cells are the call's own -/
def OwnS (w : World) (G : Nat → Prop) (a : Option Addr) (cap : Nat) (e : TypeId) (l : List α) : Prop := ∃ vs, OwnAt w a l.length cap e r.k vs ∧ Rows r w G vs l
variable {r}
theorem SliceAt.nil (w : World) (G : Nat → Prop) (a : Option Addr) : SliceAt r w G a [] := ⟨[], RowAt.nil _ _, rfl, fun h => (h rfl).elim⟩
theorem SliceAt.upd {w w' : World} {F G : Nat → Prop} {a : Option Addr} {l : List α} (h : SliceAt r w G a l) (k : Upd F w w') (hf : ∀ b, G b → ¬ F b) : SliceAt r w' G a l := by
  obtain ⟨vs, h1, h2, h3⟩ := h
  cases l with
  | nil => exact SliceAt.nil _ _ _
  | cons x l => exact ⟨vs, RowAt.upd h1 k (fun p hp => hf _ (h3 (by simp) p hp)), Rows.upd k hf h2, h3⟩
theorem SliceAt.ext {w w' : World} {G : Nat → Prop} {a : Option Addr} {l : List α} (h : SliceAt r w G a l) (k : Ext w w') : SliceAt r w' G a l := SliceAt.upd h k fun _ _ hf => hf
theorem SliceAt.cellsLe {w w' : World} {G : Nat → Prop} {a : Option Addr} {l : List α} (h : SliceAt r w G a l) (k : CellsLe w w') : SliceAt r w' G a l := by
  obtain ⟨vs, h1, h2, h3⟩ := h
  exact ⟨vs, RowAt.cellsLe h1 k, Rows.cellsLe k h2, h3⟩
theorem SliceAt.mono {w : World} {G G' : Nat → Prop} {a : Option Addr} {l : List α} (h : SliceAt r w G a l) (hg : ∀ b, G b → G' b) : SliceAt r w G' a l := by
  obtain ⟨vs, h1, h2, h3⟩ := h
  exact ⟨vs, h1, Rows.mono hg h2, fun hn p hp => hg _ (h3 hn p hp)⟩
theorem SliceAt.take {w : World} {G : Nat → Prop} {a : Option Addr} {l : List α} (h : SliceAt r w G a l) (i : Nat) : SliceAt r w G a (l.take i) := by
  obtain ⟨vs, h1, h2, h3⟩ := h
  exact ⟨_, RowAt.take h1 (i * r.k), Rows.take i h2, fun hn => h3 (fun e => hn (by rw [e]; simp))⟩
theorem SliceAt.drop {w : World} {G : Nat → Prop} {b o : Nat} {l : List α} (h : SliceAt r w G (some ⟨b, o, none⟩) l) (i : Nat) : SliceAt r w G (some ⟨b, o + i * r.k, none⟩) (l.drop i) := by
  obtain ⟨vs, h1, h2, h3⟩ := h
  refine ⟨_, RowAt.drop h1 (i * r.k), Rows.drop i h2, fun hn p hp => ?_⟩
  cases hp
  exact h3 (fun e => hn (by rw [e]; simp)) ⟨b, o, none⟩ rfl
/-- where it lies -/
theorem SliceAt.blk {w : World} {G : Nat → Prop} {a : Option Addr} {l : List α} (h : SliceAt r w G a l) (hn : l ≠ []) : ∃ b o, a = some ⟨b, o, none⟩ ∧ b < w.heap.size ∧ G b := by
  obtain ⟨vs, h1, h2, h3⟩ := h
  have hl := Rows.len h2
  have : vs ≠ [] := List.ne_nil_of_length_pos (by rw [hl]; exact Nat.mul_pos (List.length_pos_iff.2 hn) r.pos)
  obtain ⟨b, o, e, hb⟩ := RowAt.blk h1 this
  exact ⟨b, o, e, hb, h3 hn _ e⟩
/-- an element is pointed at -/
theorem SliceAt.idx {w : World} {G : Nat → Prop} {a : Option Addr} {l : List α} (h : SliceAt r w G a l) {n i : Nat} (hn : n = l.length) (hi : i < l.length) {K : Addr → Prop}
    (hk : ∀ b o vs, a = some ⟨b, o, none⟩ → RowAt w (some ⟨b, o + i * r.k, none⟩) vs → r.R w G vs l[i] → G b → K ⟨b, o + i * r.k, none⟩) : idxP a n (i : Int) r.k K := by
  subst hn
  refine ⟨by omega, by omega, ?_⟩
  obtain ⟨b, o, rfl, hb, hG⟩ := h.blk (List.ne_nil_of_length_pos (by omega))
  obtain ⟨vs, h1, h2, h3⟩ := h
  simp only [nilC_some', add_lit, Int.toNat_natCast]
  exact hk b o _ rfl (RowAt.take (RowAt.drop h1 (i * r.k)) r.k) (h2.get hi) hG
theorem OwnS.nil (w : World) (G : Nat → Prop) (e : TypeId) : OwnS r w G none 0 e [] := ⟨[], OwnAt.nil _ _ _, rfl⟩
theorem OwnS.upd {w w' : World} {F G : Nat → Prop} {a : Option Addr} {cap : Nat} {e : TypeId} {l : List α} (h : OwnS r w G a cap e l) (k : Upd F w w') (hf : ∀ b, G b → ¬ F b) (ha : ∀ b, a = some ⟨b, 0, none⟩ → ¬ F b) : OwnS r w' G a cap e l := by
  obtain ⟨vs, h1, h2⟩ := h
  exact ⟨vs, OwnAt.upd h1 k ha, Rows.upd k hf h2⟩
theorem OwnS.ext {w w' : World} {G : Nat → Prop} {a : Option Addr} {cap : Nat} {e : TypeId} {l : List α} (h : OwnS r w G a cap e l) (k : Ext w w') : OwnS r w' G a cap e l := OwnS.upd h k (fun _ _ hf => hf) (fun _ _ hf => hf)
theorem OwnS.cellsLe {w w' : World} {G : Nat → Prop} {a : Option Addr} {cap : Nat} {e : TypeId} {l : List α} (h : OwnS r w G a cap e l) (k : CellsLe w w') : OwnS r w' G a cap e l := by
  obtain ⟨vs, h1, h2⟩ := h
  exact ⟨vs, h1.cellsLe k, Rows.cellsLe k h2⟩
theorem OwnS.mono {w : World} {G G' : Nat → Prop} {a : Option Addr} {cap : Nat} {e : TypeId} {l : List α} (h : OwnS r w G a cap e l) (hg : ∀ b, G b → G' b) : OwnS r w G' a cap e l := by
  obtain ⟨vs, h1, h2⟩ := h
  exact ⟨vs, h1, Rows.mono hg h2⟩
theorem OwnS.at_ {w : World} {G : Nat → Prop} {a : Option Addr} {cap : Nat} {e : TypeId} {l : List α} (h : OwnS r w G a cap e l) (hg : ∀ p, a = some p → G p.block) : SliceAt r w G a l := by
  obtain ⟨vs, h1, h2⟩ := h
  exact ⟨vs, h1.row, h2, fun _ => hg⟩
theorem OwnS.cap {w : World} {G : Nat → Prop} {a : Option Addr} {cap : Nat} {e : TypeId} {l : List α} (h : OwnS r w G a cap e l) : l.length ≤ cap := by
  obtain ⟨vs, h1, h2⟩ := h
  exact h1.2.1
theorem OwnS.blk {w : World} {G : Nat → Prop} {a : Option Addr} {cap : Nat} {e : TypeId} {l : List α} (h : OwnS r w G a cap e l) {q : Addr} (hq : a = some q) : ∃ b, a = some ⟨b, 0, none⟩ ∧ b < w.heap.size ∧ q = ⟨b, 0, none⟩ := by
  obtain ⟨vs, ⟨_, _, hx⟩, h2⟩ := h
  rcases hx with ⟨hx, _⟩ | ⟨b, cur, hx, hb, _⟩
  · rw [hx] at hq; cases hq
  · rw [hx] at hq; cases hq; exact ⟨b, hx, (Array.getElem?_eq_some_iff.1 hb).1, rfl⟩
/-- append of an element out of a block of its own -/
theorem OwnS.push {w₀ w₁ : World} {G : Nat → Prop} {a : Option Addr} {cap n bytes : Nat} {e : TypeId} {l : List α} {z : List Value} (h : OwnS r w₁ G a cap e l) {B : Nat} {x : α} {cs : Array Value} (hx : r.R w₁ G cs.toList x) (hn : New w₀ (.cells cs e) B w₁) (hnl : n = l.length)
    (hz : z.length = r.k) (hb : l.length ≤ 1000000000) (hby : bytes ≤ 10000) (hG : ∀ b, a = some ⟨b, 0, none⟩ → ¬ G b) {K : Option Addr → Nat → Nat → World → Prop}
    (hk : ∀ a' c' w', Upd (fun b => a = some ⟨b, 0, none⟩) w₁ w' → OwnS r w' G a' c' e (l ++ [x]) → (a' = a ∨ ∃ b, a' = some ⟨b, 0, none⟩ ∧ w₁.heap.size ≤ b) → K a' (l ++ [x]).length c' w') :
    appendP e r.k bytes z a n cap (.slice (some ⟨B, 0, none⟩) 1 1) w₁ K := by
  subst hnl
  obtain ⟨vs, ho, hr⟩ := h
  have hl := r.len hx
  have hrow : RowAt w₁ (some ⟨B, 0, none⟩) cs.toList := RowAt.of hn.get fun j v hj => by simpa using hj
  refine append_own ho rfl (read_row hrow (by rw [hl]; omega)) (by rw [hl]; omega) (r.one hx) hz ?_ (by omega) fun a' c' w' hu ho' hf' => ?_
  · have : (2 * (l.length + 1) + 192) * bytes ≤ (2 * (1000000000 + 1) + 192) * 10000 := Nat.mul_le_mul (by omega) hby
    omega
  · have := hk a' c' w' hu ⟨_, by simpa using ho', Rows.upd hu (fun b hb hb' => hG b hb' hb) (hr.append (Rows.single hx))⟩ hf'
    simpa using this
/-- append of elements that lie elsewhere -/
theorem OwnS.concat {w₁ : World} {G : Nat → Prop} {a ax : Option Addr} {cap cx n m bytes : Nat} {e : TypeId} {l xs : List α} {z : List Value} (h : OwnS r w₁ G a cap e l) (hx : SliceAt r w₁ G ax xs) (hnl : n = l.length) (hm : m = xs.length)
    (hz : z.length = r.k) (hb : l.length + xs.length ≤ 1000000000) (hby : bytes ≤ 10000) (hG : ∀ b, a = some ⟨b, 0, none⟩ → ¬ G b) {K : Option Addr → Nat → Nat → World → Prop}
    (hk : ∀ a' c' w', Upd (fun b => a = some ⟨b, 0, none⟩) w₁ w' → OwnS r w' G a' c' e (l ++ xs) → (a' = a ∨ ∃ b, a' = some ⟨b, 0, none⟩ ∧ w₁.heap.size ≤ b) → K a' (l ++ xs).length c' w') :
    appendP e r.k bytes z a n cap (.slice ax m cx) w₁ K := by
  subst hnl; subst hm
  obtain ⟨vs, ho, hr⟩ := h
  obtain ⟨us, hu1, hu2, hu3⟩ := hx
  refine append_own ho rfl (read_row hu1 (by rw [Rows.len hu2])) (by rw [Rows.len hu2]) (Rows.one hu2) hz ?_ (by omega) fun a' c' w' hu ho' hf' => ?_
  · have : (2 * (l.length + xs.length) + 192) * bytes ≤ (2 * 1000000000 + 192) * 10000 := Nat.mul_le_mul (by omega) hby
    omega
  · have := hk a' c' w' hu ⟨_, by simpa using ho', Rows.upd hu (fun b hb hb' => hG b hb' hb) (hr.append hu2)⟩ hf'
    simpa using this
/-- an element is stored -/
theorem OwnS.store {w : World} {G : Nat → Prop} {b cap : Nat} {e : TypeId} {l : List α} (h : OwnS r w G (some ⟨b, 0, none⟩) cap e l) (hG : ¬ G b) {i : Nat} (hi : i < l.length) {us : List Value} {x : α} (hx : r.R w G us x) {K : World → Prop}
    (hk : ∀ w', Upd (· = b) w w' → OwnS r w' G (some ⟨b, 0, none⟩) cap e (l.set i x) → K w') : storeP w ⟨b, i * r.k, none⟩ us K := by
  obtain ⟨vs, ho, hr⟩ := h
  have hl := r.len hx
  have hvl := Rows.len hr
  have hin : i * r.k + r.k ≤ l.length * r.k := by
    have := Nat.mul_le_mul_right r.k (show i + 1 ≤ l.length from hi)
    rwa [Nat.succ_mul] at this
  refine own_store ho (by omega) fun w' hu ho' => hk w' hu ⟨vs.take (i * r.k) ++ us ++ vs.drop (i * r.k + us.length), ?_, ?_⟩
  · rw [List.length_set]; exact ho'
  · have := Rows.upd hu (fun b' hb hb' => hG (by subst hb'; exact hb)) (hr.set hi hx)
    rw [hl]; exact this
end
/-! ### Ways to lie -/
/-- cells alone -/
def flatR {α : Type} (f : α → List Value) (k : Nat) (hk : 1 ≤ k) (hl : ∀ x, (f x).length = k) (h1 : ∀ x, ∀ v ∈ f x, v.oneCell' = true) : ERep α where
  k := k
  R := fun _ _ vs x => vs = f x
  pos := hk
  len := fun h => by rw [h, hl]
  one := fun h => by rw [h]; exact h1 _
  upd := fun h _ _ => h
  mono := fun h _ => h
  cells := fun h _ => h
/-- two parts -/
def ERep.pair {α β γ : Type} (r : ERep β) (s : ERep γ) (f : α → β) (g : α → γ) : ERep α where
  k := r.k + s.k
  R := fun w G vs x => ∃ u v, vs = u ++ v ∧ r.R w G u (f x) ∧ s.R w G v (g x)
  pos := Nat.le_trans r.pos (Nat.le_add_right _ _)
  len := fun ⟨u, v, e, hu, hv⟩ => by rw [e, List.length_append, r.len hu, s.len hv]
  one := fun ⟨u, v, e, hu, hv⟩ => by
    rw [e]
    intro z hz
    rcases List.mem_append.1 hz with hz | hz
    · exact r.one hu z hz
    · exact s.one hv z hz
  upd := fun ⟨u, v, e, hu, hv⟩ k hf => ⟨u, v, e, r.upd hu k hf, s.upd hv k hf⟩
  mono := fun ⟨u, v, e, hu, hv⟩ hg => ⟨u, v, e, r.mono hu hg, s.mono hv hg⟩
  cells := fun ⟨u, v, e, hu, hv⟩ k => ⟨u, v, e, r.cells hu k, s.cells hv k⟩
/-- a slice -/
def sliceR {β : Type} (r : ERep β) : ERep (List β) where
  k := 1
  R := fun w G vs x => ∃ a c, vs = [.slice a x.length c] ∧ x.length ≤ c ∧ SliceAt r w G a x
  pos := Nat.le_refl _
  len := fun ⟨a, c, e, _⟩ => by rw [e]; rfl
  one := fun ⟨a, c, e, _⟩ => by
    rw [e]
    intro v hv
    simp at hv
    rw [hv]; rfl
  upd := fun ⟨a, c, e, hc, h⟩ k hf => ⟨a, c, e, hc, h.upd k hf⟩
  mono := fun ⟨a, c, e, hc, h⟩ hg => ⟨a, c, e, hc, h.mono hg⟩
  cells := fun ⟨a, c, e, hc, h⟩ k => ⟨a, c, e, hc, h.cellsLe k⟩
/-- bytes -/
def bytesR : ERep (List UInt8) where
  k := 1
  R := fun w G vs x => ∃ a c, vs = [.slice a x.length c] ∧ x.length ≤ c ∧ BytesAt w a x ∧ (x ≠ [] → ∀ p, a = some p → G p.block)
  pos := Nat.le_refl _
  len := fun ⟨a, c, e, _⟩ => by rw [e]; rfl
  one := fun ⟨a, c, e, _⟩ => by
    rw [e]
    intro v hv
    simp at hv
    rw [hv]; rfl
  upd := fun {w w' F G vs x} ⟨a, c, e, hc, hb, hg⟩ k hf => ⟨a, c, e, hc, BytesAt.updM hb k hg hf, hg⟩
  mono := fun ⟨a, c, e, hc, hb, hg⟩ hh => ⟨a, c, e, hc, hb, fun hn p hp => hh _ (hg hn p hp)⟩
  cells := fun ⟨a, c, e, hc, hb, hg⟩ k => ⟨a, c, e, hc, RowAt.cellsLe hb k, hg⟩
end Go.Den
end
section
set_option linter.unusedSimpArgs false
set_option linter.unusedVariables false
namespace Go.Den
section
variable {α : Type}
/-- a list whose cells a call owns, at S or behind; what its elements read lies there too, or in Q -/
def ListAt (r : ERep α) (Q : Nat → Prop) (S : Nat) (w : World) (a : Option Addr) (cap : Nat) (e : TypeId) (l : List α) : Prop :=
  ∃ G, OwnS r w G a cap e l ∧ (∀ x, G x → (S ≤ x ∨ Q x) ∧ x < w.heap.size) ∧ ∀ b, a = some ⟨b, 0, none⟩ → S ≤ b ∧ ¬ G b
variable {r : ERep α} {Q : Nat → Prop} {S : Nat}
theorem ListAt.nil (w : World) (e : TypeId) : ListAt r Q S w none 0 e [] := ⟨NoB, OwnS.nil _ _ _, fun _ h => h.elim, fun _ h => by cases h⟩
theorem ListAt.ext {w w' : World} {a : Option Addr} {cap : Nat} {e : TypeId} {l : List α} (h : ListAt r Q S w a cap e l) (k : Ext w w') : ListAt r Q S w' a cap e l := by
  obtain ⟨G, h1, h2, h3⟩ := h
  exact ⟨G, h1.ext k, fun x hx => ⟨(h2 x hx).1, Nat.lt_of_lt_of_le (h2 x hx).2 k.size⟩, h3⟩
theorem ListAt.cellsLe {w w' : World} {a : Option Addr} {cap : Nat} {e : TypeId} {l : List α} (h : ListAt r Q S w a cap e l) (k : CellsLe w w') : ListAt r Q S w' a cap e l := by
  obtain ⟨G, h1, h2, h3⟩ := h
  exact ⟨G, h1.cellsLe k, fun x hx => ⟨(h2 x hx).1, Nat.lt_of_lt_of_le (h2 x hx).2 k.size⟩, h3⟩
theorem ListAt.upd {w w' : World} {F : Nat → Prop} {a : Option Addr} {cap : Nat} {e : TypeId} {l : List α} (h : ListAt r Q S w a cap e l) (k : Upd F w w') (hF : ∀ x, F x → x < S ∧ ¬ Q x) : ListAt r Q S w' a cap e l := by
  obtain ⟨G, h1, h2, h3⟩ := h
  refine ⟨G, h1.upd k (fun b hb hf => ?_) (fun b hb hf => ?_), fun x hx => ⟨(h2 x hx).1, Nat.lt_of_lt_of_le (h2 x hx).2 k.size⟩, h3⟩
  · have hf' := hF b hf
    rcases (h2 b hb).1 with hq | hq
    · omega
    · exact hf'.2 hq
  · have hf' := hF b hf
    have := (h3 b hb).1
    omega
theorem ListAt.lt {w : World} {a : Option Addr} {cap : Nat} {e : TypeId} {l : List α} (h : ListAt r Q S w a cap e l) {b : Nat} (hb : a = some ⟨b, 0, none⟩) : b < w.heap.size := by
  obtain ⟨G, h1, _⟩ := h
  obtain ⟨b', h2, h3, h4⟩ := h1.blk hb
  cases h4
  exact h3
theorem ListAt.cap {w : World} {a : Option Addr} {cap : Nat} {e : TypeId} {l : List α} (h : ListAt r Q S w a cap e l) : l.length ≤ cap := by
  obtain ⟨G, h1, _⟩ := h
  exact h1.cap
theorem ListAt.slice {w : World} {a : Option Addr} {cap : Nat} {e : TypeId} {l : List α} (h : ListAt r Q S w a cap e l) : ∃ G, SliceAt r w G a l ∧ ∀ x, G x → (S ≤ x ∨ Q x) ∧ x < w.heap.size := by
  obtain ⟨G, h1, h2, h3⟩ := h
  refine ⟨fun x => G x ∨ a = some ⟨x, 0, none⟩, (h1.mono fun _ hb => .inl hb).at_ fun p hp => ?_, fun x hx => ?_⟩
  · obtain ⟨b, hb, _, rfl⟩ := h1.blk hp
    exact .inr hb
  · rcases hx with hx | hx
    · exact h2 x hx
    · obtain ⟨b, hb, hlt, e⟩ := h1.blk hx
      cases e
      exact ⟨.inl (h3 _ hx).1, hlt⟩
theorem ListAt.weak {w : World} {Q' : Nat → Prop} {S' : Nat} {a : Option Addr} {cap : Nat} {e : TypeId} {l : List α} (h : ListAt r Q S w a cap e l) (hS : S' ≤ S) (hQ : ∀ x, Q x → S' ≤ x ∨ Q' x) : ListAt r Q' S' w a cap e l := by
  obtain ⟨G, h1, h2, h3⟩ := h
  refine ⟨G, h1, fun x hx => ⟨?_, (h2 x hx).2⟩, fun b hb => ⟨Nat.le_trans hS (h3 b hb).1, (h3 b hb).2⟩⟩
  rcases (h2 x hx).1 with h | h
  · exact .inl (Nat.le_trans hS h)
  · exact hQ x h
/-- one more -/
theorem ListAt.push {w₀ w₁ : World} {H : Nat → Prop} {a : Option Addr} {cap n bytes : Nat} {e : TypeId} {l : List α} {z : List Value} (h : ListAt r Q S w₁ a cap e l) {B : Nat} {x : α} {cs : Array Value} (hx : r.R w₁ H cs.toList x) (hH : ∀ b, H b → (S ≤ b ∨ Q b) ∧ b < w₁.heap.size ∧ a ≠ some ⟨b, 0, none⟩) (hn : New w₀ (.cells cs e) B w₁) (hnl : n = l.length)
    (hz : z.length = r.k) (hb : l.length ≤ 1000000000) (hby : bytes ≤ 10000) (hS : S ≤ w₁.heap.size) {K : Option Addr → Nat → Nat → World → Prop}
    (hk : ∀ a' c' w', Upd (fun b => S ≤ b) w₁ w' → ListAt r Q S w' a' c' e (l ++ [x]) → K a' (l ++ [x]).length c' w') :
    appendP e r.k bytes z a n cap (.slice (some ⟨B, 0, none⟩) 1 1) w₁ K := by
  obtain ⟨G, h1, h2, h3⟩ := h
  have hG : ∀ b, G b ∨ H b → (S ≤ b ∨ Q b) ∧ b < w₁.heap.size := fun b hb => by
    rcases hb with hb | hb
    · exact h2 b hb
    · exact ⟨(hH b hb).1, (hH b hb).2.1⟩
  have hno : ∀ b, a = some ⟨b, 0, none⟩ → ¬ (G b ∨ H b) := fun b hb hb' => by
    rcases hb' with hb' | hb'
    · exact (h3 b hb).2 hb'
    · exact (hH b hb').2.2 hb
  refine OwnS.push (G := fun b => G b ∨ H b) (h1.mono fun _ hb => .inl hb) (r.mono hx fun _ hb => .inr hb) hn hnl hz hb hby hno fun a' c' w' hu ho hf => ?_
  refine hk a' c' w' (hu.mono fun b _ hb => (h3 b hb).1) ⟨_, ho, fun b hb => ⟨(hG b hb).1, Nat.lt_of_lt_of_le (hG b hb).2 hu.size⟩, fun b hb => ?_⟩
  rcases hf with hf | ⟨b', hb', hl⟩
  · subst hf; exact ⟨(h3 b hb).1, hno b hb⟩
  · rw [hb'] at hb
    cases hb
    exact ⟨Nat.le_trans hS hl, fun hb => absurd (hG _ hb).2 (by omega)⟩
/-- more behind it -/
theorem ListAt.concat {w₁ : World} {H : Nat → Prop} {a ax : Option Addr} {cap cx n m bytes : Nat} {e : TypeId} {l xs : List α} {z : List Value} (h : ListAt r Q S w₁ a cap e l) (hx : SliceAt r w₁ H ax xs) (hH : ∀ b, H b → (S ≤ b ∨ Q b) ∧ b < w₁.heap.size ∧ a ≠ some ⟨b, 0, none⟩) (hnl : n = l.length) (hm : m = xs.length)
    (hz : z.length = r.k) (hb : l.length + xs.length ≤ 1000000000) (hby : bytes ≤ 10000) (hS : S ≤ w₁.heap.size) {K : Option Addr → Nat → Nat → World → Prop}
    (hk : ∀ a' c' w', Upd (fun b => S ≤ b) w₁ w' → ListAt r Q S w' a' c' e (l ++ xs) → K a' (l ++ xs).length c' w') :
    appendP e r.k bytes z a n cap (.slice ax m cx) w₁ K := by
  obtain ⟨G, h1, h2, h3⟩ := h
  have hG : ∀ b, G b ∨ H b → (S ≤ b ∨ Q b) ∧ b < w₁.heap.size := fun b hb => by
    rcases hb with hb | hb
    · exact h2 b hb
    · exact ⟨(hH b hb).1, (hH b hb).2.1⟩
  have hno : ∀ b, a = some ⟨b, 0, none⟩ → ¬ (G b ∨ H b) := fun b hb hb' => by
    rcases hb' with hb' | hb'
    · exact (h3 b hb).2 hb'
    · exact (hH b hb').2.2 hb
  refine OwnS.concat (G := fun b => G b ∨ H b) (h1.mono fun _ hb => .inl hb) (hx.mono fun _ hb => .inr hb) hnl hm hz hb hby hno fun a' c' w' hu ho hf => ?_
  refine hk a' c' w' (hu.mono fun b _ hb => (h3 b hb).1) ⟨_, ho, fun b hb => ⟨(hG b hb).1, Nat.lt_of_lt_of_le (hG b hb).2 hu.size⟩, fun b hb => ?_⟩
  rcases hf with hf | ⟨b', hb', hl⟩
  · subst hf; exact ⟨(h3 b hb).1, hno b hb⟩
  · rw [hb'] at hb
    cases hb
    exact ⟨Nat.le_trans hS hl, fun hb => absurd (hG _ hb).2 (by omega)⟩
end
/-! ### Numbers that are summed up in a new order: a world behind changes of new blocks -/
theorem Ext.new {w w' : World} {S : Nat} (h : Upd (fun b => S ≤ b) w w') (hS : w.heap.size ≤ S) : Ext w w' := h.mono fun x hx hs => absurd hx (by omega)
theorem Ext.own {w w₁ w' : World} {S : Nat} (h : Ext w w₁) (k : Upd (fun b => S ≤ b) w₁ w') (hS : w.heap.size ≤ S) : Ext w w' := h.beyond k fun x hx => Nat.le_trans hS hx
end Go.Den
end
section
set_option linter.unusedVariables false
set_option linter.unusedSimpArgs false
set_option maxRecDepth 8000
namespace Go.Den
/-- what is left of a reader; none: it refused -/
abbrev St := Option (List UInt8)
def takeS (k : Nat) : St → Nat × Nat × St
  | some l => if l.length < k then (0, 4, none) else (fromLE (l.take k), 0, some (l.drop k))
  | none => (0, 4, none)
def cutS (k : Nat) : St → List UInt8 × Nat × St
  | some l => if l.length < k then ([], 4, none) else (l.take k, 0, some (l.drop k))
  | none => ([], 4, none)
def rowS (s : St) : List UInt8 × Nat × St := if (takeS 1 s).2.1 = 0 then cutS (takeS 1 s).1 (takeS 1 s).2.2 else ([], 4, none)
def leftS : St → Nat
  | some l => l.length
  | none => 0
theorem takeS_cases (k : Nat) (s : St) : takeS k s = (0, 4, none) ∨ ∃ l, s = some l ∧ k ≤ l.length ∧ takeS k s = (fromLE (l.take k), 0, some (l.drop k)) := by
  cases s with
  | none => exact .inl rfl
  | some l =>
    by_cases h : l.length < k
    · exact .inl (by simp [takeS, h])
    · exact .inr ⟨l, rfl, by omega, by simp [takeS, h]⟩
theorem takeS_lt (k : Nat) (s : St) : (takeS k s).1 < 256 ^ k := by
  rcases takeS_cases k s with h | ⟨l, _, hk, h⟩
  · rw [h]; exact Nat.pow_pos (by omega)
  · rw [h]
    have := fromLE_lt (l.take k)
    simpa [Nat.min_eq_left hk] using this
theorem takeS_err {k : Nat} {s : St} (h : (takeS k s).2.1 ≠ 0) : takeS k s = (0, 4, none) := by
  rcases takeS_cases k s with h' | ⟨l, _, hk, h'⟩
  · exact h'
  · rw [h'] at h; exact absurd rfl h
theorem cutS_cases (k : Nat) (s : St) : cutS k s = ([], 4, none) ∨ ∃ l, s = some l ∧ k ≤ l.length ∧ cutS k s = (l.take k, 0, some (l.drop k)) := by
  cases s with
  | none => exact .inl rfl
  | some l =>
    by_cases h : l.length < k
    · exact .inl (by simp [cutS, h])
    · exact .inr ⟨l, rfl, by omega, by simp [cutS, h]⟩
theorem rowS_err {s : St} (h : (rowS s).2.1 ≠ 0) : rowS s = ([], 4, none) := by
  unfold rowS at h ⊢
  split
  · rename_i h0
    rw [if_pos h0] at h
    rcases cutS_cases (takeS 1 s).1 (takeS 1 s).2.2 with h' | ⟨l, _, _, h'⟩
    · exact h'
    · rw [h'] at h; exact absurd rfl h
  · rfl
theorem rowS_len (s : St) : (rowS s).1.length < 256 := by
  unfold rowS
  split
  · have hlt := takeS_lt 1 s
    rcases cutS_cases (takeS 1 s).1 (takeS 1 s).2.2 with h' | ⟨l, _, _, h'⟩
    · rw [h']; decide
    · rw [h']
      simp only [List.length_take]
      omega
  · decide
/-! ### The reader of ends -/
def RdIn (G : Nat → Prop) (w : World) (r : Nat) : St → Prop
  | some l => ReaderIn G w r l false
  | none => ∃ l, ReaderIn G w r l true
theorem ReaderIn.updG {F G : Nat → Prop} {w w' : World} {r : Nat} {l : List UInt8} {no : Bool} (h : ReaderIn G w r l no) (k : Upd F w w') (hr : ¬ F r) (hG : ∀ x, G x → ¬ F x) : ReaderIn G w' r l no := by
  obtain ⟨a, c, h1, h2, h3, h4⟩ := h.at_
  exact ⟨a, c, Upd.get k h1 hr, RowAt.upd h2 k fun p hp => hG _ (h4 p hp), h3, h4⟩
theorem RdIn.upd {F G : Nat → Prop} {w w' : World} {r : Nat} : ∀ {s : St}, RdIn G w r s → Upd F w w' → ¬ F r → (∀ x, G x → ¬ F x) → RdIn G w' r s
  | some l, h, k, hr, hG => ReaderIn.updG h k hr hG
  | none, ⟨l, h⟩, k, hr, hG => ⟨l, h.updG k hr hG⟩
theorem RdIn.ext {G : Nat → Prop} {w w' : World} {r : Nat} {s : St} (h : RdIn G w r s) (k : Ext w w') : RdIn G w' r s := h.upd k (fun h => h) fun _ _ h => h
theorem rdTake {G : Nat → Prop} {w : World} {r k : Nat} {s : St} (hk : isSz k = true) (hG : ¬ G r) (h : RdIn G w r s) :
    CallsR prog K.ends_Reader_Take #[.pointer (some ⟨r, 0, none⟩), .int .i64 k] w fun v w' => Upd (· = r) w w' ∧ v = .tuple #[.int .u64 ((takeS k s).1 : Nat), .int .i64 ((takeS k s).2.1 : Nat)] ∧ RdIn G w' r (takeS k s).2.2 := by
  cases s with
  | none =>
    obtain ⟨l, h⟩ := h
    refine (ends_Reader_Take_in r k l true w hk hG h).mono ?_
    rintro v w' ⟨hu, hv⟩
    rw [if_pos (.inl rfl)] at hv
    exact ⟨hu, hv.1, l, hv.2⟩
  | some l =>
    refine (ends_Reader_Take_in r k l false w hk hG h).mono ?_
    rintro v w' ⟨hu, hv⟩
    refine ⟨hu, ?_⟩
    unfold takeS
    by_cases hl : l.length < k
    · rw [if_pos (.inr hl)] at hv
      simp only [if_pos hl]
      exact ⟨hv.1, l, hv.2⟩
    · rw [if_neg (by rintro (h | h); cases h; exact hl h)] at hv
      simp only [if_neg hl]
      exact hv
theorem rdCut {G : Nat → Prop} {w : World} {r k : Nat} {s : St} (hG : ¬ G r) (h : RdIn G w r s) :
    CallsR prog K.ends_Reader_cut #[.pointer (some ⟨r, 0, none⟩), .int .i64 k] w fun v w' => Upd (· = r) w w' ∧ (∃ a c, v = .tuple #[.slice a (cutS k s).1.length c, .int .i64 ((cutS k s).2.1 : Nat)] ∧ BytesAt w' a (cutS k s).1) ∧ RdIn G w' r (cutS k s).2.2 := by
  cases s with
  | none =>
    obtain ⟨l, h⟩ := h
    refine (ends_Reader_cut_in r k l true w hG h).mono ?_
    rintro v w' ⟨hu, hv⟩
    rw [if_pos (.inl rfl)] at hv
    exact ⟨hu, ⟨none, 0, hv.1, BytesAt.nil _ _⟩, l, hv.2⟩
  | some l =>
    refine (ends_Reader_cut_in r k l false w hG h).mono ?_
    rintro v w' ⟨hu, hv⟩
    refine ⟨hu, ?_⟩
    unfold cutS
    by_cases hl : l.length < k
    · rw [if_pos (.inr hl)] at hv
      simp only [if_pos hl]
      exact ⟨⟨none, 0, hv.1, BytesAt.nil _ _⟩, l, hv.2⟩
    · rw [if_neg (by rintro (h | h); cases h; exact hl h)] at hv
      simp only [if_neg hl]
      obtain ⟨a, c, h1, h2, h3⟩ := hv
      have : (l.take k).length = k := by simp; omega
      exact ⟨⟨a, c, by rw [this]; exact h1, h2⟩, h3⟩
theorem rdRow {G : Nat → Prop} {w : World} {r : Nat} {s : St} (hG : ¬ G r) (h : RdIn G w r s) :
    CallsR prog K.ends_Reader_Row #[.pointer (some ⟨r, 0, none⟩)] w fun v w' => Upd (· = r) w w' ∧ (∃ a c, v = .tuple #[.slice a (rowS s).1.length c, .int .i64 ((rowS s).2.1 : Nat)] ∧ BytesAt w' a (rowS s).1 ∧ (rowS s).1.length ≤ c ∧ ∀ p, a = some p → w.heap.size ≤ p.block ∧ p.block < w'.heap.size) ∧ RdIn G w' r (rowS s).2.2 := by
  apply ends_Reader_Row.sh
  unfold ends_Reader_Row.body
  refine (rdTake (k := 1) (by decide) hG h).mono ?_
  rintro _ w₁ ⟨hu, rfl, hr⟩
  refine ⟨_, _, rfl, br_ne (fun he => ?_) fun he => ?_⟩
  · have he' := takeS_err (k := 1) (s := s) (by omega)
    have hrow : rowS s = ([], 4, none) := by unfold rowS; rw [he']; rfl
    rw [he'] at hr ⊢
    rw [hrow]
    exact ⟨hu, ⟨none, 0, rfl, BytesAt.nil _ _, Nat.le_refl _, fun _ h => by cases h⟩, hr⟩
  · have he0 : (takeS 1 s).2.1 = 0 := by omega
    have hrow : rowS s = cutS (takeS 1 s).1 (takeS 1 s).2.2 := by unfold rowS; rw [if_pos he0]
    have hlt := takeS_lt 1 s
    rw [w64n (by omega)]
    refine (rdCut hG hr).mono ?_
    rintro _ w₂ ⟨hu2, ⟨a, c, rfl, hb⟩, hr2⟩
    rw [← hrow] at hb hr2 ⊢
    have hlen := rowS_len s
    refine ⟨_, _, _, _, rfl, append_copy hb (by omega) fun a' c' w₃ he hb' hc hf hn => ?_⟩
    refine ⟨(hu.trans hu2).trans he.ext, ⟨a', c', rfl, hb', hc, fun p hp => ⟨?_, ?_⟩⟩, hr2.ext he⟩
    · exact Nat.le_trans (Nat.le_trans hu.size hu2.size) (hf p hp)
    · by_cases hl : (rowS s).1 = []
      · rw [hn hl] at hp; cases hp
      · obtain ⟨b, o, hab, hlt⟩ := RowAt.blk hb' (by simpa using hl)
        rw [hab] at hp; cases hp; exact hlt
theorem rdLeft {G : Nat → Prop} {w : World} {r : Nat} {s : St} (h : RdIn G w r s) :
    CallsR prog K.ends_Reader_Left #[.pointer (some ⟨r, 0, none⟩)] w fun v w' => v = .int .i64 (leftS s : Nat) ∧ w' = w := by
  apply ends_Reader_Left.sh
  unfold ends_Reader_Left.body
  cases s with
  | none =>
    obtain ⟨l, h⟩ := h
    refine (ends_Reader_off_spec r l true w h).mono ?_
    rintro _ _ ⟨rfl, rfl⟩
    obtain ⟨a, c, hr, _⟩ := h.at_
    refine ⟨_, rfl, ?_⟩
    simp only [br_false, nilC_some', add_lit, Nat.zero_add]
    exact ⟨true, cell_of hr rfl, by simp [leftS]⟩
  | some l =>
    refine (ends_Reader_off_spec r l false w h).mono ?_
    rintro _ _ ⟨rfl, rfl⟩
    obtain ⟨a, c, hr, _⟩ := ReaderIn.at_ h
    refine ⟨_, rfl, ?_⟩
    simp only [br_false, nilC_some', add_lit, Nat.zero_add]
    exact ⟨false, cell_of hr rfl, a, l.length, c, cell_of hr rfl, by simp [leftS]⟩
/-! ### That of the reference -/
def RRdIn (G : Nat → Prop) (w : World) (r : Nat) : St → Prop
  | some l => RReaderIn G w r l false ∧ l.length ≤ 1000000000000
  | none => ∃ l, RReaderIn G w r l true
theorem RReaderIn.updG {F G : Nat → Prop} {w w' : World} {r : Nat} {l : List UInt8} {no : Bool} (h : RReaderIn G w r l no) (k : Upd F w w') (hr : ¬ F r) (hG : ∀ x, G x → ¬ F x) : RReaderIn G w' r l no := by
  obtain ⟨a, c, h1, h2, h3, h4⟩ := h.at_
  exact ⟨a, c, Upd.get k h1 hr, RowAt.upd h2 k fun p hp => hG _ (h4 p hp), h3, h4⟩
theorem RRdIn.upd {F G : Nat → Prop} {w w' : World} {r : Nat} : ∀ {s : St}, RRdIn G w r s → Upd F w w' → ¬ F r → (∀ x, G x → ¬ F x) → RRdIn G w' r s
  | some l, h, k, hr, hG => ⟨RReaderIn.updG h.1 k hr hG, h.2⟩
  | none, ⟨l, h⟩, k, hr, hG => ⟨l, h.updG k hr hG⟩
theorem RRdIn.ext {G : Nat → Prop} {w w' : World} {r : Nat} {s : St} (h : RRdIn G w r s) (k : Ext w w') : RRdIn G w' r s := h.upd k (fun h => h) fun _ _ h => h
end Go.Den
end
section
set_option linter.unusedVariables false
set_option linter.unusedSimpArgs false
namespace Go.Den
def mayByte (c : UInt8) : Bool := (decide (97 ≤ c.toNat) && decide (c.toNat ≤ 122)) || (decide (48 ≤ c.toNat) && decide (c.toNat ≤ 57)) || decide (c.toNat = 46) || decide (c.toNat = 45)
def isName (s : List UInt8) : Bool := s.all mayByte && decide (1 ≤ s.length) && decide (s.length ≤ 12) && !(s == [46]) && !(s == [46, 46])
structure Key where
  ino : Int
  what : UInt8
  name : ByteArray
  chunk : Int
  deriving DecidableEq
namespace Key
def zero : Key := ⟨0, 0, ByteArray.empty, 0⟩
def bytes (k : Key) : List UInt8 := k.name.data.toList
def vals (k : Key) : List Value := [.int .i64 k.ino, bv k.what, .string k.name, .int .i64 k.chunk]
def may (k : Key) : Bool := decide (1 ≤ k.ino) && decide (k.ino ≤ 65535) &&
  ((decide (k.what.toNat = 1) && decide (k.bytes = []) && decide (k.chunk = 0)) || (decide (k.what.toNat = 2) && isName k.bytes && decide (k.chunk = 0)) || (decide (k.what.toNat = 3) && decide (k.bytes = []) && decide (0 ≤ k.chunk) && decide (k.chunk < 8)))
/-- a key's numbers, in the order in which they count -/
def code (k : Key) : List Int := k.ino :: (k.what.toNat : Int) :: (k.bytes.map (fun b => (b.toNat : Int) + 1) ++ [0, k.chunk])
end Key
abbrev keyV (k : Key) : Value := .agg #[.int .i64 k.ino, bv k.what, .string k.name, .int .i64 k.chunk]
def listLt : List Int → List Int → Bool
  | [], [] => false
  | [], _ :: _ => true
  | _ :: _, [] => false
  | x :: xs, y :: ys => decide (x < y) || (decide (x = y) && listLt xs ys)
theorem listLt_irrefl : ∀ l, listLt l l = false
  | [] => rfl
  | x :: l => by simp [listLt, listLt_irrefl l]
theorem listLt_trans : ∀ {a b c}, listLt a b = true → listLt b c = true → listLt a c = true
  | [], [], _, h, _ => by cases h
  | [], _ :: _, [], _, h => by cases h
  | [], _ :: _, _ :: _, _, _ => rfl
  | _ :: _, [], _, h, _ => by cases h
  | _ :: _, _ :: _, [], _, h => by cases h
  | x :: xs, y :: ys, z :: zs, h, k => by
    simp only [listLt, Bool.or_eq_true, Bool.and_eq_true, decide_eq_true_eq] at h k ⊢
    rcases h with h | ⟨h1, h2⟩
    · rcases k with k | ⟨k1, k2⟩
      · exact .inl (by omega)
      · exact .inl (by omega)
    · rcases k with k | ⟨k1, k2⟩
      · exact .inl (by omega)
      · exact .inr ⟨by omega, listLt_trans h2 k2⟩
theorem listLt_total : ∀ {a b}, listLt a b = false → listLt b a = false → a = b
  | [], [], _, _ => rfl
  | [], _ :: _, h, _ => by cases h
  | _ :: _, [], _, h => by cases h
  | x :: xs, y :: ys, h, k => by
    simp only [listLt, Bool.or_eq_false_iff, Bool.and_eq_false_iff, decide_eq_false_iff_not] at h k
    have e : x = y := by omega
    subst e
    have h2 : listLt xs ys = false := by rcases h.2 with h | h; exact absurd rfl h; exact h
    have k2 : listLt ys xs = false := by rcases k.2 with h | h; exact absurd rfl h; exact h
    rw [listLt_total h2 k2]
theorem map_append_inj {f : UInt8 → Int} (hf : ∀ x y, f x = f y → x = y) (h0 : ∀ x, f x ≠ 0) : ∀ {a b : List UInt8} {x y : Int}, a.map f ++ [0, x] = b.map f ++ [0, y] → a = b ∧ x = y
  | [], [], _, _, h => by simpa using h
  | [], b :: bs, _, _, h => by simp at h; exact absurd h.1.symm (h0 b)
  | a :: l, [], _, _, h => by simp at h; exact absurd h.1 (h0 a)
  | a :: l, b :: bs, _, _, h => by
    simp only [List.map_cons, List.cons_append, List.cons.injEq] at h
    obtain ⟨e1, e2⟩ := map_append_inj hf h0 h.2
    exact ⟨by rw [hf _ _ h.1, e1], e2⟩
theorem Key.code_inj {a b : Key} (h : a.code = b.code) : a = b := by
  obtain ⟨a1, a2, a3, a4⟩ := a
  obtain ⟨b1, b2, b3, b4⟩ := b
  simp only [Key.code, Key.bytes, List.cons.injEq] at h
  obtain ⟨h1, h2, h3⟩ := h
  obtain ⟨e1, e2⟩ := map_append_inj (f := fun b : UInt8 => (b.toNat : Int) + 1) (fun x y h => UInt8.toNat_inj.1 (by have h' : (x.toNat : Int) + 1 = (y.toNat : Int) + 1 := h; omega)) (fun x => by show (x.toNat : Int) + 1 ≠ 0; omega) h3
  have e3 : a3 = b3 := by
    obtain ⟨⟨a3⟩⟩ := a3
    obtain ⟨⟨b3⟩⟩ := b3
    simp only at e1
    rw [e1]
  rw [h1, UInt8.toNat_inj.1 (by omega : a2.toNat = b2.toNat), e3, e2]
def before (a b : Key) : Bool := listLt a.code b.code
theorem before_irrefl (a : Key) : before a a = false := listLt_irrefl _
theorem before_trans {a b c : Key} (h : before a b = true) (k : before b c = true) : before a c = true := listLt_trans h k
theorem before_total {a b : Key} (h : before a b = false) (k : before b a = false) : a = b := Key.code_inj (listLt_total h k)
theorem before_asymm {a b : Key} (h : before a b = true) : before b a = false := by
  cases hb : before b a with
  | false => rfl
  | true =>
    have := before_trans h hb
    rw [before_irrefl] at this
    cases this
structure Fact where
  key : Key
  val : List UInt8
  deriving DecidableEq
structure Change where
  key : Key
  val : List UInt8
  gone : Bool
  deriving DecidableEq
def ordered : List Fact → Bool
  | [] => true
  | [_] => true
  | x :: y :: l => before x.key y.key && ordered (y :: l)
def Sorted (l : List Fact) : Prop := l.Pairwise fun a b => before a.key b.key = true
theorem ordered_sorted : ∀ {l : List Fact}, ordered l = true ↔ Sorted l
  | [] => by simp [ordered, Sorted]
  | [x] => by simp [ordered, Sorted]
  | x :: y :: l => by
    unfold ordered
    rw [Bool.and_eq_true, ordered_sorted (l := y :: l)]
    unfold Sorted
    rw [List.pairwise_cons (a := x)]
    constructor
    · rintro ⟨h1, h2⟩
      refine ⟨fun z hz => ?_, h2⟩
      rcases List.mem_cons.1 hz with rfl | hz
      · exact h1
      · exact before_trans h1 ((List.pairwise_cons.1 h2).1 z hz)
    · rintro ⟨h1, h2⟩
      exact ⟨h1 y (by simp), h2⟩
/-- a change is done -/
def putF (c : Change) : List Fact → List Fact
  | [] => if c.gone then [] else [⟨c.key, c.val⟩]
  | x :: l => if x.key = c.key then (if c.gone then l else ⟨c.key, c.val⟩ :: l) else if before c.key x.key then (if c.gone then x :: l else ⟨c.key, c.val⟩ :: x :: l) else x :: putF c l
def applyL (l : List Fact) (cs : List Change) : List Fact := cs.foldl (fun l c => putF c l) l
def applyF (l : List Fact) (cs : List Change) : List Fact := if ordered l then applyL l cs else []
theorem putF_mem {c : Change} {y : Fact} : ∀ {l : List Fact}, y ∈ putF c l → y ∈ l ∨ (c.gone = false ∧ y = ⟨c.key, c.val⟩)
  | [], h => by
    unfold putF at h
    split at h
    · cases h
    · rename_i hg
      exact .inr ⟨by simpa using hg, by simpa using h⟩
  | x :: l, h => by
    unfold putF at h
    split at h
    · split at h
      · exact .inl (by simp [h])
      · rename_i hg
        rcases List.mem_cons.1 h with h | h
        · exact .inr ⟨by simpa using hg, h⟩
        · exact .inl (by simp [h])
    · split at h
      · split at h
        · exact .inl h
        · rename_i hg
          rcases List.mem_cons.1 h with h | h
          · exact .inr ⟨by simpa using hg, h⟩
          · exact .inl h
      · rcases List.mem_cons.1 h with h | h
        · exact .inl (by simp [h])
        · rcases putF_mem h with h | h
          · exact .inl (by simp [h])
          · exact .inr h
theorem putF_sorted {c : Change} : ∀ {l : List Fact}, Sorted l → Sorted (putF c l)
  | [], h => by
    unfold putF
    split
    · exact List.Pairwise.nil
    · exact List.pairwise_singleton _ _
  | x :: l, h => by
    obtain ⟨h1, h2⟩ := List.pairwise_cons.1 h
    unfold putF
    split
    · rename_i he
      split
      · exact h2
      · refine List.pairwise_cons.2 ⟨fun y hy => ?_, h2⟩
        have := h1 y hy
        rw [he] at this
        exact this
    · rename_i he
      split
      · rename_i hb
        split
        · exact h
        · refine List.pairwise_cons.2 ⟨fun y hy => ?_, h⟩
          rcases List.mem_cons.1 hy with rfl | hy
          · exact hb
          · exact before_trans hb (h1 y hy)
      · rename_i hb
        refine List.pairwise_cons.2 ⟨fun y hy => ?_, putF_sorted h2⟩
        rcases putF_mem hy with hy | ⟨_, rfl⟩
        · exact h1 y hy
        · cases hx : before x.key c.key with
          | true => rfl
          | false => exact absurd (before_total hx (by simpa using hb)) he
theorem applyL_sorted : ∀ {cs : List Change} {l : List Fact}, Sorted l → Sorted (applyL l cs)
  | [], l, h => h
  | c :: cs, l, h => applyL_sorted (cs := cs) (putF_sorted h)
theorem putF_length (c : Change) : ∀ (l : List Fact), (putF c l).length ≤ l.length + 1
  | [] => by unfold putF; split <;> simp
  | x :: l => by
    have := putF_length c l
    unfold putF
    split
    · split <;> simp <;> omega
    · split
      · split <;> simp <;> omega
      · simp; omega
/-! ### The place of a key -/
/-- how many stand ahead of it -/
def placeF (l : List Fact) (k : Key) : Nat := (l.takeWhile fun f => before f.key k).length
theorem placeF_le (l : List Fact) (k : Key) : placeF l k ≤ l.length := by
  unfold placeF
  induction l with
  | nil => simp
  | cons x l ih =>
    rw [List.takeWhile_cons]
    split
    · simp; exact ih
    · simp
theorem placeF_cons (x : Fact) (l : List Fact) (k : Key) : placeF (x :: l) k = if before x.key k then placeF l k + 1 else 0 := by
  unfold placeF
  rw [List.takeWhile_cons]
  split <;> simp
/-- of facts in order: those ahead of the place stand ahead of the key, the others do not -/
theorem placeF_at : ∀ {l : List Fact} {k : Key}, Sorted l → ∀ (i : Nat) (hi : i < l.length), (before l[i].key k = true ↔ i < placeF l k)
  | x :: l, k, h, i, hi => by
    obtain ⟨h1, h2⟩ := List.pairwise_cons.1 h
    rw [placeF_cons]
    cases i with
    | zero =>
      simp only [List.getElem_cons_zero]
      split
      · rename_i hb; simp [hb]
      · rename_i hb; simp [hb]
    | succ i =>
      simp only [List.getElem_cons_succ]
      have := placeF_at h2 i (by simpa using hi) (k := k)
      split
      · rw [this]; omega
      · rename_i hb
        constructor
        · intro hx
          have := before_trans (h1 _ (List.getElem_mem _)) hx
          rw [this] at hb
          exact absurd rfl hb
        · intro hx; omega
/-- a change, by the place of its key -/
theorem putF_place {c : Change} : ∀ {l : List Fact}, Sorted l → putF c l = (if hp : placeF l c.key < l.length ∧ (∀ h : placeF l c.key < l.length, l[placeF l c.key].key = c.key) then
      (if c.gone then l.take (placeF l c.key) ++ l.drop (placeF l c.key + 1) else l.set (placeF l c.key) ⟨c.key, c.val⟩)
    else if c.gone then l else l.take (placeF l c.key) ++ [⟨c.key, c.val⟩] ++ l.drop (placeF l c.key))
  | [], h => by
    unfold putF
    rw [dif_neg (by simp)]
    simp
  | x :: l, h => by
    obtain ⟨h1, h2⟩ := List.pairwise_cons.1 h
    have hpc := placeF_cons x l c.key
    unfold putF
    by_cases he : x.key = c.key
    · have hp0 : placeF (x :: l) c.key = 0 := by rw [hpc, if_neg (by rw [he, before_irrefl]; simp)]
      rw [if_pos he, dif_pos (by rw [hp0]; exact ⟨by simp, fun _ => by simpa using he⟩), hp0]
      simp
    · rw [if_neg he]
      by_cases hb : before c.key x.key = true
      · have hp0 : placeF (x :: l) c.key = 0 := by rw [hpc, if_neg (by rw [before_asymm hb]; simp)]
        rw [if_pos hb, dif_neg (by rw [hp0]; rintro ⟨_, hx⟩; exact he (hx (by simp))), hp0]
        simp
      · rw [if_neg hb]
        have hbx : before x.key c.key = true := by
          cases hx : before x.key c.key with
          | true => rfl
          | false => exact absurd (before_total hx (by simpa using hb)) he
        have hp1 : placeF (x :: l) c.key = placeF l c.key + 1 := by rw [hpc, if_pos hbx]
        rw [putF_place h2]
        by_cases hcond : placeF l c.key < l.length ∧ (∀ h : placeF l c.key < l.length, l[placeF l c.key].key = c.key)
        · rw [dif_pos hcond, dif_pos (by rw [hp1]; exact ⟨by simpa using hcond.1, fun _ => by simpa using hcond.2 hcond.1⟩), hp1]
          split <;> simp
        · rw [dif_neg hcond, dif_neg (by
            rw [hp1]
            rintro ⟨k1, k2⟩
            exact hcond ⟨by simpa using k1, fun _ => by simpa using k2 k1⟩), hp1]
          split <;> simp
end Go.Den
end
section
set_option linter.unusedVariables false
set_option linter.unusedSimpArgs false
set_option maxRecDepth 8000
namespace Go.Den
theorem str_beq (a b : ByteArray) : (a.toList == b.toList) = (a.data.toList == b.data.toList) := by
  rw [ByteArray.toList_eq, ByteArray.toList_eq]
theorem path_may_spec (c : UInt8) (w : World) : CallsR prog K.path_may #[bv c] w fun v w' => v = .bool (mayByte c) ∧ w' = w := by
  apply path_may.sh
  unfold path_may.body
  have fin : ∀ {b : Bool}, mayByte c = b → (fun v w' => v = Value.bool (mayByte c) ∧ w' = w) (Value.bool b) w := fun h => ⟨by rw [h], rfl⟩
  have e : ∀ {b : Bool}, (mayByte c = true ↔ b = true) → mayByte c = b := fun h => by rw [Bool.eq_iff_iff]; exact h
  have hm : mayByte c = true ↔ (97 ≤ c.toNat ∧ c.toNat ≤ 122) ∨ (48 ≤ c.toNat ∧ c.toNat ≤ 57) ∨ c.toNat = 46 ∨ c.toNat = 45 := by
    unfold mayByte
    simp only [Bool.or_eq_true, Bool.and_eq_true, decide_eq_true_eq]
    constructor
    · rintro (((h | h) | h) | h)
      · exact .inl h
      · exact .inr (.inl h)
      · exact .inr (.inr (.inl h))
      · exact .inr (.inr (.inr h))
    · rintro (h | h | h | h)
      · exact .inl (.inl (.inl h))
      · exact .inl (.inl (.inr h))
      · exact .inl (.inr h)
      · exact .inr h
  have yes : (97 ≤ c.toNat ∧ c.toNat ≤ 122) ∨ (48 ≤ c.toNat ∧ c.toNat ≤ 57) ∨ c.toNat = 46 ∨ c.toNat = 45 → (fun v w' => v = Value.bool (mayByte c) ∧ w' = w) (Value.bool true) w := fun h => fin (hm.2 h)
  have no : ¬ ((97 ≤ c.toNat ∧ c.toNat ≤ 122) ∨ (48 ≤ c.toNat ∧ c.toNat ≤ 57) ∨ c.toNat = 46 ∨ c.toNat = 45) → (fun v w' => v = Value.bool (mayByte c) ∧ w' = w) (Value.bool false) w := fun h => fin (by
    cases hb : mayByte c with
    | false => rfl
    | true => exact absurd (hm.1 hb) h)
  have dots : ¬ (97 ≤ c.toNat ∧ c.toNat ≤ 122) → ¬ (48 ≤ c.toNat ∧ c.toNat ≤ 57) → br ((c.toNat : Int) == 46) (br ((c.toNat : Int) == 46) ((fun v w' => v = Value.bool (mayByte c) ∧ w' = w) (Value.bool true) w) ((fun v w' => v = Value.bool (mayByte c) ∧ w' = w) (Value.bool false) w))
      (br ((c.toNat : Int) == 45) ((fun v w' => v = Value.bool (mayByte c) ∧ w' = w) (Value.bool true) w) ((fun v w' => v = Value.bool (mayByte c) ∧ w' = w) (Value.bool false) w)) := fun h1 h2 =>
    br_eq (fun h => br_eq (fun _ => yes (by omega)) fun h' => absurd h h') fun h => br_eq (fun h' => yes (by omega)) fun h' => no (by omega)
  refine br_dec (fun h1 => br_dec (fun h2 => br_dec (fun _ => yes (by omega)) fun h => absurd h2 h) fun h2 => br_dec (fun h3 => br_dec (fun h4 => by omega) fun h4 => dots (by omega) (by omega)) fun h3 => by omega) fun h1 => ?_
  exact br_dec (fun h3 => br_dec (fun h4 => br_dec (fun _ => yes (by omega)) fun h => absurd h4 h) fun h4 => dots (by omega) (by omega)) fun h3 => dots (by omega) (by omega)
theorem all_take_succ {α : Type} {l : List α} {i : Nat} (hi : i < l.length) (p : α → Bool) : (l.take (i + 1)).all p = ((l.take i).all p && p l[i]) := by
  rw [List.take_succ_eq_append_getElem hi, List.all_append]
  simp
theorem size_data (s : ByteArray) : s.size = s.data.toList.length := by rw [Array.length_toList]; rfl
/-- what the end of Name comes to -/
theorem name_tail {s : ByteArray} (hall : s.data.toList.all mayByte = true) {w w' : World} {R : Value → World → Prop} (hR : R (.bool (isName s.data.toList)) w') {p : Prop} [Decidable p] (hp : p ↔ 1 ≤ s.data.toList.length) :
    br (decide p) (br (decide (((s.size : Nat) : Int) ≤ 12)) (br (!(s.toList == (⟨#[46]⟩ : ByteArray).toList)) (R (Value.bool (!(s.toList == (⟨#[46, 46]⟩ : ByteArray).toList))) w') (R (Value.bool false) w')) (R (Value.bool false) w')) (R (Value.bool false) w') := by
  have hn : isName s.data.toList = (decide (1 ≤ s.data.toList.length) && decide (s.data.toList.length ≤ 12) && !(s.data.toList == [46]) && !(s.data.toList == [46, 46])) := by
    unfold isName
    rw [hall]; rfl
  rw [hn] at hR
  have hsz := size_data s
  rw [str_beq, str_beq]
  refine br_dec (fun h1 => br_dec (fun h2 => br_intro (fun h3 => ?_) fun h3 => ?_) fun h2 => ?_) fun h1 => ?_
  · have h3' : (!(s.data.toList == [46])) = true := h3
    rw [decide_eq_true (hp.1 h1), decide_eq_true (by omega : s.data.toList.length ≤ 12), h3'] at hR
    exact hR
  · have h3' : (!(s.data.toList == [46])) = false := h3
    rw [h3'] at hR
    simpa using hR
  · rw [decide_eq_false (p := s.data.toList.length ≤ 12) (by omega)] at hR
    simpa using hR
  · rw [decide_eq_false (p := 1 ≤ s.data.toList.length) (fun h => h1 (hp.2 h))] at hR
    simpa using hR
theorem isName_false {s : List UInt8} (h : s.all mayByte = false) : isName s = false := by
  unfold isName
  rw [h]; rfl
theorem all_false {l : List UInt8} {i : Nat} (hi : i < l.length) (h : mayByte l[i] = false) : l.all mayByte = false := by
  rw [List.all_eq_false]
  exact ⟨l[i], List.getElem_mem hi, by rw [h]; simp⟩
theorem path_Name_spec (s : ByteArray) (hs : s.size < 9223372036854775807) (w : World) : CallsR prog K.path_Name #[.string s] w fun v w' => v = .bool (isName s.data.toList) ∧ w' = w := by
  apply path_Name.sh
  unfold path_Name.body
  have hsz := size_data s
  refine ⟨fun x u => ∃ i : Nat, x = i ∧ i ≤ s.data.toList.length ∧ u = w ∧ (s.data.toList.take i).all mayByte = true, fun x _ => (s.data.toList.length - x).toNat, ⟨0, rfl, by omega, rfl, by simp⟩, ?_⟩
  rintro x u ⟨i, rfl, hi, rfl, ha⟩
  refine br_dec (fun hlt => ⟨by omega, ?_⟩) fun hge => ?_
  · have hi' : i < s.data.toList.length := by omega
    refine ⟨s.data.toList[i], by simp [hi'], ?_⟩
    refine (path_may_spec _ _).mono ?_
    rintro _ _ ⟨rfl, rfl⟩
    refine ⟨_, rfl, br_intro (fun hb => ⟨?_, rfl⟩) fun hb => ?_⟩
    · rw [isName_false (all_false hi' (by simpa using hb))]
    · have e1 : IntKind.i64.wrap ((i : Int) + 1) = ((i + 1 : Nat) : Int) := w64 (by omega) (by omega)
      rw [e1]
      exact ⟨⟨i + 1, rfl, hi', rfl, by rw [all_take_succ hi', ha]; simpa using hb⟩, meas hi'⟩
  · have : i = s.data.toList.length := by omega
    subst this
    rw [List.take_length] at ha
    exact name_tail (w := u) ha (R := fun v w' => v = .bool (isName s.data.toList) ∧ w' = u) ⟨rfl, rfl⟩ (by omega)
theorem Key.may_ino {k : Key} (h : ¬ (1 ≤ k.ino ∧ k.ino ≤ 65535)) : k.may = false := by
  unfold Key.may
  by_cases h1 : 1 ≤ k.ino
  · rw [decide_eq_false (p := k.ino ≤ 65535) (fun h2 => h ⟨h1, h2⟩)]; simp
  · rw [decide_eq_false h1]; simp
theorem Key.may_in {k : Key} (h : 1 ≤ k.ino ∧ k.ino ≤ 65535) : k.may = ((decide (k.what.toNat = 1) && decide (k.bytes = []) && decide (k.chunk = 0)) || (decide (k.what.toNat = 2) && isName k.bytes && decide (k.chunk = 0)) || (decide (k.what.toNat = 3) && decide (k.bytes = []) && decide (0 ≤ k.chunk) && decide (k.chunk < 8))) := by
  unfold Key.may
  rw [decide_eq_true h.1, decide_eq_true h.2]; rfl
theorem empty_beq (k : Key) : (k.name.toList == (⟨#[]⟩ : ByteArray).toList) = decide (k.bytes = []) := by
  rw [str_beq, Bool.eq_iff_iff]
  unfold Key.bytes
  simp
theorem fact_MayKey_spec (k : Key) (hn : k.name.size < 9223372036854775807) (w : World) : CallsR prog K.fact_MayKey #[keyV k] w fun v w' => v = .bool k.may ∧ Ext w w' := by
  apply fact_MayKey.sh
  unfold fact_MayKey.body
  simp only [add_lit, Nat.zero_add]
  intro B1 w1 hn1
  have g := hn1.get
  have hE := hn1.upd
  refine ⟨_, cell_of g rfl, br_dec (fun h => ⟨by rw [Key.may_ino (by omega)], hE⟩) fun h1 => ⟨_, cell_of g rfl, br_dec (fun h => ⟨by rw [Key.may_ino (by omega)], hE⟩) fun h2 => ?_⟩⟩
  rw [Key.may_in ⟨by omega, by omega⟩]
  refine ⟨_, cell_of g rfl, br_eq (fun hw => ?_) fun hw1 => br_eq (fun hw => ?_) fun hw2 => br_eq (fun hw => ?_) fun hw3 => ?_⟩
  · refine ⟨_, _, _, _, cellsAt_of (o := 0) g (fun j v hj => by simpa using hj), _, cell_of g rfl, _, cell_of g rfl, ?_, hE⟩
    have e1 : k.what.toNat = 1 := by omega
    rw [e1, empty_beq]
    simp only [beq_self_eq_true, Bool.true_and, Bool.and_true]
    congr 1
    rw [Bool.eq_iff_iff]
    simp
  · refine ⟨_, cell_of g rfl, ?_⟩
    refine (path_Name_spec k.name hn w1).mono ?_
    rintro _ _ ⟨rfl, rfl⟩
    rename_i w1
    have e2 : k.what.toNat = 2 := by omega
    rw [e2]
    have hb : isName k.bytes = isName k.name.data.toList := rfl
    rw [hb]
    refine ⟨_, rfl, br_intro (fun h => ⟨_, cell_of g rfl, ?_, hE⟩) fun h => ⟨?_, hE⟩⟩
    · rw [h]
      congr 1
      rw [Bool.eq_iff_iff]
      simp
    · rw [h]; simp
  · have e3 : k.what.toNat = 3 := by omega
    rw [e3]
    refine ⟨_, cell_of g rfl, ?_⟩
    rw [empty_beq]
    refine br_dec (fun h => ⟨_, cell_of g rfl, br_dec (fun h' => ⟨_, cell_of g rfl, ?_, hE⟩) fun h' => ⟨?_, hE⟩⟩) fun h => ⟨?_, hE⟩
    · rw [decide_eq_true h, decide_eq_true (by omega : 0 ≤ k.chunk)]; simp
    · rw [decide_eq_false (p := 0 ≤ k.chunk) (by omega)]; simp
    · rw [decide_eq_false h]; simp
  · refine ⟨?_, hE⟩
    rw [decide_eq_false (p := k.what.toNat = 1) (by omega), decide_eq_false (p := k.what.toNat = 2) (by omega), decide_eq_false (p := k.what.toNat = 3) (by omega)]
    simp
end Go.Den
end
section
set_option linter.unusedVariables false
set_option linter.unusedSimpArgs false
set_option maxRecDepth 8000
namespace Go.Den
def finKey (k : Key) (s : St) : Key × Nat × St := if k.may then (k, 0, s) else (Key.zero, 5, s)
def keyS (s : St) : Key × Nat × St :=
  let a := takeS 2 s
  let b := takeS 1 a.2.2
  if b.2.1 ≠ 0 then (Key.zero, 4, none)
  else if b.1 = 2 then
    let c := rowS b.2.2
    if c.2.1 ≠ 0 then (Key.zero, 4, none) else finKey ⟨a.1, UInt8.ofNat b.1, ⟨c.1.toArray⟩, 0⟩ c.2.2
  else if b.1 = 3 then
    let c := takeS 1 b.2.2
    if c.2.1 ≠ 0 then (Key.zero, 4, none) else finKey ⟨a.1, UInt8.ofNat b.1, ByteArray.empty, c.1⟩ c.2.2
  else finKey ⟨a.1, UInt8.ofNat b.1, ByteArray.empty, 0⟩ b.2.2
/-- a string out of bytes -/
theorem str_of {w : World} {a : Option Addr} {l : List UInt8} (h : BytesAt w a l) {K : ByteArray → Prop} (hk : K ⟨l.toArray⟩) : strOfP w a l.length K := by
  cases a with
  | none =>
    cases l with
    | nil => exact hk
    | cons x l =>
      obtain ⟨b, o, e, _⟩ := RowAt.blk h (by simp)
      cases e
  | some q =>
    refine ⟨l, rfl, ?_, hk⟩
    cases l with
    | nil => trivial
    | cons x l =>
      obtain ⟨b, o, e, _⟩ := RowAt.blk h (by simp)
      cases e
      exact h.cells
theorem wu8n {x : Nat} (h : x < 256) : Value.int .u8 (IntKind.u8.wrap (x : Int)) = bv (UInt8.ofNat x) := by rw [bv_mod, Nat.mod_eq_of_lt h]
abbrev KeyAt (u : World) (B : Nat) (k : Key) : Prop := u.heap[B]? = some (.cells k.vals.toArray T.api_Key (0, 0))
theorem key_put {w : World} {B : Nat} {cs : Array Value} {k : Key} {K : World → Prop} (hc : w.heap[B]? = some (.cells cs T.api_Key (0, 0))) (hs : cs.size = 4) (hk : ∀ w', Upd (· = B) w w' → w'.heap.size = w.heap.size → KeyAt w' B k → K w') :
    storeP w ⟨B, 0, none⟩ [.int .i64 k.ino, bv k.what, .string k.name, .int .i64 k.chunk] K := put_all hc (by rw [hs]; rfl) hk
theorem key_cells {w : World} {B : Nat} {k : Key} (hc : KeyAt w B k) : cellsAt w ⟨B, 0, none⟩ [.int .i64 k.ino, bv k.what, .string k.name, .int .i64 k.chunk] 0 := cells_all hc
theorem key_name {w : World} {B : Nat} {k : Key} {n : ByteArray} {K : World → Prop} (hc : KeyAt w B k) (hk : ∀ w', Upd (· = B) w w' → KeyAt w' B { k with name := n } → K w') : storeP w ⟨B, 2, none⟩ [.string n] K :=
  store_of hc (by simp [Key.vals]) fun w' hp => hk w' hp.upd1 hp.get
theorem key_chunk {w : World} {B : Nat} {k : Key} {n : Int} {K : World → Prop} (hc : KeyAt w B k) (hk : ∀ w', Upd (· = B) w w' → KeyAt w' B { k with chunk := n } → K w') : storeP w ⟨B, 3, none⟩ [.int .i64 n] K :=
  store_of hc (by simp [Key.vals]) fun w' hp => hk w' hp.upd1 hp.get
theorem key_out {u : World} {B : Nat} {k k0 : Key} {e : Int} {R : Value → World → Prop} (g : KeyAt u B k0) (hR : ∀ u', Upd (· = B) u u' → R (.tuple #[keyV k, .int .i64 e]) u') :
    storeP u ⟨B, 0, none⟩ [.int .i64 k.ino, bv k.what, .string k.name, .int .i64 k.chunk] fun w' => ∃ x y : Int, ∃ n : ByteArray, ∃ z : Int, cellsAt w' ⟨B, 0, none⟩ [.int .i64 x, .int .u8 y, .string n, .int .i64 z] 0 ∧ R (.tuple #[.agg #[.int .i64 x, .int .u8 y, .string n, .int .i64 z], .int .i64 e]) w' :=
  key_put g rfl fun w' hu _ hg => ⟨_, _, _, _, key_cells hg, hR w' hu⟩
theorem key_fin {f : FuncId} {u : World} {B1 B2 : Nat} {k k0 : Key} {R : Value → World → Prop} (hB : B1 ≠ B2) (g1 : KeyAt u B1 k0) (g2 : KeyAt u B2 k) (hm : CallsR prog f #[keyV k] u fun v w' => v = .bool k.may ∧ Ext u w')
    (hR : ∀ u', Upd (· = B1) u u' → R (.tuple #[keyV (if k.may then k else Key.zero), .int .i64 (if k.may then 0 else 5)]) u') :
    ∃ x y : Int, ∃ n : ByteArray, ∃ z : Int, cellsAt u ⟨B2, 0, none⟩ [.int .i64 x, .int .u8 y, .string n, .int .i64 z] 0 ∧ CallsR prog f #[.agg #[.int .i64 x, .int .u8 y, .string n, .int .i64 z]] u fun v w' => ∃ b : Bool, v = .bool b ∧ br (!b)
      (storeP w' ⟨B1, 0, none⟩ [.int .i64 Key.zero.ino, bv Key.zero.what, .string Key.zero.name, .int .i64 Key.zero.chunk] fun w' => ∃ x y : Int, ∃ n : ByteArray, ∃ z : Int, cellsAt w' ⟨B1, 0, none⟩ [.int .i64 x, .int .u8 y, .string n, .int .i64 z] 0 ∧ R (.tuple #[.agg #[.int .i64 x, .int .u8 y, .string n, .int .i64 z], .int .i64 5]) w')
      (∃ x y : Int, ∃ n : ByteArray, ∃ z : Int, cellsAt w' ⟨B2, 0, none⟩ [.int .i64 x, .int .u8 y, .string n, .int .i64 z] 0 ∧ storeP w' ⟨B1, 0, none⟩ [.int .i64 x, .int .u8 y, .string n, .int .i64 z] fun w' => ∃ x y : Int, ∃ n : ByteArray, ∃ z : Int, cellsAt w' ⟨B1, 0, none⟩ [.int .i64 x, .int .u8 y, .string n, .int .i64 z] 0 ∧ R (.tuple #[.agg #[.int .i64 x, .int .u8 y, .string n, .int .i64 z], .int .i64 0]) w') := by
  refine ⟨_, _, _, _, key_cells g2, hm.mono ?_⟩
  rintro _ w' ⟨rfl, he⟩
  refine ⟨_, rfl, br_intro (fun hb => ?_) fun hb => ?_⟩
  · have hb' : k.may = false := by simpa using hb
    rw [hb'] at hR
    exact key_out (Ext.get he g1) fun u' hu => hR u' ((Upd.ext he).trans hu)
  · have hb' : k.may = true := by simpa using hb
    rw [hb'] at hR
    exact ⟨_, _, _, _, key_cells (Ext.get he g2), key_out (Ext.get he g1) fun u' hu => hR u' ((Upd.ext he).trans hu)⟩
theorem empty_small : ByteArray.empty.size < 9223372036854775807 := by decide
theorem finKey_is (k : Key) (s : St) : finKey k s = (if k.may then k else Key.zero, if k.may then 0 else 5, s) := by unfold finKey; split <;> rfl
theorem finErr (b : Bool) : (((if b = true then 0 else 5 : Nat) : Nat) : Int) = if b = true then 0 else 5 := by cases b <;> rfl
theorem fact_GetKey_spec {G : Nat → Prop} {w : World} {r : Nat} {s : St} (hG : ¬ G r) (hGs : ∀ x, G x → x < w.heap.size) (hrs : r < w.heap.size) (h : RdIn G w r s) :
    CallsR prog K.fact_GetKey #[.pointer (some ⟨r, 0, none⟩)] w fun v w' => v = .tuple #[keyV (keyS s).1, .int .i64 ((keyS s).2.1 : Nat)] ∧ Upd (· = r) w w' ∧ RdIn G w' r (keyS s).2.2 := by
  apply fact_GetKey.sh
  suffices H : ∀ R : Value → World → Prop, (∀ v w', v = .tuple #[keyV (keyS s).1, .int .i64 ((keyS s).2.1 : Nat)] ∧ Upd (· = r) w w' ∧ RdIn G w' r (keyS s).2.2 → R v w') → fact_GetKey.body (some ⟨r, 0, none⟩) w R from H _ fun _ _ h => h
  intro R hR
  unfold fact_GetKey.body
  simp only [add_lit, Nat.zero_add]
  intro B1 w₁ hn1
  have hb1 : B1 = w.heap.size := hn1.num
  have g1 : KeyAt w₁ B1 Key.zero := hn1.get
  have done : ∀ {u u' : World} {B : Nat} {s' : St}, Upd (· = r) w u → RdIn G u r s' → B1 ≤ B → Upd (· = B) u u' → Upd (· = r) w u' ∧ RdIn G u' r s' := fun {u u' B s'} h1 h2 hB h3 =>
    ⟨Upd.mono (F := fun x => x = r ∨ x = B) ((h1.mono fun _ _ h => .inl h).trans (h3.mono fun _ _ h => .inr h)) fun x hx hor => by
      rcases hor with h | h
      · exact h
      · omega,
     h2.upd h3 (by omega) fun x hx e => by have := hGs x hx; omega⟩
  refine (rdTake (k := 2) (by decide) hG (h.ext hn1.upd)).mono ?_
  rintro _ w₂ ⟨hu2, rfl, hr2⟩
  have u2 : Upd (· = r) w w₂ := (Upd.ext hn1.upd).trans hu2
  have g2 : KeyAt w₂ B1 Key.zero := hu2.get g1 (by omega)
  have hs2 : B1 < w₂.heap.size := (Array.getElem?_eq_some_iff.1 g2).1
  have a2 := takeS_lt 2 s
  have h256 : (256 : Nat) ^ 2 = 65536 := by decide
  refine ⟨_, _, rfl, br_eq (fun he => ?_) fun _ => ?_⟩
  · exfalso
    rcases takeS_cases 2 s with e | ⟨l, _, _, e⟩
    · rw [e] at he; exact absurd he (by decide)
    · rw [e] at he; simp at he
  refine (rdTake (k := 1) (by decide) hG hr2).mono ?_
  rintro _ w₄ ⟨hu4, rfl, hr4⟩
  have u4 := u2.trans hu4
  have g4 : KeyAt w₄ B1 Key.zero := hu4.get g2 (by omega)
  have hs4 := hu4.size
  have a4 := takeS_lt 1 (takeS 2 s).2.2
  have hk : keyS s = keyS s := rfl
  generalize ha : takeS 2 s = A at *
  generalize hb : takeS 1 A.2.2 = B at *
  have hkey : keyS s = if B.2.1 ≠ 0 then (Key.zero, 4, none)
      else if B.1 = 2 then (if (rowS B.2.2).2.1 ≠ 0 then (Key.zero, 4, none) else finKey ⟨A.1, UInt8.ofNat B.1, ⟨(rowS B.2.2).1.toArray⟩, 0⟩ (rowS B.2.2).2.2)
      else if B.1 = 3 then (if (takeS 1 B.2.2).2.1 ≠ 0 then (Key.zero, 4, none) else finKey ⟨A.1, UInt8.ofNat B.1, ByteArray.empty, (takeS 1 B.2.2).1⟩ (takeS 1 B.2.2).2.2)
      else finKey ⟨A.1, UInt8.ofNat B.1, ByteArray.empty, 0⟩ B.2.2 := by
    unfold keyS
    simp only [ha, hb]
  refine ⟨_, _, rfl, ?_⟩
  rw [wu8n (by omega), w64n (by omega)]
  refine new_put (vs := Key.vals ⟨A.1, UInt8.ofNat B.1, ByteArray.empty, 0⟩) rfl fun B2 w₆ hb2 hs6 he6 g6 => ?_
  have u6 := u4.then he6
  have r6 := hr4.ext he6
  have g16 : KeyAt w₆ B1 Key.zero := Ext.get he6 g4
  refine br_ne (fun hne => ?_) fun he => ?_
  · refine br_ne (fun _ => ?_) fun h => absurd h hne
    have hB : B = (0, 4, none) := by rw [← hb]; exact takeS_err (by rw [hb]; omega)
    rw [if_pos (by omega)] at hkey; rw [hkey] at hR
    rw [hB] at r6 ⊢
    exact key_out (k := Key.zero) g16 fun u' hu => hR _ _ ⟨rfl, done u6 r6 (Nat.le_refl _) hu⟩
  · rw [if_neg (by omega)] at hkey
    refine br_eq (fun h2 => ?_) fun h2 => ?_
    · rw [if_pos (by omega)] at hkey
      refine (rdRow hG r6).mono ?_
      rintro _ w₁₁ ⟨hu11, ⟨a, c, rfl, hby, hc, hf⟩, hr11⟩
      have u11 := u6.trans hu11
      have hs11 := hu11.size
      have g11 : KeyAt w₁₁ B1 Key.zero := hu11.get g16 (by omega)
      have g12 : KeyAt w₁₁ B2 ⟨A.1, UInt8.ofNat B.1, ByteArray.empty, 0⟩ := hu11.get g6 (by omega)
      refine ⟨_, _, _, _, rfl, str_of hby (key_name g12 fun w₁₂ hu12 g22 => ?_)⟩
      have g21 : KeyAt w₁₂ B1 Key.zero := hu12.get g11 (by omega)
      obtain ⟨u12, r12⟩ := done u11 hr11 (by omega) hu12
      have hlen := rowS_len B.2.2
      refine br_ne (fun hne => ?_) fun he3 => ?_
      · have hrow : rowS B.2.2 = ([], 4, none) := rowS_err (by omega)
        rw [if_pos (by omega)] at hkey; rw [hkey] at hR
        rw [hrow] at r12 ⊢
        exact key_out (k := Key.zero) g21 fun u' hu => hR _ _ ⟨rfl, done u12 r12 (Nat.le_refl _) hu⟩
      · rw [if_neg (by omega), finKey_is] at hkey; rw [hkey] at hR; simp only [finErr] at hR
        exact key_fin (by omega) g21 g22 (fact_MayKey_spec _ (by simp [ByteArray.size]; omega) _) fun u' hu => hR _ _ ⟨rfl, done u12 r12 (Nat.le_refl _) hu⟩
    · rw [if_neg (by omega)] at hkey
      refine br_eq (fun h3 => ?_) fun h3 => ?_
      · rw [if_pos (by omega)] at hkey
        refine (rdTake (k := 1) (by decide) hG r6).mono ?_
        rintro _ w₁₁ ⟨hu11, rfl, hr11⟩
        have a11 := takeS_lt 1 B.2.2
        have u11 := u6.trans hu11
        have hs11 := hu11.size
        have g11 : KeyAt w₁₁ B1 Key.zero := hu11.get g16 (by omega)
        have g12 : KeyAt w₁₁ B2 ⟨A.1, UInt8.ofNat B.1, ByteArray.empty, 0⟩ := hu11.get g6 (by omega)
        refine ⟨_, _, rfl, ?_⟩
        rw [w64n (by omega)]
        refine key_chunk g12 fun w₁₂ hu12 g22 => ?_
        have g21 : KeyAt w₁₂ B1 Key.zero := hu12.get g11 (by omega)
        obtain ⟨u12, r12⟩ := done u11 hr11 (by omega) hu12
        refine br_ne (fun hne => ?_) fun he3 => ?_
        · have hrow : takeS 1 B.2.2 = (0, 4, none) := takeS_err (by omega)
          rw [if_pos (by omega)] at hkey; rw [hkey] at hR
          rw [hrow] at r12 ⊢
          exact key_out (k := Key.zero) g21 fun u' hu => hR _ _ ⟨rfl, done u12 r12 (Nat.le_refl _) hu⟩
        · rw [if_neg (by omega), finKey_is] at hkey; rw [hkey] at hR; simp only [finErr] at hR
          exact key_fin (by omega) g21 g22 (fact_MayKey_spec _ empty_small _) fun u' hu => hR _ _ ⟨rfl, done u12 r12 (Nat.le_refl _) hu⟩
      · rw [if_neg (by omega)] at hkey
        refine br_ne (fun hne => absurd he hne) fun _ => ?_
        rw [finKey_is] at hkey; rw [hkey] at hR; simp only [finErr] at hR
        exact key_fin (by omega) g16 g6 (fact_MayKey_spec _ empty_small _) fun u' hu => hR _ _ ⟨rfl, done u6 r6 (Nat.le_refl _) hu⟩
end Go.Den
end
section
set_option linter.unusedVariables false
set_option linter.unusedSimpArgs false
set_option maxRecDepth 8000
namespace Go.Den
theorem row_cell {w : World} {b o : Nat} {vs : List Value} (h : RowAt w (some ⟨b, o, none⟩) vs) {j : Nat} {v : Value} (hj : vs[j]? = some v) : w.cell? ⟨b, o + j, none⟩ = some v := by
  obtain ⟨b', o', e, hc⟩ := h.cell hj
  cases e
  exact hc
theorem Key.oneCell (k : Key) : ∀ v ∈ k.vals, v.oneCell' = true := by
  intro v hv
  simp only [Key.vals, List.mem_cons, List.not_mem_nil, or_false] at hv
  rcases hv with rfl | rfl | rfl | rfl <;> rfl
def keyR : ERep Key := flatR Key.vals 4 (by decide) (fun _ => rfl) Key.oneCell
def boolR : ERep Bool := flatR (fun b => [.bool b]) 1 (by decide) (fun _ => rfl) (fun b v hv => by simp at hv; rw [hv]; rfl)
def intR : ERep Int := flatR (fun x => [.int .i64 x]) 1 (by decide) (fun _ => rfl) (fun b v hv => by simp at hv; rw [hv]; rfl)
def changeR : ERep Change := ERep.pair keyR (ERep.pair bytesR boolR (fun x : List UInt8 × Bool => x.1) (fun x => x.2)) (fun x : Change => x.key) (fun x => (x.val, x.gone))
abbrev changeVs (k : Key) (a : Option Addr) (n c : Nat) (b : Bool) : List Value := [.int .i64 k.ino, bv k.what, .string k.name, .int .i64 k.chunk, .slice a n c, .bool b]
theorem changeR_intro {w : World} {G : Nat → Prop} {x : Change} {a : Option Addr} {c : Nat} (hc : x.val.length ≤ c) (hb : BytesAt w a x.val) (hg : x.val ≠ [] → ∀ p, a = some p → G p.block) :
    changeR.R w G (changeVs x.key a x.val.length c x.gone) x := ⟨x.key.vals, [.slice a x.val.length c, .bool x.gone], rfl, rfl, [.slice a x.val.length c], [.bool x.gone], rfl, ⟨a, c, rfl, hc, hb, hg⟩, rfl⟩
theorem changeR_elim {w : World} {G : Nat → Prop} {x : Change} {vs : List Value} (h : changeR.R w G vs x) :
    ∃ a c, vs = changeVs x.key a x.val.length c x.gone ∧ x.val.length ≤ c ∧ BytesAt w a x.val ∧ (x.val ≠ [] → ∀ p, a = some p → G p.block) := by
  obtain ⟨u, v, rfl, hu, s, t, rfl, ⟨a, c, hs, hc, hb, hg⟩, ht⟩ := h
  have hu' : u = x.key.vals := hu
  have ht' : t = [.bool x.gone] := ht
  subst hu'; subst ht'
  have hs' : s = [.slice a x.val.length c] := hs
  subst hs'
  exact ⟨a, c, rfl, hc, hb, hg⟩
def Change.zero : Change := ⟨Key.zero, [], false⟩
def oneS (s : St) : Change × Nat × St :=
  let a := takeS 1 s
  if a.2.1 ≠ 0 then (Change.zero, 4, none)
  else if 1 < a.1 then (Change.zero, 5, a.2.2)
  else
    let k := keyS a.2.2
    if k.2.1 ≠ 0 then (Change.zero, k.2.1, k.2.2)
    else if a.1 = 0 then (⟨k.1, [], true⟩, 0, k.2.2)
    else
      let v := rowS k.2.2
      if v.2.1 ≠ 0 then (Change.zero, 4, none) else if v.1.length = 0 then (Change.zero, 5, v.2.2) else (⟨k.1, v.1, false⟩, 0, v.2.2)
def goS : Nat → St → List Change → List Change × Nat
  | 0, s, acc => if 0 < leftS s then ([], 5) else (acc, 0)
  | n + 1, s, acc => if (oneS s).2.1 ≠ 0 then ([], (oneS s).2.1) else goS n (oneS s).2.2 (acc ++ [(oneS s).1])
def getS (b : List UInt8) : List Change × Nat :=
  if (takeS 1 (some b)).2.1 ≠ 0 then ([], 4) else if (takeS 1 (some b)).1 = 0 then ([], 5) else goS (takeS 1 (some b)).1 (takeS 1 (some b)).2.2 []
def dropS (b : List UInt8) : Nat × Nat := if b.length ≠ 8 then (0, 5) else if fromLE b = 0 then (0, 5) else (fromLE b, 0)
theorem chg_out {u : World} {B : Nat} {cs : Array Value} {k : Key} {a : Option Addr} {n c : Nat} {b : Bool} {e : Int} {R : Value → World → Prop} (g : u.heap[B]? = some (.cells cs T.api_Change (0, 0))) (hcs : cs.size = 6)
    (hR : ∀ u', Upd (· = B) u u' → R (.tuple #[.agg #[.int .i64 k.ino, bv k.what, .string k.name, .int .i64 k.chunk, .slice a n c, .bool b], .int .i64 e]) u') :
    storeP u ⟨B, 0, none⟩ (changeVs k a n c b) fun w' => ∃ x y : Int, ∃ m : ByteArray, ∃ z : Int, ∃ (a' : Option Addr) (n' c' : Nat), ∃ b' : Bool, cellsAt w' ⟨B, 0, none⟩ [.int .i64 x, .int .u8 y, .string m, .int .i64 z, .slice a' n' c', .bool b'] 0 ∧ R (.tuple #[.agg #[.int .i64 x, .int .u8 y, .string m, .int .i64 z, .slice a' n' c', .bool b'], .int .i64 e]) w' :=
  put_all g (by rw [hcs]; rfl) fun w' hu _ hg => ⟨_, _, _, _, _, _, _, _, cells_all hg, hR w' hu⟩
theorem rec_reader_one_spec {G : Nat → Prop} {w : World} {r : Nat} {s : St} (hG : ¬ G r) (hGs : ∀ x, G x → x < w.heap.size) (hrs : r < w.heap.size) (h : RdIn G w r s) :
    CallsR prog K.rec_reader_one #[.agg #[.pointer (some ⟨r, 0, none⟩)]] w fun v w' => Upd (· = r) w w' ∧ RdIn G w' r (oneS s).2.2 ∧ ∃ k a n c b, v = .tuple #[.agg #[.int .i64 k.ino, bv k.what, .string k.name, .int .i64 k.chunk, .slice a n c, .bool b], .int .i64 ((oneS s).2.1 : Nat)] ∧
      ((oneS s).2.1 = 0 → k = (oneS s).1.key ∧ b = (oneS s).1.gone ∧ n = (oneS s).1.val.length ∧ n ≤ c ∧ BytesAt w' a (oneS s).1.val ∧ ∀ p, a = some p → w.heap.size ≤ p.block ∧ p.block < w'.heap.size) := by
  apply rec_reader_one.sh
  suffices H : ∀ R : Value → World → Prop, (∀ v w', (Upd (· = r) w w' ∧ RdIn G w' r (oneS s).2.2 ∧ ∃ k a n c b, v = .tuple #[.agg #[.int .i64 k.ino, bv k.what, .string k.name, .int .i64 k.chunk, .slice a n c, .bool b], .int .i64 ((oneS s).2.1 : Nat)] ∧
      ((oneS s).2.1 = 0 → k = (oneS s).1.key ∧ b = (oneS s).1.gone ∧ n = (oneS s).1.val.length ∧ n ≤ c ∧ BytesAt w' a (oneS s).1.val ∧ ∀ p, a = some p → w.heap.size ≤ p.block ∧ p.block < w'.heap.size)) → R v w') → rec_reader_one.body (some ⟨r, 0, none⟩) w R from H _ fun _ _ h => h
  intro R hR
  unfold rec_reader_one.body
  intro B1 w₁ hn1 B2 w₂ hn2
  have hb1 : B1 = w.heap.size := hn1.num
  have hb2 : B2 = w₁.heap.size := hn2.num
  have hs1 := hn1.size
  have hs2 := hn2.size
  have e2 : Ext w w₂ := hn1.upd.trans hn2.upd
  have done : ∀ {u u' : World} {s' : St}, Upd (· = r) w u → RdIn G u r s' → Upd (· = B2) u u' → Upd (· = r) w u' ∧ RdIn G u' r s' := fun {u u' s'} h1 h2 h3 =>
    ⟨Upd.mono (F := fun x => x = r ∨ x = B2) ((h1.mono fun _ _ h => .inl h).trans (h3.mono fun _ _ h => .inr h)) fun x hx hor => by
      rcases hor with h | h
      · exact h
      · omega,
     h2.upd h3 (by omega) fun x hx e => by have := hGs x hx; omega⟩
  have g11 : w₂.heap[B1]? = some (.cells #[.pointer (some ⟨r, 0, none⟩)] T.rec_reader (0, 0)) := Ext.get hn2.upd hn1.get
  have g12 := hn2.get
  refine ⟨_, cell_of g11 rfl, (rdTake (k := 1) (by decide) hG (h.ext e2)).mono ?_⟩
  rintro _ w₃ ⟨hu3, rfl, hr3⟩
  have u3 : Upd (· = r) w w₃ := (Upd.ext e2).trans hu3
  have g31 := hu3.get g11 (by omega)
  have g32 := hu3.get g12 (by omega)
  have hs3 := hu3.size
  have a3 := takeS_lt 1 s
  have hone : oneS s = oneS s := rfl
  conv at hone => rhs; unfold oneS
  refine ⟨_, _, rfl, br_ne (fun hne => ?_) fun he => ?_⟩
  · have hA : takeS 1 s = (0, 4, none) := takeS_err (by omega)
    rw [hA] at hone
    replace hone : oneS s = (Change.zero, 4, none) := hone
    rw [hone] at hR
    rw [hA] at hr3 ⊢
    exact chg_out (k := Key.zero) g32 rfl fun u' hu => hR _ _ ⟨(done u3 hr3 hu).1, (done u3 hr3 hu).2, Key.zero, none, 0, 0, false, rfl, fun h => by cases h⟩
  · simp only [] at hone
    rw [if_neg (by omega)] at hone
    refine br_dec (fun h1 => ?_) fun h1 => ?_
    · rw [if_pos (by omega)] at hone
      rw [hone] at hR
      exact chg_out (k := Key.zero) g32 rfl fun u' hu => hR _ _ ⟨(done u3 hr3 hu).1, (done u3 hr3 hu).2, Key.zero, none, 0, 0, false, rfl, fun h => by cases h⟩
    · rw [if_neg (by omega)] at hone
      refine ⟨_, cell_of g31 rfl, (fact_GetKey_spec hG (fun x hx => by have := hGs x hx; omega) (by omega) hr3).mono ?_⟩
      rintro _ w₆ ⟨rfl, hu6, hr6⟩
      have u6 := u3.trans hu6
      have hs6 := hu6.size
      refine ⟨_, _, _, _, _, rfl, new_put (vs := Key.vals (keyS (takeS 1 s).2.2).1) rfl fun B3 w₈ hb3 hs8 he8 g83 => ?_⟩
      have u8 := u6.then he8
      have r8 := hr6.ext he8
      have g81 := Ext.get he8 (hu6.get g31 (by omega))
      have g82 := Ext.get he8 (hu6.get g32 (by omega))
      refine br_ne (fun hne => ?_) fun he6 => ?_
      · rw [if_pos (by omega)] at hone
        rw [hone] at hR
        exact ⟨_, _, _, _, key_cells g83, chg_out g82 rfl fun u' hu => hR _ _ ⟨(done u8 r8 hu).1, (done u8 r8 hu).2, _, _, _, _, _, rfl, fun h => absurd h (by show ¬ (keyS (takeS 1 s).2.2).2.1 = 0; omega)⟩⟩
      · rw [if_neg (by omega)] at hone
        refine br_eq (fun h0 => ?_) fun h0 => ?_
        · rw [if_pos (by omega)] at hone
          rw [hone] at hR
          refine ⟨_, _, _, _, key_cells g83, chg_out g82 rfl fun u' hu => hR _ _ ⟨(done u8 r8 hu).1, (done u8 r8 hu).2, _, none, 0, 0, true, ?_, fun _ => ⟨rfl, rfl, rfl, Nat.le_refl _, BytesAt.nil _ none, fun _ hp => by cases hp⟩⟩⟩
          rw [he6]; rfl
        · rw [if_neg (by omega)] at hone
          refine ⟨_, cell_of g81 rfl, (rdRow hG r8).mono ?_⟩
          rintro _ w₁₁ ⟨hu11, ⟨a, c, rfl, hby, hc, hf⟩, hr11⟩
          have u11 := u8.trans hu11
          have g112 := hu11.get g82 (by omega)
          have g113 := hu11.get g83 (by omega)
          refine ⟨_, _, _, _, rfl, br_eq (fun he11 => br_eq (fun hl => ?_) fun hl => ?_) fun hne => ?_⟩
          · rw [if_neg (by omega), if_pos (by omega)] at hone
            rw [hone] at hR
            exact ⟨_, _, _, _, key_cells g113, chg_out g112 rfl fun u' hu => hR _ _ ⟨(done u11 hr11 hu).1, (done u11 hr11 hu).2, _, _, _, _, _, rfl, fun h => by cases h⟩⟩
          · rw [if_neg (by omega), if_neg (by omega)] at hone
            rw [hone] at hR
            refine ⟨_, _, _, _, key_cells g113, chg_out g112 rfl fun u' hu => hR _ _ ⟨(done u11 hr11 hu).1, (done u11 hr11 hu).2, _, a, _, c, false, ?_, fun _ => ⟨rfl, rfl, rfl, hc, ?_, fun p hp => ?_⟩⟩⟩
            · rw [he11]; rfl
            · refine RowAt.upd hby hu fun p hp e => ?_
              have := (hf p hp).1
              omega
            · have := hf p hp
              have := hu.size
              omega
          · have hrow := rowS_err (s := (keyS (takeS 1 s).2.2).2.2) (by omega)
            rw [if_pos (by omega)] at hone
            rw [hone] at hR
            rw [hrow] at hr11 ⊢
            exact ⟨_, _, _, _, key_cells g113, chg_out g112 rfl fun u' hu => hR _ _ ⟨(done u11 hr11 hu).1, (done u11 hr11 hu).2, _, _, _, _, _, rfl, fun h => by cases h⟩⟩
theorem goS_step {n i : Nat} {s : St} {acc : List Change} (hi : i < n) : goS (n - i) s acc = if (oneS s).2.1 ≠ 0 then ([], (oneS s).2.1) else goS (n - (i + 1)) (oneS s).2.2 (acc ++ [(oneS s).1]) := by
  obtain ⟨m, hm⟩ : ∃ m, n - i = m + 1 := ⟨n - i - 1, by omega⟩
  have hm' : n - (i + 1) = m := by omega
  rw [hm, hm']; rfl
theorem getS_take {b : List UInt8} (h0 : (takeS 1 (some b)).2.1 = 0) (h1 : (takeS 1 (some b)).1 ≠ 0) : getS b = goS ((takeS 1 (some b)).1 - 0) (takeS 1 (some b)).2.2 [] := by
  unfold getS
  rw [if_neg (by omega), if_neg (by omega)]; rfl
theorem ListAt.empty {α : Type} {r : ERep α} {Q : Nat → Prop} {S : Nat} {w : World} {e : TypeId} {l : List α} (h : l = []) : ListAt r Q S w none 0 e l := by subst h; exact ListAt.nil _ _
/-- what a call answers that makes a list: it, and a number -/
def ListOut {α : Type} (r : ERep α) (e : TypeId) (w w' : World) (v : Value) (l : List α) (x : Nat) : Prop := ∃ a c, v = .tuple #[.slice a l.length c, .int .i64 (x : Nat)] ∧ ListAt r NoB w.heap.size w' a c e l ∧ Ext w w'
theorem ListOut.none {α : Type} {r : ERep α} {e : TypeId} {w w' : World} {x : Nat} {l : List α} (hl : l = []) (h : Ext w w') : ListOut r e w w' (.tuple #[.slice .none 0 0, .int .i64 (x : Nat)]) l x := by
  subst hl; exact ⟨.none, 0, rfl, ListAt.nil _ _, h⟩
theorem rec_Get_spec {w : World} {a : Option Addr} {b : List UInt8} {c : Nat} (hb : BytesAt w a b) (hn : b.length ≤ 281474976710656) :
    CallsR prog K.rec_Get #[.slice a b.length c] w fun v w' => ListOut changeR T.api_Change w w' v (getS b).1 (getS b).2 := by
  apply rec_Get.sh
  suffices H : ∀ R : Value → World → Prop, (∀ v w', ListOut changeR T.api_Change w w' v (getS b).1 (getS b).2 → R v w') → rec_Get.body a b.length c w R from H _ fun _ _ h => h
  intro R hR
  unfold rec_Get.body
  refine (ends_New_in a b c w hb hn).mono ?_
  rintro _ w₁ ⟨r, rfl, hr1, hrd, he1⟩
  have hrs1 : r < w₁.heap.size := by obtain ⟨_, _, h, _⟩ := hrd.at_; exact (Array.getElem?_eq_some_iff.1 h).1
  refine ⟨_, rfl, new_put (vs := [.pointer (some ⟨r, 0, none⟩)]) rfl fun B1 w₃ hb1 hs3 he3 g3 => ?_⟩
  have hG : ¬ (fun x => w.heap.size ≤ x ∧ x < r) r := by simp
  have hrd3 : RdIn (fun x => w.heap.size ≤ x ∧ x < r) w₃ r (some b) := ReaderIn.updG hrd he3 (fun h => h) (fun _ _ h => h)
  have e3 : Ext w w₃ := he1.trans he3
  refine ⟨_, cell_of g3 rfl, (rdTake (k := 1) (by decide) hG hrd3).mono ?_⟩
  rintro _ w₄ ⟨hu4, rfl, hr4⟩
  have e4 : Ext w w₄ := e3.beyond hu4 fun x hx => by omega
  have hs4 := hu4.size
  have g4 := hu4.get g3 (by omega)
  have a4 := takeS_lt 1 (some b)
  refine ⟨_, _, rfl, br_ne (fun hne => ?_) fun he => br_eq (fun h0 => ?_) fun h0 => ?_⟩
  · have hA : takeS 1 (some b) = (0, 4, none) := takeS_err (by omega)
    have hg : getS b = ([], 4) := by unfold getS; rw [hA]; rfl
    rw [hg] at hR
    rw [hA]
    exact hR _ _ (ListOut.none rfl e4)
  · have hg : getS b = ([], 5) := by unfold getS; rw [if_neg (by omega), if_pos (by omega)]
    rw [hg] at hR
    exact hR _ _ (ListOut.none (x := 5) rfl e4)
  have hget := getS_take (b := b) (by omega) (by omega)
  generalize takeS 1 (some b) = A at *
  refine ⟨fun a1 l1 c1 x u => ∃ (i : Nat) (s : St) (acc : List Change), x = i ∧ i ≤ A.1 ∧ l1 = acc.length ∧ acc.length = i ∧ ListAt changeR NoB w₃.heap.size u a1 c1 T.api_Change acc ∧ RdIn (fun x => w.heap.size ≤ x ∧ x < r) u r s ∧ Ext w u ∧ w₃.heap.size ≤ u.heap.size ∧ u.heap[B1]? = some (.cells [Value.pointer (some ⟨r, 0, none⟩)].toArray T.rec_reader (0, 0)) ∧ getS b = goS (A.1 - i) s acc,
    fun _ _ _ x _ => ((A.1 : Int) - x).toNat, ⟨0, _, [], rfl, by omega, rfl, rfl, ListAt.nil _ _, hr4, e4, hu4.size, g4, hget⟩, ?_⟩
  rintro a1 l1 c1 x u ⟨i, s, acc, rfl, hi, rfl, hacc, hl, hrd, heu, hsu, gu, hgo⟩
  refine br_dec (fun hlt => ?_) fun hge => ?_
  · have hi' : i < A.1 := by omega
    rw [goS_step hi'] at hgo
    refine ⟨_, cells_all gu, (rec_reader_one_spec hG (fun x hx => by omega) (by omega) hrd).mono ?_⟩
    rintro _ w₆ ⟨hu6, hr6, k, a2, n2, c2, b2, rfl, hok⟩
    have hs6 := hu6.size
    refine ⟨_, _, _, _, _, _, _, _, _, rfl, new_put (vs := changeVs k a2 n2 c2 b2) rfl fun B2 w₈ hb2 hs8 he8 g8 => ?_⟩
    have e6 : Ext w w₆ := heu.beyond hu6 fun x hx => by omega
    have hl6 : ListAt changeR NoB w₃.heap.size w₆ a1 c1 T.api_Change acc := hl.upd hu6 fun x hx => ⟨by omega, fun h => h⟩
    have g6 := hu6.get gu (by omega)
    refine br_ne (fun hne => ?_) fun he6 => ?_
    · rw [if_pos (by omega)] at hgo
      rw [hgo] at hR
      exact hR _ _ (ListOut.none rfl (e6.trans he8))
    · rw [if_neg (by omega)] at hgo
      obtain ⟨rfl, rfl, rfl, hc2, hby, hf⟩ := hok (by omega)
      refine ⟨_, _, _, _, _, _, _, _, cells_all g8, fun B3 w₉ hn9 => ?_⟩
      have he9 := hn9.upd
      have hs9 := hn9.size
      have hl9 := (hl6.ext he8).ext he9
      refine ListAt.push (r := changeR) (H := fun b => u.heap.size ≤ b ∧ b < w₆.heap.size) hl9 (changeR_intro hc2 ((hby.ext he8).ext he9) fun _ p hp => hf p hp) (fun b hb => ⟨.inl (by omega), by omega, fun h => ?_⟩) hn9 rfl rfl (by omega) (by omega) (by omega) fun a' c' w₁₀ hu10 hl10 => ?_
      · have := hl.lt h
        omega
      · have e10 : Ext w w₁₀ := ((e6.trans he8).trans he9).beyond hu10 fun x hx => by omega
        have hs10 := hu10.size
        have ew : IntKind.u64.wrap ((i : Int) + 1) = ((i + 1 : Nat) : Int) := wu64 (by omega) (by omega)
        simp only [ew]
        refine ⟨⟨i + 1, _, _, rfl, hi', rfl, by simp [hacc], hl10, (((hr6.ext he8).ext he9).upd hu10 (by omega) fun x hx => by omega), e10, by omega, hu10.get (Ext.get he9 (Ext.get he8 g6)) (by omega), hgo⟩, meas hi'⟩
  · have hin : i = A.1 := by omega
    subst hin
    rw [Nat.sub_self] at hgo
    refine ⟨_, cell_of gu rfl, (rdLeft hrd).mono ?_⟩
    rintro _ _ ⟨rfl, rfl⟩
    refine ⟨_, rfl, br_dec (fun hl0 => ?_) fun hl0 => ?_⟩
    · have hg : getS b = ([], 5) := by rw [hgo]; unfold goS; rw [if_pos (by omega)]
      rw [hg] at hR
      exact hR _ _ (ListOut.none (x := 5) rfl heu)
    · have hg : getS b = (acc, 0) := by rw [hgo]; unfold goS; rw [if_neg (by omega)]
      rw [hg] at hR
      exact hR _ _ ⟨a1, c1, rfl, hl.weak (by omega) (fun _ h => h.elim), heu⟩
theorem take_all8 {b : List UInt8} (h : b.length = 8) : takeS 8 (some b) = (fromLE b, 0, some []) := by
  unfold takeS
  simp only []
  rw [if_neg (by omega), List.take_of_length_le (by omega), List.drop_of_length_le (by omega)]
theorem rec_GetDrop_spec {w : World} {a : Option Addr} {b : List UInt8} {c : Nat} (hb : BytesAt w a b) (hn : b.length ≤ 281474976710656) :
    CallsR prog K.rec_GetDrop #[.slice a b.length c] w fun v w' => v = .tuple #[.int .u64 ((dropS b).1 : Nat), .int .i64 ((dropS b).2 : Nat)] ∧ Ext w w' := by
  apply rec_GetDrop.sh
  suffices H : ∀ R : Value → World → Prop, (∀ v w', v = .tuple #[.int .u64 ((dropS b).1 : Nat), .int .i64 ((dropS b).2 : Nat)] ∧ Ext w w' → R v w') → rec_GetDrop.body a b.length c w R from H _ fun _ _ h => h
  intro R hR
  unfold rec_GetDrop.body
  refine (ends_New_in a b c w hb hn).mono ?_
  rintro _ w₁ ⟨r, rfl, hr1, hrd, he1⟩
  have hG : ¬ (fun x => w.heap.size ≤ x ∧ x < r) r := by simp
  refine ⟨_, rfl, (rdTake (s := some b) (k := 8) (by decide) hG hrd).mono ?_⟩
  rintro _ w₂ ⟨hu2, rfl, _⟩
  have e2 : Ext w w₂ := he1.beyond hu2 fun x hx => by omega
  refine ⟨_, _, rfl, br_ne (fun hne => ?_) fun he => br_ne (fun h8 => ?_) fun h8 => ?_⟩
  · have hg : dropS b = (0, 5) := by
      unfold dropS
      rw [if_pos]
      intro h
      rw [take_all8 h] at hne
      exact hne rfl
    rw [hg] at hR
    exact hR _ _ ⟨rfl, e2⟩
  · have hg : dropS b = (0, 5) := by unfold dropS; rw [if_pos (by omega)]
    rw [hg] at hR
    exact hR _ _ ⟨rfl, e2⟩
  · have h8' : b.length = 8 := by omega
    rw [take_all8 h8']
    refine br_eq (fun h0 => ?_) fun h0 => ?_
    · have hg : dropS b = (0, 5) := by unfold dropS; rw [if_neg (by omega), if_pos (by have : ((fromLE b : Nat) : Int) = 0 := h0; omega)]
      rw [hg] at hR
      exact hR _ _ ⟨rfl, e2⟩
    · have hg : dropS b = (fromLE b, 0) := by unfold dropS; rw [if_neg (by omega), if_neg (by have : ¬ ((fromLE b : Nat) : Int) = 0 := h0; omega)]
      rw [hg] at hR
      exact hR _ _ ⟨rfl, e2⟩
end Go.Den
end
section
set_option linter.unusedSimpArgs false
set_option linter.unusedVariables false
namespace Go.Den
/-- bytes whose cells a call owns, at S or behind -/
def BList (S : Nat) (w : World) (a : Option Addr) (cap : Nat) (l : List UInt8) : Prop := OwnAt w a l.length cap T.uint8 1 (l.map bv) ∧ ∀ b, a = some ⟨b, 0, none⟩ → S ≤ b
theorem BList.nil (S : Nat) (w : World) : BList S w none 0 [] := ⟨OwnAt.nil _ _ _, fun _ h => by cases h⟩
theorem BList.bytes {S : Nat} {w : World} {a : Option Addr} {cap : Nat} {l : List UInt8} (h : BList S w a cap l) : BytesAt w a l := h.1.row
theorem BList.cap {S : Nat} {w : World} {a : Option Addr} {cap : Nat} {l : List UInt8} (h : BList S w a cap l) : l.length ≤ cap := h.1.2.1
theorem BList.weak {S S' : Nat} {w : World} {a : Option Addr} {cap : Nat} {l : List UInt8} (h : BList S w a cap l) (hS : S' ≤ S) : BList S' w a cap l := ⟨h.1, fun b hb => Nat.le_trans hS (h.2 b hb)⟩
theorem BList.upd {S : Nat} {w w' : World} {F : Nat → Prop} {a : Option Addr} {cap : Nat} {l : List UInt8} (h : BList S w a cap l) (k : Upd F w w') (hF : ∀ x, F x → x < S) : BList S w' a cap l :=
  ⟨h.1.upd k fun b hb hf => absurd (h.2 b hb) (by have := hF b hf; omega), h.2⟩
theorem BList.ext {S : Nat} {w w' : World} {a : Option Addr} {cap : Nat} {l : List UInt8} (h : BList S w a cap l) (k : Ext w w') : BList S w' a cap l := ⟨h.1.ext k, h.2⟩
theorem BList.lt {S : Nat} {w : World} {a : Option Addr} {cap : Nat} {l : List UInt8} (h : BList S w a cap l) {p : Addr} (hp : a = some p) : S ≤ p.block ∧ p.block < w.heap.size := by
  have hb := h.1.2.2
  rcases hb with ⟨hx, _⟩ | ⟨b, cur, hx, hb, _⟩
  · rw [hx] at hp; cases hp
  · have hs := h.2 b hx
    rw [hx] at hp; cases hp
    exact ⟨hs, (Array.getElem?_eq_some_iff.1 hb).1⟩
theorem BList.new {S : Nat} {w w' : World} {B : Nat} {cs : Array Value} (h : New w (.cells cs T.uint8) B w') {l : List UInt8} (hl : cs.toList = l.map bv) (hS : S ≤ w.heap.size) : BList S w' (some ⟨B, 0, none⟩) l.length l := by
  have hsz : cs.size = l.length * 1 := by rw [← Array.length_toList, hl]; simp
  have := OwnAt.new h (n := l.length) (size := 1) hsz
  rw [hl] at this
  exact ⟨this, fun b hb => by cases hb; rw [h.num]; exact hS⟩
theorem BList.cat {S : Nat} {w : World} {a ax : Option Addr} {cap n m cx : Nat} {l xs : List UInt8} (h : BList S w a cap l) (hn : n = l.length) (hm : m = xs.length) (hx : BytesAt w ax xs) (hb : l.length + xs.length ≤ 140737488355232) (hS : S ≤ w.heap.size) {K : Option Addr → Nat → Nat → World → Prop}
    (hk : ∀ a' c' w', Upd (fun b => S ≤ b) w w' → BList S w' a' c' (l ++ xs) → K a' (l ++ xs).length c' w') : appendP T.uint8 1 1 [Value.int .u8 0] a n cap (.slice ax m cx) w K := by
  subst hn; subst hm
  refine append_bytes h.1 hx hb fun a' c' w' hu ho hf => hk a' c' w' (hu.mono fun b _ hb => h.2 b hb) ⟨ho, fun b hb => ?_⟩
  rcases hf with hf | ⟨b', hb', hl⟩
  · subst hf; exact h.2 b hb
  · rw [hb'] at hb; cases hb; omega
theorem BList.push {S : Nat} {w w₁ : World} {a : Option Addr} {cap n : Nat} {l : List UInt8} {B : Nat} {x : UInt8} (h : BList S w a cap l) (hn : n = l.length) (hnew : New w (.cells #[bv x] T.uint8) B w₁) (hb : l.length + 1 ≤ 140737488355232) (hS : S ≤ w.heap.size) {K : Option Addr → Nat → Nat → World → Prop}
    (hk : ∀ a' c' w', Upd (fun b => S ≤ b) w w' → BList S w' a' c' (l ++ [x]) → K a' (l ++ [x]).length c' w') : appendP T.uint8 1 1 [Value.int .u8 0] a n cap (.slice (some ⟨B, 0, none⟩) 1 1) w₁ K :=
  BList.cat (xs := [x]) (h.ext hnew.upd) hn rfl (RowAt.of hnew.get fun j v hj => by simpa using hj) (by simpa using hb) (by have := hnew.size; omega) fun a' c' w' hu hl => hk a' c' w' ((Upd.ext hnew.upd).trans hu) hl
/-- likewise; blocks of G stay -/
theorem BList.catX {G : Nat → Prop} {S : Nat} {w : World} {a ax : Option Addr} {cap n m cx : Nat} {l xs : List UInt8} (h : BList S w a cap l) (hG : ∀ b, a = some ⟨b, 0, none⟩ → ¬ G b) (hGs : ∀ x, G x → x < w.heap.size) (hn : n = l.length) (hm : m = xs.length) (hx : BytesAt w ax xs) (hb : l.length + xs.length ≤ 140737488355232) (hS : S ≤ w.heap.size) {K : Option Addr → Nat → Nat → World → Prop}
    (hk : ∀ a' c' w', Upd (fun b => S ≤ b ∧ ¬ G b) w w' → BList S w' a' c' (l ++ xs) → (∀ b, a' = some ⟨b, 0, none⟩ → ¬ G b) → K a' (l ++ xs).length c' w') : appendP T.uint8 1 1 [Value.int .u8 0] a n cap (.slice ax m cx) w K := by
  subst hn; subst hm
  refine append_bytes h.1 hx hb fun a' c' w' hu ho hf => hk a' c' w' (hu.mono fun b _ hb => ⟨h.2 b hb, hG b hb⟩) ⟨ho, fun b hb => ?_⟩ fun b hb hg => ?_
  · rcases hf with hf | ⟨b', hb', hl⟩
    · subst hf; exact h.2 b hb
    · rw [hb'] at hb; cases hb; omega
  · rcases hf with hf | ⟨b', hb', hl⟩
    · subst hf; exact hG b hb hg
    · rw [hb'] at hb; cases hb
      have := hGs _ hg
      omega
theorem BList.pushX {G : Nat → Prop} {S : Nat} {w w₁ : World} {a : Option Addr} {cap n : Nat} {l : List UInt8} {B : Nat} {x : UInt8} (h : BList S w a cap l) (hG : ∀ b, a = some ⟨b, 0, none⟩ → ¬ G b) (hGs : ∀ x, G x → x < w.heap.size) (hn : n = l.length) (hnew : New w (.cells #[bv x] T.uint8) B w₁) (hb : l.length + 1 ≤ 140737488355232) (hS : S ≤ w.heap.size) {K : Option Addr → Nat → Nat → World → Prop}
    (hk : ∀ a' c' w', Upd (fun b => S ≤ b ∧ ¬ G b) w w' → BList S w' a' c' (l ++ [x]) → (∀ b, a' = some ⟨b, 0, none⟩ → ¬ G b) → K a' (l ++ [x]).length c' w') : appendP T.uint8 1 1 [Value.int .u8 0] a n cap (.slice (some ⟨B, 0, none⟩) 1 1) w₁ K :=
  BList.catX (G := G) (xs := [x]) (h.ext hnew.upd) hG (fun x hx => by have := hGs x hx; have := hnew.size; omega) hn rfl (RowAt.of hnew.get fun j v hj => by simpa using hj) (by simpa using hb) (by have := hnew.size; omega) fun a' c' w' hu hl => hk a' c' w' ((Upd.ext hnew.upd).trans hu) hl
end Go.Den
end
section
set_option linter.unusedVariables false
set_option linter.unusedSimpArgs false
set_option maxRecDepth 8000
namespace Go.Den
/-- bytes that are answered with a number -/
def BytesOut (w w' : World) (v : Value) (l : List UInt8) (e : Nat) : Prop := ∃ a c, v = .tuple #[.slice a l.length c, .int .i64 (e : Nat)] ∧ BList w.heap.size w' a c l ∧ Ext w w'
theorem BytesOut.none {w w' : World} {e : Nat} (h : Ext w w') : BytesOut w w' (.tuple #[.slice .none 0 0, .int .i64 (e : Nat)]) [] e := ⟨.none, 0, rfl, BList.nil _ _, h⟩
def rowB (b : List UInt8) : List UInt8 × Nat := if b.length ≤ 255 then (UInt8.ofNat b.length :: b, 0) else ([], 3)
/-! ### Keys -/
def keyB (k : Key) : List UInt8 := leB k.ino.toNat 2 ++ [k.what] ++ (if k.what = 2 then UInt8.ofNat k.bytes.length :: k.bytes else if k.what = 3 then [UInt8.ofNat k.chunk.toNat] else [])
def putKeyB (k : Key) : List UInt8 × Nat := if k.may then (keyB k, 0) else ([], 2)
theorem Key.may_elim {k : Key} (h : k.may = true) : 1 ≤ k.ino ∧ k.ino ≤ 65535 ∧ ((k.what = 1 ∧ k.bytes = [] ∧ k.chunk = 0) ∨ (k.what = 2 ∧ isName k.bytes = true ∧ k.chunk = 0) ∨ (k.what = 3 ∧ k.bytes = [] ∧ 0 ≤ k.chunk ∧ k.chunk < 8)) := by
  unfold Key.may at h
  simp only [Bool.and_eq_true, Bool.or_eq_true, decide_eq_true_eq] at h
  obtain ⟨⟨h1, h2⟩, h3⟩ := h
  refine ⟨h1, h2, ?_⟩
  rcases h3 with (⟨⟨h, h'⟩, h''⟩ | ⟨⟨h, h'⟩, h''⟩) | ⟨⟨⟨h, h'⟩, h''⟩, h'''⟩
  · exact .inl ⟨UInt8.toNat_inj.1 h, h', h''⟩
  · exact .inr (.inl ⟨UInt8.toNat_inj.1 h, h', h''⟩)
  · exact .inr (.inr ⟨UInt8.toNat_inj.1 h, h', h'', h'''⟩)
theorem isName_len {s : List UInt8} (h : isName s = true) : 1 ≤ s.length ∧ s.length ≤ 12 := by
  unfold isName at h
  simp only [Bool.and_eq_true, decide_eq_true_eq] at h
  exact ⟨h.1.1.1.2, h.1.1.2⟩
theorem keyB_len {k : Key} (h : k.may = true) : 3 ≤ (keyB k).length ∧ (keyB k).length ≤ 16 := by
  obtain ⟨_, _, h3⟩ := Key.may_elim h
  unfold keyB
  simp only [List.length_append, leB_length, List.length_cons, List.length_nil]
  rcases h3 with ⟨h, _⟩ | ⟨h, h', _⟩ | ⟨h, _⟩
  · rw [h, if_neg (by decide), if_neg (by decide)]; simp
  · have := isName_len h'
    rw [h, if_pos rfl]
    simp only [List.length_cons]
    omega
  · rw [h, if_neg (by decide), if_pos rfl]; simp
/-! ### Changes -/
def mayC (c : Change) : Bool := c.key.may && (if c.gone then decide (c.val.length = 0) else decide (1 ≤ c.val.length) && decide (c.val.length ≤ 255))
def mayL (l : List Change) : Bool := decide (1 ≤ l.length) && decide (l.length ≤ 255) && l.all mayC
def chgB (c : Change) : List UInt8 := if c.gone then 0 :: keyB c.key else 1 :: (keyB c.key ++ UInt8.ofNat c.val.length :: c.val)
def bodyB (l : List Change) : List UInt8 := UInt8.ofNat l.length :: l.flatMap chgB
/-- no name is too great -/
def Small (l : List Change) : Prop := ∀ x ∈ l, x.key.name.size < 9223372036854775807
theorem chgB_len {x : Change} (h : mayC x = true) : (chgB x).length ≤ 300 := by
  unfold mayC at h
  rw [Bool.and_eq_true] at h
  have hk := keyB_len h.1
  unfold chgB
  split
  · simp; omega
  · rename_i hg
    rw [if_neg hg, Bool.and_eq_true, decide_eq_true_eq, decide_eq_true_eq] at h
    simp; omega
theorem flat_len_le {α : Type} {f : α → List UInt8} {n : Nat} : ∀ (l : List α), (∀ x ∈ l, (f x).length ≤ n) → (l.flatMap f).length ≤ l.length * n
  | [], _ => by simp
  | x :: l, h => by
    rw [List.flatMap_cons, List.length_append, List.length_cons, Nat.succ_mul]
    have := h x (by simp)
    have := flat_len_le l fun y hy => h y (by simp [hy])
    omega
theorem mayL_elim {l : List Change} (h : mayL l = true) : 1 ≤ l.length ∧ l.length ≤ 255 ∧ ∀ x ∈ l, mayC x = true := by
  unfold mayL at h
  simp only [Bool.and_eq_true, decide_eq_true_eq, List.all_eq_true] at h
  exact ⟨h.1.1, h.1.2, h.2⟩
theorem bodyB_len {l : List Change} (h : mayL l = true) : (bodyB l).length ≤ 100000 := by
  obtain ⟨h1, h2, h3⟩ := mayL_elim h
  unfold bodyB
  have := flat_len_le (f := chgB) l (fun x hx => chgB_len (h3 x hx))
  simp only [List.length_cons]
  omega
/-- a page out of a body -/
def putPage (size : Int) (kind : UInt8) (body : List UInt8) : List UInt8 × Nat :=
  if isSize size = false ∨ kind < 1 ∨ kind > 7 then ([], 2) else if (body.length : Int) > size - 5 then ([], 3) else (pageOf size.toNat kind body, 0)
def putL (size : Int) (l : List Change) : List UInt8 × Nat := if mayL l then putPage size 2 (bodyB l) else ([], 2)
def putDropB (size : Int) (seq : Nat) : List UInt8 × Nat := if seq = 0 then ([], 2) else putPage size 3 (leB seq 8)
end Go.Den
end
section
set_option linter.unusedVariables false
set_option linter.unusedSimpArgs false
set_option maxRecDepth 8000
namespace Go.Den
theorem ends_Row_spec {w : World} {a : Option Addr} {b : List UInt8} {c : Nat} (hb : BytesAt w a b) :
    CallsR prog K.ends_Row #[.slice a b.length c] w fun v w' => BytesOut w w' v (rowB b).1 (rowB b).2 := by
  apply ends_Row.sh
  suffices H : ∀ R : Value → World → Prop, (∀ v w', BytesOut w w' v (rowB b).1 (rowB b).2 → R v w') → ends_Row.body a b.length c w R from H _ fun _ _ h => h
  intro R hR
  unfold ends_Row.body
  refine br_dec (fun hl => ?_) fun hl => ?_
  · have h : rowB b = ([], 3) := by unfold rowB; rw [if_neg (by omega)]
    rw [h] at hR
    exact hR _ _ (BytesOut.none (e := 3) (Upd.refl _ _))
  · have h : rowB b = (UInt8.ofNat b.length :: b, 0) := by unfold rowB; rw [if_pos (by omega)]
    rw [h] at hR
    intro B1 w₁ hn1
    rw [bv_mod, Nat.mod_eq_of_lt (by omega)] at hn1
    have hs1 := hn1.size
    refine BList.cat (l := [UInt8.ofNat b.length]) (S := w.heap.size) (BList.new hn1 rfl (Nat.le_refl _)) rfl rfl (hb.ext hn1.upd) (by simp; omega) (by omega) fun a' c' w' hu hl' => ?_
    exact hR _ _ ⟨a', c', rfl, hl', hn1.upd.own hu (Nat.le_refl _)⟩
theorem fact_PutKey_spec (k : Key) (hn : k.name.size < 9223372036854775807) (w : World) :
    CallsR prog K.fact_PutKey #[keyV k] w fun v w' => BytesOut w w' v (putKeyB k).1 (putKeyB k).2 := by
  apply fact_PutKey.sh
  suffices H : ∀ R : Value → World → Prop, (∀ v w', BytesOut w w' v (putKeyB k).1 (putKeyB k).2 → R v w') → fact_PutKey.body k.ino k.what.toNat k.name k.chunk w R from H _ fun _ _ h => h
  intro R hR
  unfold fact_PutKey.body
  simp only [add_lit, Nat.zero_add]
  intro B1 w₁ hn1
  have g1 : KeyAt w₁ B1 k := hn1.get
  have hb1 : B1 = w.heap.size := hn1.num
  have hs1 := hn1.size
  refine ⟨_, _, _, _, key_cells g1, (fact_MayKey_spec k hn w₁).mono ?_⟩
  rintro _ w₂ ⟨rfl, he2⟩
  have g2 : KeyAt w₂ B1 k := Ext.get he2 g1
  have e2 : Ext w w₂ := hn1.upd.trans he2
  have hs2 := he2.size
  refine ⟨_, rfl, br_intro (fun hm => ?_) fun hm => ?_⟩
  · have h : putKeyB k = ([], 2) := by unfold putKeyB; rw [if_neg (by simpa using hm)]
    rw [h] at hR
    exact hR _ _ (BytesOut.none (e := 2) e2)
  have hm' : k.may = true := by simpa using hm
  have h : putKeyB k = (keyB k, 0) := by unfold putKeyB; rw [if_pos hm']
  rw [h] at hR
  obtain ⟨h1, h2, h3⟩ := Key.may_elim hm'
  obtain ⟨n, hn0⟩ : ∃ n : Nat, k.ino = n := ⟨k.ino.toNat, by omega⟩
  refine ⟨_, cell_of g2 rfl, ?_⟩
  rw [hn0, wu64 (by omega) (by omega)]
  refine (ends_Put_own n 2 w₂ (by rfl) (by omega)).mono ?_
  rintro _ w₃ ⟨a1, c1, rfl, ho3, hf3, he3⟩
  have e3 := e2.trans he3
  have hs3 := he3.size
  have g3 : KeyAt w₃ B1 k := Ext.get he3 g2
  have hlb : (leB n 2).length = 2 := leB_length 2 n
  have hbase : BList w₂.heap.size w₃ a1 c1 (leB n 2) := ⟨by rw [hlb]; exact ho3, fun b hb => hf3 _ hb⟩
  refine ⟨_, _, _, _, rfl, _, cell_of g3 rfl, fun B2 w₄ hn4 => ?_⟩
  have hs4 := hn4.size
  refine BList.push hbase hlb.symm hn4 (by omega) (by omega) fun a2 c2 w₅ hu5 hl5 => ?_
  have e5 : Ext w w₅ := e3.beyond hu5 fun x hx => by omega
  have hs5 := hu5.size
  have g5 : KeyAt w₅ B1 k := hu5.get g3 (by omega)
  have hnn : k.ino.toNat = n := by omega
  refine ⟨_, cell_of g5 rfl, br_eq (fun hw => ?_) fun hw => br_eq (fun hw3 => ?_) fun hw3 => ?_⟩
  · have hw' : k.what = 2 := UInt8.toNat_inj.1 (by show k.what.toNat = 2; omega)
    have hname : isName k.bytes = true := by
      rcases h3 with ⟨h, _⟩ | ⟨_, h, _⟩ | ⟨h, _⟩
      · rw [hw'] at h; cases h
      · exact h
      · rw [hw'] at h; cases h
    have hlen := isName_len hname
    have hbs : k.name.size = k.bytes.length := size_data _
    have hkey : keyB k = leB n 2 ++ [k.what] ++ (UInt8.ofNat k.bytes.length :: k.bytes) := by unfold keyB; rw [if_pos hw', hnn]
    refine ⟨_, cell_of g5 rfl, fun cap B3 w₆ hcap hn6 => ?_⟩
    have hs6 := hn6.size
    have hsd : w₅.drew.heap.size = w₅.heap.size := rfl
    have e56 : Ext w₅ w₆ := (drew_upd w₅).trans hn6.upd
    have hrow : BytesAt w₆ (some ⟨B3, 0, none⟩) k.bytes := RowAt.of hn6.get fun j v hj => by
      simp only [Nat.zero_add, List.getElem?_toArray]
      have hj' : (k.name.data.toList.map bv)[j]? = some v := hj
      rw [List.getElem?_append_left (by simpa using (List.getElem?_eq_some_iff.1 hj').1)]
      exact hj'
    rw [hbs]
    refine (ends_Row_spec (c := cap) hrow).mono ?_
    have hrb : rowB k.bytes = (UInt8.ofNat k.bytes.length :: k.bytes, 0) := by unfold rowB; rw [if_pos (by omega)]
    rw [hrb]
    rintro _ w₇ ⟨a4, c4, rfl, hl7, he7⟩
    have e57 := e56.trans he7
    refine ⟨_, _, _, _, rfl, BList.cat (hl5.ext e57) rfl rfl hl7.bytes (by simp [leB_length]; omega) (by have := e57.size; omega) fun a5 c5 w₈ hu8 hl8 => ?_⟩
    rw [← hkey] at hl8 ⊢
    exact hR _ _ ⟨a5, c5, rfl, hl8.weak (by omega), (e5.trans e57).beyond hu8 fun x hx => by omega⟩
  · have hw' : k.what = 3 := UInt8.toNat_inj.1 (by show k.what.toNat = 3; omega)
    have hkey : keyB k = leB n 2 ++ [k.what] ++ [UInt8.ofNat k.chunk.toNat] := by unfold keyB; rw [if_neg (by rw [hw']; decide), if_pos hw', hnn]
    have hch : 0 ≤ k.chunk ∧ k.chunk < 8 := by
      rcases h3 with ⟨h, _⟩ | ⟨h, _⟩ | ⟨_, _, h⟩
      · rw [hw'] at h; cases h
      · rw [hw'] at h; cases h
      · exact h
    obtain ⟨m, hm0⟩ : ∃ m : Nat, k.chunk = m := ⟨k.chunk.toNat, by omega⟩
    refine ⟨_, cell_of g5 rfl, fun B3 w₆ hn6 => ?_⟩
    rw [hm0, bv_mod, Nat.mod_eq_of_lt (by omega)] at hn6
    refine BList.push hl5 rfl hn6 (by simp [leB_length]) (by omega) fun a6 c6 w₇ hu7 hl7 => ?_
    have hmn : k.chunk.toNat = m := by omega
    rw [hmn] at hkey
    rw [← hkey] at hl7 ⊢
    exact hR _ _ ⟨a6, c6, rfl, hl7.weak (by omega), e5.beyond hu7 fun x hx => by omega⟩
  · have hkey : keyB k = leB n 2 ++ [k.what] := by
      unfold keyB
      rw [if_neg (fun h => hw (by rw [h]; rfl)), if_neg (fun h => hw3 (by rw [h]; rfl)), hnn, List.append_nil]
    rw [← hkey] at hl5 ⊢
    exact hR _ _ ⟨a2, c2, rfl, hl5.weak (by omega), e5⟩
theorem rec_join_spec {w : World} {a : Option Addr} {bs : List (List UInt8)} {cp : Nat} (h : SlicesAt w a bs) (hn : bs.length ≤ 1000000000) (hf : bs.flatten.length ≤ 10000000000000) :
    CallsR prog K.rec_join #[.slice a bs.length cp] w fun v w' => Ext w w' ∧ ∃ a' c', v = .slice a' bs.flatten.length c' ∧ BList w.heap.size w' a' c' bs.flatten := by
  apply rec_join.sh
  refine (slices_Concat_spec h hn hf).mono ?_
  rintro _ w' ⟨he, a', c', rfl, ho, hf⟩
  exact ⟨_, _, _, rfl, he, a', c', rfl, ho, fun b hb => hf _ hb⟩
/-- bytes that are answered with whether they may be -/
def MayOut (w w' : World) (v : Value) (l : List UInt8) (b : Bool) : Prop := ∃ a c, v = .tuple #[.slice a l.length c, .bool b] ∧ BList w.heap.size w' a c l ∧ Ext w w'
theorem MayOut.none {w w' : World} (h : Ext w w') : MayOut w w' (.tuple #[.slice .none 0 0, .bool false]) [] false := ⟨.none, 0, rfl, BList.nil _ _, h⟩
def changeB (c : Change) : List UInt8 := if mayC c then chgB c else []
theorem changeV_cells {w : World} {B : Nat} {x : Change} {a : Option Addr} {c : Nat} (h : w.heap[B]? = some (.cells (changeVs x.key a x.val.length c x.gone).toArray T.api_Change (0, 0))) : cellsAt w ⟨B, 0, none⟩ [.int .i64 x.key.ino, bv x.key.what, .string x.key.name, .int .i64 x.key.chunk] 0 := by
  refine cellsAt_of h fun j v hj => ?_
  rcases j with _ | _ | _ | _ | j
  all_goals simp at hj ⊢
  all_goals exact hj
theorem rec_change_spec (x : Change) {w : World} {a : Option Addr} {c : Nat} (hb : BytesAt w a x.val) (hn : x.key.name.size < 9223372036854775807) :
    CallsR prog K.rec_change #[.agg #[.int .i64 x.key.ino, bv x.key.what, .string x.key.name, .int .i64 x.key.chunk, .slice a x.val.length c, .bool x.gone]] w fun v w' => MayOut w w' v (changeB x) (mayC x) := by
  apply rec_change.sh
  suffices H : ∀ R : Value → World → Prop, (∀ v w', MayOut w w' v (changeB x) (mayC x) → R v w') → rec_change.body x.key.ino x.key.what.toNat x.key.name x.key.chunk a x.val.length c x.gone w R from H _ fun _ _ h => h
  intro R hR
  unfold rec_change.body
  simp only [add_lit, Nat.zero_add]
  intro B1 w₁ hn1
  have g1 : w₁.heap[B1]? = some (.cells (changeVs x.key a x.val.length c x.gone).toArray T.api_Change (0, 0)) := hn1.get
  have hs1 := hn1.size
  refine ⟨_, _, _, _, changeV_cells g1, (fact_PutKey_spec x.key hn w₁).mono ?_⟩
  rintro _ w₂ ⟨a1, c1, rfl, hl2, he2⟩
  have g2 := Ext.get he2 g1
  have e2 := hn1.upd.trans he2
  have hs2 := he2.size
  have fail : mayC x = false → ∀ u, Ext w u → R (.tuple #[.slice none 0 0, .bool false]) u := fun h u hu => hR _ _ (by
    have hc : changeB x = [] := by unfold changeB; rw [h]; rfl
    rw [hc, h]
    exact MayOut.none hu)
  have hpk : putKeyB x.key = if x.key.may then (keyB x.key, 0) else ([], 2) := rfl
  refine ⟨_, _, _, _, rfl, fun b u => u = w₂ ∧ b = (!x.key.may || (x.gone && decide (0 < x.val.length))), br_ne (fun hne => ?_) fun h0 => ?_, ?_⟩
  · refine ⟨rfl, ?_⟩
    have : x.key.may = false := by
      cases hm : x.key.may with
      | false => rfl
      | true => rw [hpk, if_pos hm] at hne; exact absurd rfl hne
    rw [this]; rfl
  · have hm : x.key.may = true := by
      cases hm : x.key.may with
      | true => rfl
      | false => rw [hpk, if_neg (by rw [hm]; decide)] at h0; cases h0
    refine ⟨_, cell_of g2 rfl, br_intro (fun hg => ⟨_, _, _, cell_of g2 rfl, rfl, ?_⟩) fun hg => ⟨rfl, ?_⟩⟩
    · rw [hm, hg]
      simp
    · rw [hm, hg]; rfl
  rintro b u ⟨rfl, rfl⟩
  refine br_intro (fun hbad => ?_) fun hok => ?_
  · refine fail ?_ _ e2
    unfold mayC
    cases hm : x.key.may with
    | false => rfl
    | true =>
      rw [hm] at hbad
      simp only [Bool.not_true, Bool.false_or, Bool.and_eq_true, decide_eq_true_eq] at hbad
      rw [hbad.1, if_pos rfl, decide_eq_false (by omega)]; rfl
  simp only [Bool.or_eq_false_iff, Bool.not_eq_false', Bool.and_eq_false_iff, decide_eq_false_iff_not] at hok
  obtain ⟨hm, hgv⟩ := hok
  rw [hpk, if_pos hm] at hl2
  simp only [] at hl2
  rw [hpk, if_pos hm]
  have hkl := keyB_len hm
  refine ⟨_, cell_of g2 rfl, br_intro (fun hg => ?_) fun hg => ?_⟩
  · have hv0 : x.val.length = 0 := by
      rcases hgv with h | h
      · rw [hg] at h; cases h
      · omega
    have hmc : mayC x = true := by unfold mayC; rw [hm, hg, if_pos rfl, decide_eq_true hv0]; rfl
    have hcb : changeB x = [[0], keyB x.key].flatten := by unfold changeB chgB; rw [hmc, hg]; simp
    rw [hmc, hcb] at hR
    intro B2 w₄ hn4 B3 w₅ hn5
    have hs : SlicesAt w₅ (some ⟨B3, 0, none⟩) [[0], keyB x.key] := by
      refine ⟨_, RowAt.of hn5.get (vs := [Value.slice (some ⟨B2, 0, none⟩) 1 1, Value.slice a1 (keyB x.key).length c1]) (fun j v hj => by simpa using hj), rfl, fun i hi => ?_⟩
      match i, hi with
      | 0, _ => exact ⟨_, _, rfl, RowAt.ext (RowAt.of hn4.get fun j v hj => by have hj' : [Value.int .u8 0][j]? = some v := hj; simpa using hj') hn5.upd⟩
      | 1, _ => exact ⟨a1, c1, rfl, RowAt.ext hl2.bytes (hn4.upd.trans hn5.upd)⟩
    refine (rec_join_spec (cp := 2) hs (by simp) (by simp; omega)).mono ?_
    rintro _ w₆ ⟨he6, a3, c3, rfl, hl6⟩
    have e5 := e2.trans (hn4.upd.trans hn5.upd)
    exact ⟨_, _, _, rfl, hR _ _ ⟨a3, c3, rfl, hl6.weak e5.size, e5.trans he6⟩⟩
  · refine ⟨_, _, _, cell_of g2 rfl, br_dec (fun h1 => fail ?_ _ e2) fun h1 => ⟨_, _, _, cell_of g2 rfl, br_dec (fun h2 => fail ?_ _ e2) fun h2 => ?_⟩⟩
    · unfold mayC; rw [hm, hg, decide_eq_false (p := 1 ≤ x.val.length) (by omega)]; rfl
    · unfold mayC; rw [hm, hg, decide_eq_false (p := x.val.length ≤ 255) (by omega)]; simp
    have hmc : mayC x = true := by unfold mayC; rw [hm, hg, decide_eq_true (p := 1 ≤ x.val.length) (by omega), decide_eq_true (p := x.val.length ≤ 255) (by omega)]; rfl
    have hcb : changeB x = [[1], keyB x.key, UInt8.ofNat x.val.length :: x.val].flatten := by unfold changeB chgB; rw [hmc, hg]; simp
    rw [hmc, hcb] at hR
    refine ⟨_, _, _, cell_of g2 rfl, (ends_Row_spec (c := c) (RowAt.ext hb e2)).mono ?_⟩
    have hrb : rowB x.val = (UInt8.ofNat x.val.length :: x.val, 0) := by unfold rowB; rw [if_pos (by omega)]
    rw [hrb]
    rintro _ w₇ ⟨a7, c7, rfl, hl7, he7⟩
    refine ⟨_, _, _, _, rfl, fun B4 w₈ hn8 B5 w₉ hn9 => ?_⟩
    have hs : SlicesAt w₉ (some ⟨B5, 0, none⟩) [[1], keyB x.key, UInt8.ofNat x.val.length :: x.val] := by
      refine ⟨_, RowAt.of hn9.get (vs := [Value.slice (some ⟨B4, 0, none⟩) 1 1, Value.slice a1 (keyB x.key).length c1, Value.slice a7 (UInt8.ofNat x.val.length :: x.val).length c7]) (fun j v hj => by simpa using hj), rfl, fun i hi => ?_⟩
      match i, hi with
      | 0, _ => exact ⟨_, _, rfl, RowAt.ext (RowAt.of hn8.get fun j v hj => by have hj' : [Value.int .u8 1][j]? = some v := hj; simpa using hj') hn9.upd⟩
      | 1, _ => exact ⟨a1, c1, rfl, RowAt.ext hl2.bytes ((he7.trans hn8.upd).trans hn9.upd)⟩
      | 2, _ => exact ⟨a7, c7, rfl, RowAt.ext hl7.bytes (hn8.upd.trans hn9.upd)⟩
    refine (rec_join_spec (cp := 3) hs (by simp) (by simp; omega)).mono ?_
    rintro _ w₁₀ ⟨he10, a8, c8, rfl, hl10⟩
    have e9 := e2.trans ((he7.trans hn8.upd).trans hn9.upd)
    exact ⟨_, _, _, rfl, hR _ _ ⟨a8, c8, rfl, hl10.weak e9.size, e9.trans he10⟩⟩
theorem rec_body_spec {l : List Change} {w : World} {G : Nat → Prop} {a : Option Addr} {c : Nat} (h : SliceAt changeR w G a l) (hs : Small l) (hn : l.length < 9000000000000000000) :
    CallsR prog K.rec_body #[.slice a l.length c] w fun v w' => MayOut w w' v (if mayL l then bodyB l else []) (mayL l) := by
  apply rec_body.sh
  suffices H : ∀ R : Value → World → Prop, (∀ v w', MayOut w w' v (if mayL l then bodyB l else []) (mayL l) → R v w') → rec_body.body a l.length c w R from H _ fun _ _ h => h
  intro R hR
  unfold rec_body.body
  have fail : mayL l = false → ∀ u, Ext w u → R (.tuple #[.slice none 0 0, .bool false]) u := fun h u hu => hR _ _ (by
    rw [h]
    exact MayOut.none hu)
  refine br_dec (fun h1 => fail ?_ _ (Upd.refl _ _)) fun h1 => br_dec (fun h2 => fail ?_ _ (Upd.refl _ _)) fun h2 => ?_
  · unfold mayL; rw [decide_eq_false (p := 1 ≤ l.length) (by omega)]; rfl
  · unfold mayL; rw [decide_eq_false (p := l.length ≤ 255) (by omega)]; simp
  have hml : mayL l = l.all mayC := by unfold mayL; rw [decide_eq_true (p := 1 ≤ l.length) (by omega), decide_eq_true (p := l.length ≤ 255) (by omega)]; simp
  intro B1 w₁ hn1
  rw [bv_mod, Nat.mod_eq_of_lt (by omega)] at hn1
  have hs1 := hn1.size
  have hbase : BList w.heap.size w₁ (some ⟨B1, 0, none⟩) 1 [UInt8.ofNat l.length] := BList.new hn1 rfl (Nat.le_refl _)
  refine ⟨fun a1 l1 c1 x u => ∃ i : Nat, x = i ∧ i ≤ l.length ∧ (l.take i).all mayC = true ∧ l1 = (UInt8.ofNat l.length :: (l.take i).flatMap chgB).length ∧ BList w.heap.size u a1 c1 (UInt8.ofNat l.length :: (l.take i).flatMap chgB) ∧ Ext w u, fun _ _ _ x _ => ((l.length : Int) - x).toNat,
    ⟨0, rfl, by omega, rfl, rfl, by simpa using hbase, hn1.upd⟩, ?_⟩
  rintro a1 l1 c1 x u ⟨i, rfl, hi, hall, rfl, hl, heu⟩
  have hsu := heu.size
  refine br_dec (fun hlt => ?_) fun hge => ?_
  · have hi' : i < l.length := by omega
    have ew : IntKind.i64.wrap ((i : Int) + 1) = ((i + 1 : Nat) : Int) := w64 (by omega) (by omega)
    simp only [ew]
    refine SliceAt.idx (r := changeR) (h.ext heu) rfl hi' fun b o vs _ hrow hR' _ => ?_
    obtain ⟨av, cv, rfl, hcv, hbv, _⟩ := changeR_elim hR'
    refine ⟨_, _, _, _, _, _, _, _, hrow.cells, new_put rfl fun B2 w₄ hb4 hs4 e4 g4 => ?_⟩
    refine ⟨_, _, _, _, _, _, _, _, cells_all g4, (rec_change_spec l[i] (hbv.ext e4) (hs _ (List.getElem_mem hi'))).mono ?_⟩
    rintro _ w₅ ⟨a4, c4, rfl, hl5, he5⟩
    have e45 := e4.trans he5
    have hs45 := e45.size
    refine ⟨_, _, _, _, rfl, br_intro (fun hb => fail ?_ _ (heu.trans e45)) fun hb => ?_⟩
    · rw [hml]
      have : mayC l[i] = false := by simpa using hb
      rw [List.all_eq_false]
      exact ⟨l[i], List.getElem_mem hi', by rw [this]; simp⟩
    · have hmc : mayC l[i] = true := by simpa using hb
      have hcb : changeB l[i] = chgB l[i] := by unfold changeB; rw [hmc]; rfl
      rw [hcb] at hl5 ⊢
      have hcl := chgB_len hmc
      have hfl := flat_len_le (f := chgB) (n := 300) (l.take i) (fun x hx => chgB_len (List.all_eq_true.1 hall x hx))
      have htl : (l.take i).length = i := by rw [List.length_take]; omega
      rw [htl] at hfl
      refine BList.cat (hl.ext e45) rfl rfl hl5.bytes (by rw [List.length_cons]; omega) (by omega) fun a5 c5 w₆ hu6 hl6 => ?_
      have hcat : (UInt8.ofNat l.length :: (l.take i).flatMap chgB) ++ chgB l[i] = UInt8.ofNat l.length :: (l.take (i + 1)).flatMap chgB := by
        rw [List.take_succ_eq_append_getElem hi', List.flatMap_append]
        simp
      rw [hcat] at hl6 ⊢
      exact ⟨⟨i + 1, rfl, hi', by rw [all_take_succ hi', hall, hmc]; rfl, rfl, hl6, (heu.trans e45).beyond hu6 fun x hx => hx⟩, meas hi'⟩
  · have hii : i = l.length := by omega
    subst hii
    rw [List.take_length] at hl hall ⊢
    have hm : mayL l = true := by rw [hml]; exact hall
    rw [hm] at hR
    exact hR _ _ ⟨a1, c1, rfl, hl, heu⟩
theorem putPage_seal {size k : Int} {kind : UInt8} (hk : k = (kind.toNat : Int)) {a : Option Addr} {body : List UInt8} {c : Nat} {w : World} (h : BytesAt w a body) (hn : body.length ≤ 281474976710656) :
    CallsR prog K.seal_Put #[.int .i64 size, .int .u8 k, .slice a body.length c] w fun v w' => ∃ a' c', v = .tuple #[.slice a' (putPage size kind body).1.length c', .int .i64 ((putPage size kind body).2 : Nat)] ∧ BytesAt w' a' (putPage size kind body).1 ∧ Fresh w a' ∧ Ext w w' ∧ (putPage size kind body).1.length ≤ c' := by
  refine (seal_Put_spec size k kind hk h hn).mono ?_
  rintro v w' ⟨he, hv⟩
  unfold putPage
  by_cases h1 : isSize size = false ∨ kind < 1 ∨ kind > 7
  · rw [if_pos h1] at hv
    rw [if_pos h1, hv]
    exact ⟨none, 0, rfl, RowAt.nil _ _, Fresh.none _, he, Nat.le_refl _⟩
  · rw [if_neg h1] at hv
    rw [if_neg h1]
    by_cases h2 : (body.length : Int) > size - 5
    · rw [if_pos h2] at hv
      rw [if_pos h2, hv]
      exact ⟨none, 0, rfl, RowAt.nil _ _, Fresh.none _, he, Nat.le_refl _⟩
    · rw [if_neg h2] at hv
      rw [if_neg h2]
      obtain ⟨a', c', rfl, hb, hf, hc⟩ := hv
      have hl : (pageOf size.toNat kind body).length = size.toNat := pageOf_length _ _ _ (by omega)
      exact ⟨a', c', by rw [hl]; rfl, hb, hf, he, by rw [hl]; exact hc⟩
/-- a page that is answered: bytes of new memory, and a number -/
def PutOut (w w' : World) (v : Value) (r : List UInt8 × Nat) : Prop := ∃ a c, v = .tuple #[.slice a r.1.length c, .int .i64 (r.2 : Nat)] ∧ BytesAt w' a r.1 ∧ Fresh w a ∧ Ext w w' ∧ r.1.length ≤ c
theorem rec_Put_spec {l : List Change} {w : World} {G : Nat → Prop} {a : Option Addr} {c : Nat} (h : SliceAt changeR w G a l) (hs : Small l) (hn : l.length < 9000000000000000000) (size : Int) :
    CallsR prog K.rec_Put #[.int .i64 size, .slice a l.length c] w fun v w' => PutOut w w' v (putL size l) := by
  apply rec_Put.sh
  suffices H : ∀ R : Value → World → Prop, (∀ v w', PutOut w w' v (putL size l) → R v w') → rec_Put.body size a l.length c w R from H _ fun _ _ h => h
  intro R hR
  unfold rec_Put.body
  refine (rec_body_spec h hs hn).mono ?_
  rintro _ w₁ ⟨a1, c1, rfl, hl1, he1⟩
  refine ⟨_, _, _, _, rfl, br_intro (fun hm => ?_) fun hm => ?_⟩
  · have hp : putL size l = ([], 2) := by unfold putL; rw [if_neg (by simpa using hm)]
    rw [hp] at hR
    exact hR _ _ ⟨none, 0, rfl, RowAt.nil _ _, Fresh.none _, he1, Nat.le_refl _⟩
  · have hm' : mayL l = true := by simpa using hm
    have hp : putL size l = putPage size 2 (bodyB l) := by unfold putL; rw [if_pos hm']
    rw [hp] at hR
    rw [if_pos hm'] at hl1 ⊢
    have := bodyB_len hm'
    refine (putPage_seal (kind := 2) rfl hl1.bytes (by omega)).mono ?_
    rintro _ w₂ ⟨a2, c2, rfl, hb2, hf2, he2, hc2⟩
    exact ⟨_, _, _, _, rfl, hR _ _ ⟨a2, c2, rfl, hb2, hf2.mono he1.size, he1.trans he2, hc2⟩⟩
theorem rec_PutDrop_spec (size : Int) (seq : Nat) (hq : seq < 18446744073709551616) (w : World) :
    CallsR prog K.rec_PutDrop #[.int .i64 size, .int .u64 seq] w fun v w' => PutOut w w' v (putDropB size seq) := by
  apply rec_PutDrop.sh
  suffices H : ∀ R : Value → World → Prop, (∀ v w', PutOut w w' v (putDropB size seq) → R v w') → rec_PutDrop.body size seq w R from H _ fun _ _ h => h
  intro R hR
  unfold rec_PutDrop.body
  refine br_eq (fun h0 => ?_) fun h0 => ?_
  · have hp : putDropB size seq = ([], 2) := by unfold putDropB; rw [if_pos (by omega)]
    rw [hp] at hR
    exact hR _ _ ⟨none, 0, rfl, RowAt.nil _ _, Fresh.none _, Upd.refl _ _, Nat.le_refl _⟩
  · have hp : putDropB size seq = putPage size 3 (leB seq 8) := by unfold putDropB; rw [if_neg (by omega)]
    rw [hp] at hR
    refine (ends_Put_spec seq 8 w (by rfl) (by rw [show (256 : Nat) ^ 8 = 18446744073709551616 by decide]; exact hq)).mono ?_
    rintro _ w₁ ⟨a1, c1, rfl, hb1, hf1, he1⟩
    have hlen := leB_length 8 seq
    refine ⟨_, _, _, _, rfl, ?_⟩
    have hput := putPage_seal (size := size) (kind := 3) (c := c1) rfl hb1 (by omega)
    rw [hlen] at hput
    refine hput.mono ?_
    rintro _ w₂ ⟨a2, c2, rfl, hb2, hf2, he2, hc2⟩
    exact ⟨_, _, _, _, rfl, hR _ _ ⟨a2, c2, rfl, hb2, hf2.mono he1.size, he1.trans he2, hc2⟩⟩
end Go.Den
end
section
set_option linter.unusedVariables false
set_option linter.unusedSimpArgs false
namespace Go.Den
def bit (x : UInt8) (k : Nat) : Bool := x.toBitVec.getLsbD k
theorem bit_nat (x : UInt8) (k : Nat) : bit x k = x.toNat.testBit k := rfl
theorem bit_div (x : UInt8) (k : Nat) : (x.toNat / 2 ^ k % 2 == 0) = !bit x k := by
  rw [bit_nat, Nat.testBit_eq_decide_div_mod_eq]
  have : x.toNat / 2 ^ k % 2 = 0 ∨ x.toNat / 2 ^ k % 2 = 1 := by omega
  rcases this with h | h <;> rw [h] <;> rfl
theorem bit_ext {x y : UInt8} (h : ∀ k, k < 8 → bit x k = bit y k) : x = y := by
  have : x.toBitVec = y.toBitVec := BitVec.eq_of_getLsbD_eq fun k hk => h k hk
  exact UInt8.toBitVec_inj.1 this
theorem zeros8_bits (x : UInt8) : zeros8 x = ((List.range 8).filter fun k => !bit x k).length := by
  unfold zeros8
  congr 2
  funext k
  exact bit_div x k
theorem filter_le {α : Type} {p q : α → Bool} : ∀ {l : List α}, (∀ a ∈ l, p a = true → q a = true) → (l.filter p).length ≤ (l.filter q).length ∧ ((l.filter p).length = (l.filter q).length → ∀ a ∈ l, q a = true → p a = true)
  | [], _ => by simp
  | a :: l, h => by
    obtain ⟨h1, h2⟩ := filter_le (l := l) fun b hb => h b (by simp [hb])
    have ha := h a (by simp)
    simp only [List.filter_cons]
    cases hp : p a with
    | true =>
      have hq := ha hp
      simp only [hq, if_true, List.length_cons]
      refine ⟨by omega, fun he b hb hqb => ?_⟩
      rcases List.mem_cons.1 hb with rfl | hb
      · exact hp
      · exact h2 (by omega) b hb hqb
    | false =>
      cases hq : q a with
      | true =>
        simp only [Bool.false_eq_true, if_false, if_true, List.length_cons]
        exact ⟨by omega, fun he => by omega⟩
      | false =>
        simp only [Bool.false_eq_true, if_false]
        refine ⟨h1, fun he b hb hqb => ?_⟩
        rcases List.mem_cons.1 hb with rfl | hb
        · rw [hq] at hqb; cases hqb
        · exact h2 he b hb hqb
/-- y's bits are bits of x -/
def sub8 (y x : UInt8) : Prop := ∀ k, bit y k = true → bit x k = true
theorem sub8_zeros {y x : UInt8} (h : sub8 y x) : zeros8 x ≤ zeros8 y ∧ (zeros8 x = zeros8 y → x = y) := by
  rw [zeros8_bits, zeros8_bits]
  obtain ⟨h1, h2⟩ := filter_le (p := fun k => !bit x k) (q := fun k => !bit y k) (l := List.range 8) (fun k _ hk => by
    cases hy : bit y k with
    | false => rfl
    | true => rw [h k hy] at hk; cases hk)
  refine ⟨h1, fun he => bit_ext fun k hk => ?_⟩
  have := h2 he k (by simpa using hk)
  cases hy : bit y k with
  | true => exact h k hy
  | false =>
    rw [hy] at this
    simpa using this
theorem sub8_le {y x : UInt8} (h : sub8 y x) : y.toNat ≤ x.toNat := by
  have : y.toNat &&& x.toNat = y.toNat := by
    apply Nat.eq_of_testBit_eq
    intro k
    rw [Nat.testBit_and]
    have := h k
    rw [bit_nat, bit_nat] at this
    cases hy : y.toNat.testBit k with
    | false => rfl
    | true => rw [this hy]; rfl
  rw [← this]
  exact Nat.and_le_right
theorem sub8_refl (x : UInt8) : sub8 x x := fun _ h => h
theorem sub8_trans {x y z : UInt8} (h : sub8 x y) (k : sub8 y z) : sub8 x z := fun i hi => k i (h i hi)
/-- bit by bit, of lists -/
def SubL (Q X : List UInt8) : Prop := Q.length = X.length ∧ ∀ i, i < Q.length → sub8 (Q.getD i 0) (X.getD i 0)
theorem SubL.refl (Q : List UInt8) : SubL Q Q := ⟨rfl, fun _ _ => sub8_refl _⟩
theorem SubL.trans {A B C : List UInt8} (h : SubL A B) (k : SubL B C) : SubL A C := ⟨h.1.trans k.1, fun i hi => sub8_trans (h.2 i hi) (k.2 i (by rw [← h.1]; exact hi))⟩
theorem SubL.cons {y x : UInt8} {ys xs : List UInt8} (h : SubL (y :: ys) (x :: xs)) : sub8 y x ∧ SubL ys xs := by
  obtain ⟨hl, hb⟩ := h
  refine ⟨hb 0 (by simp), by simpa using hl, fun i hi => ?_⟩
  exact hb (i + 1) (by simpa using hi)
theorem SubL.take {A B : List UInt8} (h : SubL A B) (n : Nat) : SubL (A.take n) (B.take n) := by
  refine ⟨by simp [h.1], fun i hi => ?_⟩
  have hi' : i < A.length ∧ i < n := by simp at hi; omega
  have hb := h.2 i hi'.1
  have hl := h.1
  simpa [List.getD, List.getElem?_take, hi'.2] using hb
theorem SubL.drop {A B : List UInt8} (h : SubL A B) (n : Nat) : SubL (A.drop n) (B.drop n) := by
  refine ⟨by simp [h.1], fun i hi => ?_⟩
  have hb := h.2 (n + i) (by simp at hi; omega)
  simpa [List.getD] using hb
theorem SubL.nts : ∀ {Q X : List UInt8}, SubL Q X → noughts X ≤ noughts Q ∧ (noughts X = noughts Q → X = Q)
  | [], [], _ => ⟨Nat.le_refl _, fun _ => rfl⟩
  | [], _ :: _, h => by have := h.1; simp at this
  | _ :: _, [], h => by have := h.1; simp at this
  | y :: ys, x :: xs, h => by
    obtain ⟨h1, h2⟩ := h.cons
    obtain ⟨a1, a2⟩ := sub8_zeros h1
    obtain ⟨b1, b2⟩ := SubL.nts h2
    have e1 : noughts (x :: xs) = zeros8 x + noughts xs := by simp [Go.Den.noughts]
    have e2 : noughts (y :: ys) = zeros8 y + noughts ys := by simp [Go.Den.noughts]
    rw [e1, e2]
    refine ⟨by omega, fun he => ?_⟩
    rw [a2 (by omega), b2 (by omega)]
theorem SubL.fle : ∀ {Q X : List UInt8}, SubL Q X → fromLE Q ≤ fromLE X
  | [], [], _ => Nat.le_refl _
  | [], _ :: _, h => by have := h.1; simp at this
  | _ :: _, [], h => by have := h.1; simp at this
  | y :: ys, x :: xs, h => by
    obtain ⟨h1, h2⟩ := h.cons
    have a := sub8_le h1
    have b := SubL.fle h2
    simp only [Go.Den.fromLE]
    omega
theorem SubL.antisymm {A B : List UInt8} (h : SubL A B) (k : SubL B A) : A = B := by
  have h1 := h.nts
  have h2 := k.nts
  exact (h1.2 (by omega)).symm
/-- bytes that tell their noughts -/
def Sound (Q : List UInt8) : Prop := 2 ≤ Q.length ∧ fromLE (Q.take 2) = noughts (Q.drop 2)
/-- bytes that have but bits too many -/
def Safe (X : List UInt8) : Prop := ∃ Q, Sound Q ∧ SubL Q X
theorem berger {Q X : List UInt8} (h : SubL Q X) (hq : Sound Q) (hx : Sound X) : X = Q := by
  have h1 := (h.drop 2).nts
  have h2 := (h.take 2).fle
  have e1 := hq.2
  have e2 := hx.2
  have hd : X.drop 2 = Q.drop 2 := h1.2 (by omega)
  have hf : fromLE (X.take 2) = fromLE (Q.take 2) := by rw [e1, e2, hd]
  have hl : (X.take 2).length = (Q.take 2).length := by simp [h.1]
  have ht : X.take 2 = Q.take 2 := by
    have a := leB_fromLE (X.take 2)
    have b := leB_fromLE (Q.take 2)
    rw [hf, hl, b] at a
    exact a.symm
  rw [← List.take_append_drop 2 X, ht, hd, List.take_append_drop]
theorem Safe.same {X Y : List UInt8} (h : Safe X) (k : SubL X Y) (hy : Sound Y) : Y = X := by
  obtain ⟨Q, hq, hs⟩ := h
  have e := berger (hs.trans k) hq hy
  subst e
  exact SubL.antisymm hs k
/-! ### What a hit leaves -/
end Go.Den
end
section
set_option linter.unusedVariables false
set_option linter.unusedSimpArgs false
namespace Go.Den
end Go.Den
end
section
set_option linter.unusedVariables false
set_option linter.unusedSimpArgs false
namespace Go.Den
/-! ### Deeds -/
structure Deed (c c' : Chip) (i e : Nat) : Prop where
  geo : c.SameGeo c'
  ok : c'.Ok
  blk : ∀ j, j ≠ i → c'.blk j = c.blk j
  bad : ∀ j, j ≠ i → c'.isBad j = c.isBad j
  cases : (e = 0 ∧ c'.dead = c.dead ∧ c'.bad = c.bad) ∨ (e = 9 ∧ c'.dead = c.dead ∧ c'.isBad i = true) ∨ (e = 10 ∧ c'.dead = true ∧ c'.bad = c.bad)
  calm : (∀ t ∈ c.hits, t.fails = false) → e ≠ 9 ∧ (∀ t ∈ c'.hits, t.fails = false) ∧ c'.bad = c.bad
  quiet : c.hits = [] → e = 0 ∧ c'.hits = []
theorem getD_set_ne {α : Type} {l : List α} {i j : Nat} {x d : α} (h : j ≠ i) : (l.set i x).getD j d = l.getD j d := by
  simp [List.getD, List.getElem?_set_ne (Ne.symm h)]
/-! ### Heads, views, the invariant -/
def hd (c : Chip) (i : Nat) : Head × Nat := getHead (c.page i 0)
def isHd (c : Chip) (i : Nat) : Prop := (hd c i).2 = 0
def view (c : Chip) (i : Nat) : Blk := if (hd c i).2 = 0 then ⟨2, (hd c i).1⟩ else if isBlank (c.blk i) then ⟨0, Head.none⟩ else ⟨1, Head.none⟩
theorem view_what (c : Chip) (i : Nat) : (view c i).what = 2 ↔ isHd c i := by
  unfold view isHd
  split
  · rename_i h; simp [h]
  · rename_i h; split <;> simp [h]
structure CI (c : Chip) : Prop where
  ok : c.Ok
  safe : ∀ i, i < c.nb → Safe (c.page i 0)
  uniq : ∀ i j, i < c.nb → j < c.nb → i ≠ j → isHd c i → isHd c j → (hd c i).1.seq ≠ (hd c j).1.seq
structure Inv (P : Pool) (c : Chip) : Prop where
  ci : CI c
  len : P.blocks.length = c.nb
  known : c.dead = false → ∀ i, i < c.nb → P.blk i = view c i
  last : ∀ i, i < c.nb → isHd c i → (hd c i).1.seq ≤ P.last
end Go.Den
end
section
set_option linter.unusedVariables false
set_option linter.unusedSimpArgs false
namespace Go.Den
theorem isBlank_eq {l : List UInt8} (h : isBlank l = true) : l = List.replicate l.length 255 := by
  refine List.eq_replicate_iff.2 ⟨rfl, fun b hb => ?_⟩
  simp only [isBlank, List.all_eq_true, beq_iff_eq] at h
  exact h b hb
theorem Deed.trans {c c1 c2 : Chip} {i e : Nat} (h : Deed c c1 i 0) (k : Deed c1 c2 i e) : Deed c c2 i e := by
  obtain ⟨hd1, hb1⟩ : c1.dead = c.dead ∧ c1.bad = c.bad := by
    rcases h.cases with ⟨_, a, b⟩ | ⟨a, _⟩ | ⟨a, _⟩
    · exact ⟨a, b⟩
    · cases a
    · cases a
  refine ⟨h.geo.trans k.geo, k.ok, fun j hj => (k.blk j hj).trans (h.blk j hj), fun j hj => (k.bad j hj).trans (h.bad j hj), ?_, fun hc => ?_, fun hq => k.quiet (h.quiet hq).2⟩
  · rcases k.cases with ⟨a, b, d⟩ | ⟨a, b, d⟩ | ⟨a, b, d⟩
    · exact .inl ⟨a, by rw [b, hd1], by rw [d, hb1]⟩
    · exact .inr (.inl ⟨a, by rw [b, hd1], d⟩)
    · exact .inr (.inr ⟨a, b, by rw [d, hb1]⟩)
  · have h1 := h.calm hc
    have k1 := k.calm h1.2.1
    exact ⟨k1.1, k1.2.1, by rw [k1.2.2, hb1]⟩
end Go.Den
end
section
set_option linter.unusedVariables false
set_option linter.unusedSimpArgs false
namespace Go.Den
theorem Inv.what {P : Pool} {c : Chip} (h : Inv P c) (hd0 : c.dead = false) {i : Nat} (hi : i < c.nb) : (P.blk i).what = 2 ↔ isHd c i := by
  rw [h.known hd0 i hi]; exact view_what c i
end Go.Den
end
section
set_option linter.unusedVariables false
set_option linter.unusedSimpArgs false
namespace Go.Den
/-! ### Rows by rising numbers -/
/-! ### Taken blocks -/
/-! ### Scan -/
end Go.Den
end
section
set_option linter.unusedVariables false
set_option linter.unusedSimpArgs false
namespace Go.Den
theorem setHits_geo (c : Chip) (hs : List Hit) : c.SameGeo (c.setHits hs).1 ∧ (c.setHits hs).1.dead = c.dead ∧ (hs = [] → c.hits = [] → (c.setHits hs).1.hits = []) := by
  unfold Chip.setHits
  split
  · exact ⟨.refl _, rfl, fun _ h => h⟩
  · exact ⟨⟨rfl, rfl, rfl, rfl⟩, rfl, fun h _ => h⟩
end Go.Den
end
section
set_option linter.unusedVariables false
namespace Go.Den
end Go.Den
end
section
set_option linter.unusedVariables false
namespace Go.Den
end Go.Den
end
section
set_option linter.unusedVariables false
set_option linter.unusedSimpArgs false
namespace Go.Den
/-- behind a page all is blank -/
def OpenFrom (c : Chip) (i k : Nat) : Prop := isBlank ((c.blk i).drop (k * c.sz)) = true
theorem OpenFrom.mono {c : Chip} {i k m : Nat} (h : OpenFrom c i k) (hkm : k ≤ m) : OpenFrom c i m := by
  unfold OpenFrom isBlank at *
  obtain ⟨d, rfl⟩ := Nat.exists_eq_add_of_le hkm
  rw [Nat.add_mul, ← List.drop_drop]
  rw [List.all_eq_true] at h ⊢
  exact fun x hx => h x (List.mem_of_mem_drop hx)
theorem OpenFrom.page {c : Chip} (ho : c.Ok) {i k m : Nat} (hi : i < c.nb) (h : OpenFrom c i k) (hkm : k ≤ m) (hm : m < c.np) : c.page i m = List.replicate c.sz 255 := by
  have h' := h.mono hkm
  have hlen := ho.blk_len hi
  have hp := page_in hm
  unfold OpenFrom at h'
  have := isBlank_eq h'
  unfold Chip.page
  rw [this, List.take_replicate, List.length_drop, hlen]
  congr 1
  omega
theorem OpenFrom.blk {c c' : Chip} (hg : c.SameGeo c') {i k : Nat} (h : OpenFrom c i k) (hb : c'.blk i = c.blk i) : OpenFrom c' i k := by
  unfold OpenFrom at *
  rw [hb, hg.2.2.1]; exact h
end Go.Den
end
section
set_option linter.unusedVariables false
set_option linter.unusedSimpArgs false
namespace Go.Den
structure Turn where
  from_ : UInt8
  to : UInt8
  phase : UInt8
  deriving DecidableEq
namespace Turn
def zero : Turn := ⟨0, 0, 0⟩
def body (t : Turn) : List UInt8 := [t.from_, t.to, t.phase]
def vals (t : Turn) : List Value := [bv t.from_, bv t.to, bv t.phase]
def may (t : Turn) : Bool := ((t.from_ == 1 && t.to == 2) || (t.from_ == 2 && t.to == 1)) && (t.phase == 1 || t.phase == 2)
end Turn
/-- what a journal says -/
structure Saying where
  begun : Bool
  done : Bool
  turn : Turn
def Saying.zero : Saying := ⟨false, false, Turn.zero⟩
/-! ### What is said -/
structure Saying.Le (s s' : Saying) : Prop where
  begun : s.begun = true → s'.begun = true ∧ s'.turn = s.turn
  done : s.done = true → s'.done = true
  zero : s.turn.phase = 0 → s'.turn.phase = 0
theorem Saying.Le.refl (s : Saying) : s.Le s := ⟨fun h => ⟨h, rfl⟩, fun h => h, fun h => h⟩
theorem Saying.Le.trans {a b c : Saying} (h : a.Le b) (k : b.Le c) : a.Le c :=
  ⟨fun e => ⟨(k.begun (h.begun e).1).1, ((k.begun (h.begun e).1).2).trans (h.begun e).2⟩, fun e => k.done (h.done e), fun e => k.zero (h.zero e)⟩
end Go.Den
end
section
set_option linter.unusedVariables false
set_option linter.unusedSimpArgs false
namespace Go.Den
/-! ### A writing without hits -/
/-! ### A writing that is cut -/
/-! ### Away without hits -/
end Go.Den
end
section
set_option linter.unusedVariables false
set_option linter.unusedSimpArgs false
set_option maxRecDepth 8000
namespace Go.Den
end Go.Den
end
section
set_option linter.unusedVariables false
set_option linter.unusedSimpArgs false
set_option maxRecDepth 8000
namespace Go.Den
theorem cGeo {F : Nat → Prop} {A : Nat} {w : World} {p : Nat} {c : Chip} (h : CIn F A w p c) :
    CallsR prog K.nand_Chip_Geo #[.pointer (some ⟨p, 0, none⟩)] w fun v w' => v = .agg #[.int .i64 c.nb, .int .i64 c.np, .int .i64 c.sz, .int .i64 c.sp] ∧ Ext w w' := by
  obtain ⟨L, G, hr, _⟩ := h
  exact nand_Geo_spec hr
theorem cReadAt {F : Nat → Prop} {A : Nat} {w : World} {p : Nat} {c : Chip} (h : CIn F A w p c) (block page : Int) :
    CallsR prog K.nand_Chip_Read #[.pointer (some ⟨p, 0, none⟩), .int .i64 block, .int .i64 page] w fun v w' => Ext w w' ∧
      if c.ask block page = 0 then ∃ a cp, v = .tuple #[.slice a c.sz cp, .int .i64 0] ∧ BytesAt w' a (c.page block.toNat page.toNat) ∧ c.sz ≤ cp ∧ Fresh w a
      else v = .tuple #[.slice none 0 0, .int .i64 (c.ask block page : Nat)] := by
  obtain ⟨L, G, hr, _⟩ := h
  exact nand_Read_spec hr block page
/-- a page that is there -/
theorem cPage {F : Nat → Prop} {A : Nat} {w : World} {p : Nat} {c : Chip} (h : CIn F A w p c) (hd0 : c.dead = false) {i k : Nat} (hi : i < c.nb) (hk : k < c.np) :
    CallsR prog K.nand_Chip_Read #[.pointer (some ⟨p, 0, none⟩), .int .i64 i, .int .i64 k] w fun v w' => Ext w w' ∧ ∃ a cp, v = .tuple #[.slice a (c.page i k).length cp, .int .i64 0] ∧ BytesAt w' a (c.page i k) ∧ (c.page i k).length ≤ cp ∧ Fresh w a := by
  refine (cReadAt h i k).mono ?_
  rintro v w' ⟨he, hv⟩
  rw [if_pos (ask_ok hd0 hi hk)] at hv
  obtain ⟨a, cp, rfl, hb, hc, hf⟩ := hv
  simp only [Int.toNat_natCast] at hb
  rw [← page_len h.ok hi hk]
  exact ⟨he, a, cp, rfl, hb, by rw [page_len h.ok hi hk]; exact hc, hf⟩
end Go.Den
end
