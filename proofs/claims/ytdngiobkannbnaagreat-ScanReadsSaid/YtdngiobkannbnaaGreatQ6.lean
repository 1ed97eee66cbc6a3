/- How layer 12's arguments are opened. (Merged by program: SOwn SApply SPlay SPlay2 SJour3 SScan4 MTaken SScan5 Frame Frame2 Frame3 Frame4 Open12.) -/
import Derived.Test.YtdngiobkannbnaaGreatQ5
import Derived.Lib.Overlaps
import Derived.ProofKit
import Derived.Carry
import Derived.OpenShut
import Derived.SizedLaws
import Derived.Test.YtdngiobkannbnaaGreatRows
section
set_option linter.unusedVariables false
set_option linter.unusedSimpArgs false
set_option maxRecDepth 8000
namespace Go.Den
theorem fact_own_spec (a : Option Addr) (n c : Nat) (w : World) : CallsR prog K.fact_own #[.slice a n c] w fun v w' => ∃ B, v = .func (.func K.fact_own_1) #[] #[.pointer (some ⟨B, 0, none⟩)] ∧ New w (.cells #[.slice a n c] T.L_api_Fact) B w' := by
  apply fact_own.sh
  unfold fact_own.body
  intro B w1 hn
  exact ⟨B, rfl, hn⟩
theorem key4 {w : World} {b : Nat} {cs : Array Value} {T : TypeId} {k : Key} (h : w.heap[b]? = some (.cells cs T (0, 0))) (hc : cs.toList.take 4 = [.int .i64 k.ino, bv k.what, .string k.name, .int .i64 k.chunk]) : cellsAt w ⟨b, 0, none⟩ [.int .i64 k.ino, bv k.what, .string k.name, .int .i64 k.chunk] 0 := by
  refine cellsAt_of h fun j v hj => ?_
  rw [← hc, List.getElem?_take] at hj
  split at hj
  · simpa using hj
  · cases hj
/-- the iterator: J i holds when i facts have been handed out -/
theorem fact_own_1_spec {w : World} {B l : Nat} {a : Option Addr} {c : Nat} {fs : List Fact} {J : Nat → World → Prop} (hn : fs.length < 4000000000000000000)
    (hB : ∀ i W, J i W → W.heap[B]? = some (.cells #[.slice a fs.length c] T.L_api_Fact (0, 0)))
    (hfs : ∀ i W, J i W → ∃ G, SliceAt factR W G a fs) (hval : ∀ f ∈ fs, f.val.length ≤ 140737488355232)
    (hJ : ∀ i W W', J i W → Ext W W' → J i W')
    (hY : ∀ (i : Nat) (hi : i < fs.length) (W W' : World) (av : Option Addr) (cv : Nat), J i W → Ext W W' → OwnAt W' av fs[i].val.length cv T.uint8 1 (fs[i].val.map bv) → Fresh W av →
      yieldP prog l [.agg #[.int .i64 fs[i].key.ino, bv fs[i].key.what, .string fs[i].key.name, .int .i64 fs[i].key.chunk, .slice av fs[i].val.length cv]] W' fun v w' => v = .bool true ∧ J (i + 1) w' ∧ ∀ b, W.heap.size ≤ b → b < W'.heap.size → w'.heap[b]? = W'.heap[b]?)
    (h0 : J 0 w) : CallsR prog K.fact_own_1 #[.func (.yield l) #[] #[], .pointer (some ⟨B, 0, none⟩)] w fun _ w' => J fs.length w' := by
  apply fact_own_1.sh
  suffices H : ∀ R : Value → World → Prop, (∀ v w', J fs.length w' → R v w') → fact_own_1.body (.func (.yield l) #[] #[]) ⟨B, 0, none⟩ w R from H _ fun _ _ h => h
  intro R hR
  unfold fact_own_1.body
  refine ⟨_, _, _, cell_of (hB 0 w h0) rfl, fun x u => ∃ i : Nat, x = i ∧ i ≤ fs.length ∧ J i u, fun x _ => ((fs.length : Int) - x).toNat, ⟨0, rfl, by omega, h0⟩, ?_⟩
  rintro x u ⟨i, rfl, hi, hj⟩
  refine br_dec (fun hlt => ?_) fun hge => ?_
  · have hi' : i < fs.length := by omega
    have ew : IntKind.i64.wrap ((i : Int) + 1) = ((i + 1 : Nat) : Int) := w64 (by omega) (by omega)
    simp only [ew]
    obtain ⟨G, hs⟩ := hfs i u hj
    refine SliceAt.idx (r := factR) hs rfl hi' fun b o vs _ hrow hR' _ => ?_
    obtain ⟨av, cv, rfl, hcv, hbv, hg⟩ := factR_elim hR'
    refine ⟨_, _, _, _, _, _, _, hrow.cells, new_put rfl fun B1 w3 hB1 hs3 e3 g3 => ?_⟩
    intro w4 hd4
    have g4 := Ext.get hd4.upd g3
    have e4 : Ext u w4 := e3.trans hd4.upd
    refine ⟨fun v => v.heap[B1]? = some (.cells #[.int .i64 fs[i].key.ino, bv fs[i].key.what, .string fs[i].key.name, .int .i64 fs[i].key.chunk, .slice av fs[i].val.length cv] T.api_Fact (0, 0)), g4, fs[i].key.ino, (fs[i].key.what.toNat : Int), fs[i].key.name, fs[i].key.chunk, fun v hv => key4 hv rfl, _, _, _, fun v hv => cell_of hv rfl, ?_⟩
    refine (slices_Clone_byte_spec (c := cv) (RowAt.ext hbv e4) (hval _ (List.getElem_mem hi'))).mono ?_
    rintro _ w5 ⟨he5, av', cv', rfl, ho5, hf5⟩
    refine ⟨_, _, _, rfl, Ext.get he5 g4, rfl, rfl, ?_⟩
    have hy := hY i hi' u w5 av' cv' hj (e4.trans he5) ho5 (hf5.mono e4.size)
    intro F m hF
    obtain ⟨fn, tmps, ac, bd, h1, h2⟩ := hy F m hF
    refine ⟨fn, tmps, ac, bd, h1, h2.mono fun e w6 he => ?_⟩
    obtain ⟨v, rfl, rfl, hj', hkeep⟩ := he
    have g6 := (hkeep B1 (by omega) (by have := he5.size; have := hd4.upd.size; omega)).trans (Ext.get he5 g4)
    exact ⟨_, rfl, _, rfl, g6, ⟨i + 1, rfl, hi', hj'⟩, meas hi'⟩
  · have : i = fs.length := by omega
    subst this
    exact hR _ _ hj
/-! ### A fact is cut out of a list of the call's own -/
theorem delete_cells {C cells new zs : List Value} {p q : Nat} (hp : p ≤ C.length) (hq : q = p + new.length) (hq2 : q ≤ C.length) : (spl (spl C p new) q zs).take q = C.take p ++ new := by
  have hl : (spl C p new).length = C.length := spl_length (by omega)
  rw [spl_take_lo (Nat.le_refl _) (by omega), hq, spl_take_at hp]
theorem slices_Delete_spec {w : World} {G : Nat → Prop} {b cap : Nat} {l : List Fact} {i : Nat} (h : OwnS factR w G (some ⟨b, 0, none⟩) cap T.api_Fact l) (hG : ¬ G b) (hi : i < l.length) (hn : l.length ≤ 1000000000) :
    CallsR prog K.slices_Delete_api_Fact #[.slice (some ⟨b, 0, none⟩) l.length cap, .int .i64 i, .int .i64 ((i + 1 : Nat) : Int)] w fun v w' => v = .slice (some ⟨b, 0, none⟩) (l.length - 1) cap ∧ OwnS factR w' G (some ⟨b, 0, none⟩) cap T.api_Fact (l.take i ++ l.drop (i + 1)) ∧ Upd (· = b) w w' := by
  obtain ⟨vs, ho, hr⟩ := h
  have hcap := ho.2.1
  obtain ⟨C, hC, hCl, hCt⟩ := ho.full
  have hvl := Rows.len hr
  have hk5 : factR.k = 5 := rfl
  rw [hk5] at hCl hCt hvl
  apply slices_Delete_api_Fact.sh
  suffices H : ∀ R : Value → World → Prop, (∀ v w', v = .slice (some ⟨b, 0, none⟩) (l.length - 1) cap ∧ OwnS factR w' G (some ⟨b, 0, none⟩) cap T.api_Fact (l.take i ++ l.drop (i + 1)) ∧ Upd (· = b) w w' → R v w') →
      slices_Delete_api_Fact.body (some ⟨b, 0, none⟩) l.length cap i ((i + 1 : Nat) : Int) w R from H _ fun _ _ h => h
  intro R hR
  unfold slices_Delete_api_Fact.body
  refine slice_any (lo := i) (hi := i + 1) (mx := l.length) (by simp) (by simp) (by simp) (by omega) (by omega) (by omega) (by simp) fun a0 _ => ?_
  refine br_eq (fun e => by omega) fun _ => ?_
  intro w1 hd1
  have hC1 : Full w1 b T.api_Fact C := Ext.get hd1.upd hC
  refine ⟨fun v => Ext w1 v, Upd.refl _ _, ?_⟩
  refine slice_any (lo := 0) (hi := i) (mx := cap) (by simp) (by simp) (by simp) (by omega) (by omega) (by omega) (by simp) fun a2 ha2 => ?_
  have ha2 : a2 = some ⟨b, 0, none⟩ := by rcases ha2 with h | ⟨_, h⟩ <;> simpa using h
  subst ha2
  refine slice_any (lo := i + 1) (hi := l.length) (mx := cap) (by simp) (by simp) (by simp) (by omega) (by omega) (by omega) (by simp) fun a3 ha3 => ?_
  have hnewl : ((C.drop ((i + 1) * 5)).take ((l.length - (i + 1)) * 5)).length = (l.length - (i + 1)) * 5 := by rw [List.length_take, List.length_drop, hCl]; omega
  have hrow : RowAt w1 a3 ((C.drop ((i + 1) * 5)).take ((l.length - (i + 1)) * 5)) := by
    rcases ha3 with rfl | ⟨h0, rfl⟩
    · exact hC1.row _ _
    · have : l.length - (i + 1) = 0 := by omega
      rw [this]
      exact RowAt.nil _ _
  have hone : ∀ v ∈ (C.drop ((i + 1) * 5)).take ((l.length - (i + 1)) * 5), v.oneCell' = true := by
    have e : (C.drop ((i + 1) * 5)).take ((l.length - (i + 1)) * 5) = vs.drop ((i + 1) * 5) := by
      rw [← hCt, List.drop_take]
      congr 1
      omega
    rw [e]
    intro v hv
    exact Rows.one hr v (List.mem_of_mem_drop hv)
  simp only [Nat.sub_zero]
  refine hC1.append_in hCl rfl (read_row hrow hnewl) hnewl hone (by omega) fun w2 hu2 hC2 => ?_
  have hl4 : i + (l.length - (i + 1)) = l.length - 1 := by omega
  rw [hl4]
  refine slice_any (lo := l.length - 1) (hi := l.length) (mx := cap) (by simp) (by simp) (by simp) (by omega) (by omega) (by omega) (by simp) fun a5 ha5 => ?_
  have ha5 : a5 = some ⟨b, (l.length - 1) * 5, none⟩ := by
    rcases ha5 with h | ⟨h, _⟩
    · exact h
    · omega
  subst ha5
  have e1 : l.length - (l.length - 1) = 1 := by omega
  rw [e1]
  have hsl : (spl C (i * 5) ((C.drop ((i + 1) * 5)).take ((l.length - (i + 1)) * 5))).length = C.length := spl_length (by omega)
  refine ⟨by decide, hC2.store (by rw [hsl]; simp [zerosL]; omega) fun w3 hu3 hC3 => hR _ _ ⟨rfl, ?_, ?_⟩⟩
  · have hlen2 : (l.take i ++ l.drop (i + 1)).length = l.length - 1 := by simp; omega
    refine ⟨_, by rw [hlen2]; exact hC3.own (len := l.length - 1) (by rw [spl_length (by rw [hsl]; simp [zerosL]; omega), hsl, hCl]; rfl) (by omega), ?_⟩
    have e2 := fun zs => delete_cells (C := C) (cells := vs) (new := (C.drop ((i + 1) * 5)).take ((l.length - (i + 1)) * 5)) (zs := zs) (p := i * 5) (q := (l.length - 1) * 5) (by omega) (by rw [hnewl]; omega) (by omega)
    rw [hk5, e2]
    have e3 : C.take (i * 5) ++ (C.drop ((i + 1) * 5)).take ((l.length - (i + 1)) * 5) = vs.take (i * 5) ++ vs.drop ((i + 1) * 5) := by
      rw [← hCt, List.take_take, List.drop_take, Nat.min_eq_left (by omega)]
      congr 2
      omega
    rw [e3]
    have := Rows.upd (hd1.upd.ext.trans (hu2.trans hu3)) (fun x hx hb => hG (by rw [← hb]; exact hx)) (Rows.cut hr i)
    exact this
  · exact (Upd.ext hd1.upd).trans (hu2.trans hu3)
/-! ### A fact is put into a list of the call's own -/
theorem overlaps_apart {w : World} {B b o : Nat} {cs : Array Value} {C : List Value} {lb cb : Nat} (hB : w.heap[B]? = some (.cells cs T.api_Fact (0, 0))) (hb : Full w b T.api_Fact C) (hne : B ≠ b) (hC : C.length ≠ 0) :
    extV prog 86 [.slice (some ⟨B, 0, none⟩) 1 1, .slice (some ⟨b, o, none⟩) lb cb] w (.bool false) := by
  unfold extV
  have hb' : w.heap[b]? = some (.cells C.toArray T.api_Fact (0, 0)) := hb
  rw [run_callFunc_extern (P := prog) Go.Proofs.Tryz.func86 (by kernel_rfl) (by kernel_rfl) (by kernel_rfl) (e := Extern.SlicesOverlaps.overlaps #[T.L_api_Fact, T.L_api_Fact] #[T.bool]) (by kernel_rfl)]
  have := Lib.run_overlaps_apart (P := prog) w T.L_api_Fact T.bool T.api_Fact (by kernel_rfl) 5 (run_sizeOf' (by kernel_rfl : sizeT prog T.api_Fact = some 5)) ⟨B, 0, none⟩ ⟨b, o, none⟩ 1 1 lb cb hne T.api_Fact T.api_Fact cs.size C.toArray.size
    (by simp [World.shape?, hB]) (by simp [World.shape?, hb']) (by simpa using hC) (by simp [World.frozen?, hB]) (by simp [World.frozen?, hB])
  rw [show ([Value.slice (some ⟨B, 0, none⟩) 1 1, Value.slice (some ⟨b, o, none⟩) lb cb] : List Value).toArray = #[Value.slice (some ⟨B, 0, none⟩) 1 1, Value.slice (some ⟨b, o, none⟩) lb cb] from rfl, this]
  rfl
theorem insert_cells {C mid X : List Value} {p : Nat} (hp : p + X.length + mid.length ≤ C.length) : (spl (spl C (p + X.length) mid) p X).take (p + X.length + mid.length) = C.take p ++ X ++ mid := by
  have h1 : (spl C (p + X.length) mid).length = C.length := spl_length (by omega)
  unfold spl
  have e1 := spl_take_lo (C := C) (vs := mid) (o := p + X.length) (q := p) (by omega) (by omega)
  have e2 := spl_drop_at (C := C) (vs := mid) (o := p + X.length) (by omega)
  unfold spl at e1 e2
  rw [e1, e2, ← List.append_assoc]
  have : (C.take p ++ X ++ mid).length = p + X.length + mid.length := by simp; omega
  rw [← this, List.take_append_of_le_length (Nat.le_refl _), List.take_length]
theorem insert_cells2 {C mid X : List Value} {p : Nat} (hp : p + X.length + mid.length ≤ C.length) : (spl (spl C p X) (p + X.length) mid).take (p + X.length + mid.length) = C.take p ++ X ++ mid := by
  have h1 : (spl C p X).length = C.length := spl_length (by omega)
  rw [spl_take_at (by omega), spl_take_at (by omega)]
theorem copy_full {w : World} {b : Nat} {e : TypeId} {C : List Value} (h : Full w b e C) {size o dLen n m : Nat} {x : Value} {new : List Value} (hx : lenV x = some n) (hm : min n dLen = m) (hr : readP w size x m new) (h1 : ∀ v ∈ new, v.oneCell' = true) (hf : o + new.length ≤ C.length) {K : Int → World → Prop}
    (hk : ∀ w', Upd (· = b) w w' → Full w' b e (spl C o new) → K (m : Nat) w') : copyP size (some ⟨b, o, none⟩) dLen x w K := by
  subst hm
  exact ⟨n, hx, new, hr, h1, h.store hf fun w' hu hf' => hk w' hu hf'⟩
theorem slices_Insert_spec {w₀ w : World} {G : Nat → Prop} {a : Option Addr} {cap : Nat} {l : List Fact} {i B : Nat} {cs : Array Value} {x : Fact} (h : OwnS factR w G a cap T.api_Fact l) (hG : ∀ b, a = some ⟨b, 0, none⟩ → ¬ G b) (hx : factR.R w G cs.toList x) (hn : New w₀ (.cells cs T.api_Fact) B w) (hB : a ≠ some ⟨B, 0, none⟩) (hi : i ≤ l.length) (hl : l.length ≤ 200000000) :
    CallsR prog K.slices_Insert_api_Fact #[.slice a l.length cap, .int .i64 i, .slice (some ⟨B, 0, none⟩) 1 1] w fun v w' => ∃ a' c', v = .slice a' (l.length + 1) c' ∧ OwnS factR w' G a' c' T.api_Fact (l.take i ++ [x] ++ l.drop i) ∧ Upd (fun b => a = some ⟨b, 0, none⟩) w w' ∧ (a' = a ∨ ∃ b, a' = some ⟨b, 0, none⟩ ∧ w.heap.size ≤ b) := by
  apply slices_Insert_api_Fact.sh
  suffices H : ∀ R : Value → World → Prop, (∀ v w', (∃ a' c', v = .slice a' (l.length + 1) c' ∧ OwnS factR w' G a' c' T.api_Fact (l.take i ++ [x] ++ l.drop i) ∧ Upd (fun b => a = some ⟨b, 0, none⟩) w w' ∧ (a' = a ∨ ∃ b, a' = some ⟨b, 0, none⟩ ∧ w.heap.size ≤ b)) → R v w') →
      slices_Insert_api_Fact.body a l.length cap i (some ⟨B, 0, none⟩) 1 1 w R from H _ fun _ _ h => h
  intro R hR
  unfold slices_Insert_api_Fact.body
  have hcap := h.cap
  have hXl := factR.len hx
  have hk5 : factR.k = 5 := rfl
  rw [hk5] at hXl
  refine ⟨by simp, by simp, by simp <;> omega, by simp <;> omega, by simp, by simp <;> omega, by simp, ?_⟩
  refine br_eq (fun e => by simp at e) fun _ => ?_
  by_cases hil : i = l.length
  · subst hil
    refine br_eq (fun _ => ?_) fun e => absurd rfl e
    refine OwnS.push (r := factR) h hx hn rfl rfl (by omega) (by omega) hG fun a' c' w' hu ho hf => ?_
    rw [List.take_length, List.drop_length, List.append_nil] at hR
    rw [List.length_append]
    exact hR _ _ ⟨a', c', rfl, ho, hu, hf⟩
  · refine br_eq (fun e => absurd (by omega) hil) fun _ => ?_
    have hi' : i < l.length := by omega
    obtain ⟨vs, ho, hr⟩ := h
    obtain ⟨b, rfl⟩ : ∃ b, a = some ⟨b, 0, none⟩ := by
      obtain ⟨_, _, hx⟩ := ho
      rcases hx with ⟨_, h0, _⟩ | ⟨b, _, h, _⟩
      · omega
      · exact ⟨b, h⟩
    have hbs := ho.blk rfl
    have hGb := hG b rfl
    have hBb : B ≠ b := fun e => hB (by rw [e])
    obtain ⟨C, hC, hCl, hCt⟩ := ho.full
    have hvl := Rows.len hr
    rw [hk5] at hCl hCt hvl
    have hw1 : IntKind.i64.wrap ((l.length : Int) + ((1 : Nat) : Int)) = ((l.length + 1 : Nat) : Int) := by rw [w64 (by omega) (by omega)]; omega
    have hw2 : IntKind.i64.wrap ((i : Int) + ((1 : Nat) : Int)) = ((i + 1 : Nat) : Int) := by rw [w64 (by omega) (by omega)]; omega
    simp only [hw1, hw2]
    have hrowX : ∀ u, Upd (fun x => x ≠ B) w u → RowAt u (some ⟨B, 0, none⟩) cs.toList := fun u hu => RowAt.of (hu.get hn.get (by simp)) fun j v hj => by simpa using hj
    have hmid : ∀ u, Full u b T.api_Fact C → RowAt u (some ⟨b, i * 5, none⟩) ((C.drop (i * 5)).take ((l.length - i) * 5)) := fun u hu => hu.row _ _
    have hmidl : ((C.drop (i * 5)).take ((l.length - i) * 5)).length = (l.length - i) * 5 := by rw [List.length_take, List.length_drop, hCl]; omega
    have hmidv : (C.drop (i * 5)).take ((l.length - i) * 5) = vs.drop (i * 5) := by
      rw [← hCt, List.drop_take]
      congr 1
      omega
    have hmid1 : ∀ v ∈ (C.drop (i * 5)).take ((l.length - i) * 5), v.oneCell' = true := by
      rw [hmidv]
      intro v hv
      exact Rows.one hr v (List.mem_of_mem_drop hv)
    have hlen2 : (l.take i ++ [x] ++ l.drop i).length = l.length + 1 := by simp; omega
    have hres : vs.take (i * 5) ++ cs.toList ++ (C.drop (i * 5)).take ((l.length - i) * 5) = C.take (i * 5) ++ cs.toList ++ (C.drop (i * 5)).take ((l.length - i) * 5) := by
      rw [← hCt, List.take_take, Nat.min_eq_left (by omega)]
    refine br_dec (fun hgt => ?_) fun hle => ?_
    · refine slice_any (lo := 0) (hi := i) (mx := cap) (by simp) (by simp) (by simp) (by omega) (by omega) (by omega) (by simp) fun a3 ha3 => ?_
      have ha3 : a3 = some ⟨b, 0, none⟩ := by rcases ha3 with h | ⟨_, h⟩ <;> simpa using h
      subst ha3
      simp only [Nat.sub_zero]
      have hw3 : IntKind.i64.wrap (((l.length + 1 : Nat) : Int) - (i : Int)) = ((l.length + 1 - i : Nat) : Int) := by rw [w64 (by omega) (by omega)]; omega
      rw [hw3]
      have hcl : cap = l.length := by omega
      have hsum : i + (l.length + 1 - i) = l.length + 1 := by omega
      refine ⟨by omega, by omega, ?_, by decide, rfl, fun hroom => ?_, fun hgrow => ⟨?_, ?_, (C.take (i * 5)), ?_, fun cap' b' w2 hc' hn2 => ?_⟩⟩
      · have : ((l.length + 1 - i : Nat) : Int) * 64 ≤ 200000001 * 64 := by omega
        omega
      · exfalso
        simp only [Int.toNat_natCast] at hroom
        omega
      · simp only [Int.toNat_natCast]; omega
      · simp only [Int.toNat_natCast] at hgrow ⊢
        have := nextcap_le hgrow
        have h2 : Builtin.nextslicecap (i + (l.length + 1 - i)) cap * 64 ≤ (2 * (i + (l.length + 1 - i)) + 192) * 64 := Nat.mul_le_mul_right _ this
        omega
      · refine read_row ?_ (by rw [List.length_take, hCl]; omega)
        have := hC.row 0 (i * 5)
        simpa using this
      simp only [Int.toNat_natCast, hsum] at hc' hn2 ⊢
      have hb' : b' = w.heap.size := hn2.num
      have e2 : Ext w w2 := (drew_upd w).trans hn2.upd
      obtain ⟨C2, hC2e⟩ : ∃ C2, C2 = C.take (i * 5) ++ zerosL [Value.int .i64 0, .int .u8 0, .string ByteArray.empty, .int .i64 0, .slice none 0 0] (l.length + 1 - i) ++ zerosL [Value.int .i64 0, .int .u8 0, .string ByteArray.empty, .int .i64 0, .slice none 0 0] (cap' - (l.length + 1)) := ⟨_, rfl⟩
      have hC2l : C2.length = cap' * 5 := by
        rw [hC2e]
        simp only [List.length_append, List.length_take, zerosL_length, hCl, List.length_cons, List.length_nil]
        omega
      have hC2t : C2.take (i * 5) = C.take (i * 5) := by
        rw [hC2e, List.append_assoc]
        have : (C.take (i * 5)).length = i * 5 := by rw [List.length_take, hCl]; omega
        have h2 := List.take_left (l₁ := C.take (i * 5)) (l₂ := zerosL [Value.int .i64 0, .int .u8 0, .string ByteArray.empty, .int .i64 0, .slice none 0 0] (l.length + 1 - i) ++ zerosL [Value.int .i64 0, .int .u8 0, .string ByteArray.empty, .int .i64 0, .slice none 0 0] (cap' - (l.length + 1)))
        rwa [this] at h2
      have g2 : Full w2 b' T.api_Fact C2 := by
        unfold Full
        rw [hn2.get, hC2e]
        rfl
      refine slice_any (lo := i) (hi := l.length + 1) (mx := cap') (by simp) (by simp) (by simp) (by omega) (by omega) (by omega) (by simp) fun a5 ha5 => ?_
      have ha5 : a5 = some ⟨b', i * 5, none⟩ := by
        rcases ha5 with h | ⟨h, _⟩
        · exact h
        · omega
      subst ha5
      refine copy_full g2 (m := 1) rfl (by omega) (read_row (hrowX w2 (Upd.ext e2)) (by rw [hXl])) (factR.one hx) (by rw [hXl, hC2l]; omega) fun w3 hu3 g3 => ?_
      intro w4 hd4
      have g4 : Full w4 b' T.api_Fact (spl C2 (i * 5) cs.toList) := Ext.get hd4.upd g3
      refine ⟨fun v => Ext w4 v, Upd.refl _ _, ?_⟩
      have hs3 := e2.size
      have e24 : Upd (· = b') w2 w4 := hu3.then hd4.upd
      have hCw4 : Full w4 b T.api_Fact C := by
        have h2 : Full w2 b T.api_Fact C := Ext.get e2 hC
        exact e24.get h2 (by omega)
      refine slice_any (lo := i + 1) (hi := l.length + 1) (mx := cap') (by simp) (by simp) (by simp) (by omega) (by omega) (by omega) (by simp) fun a6 ha6 => ?_
      have ha6 : a6 = some ⟨b', (i + 1) * 5, none⟩ := by
        rcases ha6 with h | ⟨h, _⟩
        · exact h
        · omega
      subst ha6
      refine slice_any (lo := i) (hi := l.length) (mx := cap) (by simp) (by simp) (by simp) (by omega) (by omega) (by omega) (by simp) fun a7 ha7 => ?_
      have ha7 : a7 = some ⟨b, i * 5, none⟩ := by
        rcases ha7 with h | ⟨h, _⟩
        · exact h
        · omega
      subst ha7
      have hspl : (spl C2 (i * 5) cs.toList).length = C2.length := spl_length (by rw [hXl, hC2l]; omega)
      refine copy_full g4 (m := l.length - i) rfl (by omega) (read_row (hmid w4 hCw4) hmidl) hmid1 (by rw [hmidl, hspl, hC2l]; omega) fun w5 hu5 g5 => ?_
      have hall : Upd (fun x => x = b') w2 w5 := e24.trans hu5
      have he5 : Ext w w5 := Upd.beyond e2 hall fun x hx => by rw [hx]; omega
      refine hR _ _ ⟨some ⟨b', 0, none⟩, cap', rfl, ?_, ?_, .inr ⟨b', rfl, by omega⟩⟩
      · refine ⟨_, by rw [hlen2]; exact g5.own (len := l.length + 1) (by rw [spl_length (by rw [hmidl, hspl, hC2l]; omega), hspl, hC2l]; rfl) (by omega), ?_⟩
        have e5 := insert_cells2 (C := C2) (mid := (C.drop (i * 5)).take ((l.length - i) * 5)) (X := cs.toList) (p := i * 5) (by rw [hXl, hmidl, hC2l]; omega)
        rw [hXl, hmidl] at e5
        rw [hk5, show (l.length + 1) * 5 = i * 5 + 5 + (l.length - i) * 5 by omega, show (i + 1) * 5 = i * 5 + 5 by omega, e5, hC2t, ← hres, hmidv]
        exact Rows.ext (Rows.insert hr hx i) he5
      · exact he5.ext
    · refine slice_any (lo := 0) (hi := l.length + 1) (mx := cap) (by simp) (by simp) (by simp) (by omega) (by omega) (by omega) (by simp) fun a8 ha8 => ?_
      have ha8 : a8 = some ⟨b, 0, none⟩ := by rcases ha8 with h | ⟨_, h⟩ <;> simpa using h
      subst ha8
      simp only [Nat.sub_zero]
      refine slice_any (lo := i + 1) (hi := l.length + 1) (mx := cap) (by simp) (by simp) (by simp) (by omega) (by omega) (by omega) (by simp) fun a9 ha9 => ?_
      have ha9 : a9 = some ⟨b, (i + 1) * 5, none⟩ := by
        rcases ha9 with h | ⟨h, _⟩
        · exact h
        · omega
      subst ha9
      refine ⟨_, overlaps_apart hn.get hC hBb (by omega), br_intro (fun _ => ?_) fun h => by cases h⟩
      intro w6 hd6
      have g6 : Full w6 b T.api_Fact C := Ext.get hd6.upd hC
      refine ⟨fun v => Ext w6 v, Upd.refl _ _, ?_⟩
      refine slice_any (lo := i + 1) (hi := l.length + 1) (mx := cap) (by simp) (by simp) (by simp) (by omega) (by omega) (by omega) (by simp) fun a9 ha9 => ?_
      have ha9 : a9 = some ⟨b, (i + 1) * 5, none⟩ := by
        rcases ha9 with h | ⟨h, _⟩
        · exact h
        · omega
      subst ha9
      refine slice_any (lo := i) (hi := l.length + 1) (mx := cap) (by simp) (by simp) (by simp) (by omega) (by omega) (by omega) (by simp) fun a9 ha9 => ?_
      have ha9 : a9 = some ⟨b, i * 5, none⟩ := by
        rcases ha9 with h | ⟨h, _⟩
        · exact h
        · omega
      subst ha9
      refine copy_full (size := 5) (o := (i + 1) * 5) (dLen := l.length + 1 - (i + 1)) (n := l.length + 1 - i) g6 (m := l.length - i) rfl (by omega) (by have hrr := read_row (len := l.length - i) (cap := 0) (hmid w6 g6) hmidl; exact hrr) hmid1 (by rw [hmidl, hCl]; omega) fun w7 hu7 g7 => ?_
      have hspl : (spl C ((i + 1) * 5) ((C.drop (i * 5)).take ((l.length - i) * 5))).length = C.length := spl_length (by rw [hmidl, hCl]; omega)
      refine slice_any (lo := i) (hi := l.length + 1) (mx := cap) (by simp) (by simp) (by simp) (by omega) (by omega) (by omega) (by simp) fun a9 ha9 => ?_
      have ha9 : a9 = some ⟨b, i * 5, none⟩ := by
        rcases ha9 with h | ⟨h, _⟩
        · exact h
        · omega
      subst ha9
      have u7 : Upd (· = b) w w7 := (Upd.ext hd6.upd).trans hu7
      refine copy_full (size := 5) (o := i * 5) (dLen := l.length + 1 - i) (n := 1) g7 (m := 1) rfl (by omega) (read_row (hrowX w7 (u7.mono fun x _ hx e => hBb (by rw [← e, hx]))) (by rw [hXl])) (factR.one hx) (by rw [hXl, hspl, hCl]; omega) fun w8 hu8 g8 => ?_
      have u8 : Upd (· = b) w w8 := u7.trans hu8
      refine hR _ _ ⟨some ⟨b, 0, none⟩, cap, rfl, ?_, u8.mono fun x _ hx => by rw [hx], .inl rfl⟩
      have h8 : i * 5 + cs.toList.length ≤ (spl C ((i + 1) * 5) ((C.drop (i * 5)).take ((l.length - i) * 5))).length := by rw [hXl, hspl, hCl]; omega
      refine ⟨_, by rw [hlen2]; exact g8.own (len := l.length + 1) (by rw [spl_length h8, hspl, hCl]; rfl) (by omega), ?_⟩
      have e5 := insert_cells (C := C) (mid := (C.drop (i * 5)).take ((l.length - i) * 5)) (X := cs.toList) (p := i * 5) (by rw [hXl, hmidl, hCl]; omega)
      rw [hXl, hmidl] at e5
      rw [hk5, show (l.length + 1) * 5 = i * 5 + 5 + (l.length - i) * 5 by omega, show (i + 1) * 5 = i * 5 + 5 by omega, e5, ← hres, hmidv]
      exact Rows.upd u8 (fun x hx hb => hGb (by rw [← hb]; exact hx)) (Rows.insert hr hx i)
end Go.Den
end
section
set_option linter.unusedVariables false
set_option linter.unusedSimpArgs false
set_option maxRecDepth 8000
namespace Go.Den
theorem list_Delete_spec {w : World} {Q : Nat → Prop} {S : Nat} {a : Option Addr} {cap : Nat} {l : List Fact} {i : Nat} (h : ListAt factR Q S w a cap T.api_Fact l) (hi : i < l.length) (hn : l.length ≤ 1000000000) :
    CallsR prog K.slices_Delete_api_Fact #[.slice a l.length cap, .int .i64 i, .int .i64 ((i + 1 : Nat) : Int)] w fun v w' => v = .slice a (l.take i ++ l.drop (i + 1)).length cap ∧ ListAt factR Q S w' a cap T.api_Fact (l.take i ++ l.drop (i + 1)) ∧ Upd (fun b => a = some ⟨b, 0, none⟩) w w' := by
  obtain ⟨G, h1, h2, h3⟩ := h
  obtain ⟨b, rfl⟩ : ∃ b, a = some ⟨b, 0, none⟩ := by
    obtain ⟨vs, ⟨_, _, hx⟩, _⟩ := h1
    rcases hx with ⟨_, h0, _⟩ | ⟨b, _, h, _⟩
    · omega
    · exact ⟨b, h⟩
  refine (slices_Delete_spec h1 (h3 b rfl).2 hi hn).mono ?_
  rintro _ w' ⟨rfl, ho, hu⟩
  have hlen : (l.take i ++ l.drop (i + 1)).length = l.length - 1 := by simp; omega
  exact ⟨by rw [hlen], ⟨G, ho, fun x hx => ⟨(h2 x hx).1, Nat.lt_of_lt_of_le (h2 x hx).2 hu.size⟩, h3⟩, hu.mono fun x _ hx => by rw [hx]⟩
theorem list_Insert_spec {w₀ w : World} {Q H : Nat → Prop} {S : Nat} {a : Option Addr} {cap : Nat} {l : List Fact} {i B : Nat} {cs : Array Value} {x : Fact} (h : ListAt factR Q S w a cap T.api_Fact l) (hx : factR.R w H cs.toList x) (hH : ∀ b, H b → (S ≤ b ∨ Q b) ∧ b < w.heap.size ∧ a ≠ some ⟨b, 0, none⟩) (hn : New w₀ (.cells cs T.api_Fact) B w) (hB : a ≠ some ⟨B, 0, none⟩) (hi : i ≤ l.length) (hl : l.length ≤ 200000000) (hS : S ≤ w.heap.size) :
    CallsR prog K.slices_Insert_api_Fact #[.slice a l.length cap, .int .i64 i, .slice (some ⟨B, 0, none⟩) 1 1] w fun v w' => ∃ a' c', v = .slice a' (l.take i ++ [x] ++ l.drop i).length c' ∧ ListAt factR Q S w' a' c' T.api_Fact (l.take i ++ [x] ++ l.drop i) ∧ Upd (fun b => a = some ⟨b, 0, none⟩) w w' := by
  obtain ⟨G, h1, h2, h3⟩ := h
  have hG : ∀ b, G b ∨ H b → (S ≤ b ∨ Q b) ∧ b < w.heap.size := fun b hb => by
    rcases hb with hb | hb
    · exact h2 b hb
    · exact ⟨(hH b hb).1, (hH b hb).2.1⟩
  have hno : ∀ b, a = some ⟨b, 0, none⟩ → ¬ (G b ∨ H b) := fun b hb hb' => by
    rcases hb' with hb' | hb'
    · exact (h3 b hb).2 hb'
    · exact (hH b hb').2.2 hb
  refine (slices_Insert_spec (G := fun b => G b ∨ H b) (h1.mono fun _ hb => .inl hb) hno (factR.mono hx fun _ hb => .inr hb) hn hB hi hl).mono ?_
  rintro _ w' ⟨a', c', rfl, ho, hu, hf⟩
  have hlen : (l.take i ++ [x] ++ l.drop i).length = l.length + 1 := by simp; omega
  refine ⟨a', c', by rw [hlen], ⟨_, ho, fun b hb => ⟨(hG b hb).1, Nat.lt_of_lt_of_le (hG b hb).2 hu.size⟩, fun b hb => ?_⟩, hu⟩
  rcases hf with hf | ⟨b', hb', hl⟩
  · subst hf; exact ⟨(h3 b hb).1, hno b hb⟩
  · rw [hb'] at hb
    cases hb
    exact ⟨Nat.le_trans hS hl, fun hb => absurd (hG _ hb).2 (by omega)⟩
theorem list_store {w : World} {Q H : Nat → Prop} {S : Nat} {a : Option Addr} {cap : Nat} {l : List Fact} {i : Nat} {us : List Value} {x : Fact} (h : ListAt factR Q S w a cap T.api_Fact l) (hx : factR.R w H us x) (hH : ∀ b, H b → (S ≤ b ∨ Q b) ∧ b < w.heap.size ∧ a ≠ some ⟨b, 0, none⟩) (hi : i < l.length) {K : World → Prop}
    (hk : ∀ w', Upd (fun b => a = some ⟨b, 0, none⟩) w w' → ListAt factR Q S w' a cap T.api_Fact (l.set i x) → K w') : idxP a l.length (i : Int) 5 fun q => storeP w q us K := by
  obtain ⟨G, h1, h2, h3⟩ := h
  have hG : ∀ b, G b ∨ H b → (S ≤ b ∨ Q b) ∧ b < w.heap.size := fun b hb => by
    rcases hb with hb | hb
    · exact h2 b hb
    · exact ⟨(hH b hb).1, (hH b hb).2.1⟩
  have hno : ∀ b, a = some ⟨b, 0, none⟩ → ¬ (G b ∨ H b) := fun b hb hb' => by
    rcases hb' with hb' | hb'
    · exact (h3 b hb).2 hb'
    · exact (hH b hb').2.2 hb
  obtain ⟨b, rfl⟩ : ∃ b, a = some ⟨b, 0, none⟩ := by
    obtain ⟨vs, ⟨_, _, hx⟩, _⟩ := h1
    rcases hx with ⟨_, h0, _⟩ | ⟨b, _, h, _⟩
    · omega
    · exact ⟨b, h⟩
  refine ⟨by omega, by omega, ?_⟩
  simp only [nilC_some', add_lit, Int.toNat_natCast, Nat.zero_add]
  refine OwnS.store (r := factR) (G := fun b => G b ∨ H b) (h1.mono fun _ hb => .inl hb) (hno b rfl) hi (factR.mono hx fun _ hb => .inr hb) fun w' hu ho => hk w' (hu.mono fun x _ hx => by rw [hx]) ⟨_, ho, fun b hb => ⟨(hG b hb).1, Nat.lt_of_lt_of_le (hG b hb).2 hu.size⟩, fun b hb => ⟨(h3 b hb).1, hno b hb⟩⟩
theorem fact_Apply_spec {w : World} {G Gc : Nat → Prop} {a ac : Option Addr} {c cc : Nat} {l : List Fact} {cs : List Change} (h : SliceAt factR w G a l) (hG : ∀ b, G b → b < w.heap.size) (hc : SliceAt changeR w Gc ac cs) (hn : l.length + cs.length ≤ 100000000) (hvl : ∀ f ∈ l, f.val.length ≤ 140737488355232) (hnc : SmallC cs) :
    CallsR prog K.fact_Apply #[.slice a l.length c, .slice ac cs.length cc] w fun v w' => ∃ a' c', v = .slice a' (applyF l cs).length c' ∧ ListAt factR NoB w.heap.size w' a' c' T.api_Fact (applyF l cs) ∧ Ext w w' := by
  apply fact_Apply.sh
  suffices H : ∀ R : Value → World → Prop, (∀ v w', (∃ a' c', v = .slice a' (applyF l cs).length c' ∧ ListAt factR NoB w.heap.size w' a' c' T.api_Fact (applyF l cs) ∧ Ext w w') → R v w') → fact_Apply.body a l.length c ac cs.length cc w R from H _ fun _ _ h => h
  intro R hR
  unfold fact_Apply.body
  refine (fact_isOrdered_spec h (by omega)).mono ?_
  rintro _ w1 ⟨rfl, he1⟩
  have hs1 := he1.size
  refine ⟨_, rfl, br_intro (fun ho => ?_) fun ho => ?_⟩
  · have ho' : ordered l = false := by simpa using ho
    have hap : applyF l cs = [] := by unfold applyF; rw [if_neg (by rw [ho']; decide)]
    rw [hap] at hR
    exact hR _ _ ⟨none, 0, rfl, ListAt.nil _ _, he1⟩
  have ho' : ordered l = true := by simpa using ho
  have hsorted := ordered_sorted.1 ho'
  have hap : applyF l cs = applyL l cs := by unfold applyF; rw [if_pos ho']
  rw [hap] at hR
  intro B1 w2 hn2
  have e2 : Ext w w2 := he1.trans hn2.upd
  have hB1 : B1 = w1.heap.size := hn2.num
  have hs2 := hn2.size
  refine (fact_own_spec a l.length c w2).mono ?_
  rintro _ w3 ⟨B, rfl, hn3⟩
  have hB : B = w2.heap.size := hn3.num
  have hs3 := hn3.size
  refine ⟨_, rfl, rfl, by kernel_rfl, ?_⟩
  intro D lr r w4 w5 hn4 hn5 HY
  have hD : D = w3.heap.size := hn4.num
  have hs4 := hn4.size
  have hlr : lr = w4.heap.size := hn5.num
  have hs5 := hn5.size
  have e5 : Ext w w5 := ((e2.trans hn3.upd).trans hn4.upd).trans hn5.upd
  have gl : w5.heap[lr]? = some (.loop r) := hn5.get
  have gD : w5.heap[D]? = some (.deferred (some [])) := Ext.get hn5.upd hn4.get
  have gB : w5.heap[B]? = some (.cells #[.slice a l.length c] T.L_api_Fact (0, 0)) := Ext.get (hn4.upd.trans hn5.upd) hn3.get
  have gB1 : w5.heap[B1]? = some (.cells #[.slice none 0 0] T.L_api_Fact (0, 0)) := Ext.get (hn3.upd.trans (hn4.upd.trans hn5.upd)) hn2.get
  refine (fact_own_1_spec (B := B) (l := lr) (a := a) (c := c) (fs := l) (J := fun i W => Upd (· = B1) w5 W ∧ ∃ a2 c2, W.heap[B1]? = some (.cells #[.slice a2 i c2] T.L_api_Fact (0, 0)) ∧ ListAt factR NoB w5.heap.size W a2 c2 T.api_Fact (l.take i)) (by omega)
    (fun i W hj => hj.1.get gB (by show ¬ B = B1; omega)) (fun i W hj => ⟨G, SliceAt.upd (h.ext e5) hj.1 (fun b hb hb' => by have := hG b hb; omega)⟩) hvl (fun i W W' hj he => ⟨hj.1.then he, by obtain ⟨a2, c2, g2, hl⟩ := hj.2; exact ⟨a2, c2, Ext.get he g2, hl.ext he⟩⟩) ?_
    ⟨Upd.refl _ _, none, 0, gB1, ListAt.nil _ _⟩).mono ?_
  · rintro i hi W W' av cv ⟨hu, a2, c2, g2, hl⟩ he ho hf
    have hu' : Upd (· = B1) w5 W' := hu.then he
    have gl' : W'.heap[lr]? = some (.loop r) := hu'.book lr _ gl rfl
    have hsW := hu.size
    have hsW' := he.size
    refine HY _ W' _ gl' ⟨_, _, _, _, _, _, _, rfl, new_put rfl fun B2 w7 hB2 hs7 e7 g7 => ?_⟩
    have gl7 := Ext.get e7 gl'
    refine ⟨gl7, ?_⟩
    generalize hw8 : w7.putObj lr (.loop { r with state := .busy }) = w8
    have cl : CellsLe w7 w8 := by rw [← hw8]; exact CellsLe.turn gl7 rfl
    have hs8 : w8.heap.size = w7.heap.size := by rw [← hw8, putObj_size]
    have gl8 : w8.heap[lr]? = some (.loop { r with state := .busy }) := by rw [← hw8]; exact World.putObj_heap_same (Array.getElem?_eq_some_iff.1 gl7).1
    have g28 : w8.heap[B1]? = some (.cells #[.slice a2 i c2] T.L_api_Fact (0, 0)) := cl.get _ _ _ _ (Ext.get (he.trans e7) g2)
    have g88 : w8.heap[B2]? = some (.cells (factVs l[i].key av l[i].val.length cv).toArray T.api_Fact (0, 0)) := cl.get _ _ _ _ g7
    refine ⟨_, _, _, cell_of g28 rfl, l[i].key.ino, (l[i].key.what.toNat : Int), l[i].key.name, l[i].key.chunk, av, l[i].val.length, cv, cellsAt_of g88 (fun j v hj => by simpa using hj), ?_⟩
    intro B3 w9 hn9
    have hs9 := hn9.size
    have hl9 : ListAt factR NoB w5.heap.size w9 a2 c2 T.api_Fact (l.take i) := ((hl.ext (he.trans e7)).cellsLe cl).ext hn9.upd
    have ho9 : OwnAt w9 av l[i].val.length cv T.uint8 1 (l[i].val.map bv) := ((ho.ext e7).cellsLe cl).ext hn9.upd
    have hil : (l.take i).length = i := by rw [List.length_take]; omega
    have ha2 : ∀ b, a2 = some ⟨b, 0, none⟩ → w5.heap.size ≤ b ∧ b < W.heap.size := fun b hb => by
      refine ⟨?_, hl.lt hb⟩
      obtain ⟨_, _, _, h3⟩ := hl
      exact (h3 b hb).1
    refine ListAt.push' (r := factR) (H := fun b => av = some ⟨b, 0, none⟩) (x := l[i]) hl9 (factR_intro ho9.2.1 ho9.row (fun _ p hp => ?_)) (fun b hb => ⟨.inl ?_, ?_, fun hab => ?_⟩) hn9 hil.symm rfl (by omega) (by omega) (by omega) fun a' c' w10 hu10 hl10 => ?_
    · obtain ⟨_, _, hx⟩ := ho9
      rcases hx with ⟨hx, _⟩ | ⟨b', _, hx, _⟩
      · rw [hx] at hp; cases hp
      · rw [hx] at hp ⊢; cases hp; rfl
    · have := hf _ hb
      show w5.heap.size ≤ b
      have h2 : W.heap.size ≤ b := this
      omega
    · exact ho9.blk hb
    · have h2 : W.heap.size ≤ b := hf _ hb
      have := ha2 b hab
      omega
    have hne : ∀ b, a2 = some ⟨b, 0, none⟩ → B1 ≠ b := fun b hb => by have := ha2 b hb; omega
    have g210 : w10.heap[B1]? = some (.cells #[.slice a2 i c2] T.L_api_Fact (0, 0)) := hu10.get (Ext.get hn9.upd g28) (fun hb => hne _ hb rfl)
    refine store_of g210 (by simp) fun w11 hp => ?_
    have u811 : Upd (fun b => b = B1 ∨ a2 = some ⟨b, 0, none⟩) w8 w11 := (Upd.ext hn9.upd).trans ((hu10.mono fun x _ hx => .inr hx).trans (hp.upd1.mono fun x _ hx => .inl hx))
    have gl11 : w11.heap[lr]? = some (.loop { r with state := .busy }) := u811.book lr _ gl8 rfl
    have urnd : Upd (fun b => b = B1 ∨ a2 = some ⟨b, 0, none⟩) W' (w11.putObj lr (.loop r)) := Upd.round gl' (Upd.ext e7) (by rw [hw8]; exact u811)
    have cl11 : CellsLe w11 (w11.putObj lr (.loop r)) := CellsLe.turn gl11 rfl
    refine ⟨gl11, rfl, ⟨hu'.over urnd fun x hx => ?_, a', c', ?_, ?_⟩, fun b hb1 hb2 => urnd.blk b hb2 fun hx => ?_⟩
    · rcases hx with hx | hx
      · exact .inl hx
      · exact .inr (ha2 x hx).1
    · have := cl11.get _ _ _ _ hp.get
      rw [this]
      have e : (l.take i ++ [l[i]]).length = i + 1 := by simp; omega
      rw [e]
      rfl
    · rw [List.take_succ_eq_append_getElem hi]
      exact (hl10.upd hp.upd1 (fun x hx => ⟨by rw [hx]; omega, fun h => h⟩)).cellsLe cl11
    · rcases hx with hx | hx
      · omega
      · have := ha2 b hx; omega
  · rintro _ w6 ⟨hu6, a2, c2, g2, hl6⟩
    rw [List.take_length] at hl6
    have gl6 := hu6.book lr _ gl rfl
    refine ⟨gl6, fun o => ?_⟩
    have hs6 := hu6.size
    have cl6 : CellsLe w6 (w6.putObj lr o) := CellsLe.turn gl6 rfl
    have ew6 : Ext w w6 := Upd.beyond e5 hu6 fun x hx => by rw [hx]; omega
    have eu0 : Ext w (w6.putObj lr o) := ew6.turn (by have := e5.size; omega)
    have gD0 : (w6.putObj lr o).heap[D]? = some (.deferred (some [])) := by rw [World.putObj_heap_other (by omega)]; exact hu6.book D _ gD rfl
    have g20 := cl6.get _ _ _ _ g2
    have hl0 := hl6.cellsLe cl6
    have hs0 : w5.heap.size ≤ (w6.putObj lr o).heap.size := by rw [putObj_size]; exact hs6
    generalize w6.putObj lr o = u0 at eu0 gD0 g20 hl0 hs0 ⊢
    have hww := e5.size
    refine ⟨fun x u => ∃ i : Nat, x = i ∧ i ≤ cs.length ∧ Ext w u ∧ u.heap[D]? = some (.deferred (some [])) ∧ w5.heap.size ≤ u.heap.size ∧ ∃ a2 c2, u.heap[B1]? = some (.cells #[.slice a2 (applyL l (cs.take i)).length c2] T.L_api_Fact (0, 0)) ∧ ListAt factR NoB w5.heap.size u a2 c2 T.api_Fact (applyL l (cs.take i)), fun x _ => ((cs.length : Int) - x).toNat,
      ⟨0, rfl, by omega, eu0, gD0, hs0, a2, c2, g20, hl0⟩, ?_⟩
    rintro x u ⟨i, rfl, hi, heu, gDu, hSu, a2, c2, g2, hl⟩
    refine br_dec (fun hlt => ?_) fun hge => ?_
    · have hi' : i < cs.length := by omega
      have ew : IntKind.i64.wrap ((i : Int) + 1) = ((i + 1 : Nat) : Int) := w64 (by omega) (by omega)
      simp only [ew]
      have hcs := hnc _ (List.getElem_mem hi')
      have hlen := applyL_length l cs i
      have hso : Sorted (applyL l (cs.take i)) := applyL_sorted hsorted
      have hsucc := applyL_succ l hi'
      rw [putF_place hso] at hsucc
      obtain ⟨l', hl'⟩ : ∃ l', l' = applyL l (cs.take i) := ⟨_, rfl⟩
      rw [← hl'] at hl hlen hso hsucc g2
      obtain ⟨p, hp⟩ : ∃ p, p = placeF l' cs[i].key := ⟨_, rfl⟩
      have hple : p ≤ l'.length := by rw [hp]; exact placeF_le _ _
      refine SliceAt.idx (r := changeR) (hc.ext heu) rfl hi' fun b o vs _ hrow hR' _ => ?_
      obtain ⟨av, cv, rfl, hcv, hbv, _⟩ := changeR_elim hR'
      refine ⟨_, _, _, _, _, _, _, _, hrow.cells, new_put rfl fun B4 w14 hB4 hs14 e14 g4 => ?_⟩
      refine ⟨_, _, _, cell_of (Ext.get e14 g2) rfl, cs[i].key.ino, (cs[i].key.what.toNat : Int), cs[i].key.name, cs[i].key.chunk, key4 g4 rfl, ?_⟩
      obtain ⟨G', hG1, hG2⟩ := (hl.ext e14).slice
      refine (fact_place_spec hG1 hso (by omega)).mono ?_
      rintro _ w15 ⟨rfl, he15⟩
      rw [← hp]
      have hs15 := he15.size
      refine ⟨_, _, rfl, fun q u => ∃ B5 av' cv', q = ⟨B5, 0, none⟩ ∧ Ext w15 u ∧ w15.heap.size ≤ B5 ∧ B5 < u.heap.size ∧ u.heap[B5]? = some (.cells (factVs cs[i].key av' cs[i].val.length cv').toArray T.api_Fact (0, 0)) ∧ OwnAt u av' cs[i].val.length cv' T.uint8 1 (cs[i].val.map bv) ∧ Fresh w15 av', ?_, ?_⟩
      · intro w16 hd16
        have hs16 := hd16.upd.size
        have g416 := Ext.get (he15.trans hd16.upd) g4
        have hbv16 : BytesAt w16 av cs[i].val := RowAt.ext hbv (e14.trans (he15.trans hd16.upd))
        refine ⟨fun v => Ext w16 v, Upd.refl _ _, cs[i].key.ino, (cs[i].key.what.toNat : Int), cs[i].key.name, cs[i].key.chunk, fun v hv => key4 (Ext.get hv g416) rfl, _, _, _, fun v hv => cell_of (Ext.get hv g416) rfl, ?_, ?_⟩
        · refine (slices_Clone_byte_spec (c := cv) hbv16 hcs.2).mono ?_
          rintro _ w17 ⟨he17, av', cv', rfl, ho17, hf17⟩
          refine ⟨_, _, _, rfl, he17, fun B5 w18 hn18 => ⟨he17.trans hn18.upd, store_of hn18.get (by simp) fun w19 hp19 => ?_⟩⟩
          have hB5 : B5 = w17.heap.size := hn18.num
          have hs17 := he17.size
          have hs18 := hn18.size
          refine ⟨B5, av', cv', rfl, Put.upd ((hd16.upd.trans he17).trans hn18.upd) hp19 (.inl (by omega)), by omega, by rw [hp19.size]; omega, hp19.get, OwnAt.upd (ho17.ext hn18.upd) hp19.upd1 (fun b hb hb' => ?_), hf17.mono hs16⟩
          have := ho17.blk hb
          omega
        · intro B6 w20 hn20
          have hB6 : B6 = w16.heap.size := hn20.num
          have hs20 := hn20.size
          refine ⟨hn20.upd, (slices_Clone_byte_spec (c := cv) (RowAt.ext hbv16 hn20.upd) hcs.2).mono ?_⟩
          rintro _ w21 ⟨he21, av', cv', rfl, ho21, hf21⟩
          have hs21 := he21.size
          refine ⟨_, _, _, rfl, hn20.upd.trans he21, store_of (Ext.get he21 hn20.get) (by simp) fun w22 hp22 => ?_⟩
          refine ⟨B6, av', cv', rfl, Put.upd ((hd16.upd.trans hn20.upd).trans he21) hp22 (.inl (by omega)), by omega, by rw [hp22.size]; omega, hp22.get, OwnAt.upd ho21 hp22.upd1 (fun b hb hb' => ?_), hf21.mono (by omega)⟩
          have : w20.heap.size ≤ b := hf21 _ hb
          omega
      · rintro _ w23 ⟨B5, av', cv', rfl, e23, hB5, hB5', g5, ho5, hf5⟩
        have hs23 := e23.size
        have e1423 := he15.trans e23
        have euu := e14.trans e1423
        have hsu := euu.size
        have ew23 := heu.trans euu
        have hl23 := hl.ext euu
        have g223 := Ext.get euu g2
        have g423 := Ext.get e1423 g4
        have gD23 := euu.book D _ gDu rfl
        have ha2 : ∀ b, a2 = some ⟨b, 0, none⟩ → w5.heap.size ≤ b ∧ b < u.heap.size := fun b hb => by
          refine ⟨?_, hl.lt hb⟩
          obtain ⟨_, _, _, h3⟩ := hl
          exact (h3 b hb).1
        have hav : ∀ b, av' = some ⟨b, 0, none⟩ → w15.heap.size ≤ b ∧ b < w23.heap.size := fun b hb => ⟨hf5 _ hb, ho5.blk hb⟩
        have hgv : ∀ q, av' = some q → av' = some ⟨q.block, 0, none⟩ := fun q hq => by
          obtain ⟨_, _, hx⟩ := ho5
          rcases hx with ⟨hx, _⟩ | ⟨b', _, hx, _⟩
          · rw [hx] at hq; cases hq
          · rw [hx] at hq ⊢; cases hq; rfl
        have next : ∀ {a' : Option Addr} {c' : Nat} {v : World} {lst : List Fact}, lst = applyL l (cs.take (i + 1)) → Upd (fun b => a2 = some ⟨b, 0, none⟩) w23 v → ListAt factR NoB w5.heap.size v a' c' T.api_Fact lst →
            storeP v ⟨B1, 0, none⟩ [.slice a' lst.length c'] fun w'' => (∃ k : Nat, ((i + 1 : Nat) : Int) = k ∧ k ≤ cs.length ∧ Ext w w'' ∧ w''.heap[D]? = some (.deferred (some [])) ∧ w5.heap.size ≤ w''.heap.size ∧ ∃ a2 c2, w''.heap[B1]? = some (.cells #[.slice a2 (applyL l (cs.take k)).length c2] T.L_api_Fact (0, 0)) ∧ ListAt factR NoB w5.heap.size w'' a2 c2 T.api_Fact (applyL l (cs.take k))) ∧
              ((cs.length : Int) - ((i + 1 : Nat) : Int)).toNat < ((cs.length : Int) - (i : Int)).toNat := by
          intro a' c' v lst hlst huv hlv
          have hsv := huv.size
          refine store_of (huv.get g223 fun hb => by have := ha2 _ hb; omega) (by simp) fun w'' hpp => ?_
          have hspp := hpp.size
          refine ⟨⟨i + 1, rfl, hi', Put.upd (Upd.beyond ew23 huv fun x hx => by have := ha2 x hx; omega) hpp (.inl (by omega)), hpp.upd1.book D _ (huv.book D _ gD23 rfl) rfl, by omega, a', c', ?_, ?_⟩, meas hi'⟩
          · rw [hpp.get, ← hlst]; rfl
          · rw [← hlst]; exact hlv.upd hpp.upd1 fun x hx => ⟨by rw [hx]; omega, fun h => h⟩
        have stay : l' = applyL l (cs.take (i + 1)) → (∃ k : Nat, ((i + 1 : Nat) : Int) = k ∧ k ≤ cs.length ∧ Ext w w23 ∧ w23.heap[D]? = some (.deferred (some [])) ∧ w5.heap.size ≤ w23.heap.size ∧ ∃ a2 c2, w23.heap[B1]? = some (.cells #[.slice a2 (applyL l (cs.take k)).length c2] T.L_api_Fact (0, 0)) ∧ ListAt factR NoB w5.heap.size w23 a2 c2 T.api_Fact (applyL l (cs.take k))) ∧
              ((cs.length : Int) - ((i + 1 : Nat) : Int)).toNat < ((cs.length : Int) - (i : Int)).toNat := fun hst =>
          ⟨⟨i + 1, rfl, hi', ew23, gD23, by omega, a2, c2, by rw [← hst]; exact g223, by rw [← hst]; exact hl23⟩, meas hi'⟩
        have hfv : cellsAt w23 ⟨B5, 0, none⟩ (factVs cs[i].key av' cs[i].val.length cv') 0 := cellsAt_of g5 fun j v hj => by simpa using hj
        have hgone : w23.cell? ⟨B4, 5, none⟩ = some (.bool cs[i].gone) := cell_of g423 rfl
        simp only [add_lit, Nat.zero_add]
        have ewp : IntKind.i64.wrap ((p : Int) + 1) = ((p + 1 : Nat) : Int) := w64 (by omega) (by omega)
        rw [← hp] at hsucc
        simp only [ewp]
        -- it is put where it stands
        have doSet : p < l'.length → (l'.set p ⟨cs[i].key, cs[i].val⟩) = applyL l (cs.take (i + 1)) → idxP a2 l'.length (p : Int) 5 fun q2 => storeP w23 q2 (factVs cs[i].key av' cs[i].val.length cv') fun w26 => (∃ k : Nat, ((i + 1 : Nat) : Int) = k ∧ k ≤ cs.length ∧ Ext w w26 ∧ w26.heap[D]? = some (.deferred (some [])) ∧ w5.heap.size ≤ w26.heap.size ∧ ∃ a2 c2, w26.heap[B1]? = some (.cells #[.slice a2 (applyL l (cs.take k)).length c2] T.L_api_Fact (0, 0)) ∧ ListAt factR NoB w5.heap.size w26 a2 c2 T.api_Fact (applyL l (cs.take k))) ∧
              ((cs.length : Int) - ((i + 1 : Nat) : Int)).toNat < ((cs.length : Int) - (i : Int)).toNat := fun hpl hst => by
          refine list_store (H := fun b => av' = some ⟨b, 0, none⟩) (x := ⟨cs[i].key, cs[i].val⟩) hl23 (factR_intro (x := ⟨cs[i].key, cs[i].val⟩) ho5.2.1 ho5.row fun _ q hq => hgv q hq) (fun b hb => ⟨.inl (by have := hav b hb; omega), (hav b hb).2, fun hab => by have := hav b hb; have := ha2 b hab; omega⟩) hpl fun w' hu hlw => ?_
          have hsw := hu.size
          refine ⟨⟨i + 1, rfl, hi', Upd.beyond ew23 hu fun x hx => by have := ha2 x hx; omega, hu.book D _ gD23 rfl, by omega, a2, c2, ?_, by rw [← hst]; exact hlw⟩, meas hi'⟩
          rw [← hst, List.length_set]
          exact hu.get g223 fun hb => by have := ha2 _ hb; omega
        have doIns : (l'.take p ++ [⟨cs[i].key, cs[i].val⟩] ++ l'.drop p) = applyL l (cs.take (i + 1)) → ∀ (B7 : Nat) (w27 : World), New w23 (.cells (factVs cs[i].key av' cs[i].val.length cv').toArray T.api_Fact) B7 w27 → CallsR prog K.slices_Insert_api_Fact #[.slice a2 l'.length c2, .int .i64 p, .slice (some ⟨B7, 0, none⟩) 1 1] w27 fun v w28 => ∃ (a' : Option Addr) (n' c' : Nat), v = .slice a' n' c' ∧ storeP w28 ⟨B1, 0, none⟩ [.slice a' n' c'] fun w'' => (∃ k : Nat, ((i + 1 : Nat) : Int) = k ∧ k ≤ cs.length ∧ Ext w w'' ∧ w''.heap[D]? = some (.deferred (some [])) ∧ w5.heap.size ≤ w''.heap.size ∧ ∃ a2 c2, w''.heap[B1]? = some (.cells #[.slice a2 (applyL l (cs.take k)).length c2] T.L_api_Fact (0, 0)) ∧ ListAt factR NoB w5.heap.size w'' a2 c2 T.api_Fact (applyL l (cs.take k))) ∧
              ((cs.length : Int) - ((i + 1 : Nat) : Int)).toNat < ((cs.length : Int) - (i : Int)).toNat := fun hst B7 w27 hn27 => by
          have hB7 : B7 = w23.heap.size := hn27.num
          have hs27 := hn27.size
          refine (list_Insert_spec (H := fun b => av' = some ⟨b, 0, none⟩) (x := ⟨cs[i].key, cs[i].val⟩) (hl23.ext hn27.upd) (factR_intro (x := ⟨cs[i].key, cs[i].val⟩) ho5.2.1 (ho5.row.ext hn27.upd) fun _ q hq => hgv q hq) (fun b hb => ⟨.inl (by have := hav b hb; omega), by have := hav b hb; omega, fun hab => by have := hav b hb; have := ha2 b hab; omega⟩) hn27 (fun hab => by have := ha2 B7 hab; omega) hple (by omega) (by omega)).mono ?_
          rintro _ w28 ⟨a', c', rfl, hl28, hu28⟩
          exact ⟨_, _, _, rfl, next hst ((Upd.ext hn27.upd).trans hu28) hl28⟩
        refine br_intro (fun hb3 => ?_) fun hb3 => ?_
        · obtain ⟨hpl, hpk⟩ := of_decide_eq_true hb3
          rw [dif_pos ⟨hpl, fun _ => hpk⟩] at hsucc
          refine ⟨_, hgone, br_intro (fun hg => ?_) fun hg => ?_⟩
          · rw [if_pos hg] at hsucc
            refine ⟨_, _, _, cell_of g223 rfl, (list_Delete_spec hl23 hpl (by omega)).mono ?_⟩
            rintro _ w24 ⟨rfl, hl24, hu24⟩
            exact ⟨_, _, _, rfl, next hsucc.symm hu24 hl24⟩
          · rw [if_neg (by rw [hg]; decide)] at hsucc
            exact br_intro (fun _ => ⟨_, _, _, cell_of g223 rfl, _, _, _, _, _, _, _, hfv, doSet hpl hsucc.symm⟩) fun h => absurd (hb3.symm.trans h) (by decide)
        · have hnp : ¬ (p < l'.length ∧ ∀ h : p < l'.length, l'[p].key = cs[i].key) := fun ⟨hx, hy⟩ => of_decide_eq_false hb3 ⟨hx, hy hx⟩
          rw [dif_neg hnp] at hsucc
          refine br_intro (fun h => absurd (h.symm.trans hb3) (by decide)) fun _ => ⟨_, hgone, br_intro (fun hg => ?_) fun hg => ?_⟩
          · rw [if_neg (by intro h; rw [h] at hg; cases hg)] at hsucc
            exact ⟨_, _, _, cell_of g223 rfl, _, _, _, _, _, _, _, hfv, doIns hsucc.symm⟩
          · rw [if_pos (by cases h : cs[i].gone with | true => rfl | false => rw [h] at hg; cases hg)] at hsucc
            exact stay hsucc.symm
    · have hii : i = cs.length := by omega
      subst hii
      rw [List.take_length] at hl g2
      have hcl : CellsLe u (u.putObj D (.deferred none)) := CellsLe.turn gDu rfl
      exact ⟨_, _, _, cell_of g2 rfl, gDu, hR _ _ ⟨a2, c2, rfl, (hl.cellsLe hcl).weak hww (fun x hx => hx.elim), heu.turn (by omega)⟩⟩
end Go.Den
end
section
set_option linter.unusedVariables false
set_option linter.unusedSimpArgs false
set_option maxRecDepth 8000
namespace Go.Den
structure Act where
  act : Int
  kind : UInt8
  era : Nat
  block : Int
  page : Int
  fill : UInt8
namespace Act
def vals (a : Act) : List Value := [.int .i64 a.act, bv a.kind, .int .u32 a.era, .int .i64 a.block, .int .i64 a.page, bv a.fill]
end Act
/-- a row of taken blocks that stays -/
theorem TakenAt.row {w w' : World} {v : Value} {l : List Taken} (h : TakenAt w w' v l) : ∃ a cap, v = .slice a l.length cap ∧ RowAt w' a (l.flatMap Taken.vals) ∧ Fresh w a := by
  obtain ⟨a, cap, rfl, ho, hf⟩ := h
  exact ⟨a, cap, rfl, ho.row, hf⟩
end Go.Den
end
section
set_option linter.unusedVariables false
set_option linter.unusedSimpArgs false
set_option maxRecDepth 8000
namespace Go.Den
theorem PAt.turn {A S : Nat} {w : World} {M : PLoc} {P : Pool} {c : Chip} (h : PAt A S w M P c) : P.turn ≤ c.nb := by
  obtain ⟨L, G, hr, _⟩ := h
  exact hr.turn
theorem PAt.low {A S : Nat} {w : World} {M : PLoc} {P : Pool} {c : Chip} (h : PAt A S w M P c) : A ≤ M.p ∧ M.p < S := by
  obtain ⟨L, G, hr, hF, _⟩ := h
  exact hF M.p (.inr (.inr (by simp)))
end Go.Den
end
section
set_option linter.unusedVariables false
set_option linter.unusedSimpArgs false
set_option maxRecDepth 8000
namespace Go.Den
def ofKind (kind : UInt8) (era : Nat) (t : Taken) : Bool := decide (t.head.kind = kind) && decide (t.head.era = era)
theorem filter_take_succ {α : Type} (p : α → Bool) {l : List α} {i : Nat} (hi : i < l.length) : (l.take (i + 1)).filter p = if p l[i] then (l.take i).filter p ++ [l[i]] else (l.take i).filter p := by
  rw [List.take_succ_eq_append_getElem hi, List.filter_append]
  cases h : p l[i] <;> simp [h]
theorem filter_take_len {α : Type} (p : α → Bool) (l : List α) (i : Nat) : ((l.take i).filter p).length ≤ i := by
  have := List.length_filter_le p (l.take i)
  have := List.length_take_le i l
  omega
theorem carrackref04_Of_spec {F : Nat → Prop} {A : Nat} {w : World} {p : Nat} {c : Chip} (h : CIn F A w p c) (kind : UInt8) (era : Nat) :
    CallsR prog K.carrackref04_Of #[.pointer (some ⟨p, 0, none⟩), bv kind, .int .u32 era] w fun v w' => Ext w w' ∧ TakenAt w w' v ((refTaken c).filter (ofKind kind era)) := by
  apply carrackref04_Of.sh
  unfold carrackref04_Of.body
  refine (rTaken h).mono ?_
  rintro _ w1 ⟨he1, a1, c1, rfl, ho1, hf1⟩
  have hs1 := he1.size
  have hll : (refTaken c).length ≤ 64 := by
    have := refGo_length c c.nb
    have := h.ok.nb2
    unfold refTaken
    omega
  generalize refTaken c = l at *
  refine ⟨_, _, _, rfl, fun a n cp x u => ∃ i : Nat, x = i ∧ i ≤ l.length ∧ Ext w1 u ∧ n = ((l.take i).filter (ofKind kind era)).length ∧ OwnAt u a ((l.take i).filter (ofKind kind era)).length cp T.api_Taken 5 (((l.take i).filter (ofKind kind era)).flatMap Taken.vals) ∧ Fresh w1 a,
    fun _ _ _ x _ => (l.length - x).toNat, ⟨0, rfl, by omega, Upd.refl _ _, by simp, by simpa using OwnAt.nil _ _ _, Fresh.none _⟩, ?_⟩
  rintro a n cp x u ⟨i, rfl, hil, hu, rfl, ho, hfa⟩
  refine br_dec (fun hlt => ?_) fun hge => ?_
  · have hi' : i < l.length := by omega
    have e1 : IntKind.i64.wrap ((i : Int) + 1) = ((i + 1 : Nat) : Int) := w64 (by omega) (by omega)
    rw [e1]
    have hsucc := filter_take_succ (ofKind kind era) hi'
    have hrow := RowAt.ext ho1.row hu
    have same : ofKind kind era l[i] = false → (∃ k : Nat, ((i + 1 : Nat) : Int) = k ∧ k ≤ l.length ∧ Ext w1 u ∧ ((l.take i).filter (ofKind kind era)).length = ((l.take k).filter (ofKind kind era)).length ∧ OwnAt u a ((l.take k).filter (ofKind kind era)).length cp T.api_Taken 5 (((l.take k).filter (ofKind kind era)).flatMap Taken.vals) ∧ Fresh w1 a) ∧ ((l.length : Int) - ((i + 1 : Nat) : Int)).toNat < ((l.length : Int) - (i : Int)).toNat := by
      intro hn
      rw [hn] at hsucc
      simp only [Bool.false_eq_true, if_false] at hsucc
      exact ⟨⟨i + 1, rfl, hi', hu, by rw [hsucc], by rw [hsucc]; exact ho, hfa⟩, meas hi'⟩
    refine idx_flat (f := Taken.vals) Taken.vals_length (by omega) hrow rfl hi' fun b o hab hr => ?_
    obtain ⟨b', o', hab', hc⟩ := RowAt.cell hr (i := 1) (v := bv l[i].head.kind) rfl
    cases hab'
    simp only [add_lit]
    refine ⟨_, hc, br_eq (fun hk => ?_) fun hk => same (by unfold ofKind; rw [decide_eq_false (fun e => hk (by rw [e]))]; rfl)⟩
    refine idx_flat (f := Taken.vals) Taken.vals_length (by omega) hrow rfl hi' fun b o hab hr => ?_
    obtain ⟨b', o', hab', hc⟩ := RowAt.cell hr (i := 2) (v := .int .u32 l[i].head.era) rfl
    cases hab'
    simp only [add_lit]
    refine ⟨_, hc, br_eq (fun hk2 => ?_) fun hk2 => same (by unfold ofKind; rw [decide_eq_false (p := l[i].head.era = era) (fun e => hk2 (by rw [e]))]; simp)⟩
    have hyes : ofKind kind era l[i] = true := by
      unfold ofKind
      rw [decide_eq_true (UInt8.toNat_inj.1 (by omega)), decide_eq_true (by omega)]
      rfl
    rw [hyes] at hsucc
    simp only [if_true] at hsucc
    refine idx_flat (f := Taken.vals) Taken.vals_length (by omega) hrow rfl hi' fun b o hab hr => ?_
    refine ⟨l[i].block, l[i].head.kind.toNat, l[i].head.era, l[i].head.seq, l[i].bad, RowAt.cells hr, fun B1 w3 hn3 => ?_⟩
    have hlen := filter_take_len (ofKind kind era) l i
    have ho3 := OwnAt.ext ho hn3.upd
    generalize (l.take i).filter (ofKind kind era) = m at *
    refine append_flat (f := Taken.vals) Taken.vals_length ho3 (x := l[i]) rfl hn3 rfl (oneCell_taken _) rfl (by omega) (by omega) fun a' c' w4 hu4 ho4 hf4 => ?_
    have hB := hn3.num
    refine ⟨⟨i + 1, rfl, hi', Upd.beyond (hu.trans hn3.upd) hu4 (fun x hx => by have := hfa _ hx; exact this), by rw [hsucc], by rw [hsucc]; exact ho4, ?_⟩, meas hi'⟩
    rcases hf4 with rfl | ⟨b, rfl, hb⟩
    · exact hfa
    · exact Fresh.some (by have := hu.size; have := hn3.size; omega)
  · have hil' : i = l.length := by omega
    subst hil'
    rw [List.take_length] at ho ⊢
    exact ⟨he1.trans hu, a, cp, rfl, ho, hfa.mono hs1⟩
/-! ### Write, Away -/
end Go.Den
end
section
set_option linter.unusedVariables false
set_option linter.unusedSimpArgs false
set_option maxRecDepth 8000
namespace Go.Den
/-! ### Changes that are read are small -/
theorem finKey_name {k : Key} {s : St} (h : k.name.size < 256) : (finKey k s).1.name.size < 256 := by
  unfold finKey
  split
  · exact h
  · exact (by decide : Key.zero.name.size < 256)
theorem keyS_name (s : St) : (keyS s).1.name.size < 256 := by
  unfold keyS
  simp only []
  split
  · exact (by decide : Key.zero.name.size < 256)
  · split
    · split
      · exact (by decide : Key.zero.name.size < 256)
      · refine finKey_name ?_
        have := rowS_len (takeS 1 (takeS 2 s).2.2).2.2
        rw [size_data]
        simpa using this
    · split
      · split
        · exact (by decide : Key.zero.name.size < 256)
        · exact finKey_name (by show ByteArray.empty.size < 256; decide)
      · exact finKey_name (by show ByteArray.empty.size < 256; decide)
theorem oneS_name (s : St) : (oneS s).1.key.name.size < 256 := by
  have hz : Change.zero.key.name.size < 256 := by decide
  unfold oneS
  simp only []
  split
  · exact hz
  · split
    · exact hz
    · split
      · exact hz
      · split
        · exact keyS_name _
        · split
          · exact hz
          · split
            · exact hz
            · exact keyS_name _
theorem goS_name : ∀ (n : Nat) (s : St) (acc : List Change), (∀ x ∈ acc, x.key.name.size < 256) → ∀ x ∈ (goS n s acc).1, x.key.name.size < 256
  | 0, s, acc, h => by
    unfold goS
    split
    · simp
    · exact h
  | n + 1, s, acc, h => by
    unfold goS
    split
    · simp
    · refine goS_name n _ _ fun x hx => ?_
      rcases List.mem_append.1 hx with hx | hx
      · exact h x hx
      · simp at hx; subst hx; exact oneS_name s
theorem getS_name (b : List UInt8) : ∀ x ∈ (getS b).1, x.key.name.size < 256 := by
  unfold getS
  split
  · simp
  · split
    · simp
    · exact goS_name _ _ _ (by simp)
theorem pageS_name {n : Int} {b : List UInt8} {P : PageSay} (h : pageS n b = some P) : ∀ x ∈ P.changes, x.key.name.size < 256 := by
  unfold pageS at h
  split at h
  · cases h
  · split at h
    · split at h
      · cases h; exact getS_name _
      · cases h
    · split at h
      · split at h
        · cases h; simp
        · cases h
      · cases h
theorem pagesS_name {c : Chip} {i : Nat} {P : PageSay} (h : P ∈ pagesS c i) : ∀ x ∈ P.changes, x.key.name.size < 256 := by
  unfold pagesS pagesTo at h
  obtain ⟨k, _, hk⟩ := List.mem_filterMap.1 h
  split at hk
  · cases hk
  · exact pageS_name hk
/-! ### Facts out of pages -/
structure GoodC (cs : List Change) : Prop where
  len : cs.length ≤ 255
  ok : ∀ x ∈ cs, x.key.name.size < 256 ∧ x.val.length < 256
structure GoodF (n : Nat) (l : List Fact) : Prop where
  len : l.length ≤ n
  names : NamesF l
  vals : ∀ f ∈ l, f.val.length < 256
theorem pagesS_good {c : Chip} {i : Nat} {P : PageSay} (h : P ∈ pagesS c i) : GoodC P.changes := ⟨(pagesS_small h).2, fun x hx => ⟨pagesS_name h x hx, (pagesS_small h).1 x hx⟩⟩
theorem GoodC.small {cs : List Change} (h : GoodC cs) : SmallC cs := fun x hx => by have := h.ok x hx; omega
theorem GoodF.nil : GoodF 0 [] := ⟨Nat.le_refl _, fun _ h => (by cases h), fun _ h => (by cases h)⟩
theorem applyL_vals : ∀ {cs : List Change} {l : List Fact}, (∀ f ∈ l, f.val.length < 256) → (∀ x ∈ cs, x.val.length < 256) → ∀ f ∈ applyL l cs, f.val.length < 256
  | [], l, h, _ => h
  | c :: cs, l, h, hc => applyL_vals (cs := cs) (l := putF c l) (fun f hf => by
    rcases putF_mem hf with hf | ⟨_, rfl⟩
    · exact h f hf
    · exact hc c (by simp)) fun x hx => hc x (by simp [hx])
theorem GoodF.apply {n : Nat} {l : List Fact} {cs : List Change} (h : GoodF n l) (hc : GoodC cs) : GoodF (n + 255) (applyF l cs) := by
  unfold applyF
  split
  · have h1 := applyL_length l cs cs.length
    have h2 := applyL_names h.names hc.small cs.length
    rw [List.take_length] at h1 h2
    exact ⟨by have := h.len; have := hc.len; omega, h2, applyL_vals h.vals fun x hx => (hc.ok x hx).2⟩
  · exact ⟨Nat.zero_le _, fun _ h => (by cases h), fun _ h => (by cases h)⟩
def addP (acc : List Fact) (pg : List PageSay) : List Fact := pg.foldl (fun a p => applyF a p.changes) acc
theorem addP_succ (acc : List Fact) {pg : List PageSay} {k : Nat} (hk : k < pg.length) : addP acc (pg.take (k + 1)) = applyF (addP acc (pg.take k)) pg[k].changes := by
  unfold addP
  rw [List.take_succ_eq_append_getElem hk, List.foldl_append]; rfl
theorem GoodF.pages {n : Nat} {acc : List Fact} {pg : List PageSay} (h : GoodF n acc) (hp : ∀ P ∈ pg, GoodC P.changes) : ∀ k, k ≤ pg.length → GoodF (n + k * 255) (addP acc (pg.take k))
  | 0, _ => by simpa [addP] using h
  | k + 1, hk => by
    rw [addP_succ acc hk]
    have := (GoodF.pages h hp k (by omega)).apply (hp _ (List.getElem_mem hk))
    rwa [show n + (k + 1) * 255 = n + k * 255 + 255 by omega]
theorem GoodF.mono {n m : Nat} {l : List Fact} (h : GoodF n l) (hm : n ≤ m) : GoodF m l := ⟨Nat.le_trans h.len hm, h.names, h.vals⟩
def factsP (low : Nat) (l : List Part) : List Fact := (l.filter fun x => decide (low ≤ x.seq)).foldl (fun a x => addP a x.pages) []
theorem factsP_succ (low : Nat) {l : List Part} {i : Nat} (hi : i < l.length) : factsP low (l.take (i + 1)) = if low ≤ l[i].seq then addP (factsP low (l.take i)) l[i].pages else factsP low (l.take i) := by
  unfold factsP
  rw [List.take_succ_eq_append_getElem hi, List.filter_append, List.foldl_append, List.filter_cons]
  by_cases h : low ≤ l[i].seq <;> simp [h]
def GoodP (l : List Part) : Prop := ∀ x ∈ l, x.pages.length ≤ 32 ∧ ∀ P ∈ x.pages, GoodC P.changes
theorem factsP_good {low : Nat} {l : List Part} (h : GoodP l) : ∀ i, i ≤ l.length → GoodF (i * 8160) (factsP low (l.take i))
  | 0, _ => by simpa [factsP] using GoodF.nil
  | i + 1, hi => by
    have ih := factsP_good (low := low) h i (by omega)
    have hx := h l[i] (List.getElem_mem _)
    rw [factsP_succ low hi]
    split
    · have := ih.pages hx.2 l[i].pages.length (Nat.le_refl _)
      rw [List.take_length] at this
      exact this.mono (by have := hx.1; omega)
    · exact ih.mono (by omega)
theorem readParts_good {c : Chip} (hk : c.np ≤ 32) (era : Nat) : GoodP (readParts c era) := by
  intro x hx
  unfold readParts at hx
  split at hx
  · cases hx
  · unfold partsL at hx
    obtain ⟨t, _, rfl⟩ := List.mem_map.1 hx
    exact ⟨Nat.le_trans (pagesTo_length c t.block c.np) hk, fun P hP => pagesS_good hP⟩
/-- what an era says -/
theorem scan_Facts_spec {F : Nat → Prop} {A : Nat} {w : World} {p : Nat} {c : Chip} (h : CIn F A w p c) (hnb : c.nb < 20) (era : Nat) :
    CallsR prog K.scan_Facts #[.pointer (some ⟨p, 0, none⟩), .int .u32 era] w fun v w' => ∃ a ca, v = .tuple #[.slice a (factsP (lowL (readParts c era)) (readParts c era)).length ca, .int .i64 (readErr c era : Nat)] ∧ ListAt factR NoB w.heap.size w' a ca T.api_Fact (factsP (lowL (readParts c era)) (readParts c era)) ∧ Ext w w' := by
  apply scan_Facts.sh
  suffices H : ∀ R : Value → World → Prop, (∀ v w', (∃ a ca, v = .tuple #[.slice a (factsP (lowL (readParts c era)) (readParts c era)).length ca, .int .i64 (readErr c era : Nat)] ∧ ListAt factR NoB w.heap.size w' a ca T.api_Fact (factsP (lowL (readParts c era)) (readParts c era)) ∧ Ext w w') → R v w') → scan_Facts.body (some ⟨p, 0, none⟩) era w R from H _ fun _ _ h => h
  intro R hR
  unfold scan_Facts.body
  refine (scan_read_spec h hnb era).mono ?_
  have hlen := readParts_length (c := c) era
  have hgood := readParts_good h.ok.np2 era
  generalize readParts c era = l at *
  generalize lowL l = low at *
  rintro _ w₁ ⟨a1, c1, rfl, hl, he1⟩
  have hs1 := he1.size
  obtain ⟨G, hG1, hG2⟩ := hl.slice
  refine ⟨_, _, _, _, _, rfl, fun a2 l2 c2 x u => ∃ i : Nat, x = i ∧ i ≤ l.length ∧ l2 = (factsP low (l.take i)).length ∧ ListAt factR NoB w₁.heap.size u a2 c2 T.api_Fact (factsP low (l.take i)) ∧ Ext w₁ u, fun _ _ _ x _ => ((l.length : Int) - x).toNat,
    ⟨0, rfl, by omega, rfl, ListAt.nil _ _, Upd.refl _ _⟩, ?_⟩
  rintro a2 l2 c2 x u ⟨i, rfl, hi, rfl, hf, heu⟩
  have hgi := factsP_good (low := low) hgood i hi
  refine br_dec (fun hlt => ?_) fun hge => ?_
  · have hi' : i < l.length := by omega
    have ew : IntKind.i64.wrap ((i : Int) + 1) = ((i + 1 : Nat) : Int) := w64 (by omega) (by omega)
    simp only [ew]
    have hsucc := factsP_succ low hi'
    have hgl := hgood _ (List.getElem_mem hi')
    refine SliceAt.idx (r := partR) (hG1.ext heu) rfl hi' fun b o vs ha hrow hR' hG => ?_
    obtain ⟨ac, cc, rfl, hcc, hpg⟩ := partR_elim hR'
    refine ⟨_, _, _, _, _, hrow.cells, new_put (vs := partVs l[i].block l[i].seq ac l[i].pages.length cc) rfl fun B1 w₄ hb4 hs4 he4 g4 => ?_⟩
    simp only [add_lit, Nat.zero_add]
    have hsu := heu.size
    have e4 := heu.trans he4
    refine ⟨_, cell_of g4 rfl, br_dec (fun hlt' => ?_) fun hge' => ?_⟩
    · rw [if_neg (by omega)] at hsucc
      exact ⟨⟨i + 1, rfl, hi', by rw [hsucc], by rw [hsucc]; exact hf.ext he4, e4⟩, meas hi'⟩
    rw [if_pos (by omega)] at hsucc
    generalize hpgg : l[i].pages = pg at *
    refine ⟨_, _, _, cell_of g4 rfl, fun a5 l5 c5 y v => ∃ k : Nat, y = k ∧ k ≤ pg.length ∧ l5 = (addP (factsP low (l.take i)) (pg.take k)).length ∧ ListAt factR NoB w₁.heap.size v a5 c5 T.api_Fact (addP (factsP low (l.take i)) (pg.take k)) ∧ Ext w₄ v, fun _ _ _ y _ => ((pg.length : Int) - y).toNat,
      ⟨0, rfl, by omega, rfl, hf.ext he4, Upd.refl _ _⟩, ?_⟩
    rintro a5 l5 c5 y v ⟨k, rfl, hk, rfl, hfk, hev⟩
    refine br_dec (fun hltk => ?_) fun hgek => ?_
    · have hk' : k < pg.length := by omega
      have ewk : IntKind.i64.wrap ((k : Int) + 1) = ((k + 1 : Nat) : Int) := w64 (by omega) (by omega)
      simp only [ewk]
      have hgk := hgi.pages hgl.2 k hk
      have hgc := hgl.2 _ (List.getElem_mem hk')
      have hsv := hev.size
      refine SliceAt.idx (r := pageR) ((hpg.ext he4).ext hev) rfl hk' fun b2 o2 vs2 _ hrow2 hR2 _ => ?_
      obtain ⟨ap, cp, rfl, hcp, hch⟩ := pageR_elim hR2
      refine ⟨_, _, _, _, _, hrow2.cells, new_put (vs := pageVs pg[k].page ap pg[k].changes.length cp pg[k].drop) rfl fun B2 w₇ hb7 hs7 he7 g7 => ?_⟩
      obtain ⟨G', hG1', hG2'⟩ := (hfk.ext he7).slice
      have hgl1 := hgl.1
      refine ⟨_, _, _, cell_of g7 rfl, (fact_Apply_spec hG1' (fun b hb => (hG2' b hb).2) (hch.ext he7) (by have := hgk.len; have := hgc.len; omega) (fun f hff => by have := hgk.vals f hff; omega) hgc.small).mono ?_⟩
      rintro _ w₈ ⟨a', c', rfl, hl8, he8⟩
      have hadd := addP_succ (factsP low (l.take i)) hk'
      refine ⟨_, _, _, rfl, ⟨k + 1, rfl, hk', by rw [hadd], by rw [hadd]; exact hl8.weak (by omega) (fun x hx => hx.elim), (hev.trans he7).trans he8⟩, meas hk'⟩
    · have hkk : k = pg.length := by omega
      subst hkk
      rw [List.take_length] at hfk ⊢
      exact ⟨⟨i + 1, rfl, hi', by rw [hsucc], by rw [hsucc]; exact hfk, e4.trans hev⟩, meas hi'⟩
  · have hii : i = l.length := by omega
    subst hii
    rw [List.take_length] at hf ⊢
    exact hR _ _ ⟨a2, c2, rfl, hf.weak hs1 fun _ h => h.elim, he1.trans heu⟩
end Go.Den
end
section
set_option linter.unusedVariables false
namespace Go.Den
theorem scanGo_known {c : Chip} (hd0 : c.dead = false) : ∀ n, n ≤ c.nb → (scanGo c n).blocks.length = c.nb ∧ (∀ i, i < n → (scanGo c n).blk i = view c i)
  | 0, _ => ⟨by simp [scanGo], fun i hi => by omega⟩
  | n + 1, hn => by
    obtain ⟨h1, h2⟩ := scanGo_known hd0 n (by omega)
    have hb : ∀ i, i < n + 1 → ((scanGo c n).relook c n).blk i = view c i := by
      intro i hi
      unfold Pool.relook
      rw [setBlk_blk (by omega), lookAt_view, hd0]
      by_cases e : i = n
      · rw [if_pos e, e]; rfl
      · rw [if_neg e]; exact h2 i (by omega)
    have hl : ((scanGo c n).relook c n).blocks.length = c.nb := by
      show ((scanGo c n).blocks.set n _).length = _
      rw [List.length_set]; exact h1
    rw [scanGo]
    split
    · exact ⟨hl, hb⟩
    · exact ⟨hl, hb⟩
def tkey (t : Taken) : Nat := t.head.seq * 64 + t.block
theorem tkey_lt {a b : Taken} (ha : a.block < 64) (hb : b.block < 64) : takenLt a b = true ↔ tkey a < tkey b := by
  unfold takenLt tkey
  simp only [Bool.or_eq_true, Bool.and_eq_true, decide_eq_true_eq]
  constructor
  · rintro (h | ⟨h1, h2⟩) <;> omega
  · intro h
    by_cases e : a.head.seq < b.head.seq
    · exact .inl e
    · refine .inr ⟨?_, ?_⟩ <;> omega
theorem sink_by {x : Taken} (hx : x.block < 64) : ∀ {l : List Taken}, (∀ y ∈ l, y.block < 64) → l.Pairwise (fun a b => tkey b < tkey a) → (∀ y ∈ l, tkey y ≠ tkey x) → (sink takenLt x l).Pairwise (fun a b => tkey b < tkey a)
  | [], _, _, _ => by simp [sink]
  | y :: l, hb, hl, hx' => by
    obtain ⟨l1, l2⟩ := List.pairwise_cons.1 hl
    have hyx := hx' y (by simp)
    have hyb := hb y (by simp)
    unfold sink
    split
    · rename_i hlt
      have hxy := (tkey_lt hx hyb).1 hlt
      refine List.pairwise_cons.2 ⟨fun z hz => ?_, sink_by hx (fun z hz => hb z (by simp [hz])) l2 fun z hz => hx' z (by simp [hz])⟩
      rcases (sink_mem takenLt x z l).1 hz with rfl | hz
      · exact hxy
      · exact l1 z hz
    · rename_i hlt
      have hxy : tkey y < tkey x := by
        have : ¬ tkey x < tkey y := fun h => hlt ((tkey_lt hx hyb).2 h)
        omega
      refine List.pairwise_cons.2 ⟨fun z hz => ?_, hl⟩
      rcases List.mem_cons.1 hz with rfl | hz
      · exact hxy
      · have := l1 z hz; omega
theorem isort_by {l : List Taken} (hb : ∀ y ∈ l, y.block < 64) (h : l.Pairwise (fun a b => tkey a ≠ tkey b)) : (isort takenLt l).Pairwise (fun a b => tkey a < tkey b) := by
  unfold isort
  rw [List.pairwise_reverse]
  have key : ∀ (l acc : List Taken), (∀ y ∈ l, y.block < 64) → (∀ y ∈ acc, y.block < 64) → acc.Pairwise (fun a b => tkey b < tkey a) → l.Pairwise (fun a b => tkey a ≠ tkey b) → (∀ a ∈ acc, ∀ b ∈ l, tkey a ≠ tkey b) → (l.foldl (fun acc x => sink takenLt x acc) acc).Pairwise (fun a b => tkey b < tkey a) := by
    intro l
    induction l with
    | nil => intro acc _ _ ha _ _; exact ha
    | cons x l ih =>
      intro acc hbl hba ha hl hx
      obtain ⟨l1, l2⟩ := List.pairwise_cons.1 hl
      rw [List.foldl_cons]
      have hxb := hbl x (by simp)
      refine ih _ (fun y hy => hbl y (by simp [hy])) (fun y hy => ?_) (sink_by hxb hba ha fun y hy => hx y hy x (by simp)) l2 fun a ha' b hb => ?_
      · rcases (sink_mem takenLt x y acc).1 hy with rfl | hy
        · exact hxb
        · exact hba y hy
      · rcases (sink_mem takenLt x a acc).1 ha' with rfl | ha'
        · exact l1 b hb
        · exact hx a ha' b (by simp [hb])
  exact key l [] hb (by simp) List.Pairwise.nil h fun a ha => by simp at ha
theorem any_raw_mem {P : Pool} {c : Chip} (hk : ∀ i, i < c.nb → P.blk i = view c i) {n : Nat} (hn : n ≤ c.nb) (t : Taken) : t ∈ takenRaw P c n ↔ IsTaken c n t := by
  have hw : ∀ i, i < c.nb → ((P.blk i).what = 2 ↔ isHd c i) := fun i hi => by rw [hk i hi]; exact view_what c i
  unfold takenRaw IsTaken
  rw [List.mem_filterMap]
  constructor
  · rintro ⟨i, hi, e⟩
    have hi' : i < n := by simpa using hi
    split at e
    · rename_i hw'
      cases e
      have hh := (hw i (by omega)).1 hw'
      refine ⟨hi', hh, ?_, rfl⟩
      rw [hk i (by omega), view_pos hh]
    · cases e
  · rintro ⟨h1, h2, h3, h4⟩
    refine ⟨t.block, by simpa using h1, ?_⟩
    rw [if_pos ((hw _ (by omega)).2 h2)]
    obtain ⟨b, hh, bad⟩ := t
    simp only [] at h1 h2 h3 h4 ⊢
    rw [hk b (by omega), view_pos h2, h3, h4]
theorem any_raw_distinct {P : Pool} {c : Chip} (hk : ∀ i, i < c.nb → P.blk i = view c i) (hnb : c.nb ≤ 64) : ∀ n, n ≤ c.nb → (takenRaw P c n).Pairwise (fun a b => tkey a ≠ tkey b)
  | 0, _ => by simp [takenRaw]
  | n + 1, hn => by
    rw [takenRaw_succ]
    rw [List.pairwise_append]
    refine ⟨any_raw_distinct hk hnb n (by omega), ?_, fun a ha b hb => ?_⟩
    · split <;> simp
    · obtain ⟨a1, a2, a3, _⟩ := (any_raw_mem hk (by omega) a).1 ha
      have hbn : b.block = n := by
        split at hb
        · simp at hb; rw [hb]
        · simp at hb
      unfold tkey
      omega
theorem insAt_by {t : Taken} (ht : t.block < 64) : ∀ {l : List Taken}, (∀ y ∈ l, y.block < t.block) → l.Pairwise (fun a b => tkey a < tkey b) → (insAt t l).Pairwise (fun a b => tkey a < tkey b)
  | [], _, _ => by simp [insAt, posOf]
  | y :: l, hb, hl => by
    obtain ⟨l1, l2⟩ := List.pairwise_cons.1 hl
    have hyb := hb y (by simp)
    rw [insAt_cons]
    split
    · refine List.pairwise_cons.2 ⟨fun z hz => ?_, insAt_by ht (fun z hz => hb z (by simp [hz])) l2⟩
      rcases (insAt_mem t z l).1 hz with rfl | hz
      · unfold tkey; omega
      · exact l1 z hz
    · refine List.pairwise_cons.2 ⟨fun z hz => ?_, hl⟩
      rcases List.mem_cons.1 hz with rfl | hz
      · unfold tkey; omega
      · have := l1 z hz
        unfold tkey at this ⊢; omega
theorem any_ref_mem {c : Chip} (h : c.Ok) (hd0 : c.dead = false) : ∀ n, n ≤ c.nb → (∀ t, t ∈ refGo c n ↔ IsTaken c n t) ∧ (refGo c n).Pairwise (fun a b => tkey a < tkey b)
  | 0, _ => ⟨fun t => by simp [refGo, IsTaken], by simp [refGo]⟩
  | n + 1, hn => by
    obtain ⟨h1, h2⟩ := any_ref_mem h hd0 n (by omega)
    have hr := refHead_eq h hd0 (i := n) (by omega)
    have hnb := h.nb2
    rw [refGo, hr]
    simp only [decide_eq_true_eq]
    split
    · rename_i hh
      refine ⟨fun t => ?_, insAt_by (by show n < 64; omega) (fun y hy => ((h1 y).1 hy).1) h2⟩
      rw [insAt_mem, h1]
      constructor
      · rintro (rfl | ⟨a, b⟩)
        · exact ⟨Nat.lt_succ_self _, hh, rfl, rfl⟩
        · exact ⟨by omega, b⟩
      · rintro ⟨a, b, d, e⟩
        by_cases hb : t.block = n
        · left
          obtain ⟨tb, th, tbad⟩ := t
          simp only [] at hb d e
          subst hb
          rw [d, e]
        · exact .inr ⟨by omega, b, d, e⟩
    · rename_i hh
      refine ⟨fun t => ?_, h2⟩
      rw [h1]
      constructor
      · rintro ⟨a, b⟩; exact ⟨by omega, b⟩
      · rintro ⟨a, b, d⟩
        have : t.block ≠ n := fun e => hh (e ▸ b)
        exact ⟨by omega, b, d⟩
/-- whatever stands on a chip -/
theorem any_taken_ref {c : Chip} (h : c.Ok) (hd0 : c.dead = false) : takenPool (scanPool c) c = refTaken c := by
  obtain ⟨h1, h2⟩ := any_ref_mem h hd0 c.nb (Nat.le_refl _)
  have hk := (scanGo_known hd0 c.nb (Nat.le_refl _)).2
  have hnb := h.nb2
  have hm : ∀ t, t ∈ takenPool (scanPool c) c ↔ IsTaken c c.nb t := fun t => by
    unfold takenPool
    rw [isort_mem]
    exact any_raw_mem hk (Nat.le_refl _) t
  refine sorted_ext (f := tkey) ?_ h2 fun t => by rw [hm]; exact (h1 t).symm
  exact isort_by (fun y hy => by have := ((any_raw_mem hk (Nat.le_refl _) y).1 hy).1; omega) (any_raw_distinct hk hnb _ (Nat.le_refl _))
end Go.Den
end
section
set_option linter.unusedVariables false
set_option linter.unusedSimpArgs false
set_option maxRecDepth 8000
namespace Go.Den
theorem ofKind_log (era : Nat) : ofKind 1 era = isLog era := rfl
theorem refTaken_block {c : Chip} (h : c.Ok) (hd0 : c.dead = false) : ∀ x ∈ refTaken c, x.block < c.nb := by
  intro x hx
  rw [← any_taken_ref h hd0] at hx
  unfold takenPool at hx
  rw [isort_mem] at hx
  exact takenRaw_block hx
theorem refTaken_len {c : Chip} (h : c.Ok) (hd0 : c.dead = false) : (refTaken c).length ≤ c.nb := by
  rw [← any_taken_ref h hd0]
  unfold takenPool
  rw [isort_length]
  exact takenRaw_length _ _ _
/-- what the reference walks over -/
structure RefL (c : Chip) (L : List Taken) : Prop where
  blk : ∀ x ∈ L, x.block < c.nb
  len : L.length ≤ 64
theorem refL {c : Chip} (h : c.Ok) (hd0 : c.dead = false) (era : Nat) : RefL c ((refTaken c).filter (isLog era)) := by
  refine ⟨fun x hx => refTaken_block h hd0 x (List.mem_filter.1 hx).1, ?_⟩
  have := List.length_filter_le (isLog era) (refTaken c)
  have := refTaken_len h hd0
  have := h.nb2
  omega
theorem map_take_succ {α β : Type} (f : α → β) {l : List α} {i : Nat} (hi : i < l.length) : (l.take (i + 1)).map f = (l.take i).map f ++ [f l[i]] := by
  rw [List.take_succ_eq_append_getElem hi, List.map_append]; rfl
theorem carrackref12_Drop_spec {F : Nat → Prop} {A : Nat} {w : World} {p : Nat} {c : Chip} (h : CIn F A w p c) (hd0 : c.dead = false) (era : Nat) :
    CallsR prog K.carrackref12_Drop #[.pointer (some ⟨p, 0, none⟩), .int .u32 era] w fun v w' => v = .int .u64 (lowL (partsL c era (refTaken c)) : Nat) ∧ Ext w w' := by
  apply carrackref12_Drop.sh
  suffices H : ∀ R : Value → World → Prop, (∀ v w', v = .int .u64 (lowL (partsL c era (refTaken c)) : Nat) ∧ Ext w w' → R v w') → carrackref12_Drop.body (some ⟨p, 0, none⟩) era w R from H _ fun _ _ h => h
  intro R hR
  unfold carrackref12_Drop.body
  refine (carrackref04_Of_spec h 1 era).mono ?_
  rw [ofKind_log]
  have hL := refL h.ok hd0 era
  change ∀ v w', v = .int .u64 (lowL (((refTaken c).filter (isLog era)).map (partOf c)) : Nat) ∧ Ext w w' → R v w' at hR
  generalize (refTaken c).filter (isLog era) = L at *
  rintro _ w₁ ⟨he1, a1, c1, rfl, ho1, hf1⟩
  have hlen := hL.len
  refine ⟨_, _, _, rfl, fun x y u => ∃ i : Nat, y = i ∧ i ≤ L.length ∧ x = (lowL ((L.take i).map (partOf c)) : Nat) ∧ Ext w₁ u, fun _ y _ => ((L.length : Int) - y).toNat, ⟨0, rfl, by omega, rfl, Upd.refl _ _⟩, ?_⟩
  rintro x y u ⟨i, rfl, hi, rfl, heu⟩
  refine br_dec (fun hlt => ?_) fun hge => ?_
  · have hi' : i < L.length := by omega
    have ew : IntKind.i64.wrap ((i : Int) + 1) = ((i + 1 : Nat) : Int) := w64 (by omega) (by omega)
    simp only [ew]
    have hb := hL.blk _ (List.getElem_mem hi')
    refine idx_flat (f := Taken.vals) Taken.vals_length (by omega) (ho1.row.ext heu) rfl hi' fun b o hab hr => ?_
    refine ⟨_, (by have := hr.cells; exact this.1), (carrackref12_Pages_spec (h.ext (he1.trans heu)) hd0 hb).mono ?_⟩
    rintro _ w₃ ⟨a2, c2, rfl, hl2, he3⟩
    have hsucc : lowL ((L.take (i + 1)).map (partOf c)) = lowP (lowL ((L.take i).map (partOf c))) (pagesS c L[i].block) := by rw [map_take_succ _ hi', lowL_snoc]; rfl
    have hpl := pagesTo_length c L[i].block c.np
    have hnp := h.ok.np2
    change (pagesS c L[i].block).length ≤ c.np at hpl
    generalize pagesS c L[i].block = pg at *
    obtain ⟨G2, hG2, _⟩ := hl2.slice
    refine ⟨_, _, _, rfl, fun x4 x5 v => ∃ k : Nat, x5 = k ∧ k ≤ pg.length ∧ x4 = (lowP (lowL ((L.take i).map (partOf c))) (pg.take k) : Nat) ∧ Ext w₃ v, fun _ x5 _ => ((pg.length : Int) - x5).toNat, ⟨0, rfl, by omega, rfl, Upd.refl _ _⟩, ?_⟩
    rintro x4 x5 v ⟨k, rfl, hk, rfl, hev⟩
    refine br_dec (fun hltk => ?_) fun hgek => ?_
    · have hk' : k < pg.length := by omega
      have ewk : IntKind.i64.wrap ((k : Int) + 1) = ((k + 1 : Nat) : Int) := w64 (by omega) (by omega)
      refine SliceAt.idx (r := pageR) (hG2.ext hev) rfl hk' fun b2 o2 vs2 _ hrow2 hR2 _ => ?_
      obtain ⟨_, _, rfl, _, _⟩ := pageR_elim hR2
      simp only [add_lit]
      refine ⟨_, row_cell hrow2 (j := 2) rfl, ?_⟩
      rw [ewk, max_if]
      exact ⟨⟨k + 1, rfl, hk', by rw [lowP_succ _ hk'], hev⟩, meas hk'⟩
    · have hkk : k = pg.length := by omega
      subst hkk
      rw [List.take_length]
      exact ⟨⟨i + 1, rfl, hi', by rw [hsucc], (heu.trans he3).trans hev⟩, meas hi'⟩
  · have hii : i = L.length := by omega
    subst hii
    rw [List.take_length]
    exact hR _ _ ⟨rfl, he1.trans heu⟩
theorem carrackref12_Blocks_spec {F : Nat → Prop} {A : Nat} {w : World} {p : Nat} {c : Chip} (h : CIn F A w p c) (hd0 : c.dead = false) (era : Nat) :
    CallsR prog K.carrackref12_Blocks #[.pointer (some ⟨p, 0, none⟩), .int .u32 era] w fun v w' => ∃ a ca b cb, v = .tuple #[.slice a (countS (lowL (partsL c era (refTaken c))) (partsL c era (refTaken c))).length ca, .slice b (dropS' (lowL (partsL c era (refTaken c))) (partsL c era (refTaken c))).length cb] ∧
      IList w.heap.size w' a ca (countS (lowL (partsL c era (refTaken c))) (partsL c era (refTaken c))) ∧ IList w.heap.size w' b cb (dropS' (lowL (partsL c era (refTaken c))) (partsL c era (refTaken c))) ∧ Ext w w' := by
  apply carrackref12_Blocks.sh
  suffices H : ∀ R : Value → World → Prop, (∀ v w', (∃ a ca b cb, v = .tuple #[.slice a (countS (lowL (partsL c era (refTaken c))) (partsL c era (refTaken c))).length ca, .slice b (dropS' (lowL (partsL c era (refTaken c))) (partsL c era (refTaken c))).length cb] ∧
      IList w.heap.size w' a ca (countS (lowL (partsL c era (refTaken c))) (partsL c era (refTaken c))) ∧ IList w.heap.size w' b cb (dropS' (lowL (partsL c era (refTaken c))) (partsL c era (refTaken c))) ∧ Ext w w') → R v w') → carrackref12_Blocks.body (some ⟨p, 0, none⟩) era w R from H _ fun _ _ h => h
  intro R hR
  unfold carrackref12_Blocks.body
  refine (carrackref12_Drop_spec h hd0 era).mono ?_
  rintro _ w₁ ⟨rfl, he1⟩
  generalize lowL (partsL c era (refTaken c)) = low at *
  refine ⟨_, rfl, (carrackref04_Of_spec (h.ext he1) 1 era).mono ?_⟩
  rw [ofKind_log]
  have hL := refL h.ok hd0 era
  have hpl : partsL c era (refTaken c) = ((refTaken c).filter (isLog era)).map (partOf c) := rfl
  rw [hpl] at hR
  generalize (refTaken c).filter (isLog era) = L at *
  clear hpl
  rintro _ w₂ ⟨he2, a1, c1, rfl, ho1, hf1⟩
  have hlen := hL.len
  have e2 := he1.trans he2
  have hs2 := e2.size
  refine ⟨_, _, _, rfl, fun a2 l2 c2 a3 l3 c3 x u => ∃ i : Nat, x = i ∧ i ≤ L.length ∧ l2 = (countS low ((L.take i).map (partOf c))).length ∧ l3 = (dropS' low ((L.take i).map (partOf c))).length ∧ IList w₂.heap.size u a2 c2 (countS low ((L.take i).map (partOf c))) ∧ IList w₂.heap.size u a3 c3 (dropS' low ((L.take i).map (partOf c))) ∧ (∀ b, a2 = some ⟨b, 0, none⟩ → a3 ≠ some ⟨b, 0, none⟩) ∧ Ext w₂ u, fun _ _ _ _ _ _ x _ => ((L.length : Int) - x).toNat,
    ⟨0, rfl, by omega, rfl, rfl, IList.nil _ _, IList.nil _ _, fun _ h => by (cases h), Upd.refl _ _⟩, ?_⟩
  rintro a2 l2 c2 a3 l3 c3 x u ⟨i, rfl, hi, rfl, rfl, hi2, hi3, hne, heu⟩
  have k2 := filter_map_len (fun x : Part => decide (low ≤ x.seq)) (·.block) ((L.take i).map (partOf c))
  have k3 := filter_map_len (fun x : Part => !decide (low ≤ x.seq)) (·.block) ((L.take i).map (partOf c))
  rw [List.length_map, List.length_map, List.length_take] at k2 k3
  have k2' : (countS low ((L.take i).map (partOf c))).length ≤ min i L.length := by unfold countS; rw [List.length_map]; exact k2
  have k3' : (dropS' low ((L.take i).map (partOf c))).length ≤ min i L.length := by unfold dropS'; rw [List.length_map]; exact k3
  refine br_dec (fun hlt => ?_) fun hge => ?_
  · have hi' : i < L.length := by omega
    have ew : IntKind.i64.wrap ((i : Int) + 1) = ((i + 1 : Nat) : Int) := w64 (by omega) (by omega)
    simp only [ew]
    have s2 : countS low ((L.take (i + 1)).map (partOf c)) = countS low ((L.take i).map (partOf c)) ++ if decide (low ≤ L[i].head.seq) then [(L[i].block : Int)] else [] := by
      unfold countS
      rw [map_take_succ _ hi', List.filter_append, List.map_append, List.filter_cons]
      congr 1
      by_cases hh : low ≤ L[i].head.seq <;> simp [partOf, hh]
    have s3 : dropS' low ((L.take (i + 1)).map (partOf c)) = dropS' low ((L.take i).map (partOf c)) ++ if !decide (low ≤ L[i].head.seq) then [(L[i].block : Int)] else [] := by
      unfold dropS'
      rw [map_take_succ _ hi', List.filter_append, List.map_append, List.filter_cons]
      congr 1
      by_cases hh : low ≤ L[i].head.seq <;> simp [partOf, hh]
    have hrow := ho1.row.ext heu
    refine idx_flat (f := Taken.vals) Taken.vals_length (by omega) hrow rfl hi' fun b o hab hr => ?_
    simp only [add_lit]
    have hsu := heu.size
    refine ⟨_, row_cell hr (j := 3) rfl, br_dec (fun hge => ?_) fun hlt' => ?_⟩
    · refine idx_flat (f := Taken.vals) Taken.vals_length (by omega) hrow rfl hi' fun b o hab hr => ?_
      refine ⟨_, (by have := hr.cells; exact this.1), fun B2 w₅ hn5 => ?_⟩
      rw [decide_eq_true (by omega : low ≤ L[i].head.seq)] at s2 s3
      simp only [if_true, Bool.not_true, Bool.false_eq_true, if_false, List.append_nil] at s2 s3
      refine IList.pushX (G := fun x => a3 = some ⟨x, 0, none⟩) hi2 (fun b hb hb' => hne b hb hb') (fun x hx => hi3.lt hx) rfl hn5 (by omega) (by omega) fun a' c' w₆ hu6 hl6 hne6 => ?_
      rw [← s2] at hl6 ⊢
      have h3 : IList w₂.heap.size w₆ a3 c3 (dropS' low ((L.take i).map (partOf c))) := ⟨hi3.1.upd hu6 fun b hb hF => hF.2 hb, hi3.2⟩
      refine ⟨⟨i + 1, rfl, hi', rfl, by rw [s3], hl6, by rw [s3]; exact h3, fun b hb hb' => hne6 b hb hb', heu.beyond hu6 fun x hx => hx.1⟩, meas hi'⟩
    · refine idx_flat (f := Taken.vals) Taken.vals_length (by omega) hrow rfl hi' fun b o hab hr => ?_
      refine ⟨_, (by have := hr.cells; exact this.1), fun B2 w₅ hn5 => ?_⟩
      rw [decide_eq_false (by omega : ¬ low ≤ L[i].head.seq)] at s2 s3
      simp only [if_true, Bool.not_false, Bool.false_eq_true, if_false, List.append_nil] at s2 s3
      refine IList.pushX (G := fun x => a2 = some ⟨x, 0, none⟩) hi3 (fun b hb hb' => hne b hb' hb) (fun x hx => hi2.lt hx) rfl hn5 (by omega) (by omega) fun a' c' w₆ hu6 hl6 hne6 => ?_
      rw [← s3] at hl6 ⊢
      have h3 : IList w₂.heap.size w₆ a2 c2 (countS low ((L.take i).map (partOf c))) := ⟨hi2.1.upd hu6 fun b hb hF => hF.2 hb, hi2.2⟩
      refine ⟨⟨i + 1, rfl, hi', by rw [s2], rfl, by rw [s2]; exact h3, hl6, fun b hb hb' => hne6 b hb' hb, heu.beyond hu6 fun x hx => hx.1⟩, meas hi'⟩
  · have hii : i = L.length := by omega
    subst hii
    rw [List.take_length] at hi2 hi3 ⊢
    exact hR _ _ ⟨a2, c2, a3, c3, rfl, hi2.weak hs2, hi3.weak hs2, e2.trans heu⟩
def factsB (c : Chip) (l : List Int) : List Fact := l.foldl (fun a b => addP a (pagesS c b.toNat)) []
theorem factsB_succ (c : Chip) {l : List Int} {i : Nat} (hi : i < l.length) : factsB c (l.take (i + 1)) = addP (factsB c (l.take i)) (pagesS c l[i].toNat) := by
  unfold factsB
  rw [List.take_succ_eq_append_getElem hi, List.foldl_append]; rfl
theorem factsB_parts (c : Chip) (low : Nat) (L : List Taken) : factsB c (countS low (L.map (partOf c))) = factsP low (L.map (partOf c)) := by
  unfold factsB factsP countS
  rw [List.foldl_map]
  have : ∀ (l : List Part) (acc : List Fact), (∀ x ∈ l, x.pages = pagesS c x.block.toNat) → l.foldl (fun a x => addP a (pagesS c x.block.toNat)) acc = l.foldl (fun a x => addP a x.pages) acc := by
    intro l
    induction l with
    | nil => intro acc _; rfl
    | cons x l ih =>
      intro acc hx
      rw [List.foldl_cons, List.foldl_cons, hx x (by simp)]
      exact ih _ fun y hy => hx y (by simp [hy])
  refine this _ _ fun x hx => ?_
  obtain ⟨t, _, rfl⟩ := List.mem_map.1 (List.mem_filter.1 hx).1
  rfl
theorem factsB_good (c : Chip) (hnp : c.np ≤ 32) (l : List Int) : ∀ i, i ≤ l.length → GoodF (i * 8160) (factsB c (l.take i))
  | 0, _ => by simpa [factsB] using GoodF.nil
  | i + 1, hi => by
    rw [factsB_succ c (by omega : i < l.length)]
    have hp := pagesTo_length c l[i].toNat c.np
    change (pagesS c l[i].toNat).length ≤ c.np at hp
    have := (factsB_good c hnp l i (by omega)).pages (pg := pagesS c l[i].toNat) (fun P hP => pagesS_good hP) (pagesS c l[i].toNat).length (Nat.le_refl _)
    rw [List.take_length] at this
    exact this.mono (by omega)
theorem carrackref12_Facts_spec {F : Nat → Prop} {A : Nat} {w : World} {p : Nat} {c : Chip} (h : CIn F A w p c) (hd0 : c.dead = false) (era : Nat) :
    CallsR prog K.carrackref12_Facts #[.pointer (some ⟨p, 0, none⟩), .int .u32 era] w fun v w' => ∃ a ca, v = .slice a (factsP (lowL (partsL c era (refTaken c))) (partsL c era (refTaken c))).length ca ∧ ListAt factR NoB w.heap.size w' a ca T.api_Fact (factsP (lowL (partsL c era (refTaken c))) (partsL c era (refTaken c))) ∧ Ext w w' := by
  apply carrackref12_Facts.sh
  suffices H : ∀ R : Value → World → Prop, (∀ v w', (∃ a ca, v = .slice a (factsP (lowL (partsL c era (refTaken c))) (partsL c era (refTaken c))).length ca ∧ ListAt factR NoB w.heap.size w' a ca T.api_Fact (factsP (lowL (partsL c era (refTaken c))) (partsL c era (refTaken c))) ∧ Ext w w') → R v w') → carrackref12_Facts.body (some ⟨p, 0, none⟩) era w R from H _ fun _ _ h => h
  intro R hR
  unfold carrackref12_Facts.body
  refine (carrackref12_Blocks_spec h hd0 era).mono ?_
  generalize lowL (partsL c era (refTaken c)) = low at *
  have hL := refL h.ok hd0 era
  have hpl : partsL c era (refTaken c) = ((refTaken c).filter (isLog era)).map (partOf c) := rfl
  rw [hpl] at hR ⊢
  rw [← factsB_parts] at hR
  have hbl : ∀ b ∈ countS low (((refTaken c).filter (isLog era)).map (partOf c)), ∃ i : Nat, b = (i : Int) ∧ i < c.nb := by
    intro b hb
    unfold countS at hb
    obtain ⟨x, hx, rfl⟩ := List.mem_map.1 hb
    obtain ⟨t, ht, rfl⟩ := List.mem_map.1 (List.mem_filter.1 hx).1
    exact ⟨t.block, rfl, hL.blk t ht⟩
  have hcl : (countS low (((refTaken c).filter (isLog era)).map (partOf c))).length ≤ 64 := by
    have := filter_map_len (fun x : Part => decide (low ≤ x.seq)) (·.block) (((refTaken c).filter (isLog era)).map (partOf c))
    rw [List.length_map, List.length_map] at this
    have h2 := hL.len
    unfold countS
    rw [List.length_map]
    omega
  generalize countS low (((refTaken c).filter (isLog era)).map (partOf c)) = l at *
  rintro _ w₁ ⟨a1, c1, a2, c2, rfl, hi1, _, he1⟩
  have hs1 := he1.size
  have hnp := h.ok.np2
  refine ⟨_, _, _, _, _, _, rfl, fun a3 l3 c3 x u => ∃ i : Nat, x = i ∧ i ≤ l.length ∧ l3 = (factsB c (l.take i)).length ∧ ListAt factR NoB w₁.heap.size u a3 c3 T.api_Fact (factsB c (l.take i)) ∧ Ext w₁ u, fun _ _ _ x _ => ((l.length : Int) - x).toNat,
    ⟨0, rfl, by omega, rfl, ListAt.nil _ _, Upd.refl _ _⟩, ?_⟩
  rintro a3 l3 c3 x u ⟨i, rfl, hi, rfl, hf, heu⟩
  have hgi := factsB_good c hnp l i hi
  refine br_dec (fun hlt => ?_) fun hge => ?_
  · have hi' : i < l.length := by omega
    have ew : IntKind.i64.wrap ((i : Int) + 1) = ((i + 1 : Nat) : Int) := w64 (by omega) (by omega)
    simp only [ew]
    have hsucc := factsB_succ c hi'
    obtain ⟨j, hj, hjb⟩ := hbl _ (List.getElem_mem hi')
    obtain ⟨b', o', rfl, hc⟩ := (hi1.1.row.ext heu).cell (i := i) (v := .int .i64 l[i]) (by simp [hi'])
    refine ⟨by omega, by omega, ?_⟩
    simp only [nilC_some', add_lit, Nat.mul_one, Int.toNat_natCast]
    refine ⟨_, hc, ?_⟩
    rw [hj]
    rw [hj, Int.toNat_natCast] at hsucc
    refine (carrackref12_Pages_spec (h.ext (he1.trans heu)) hd0 hjb).mono ?_
    rintro _ w₃ ⟨a4, c4, rfl, hl4, he3⟩
    have hgp : ∀ P ∈ pagesS c j, GoodC P.changes := fun P hP => pagesS_good hP
    have hpl2 := pagesTo_length c j c.np
    change (pagesS c j).length ≤ c.np at hpl2
    generalize pagesS c j = pg at *
    obtain ⟨G4, hG4, _⟩ := hl4.slice
    have e3 := heu.trans he3
    refine ⟨_, _, _, rfl, fun a5 l5 c5 y v => ∃ k : Nat, y = k ∧ k ≤ pg.length ∧ l5 = (addP (factsB c (l.take i)) (pg.take k)).length ∧ ListAt factR NoB w₁.heap.size v a5 c5 T.api_Fact (addP (factsB c (l.take i)) (pg.take k)) ∧ Ext w₃ v, fun _ _ _ y _ => ((pg.length : Int) - y).toNat,
      ⟨0, rfl, by omega, rfl, hf.ext he3, Upd.refl _ _⟩, ?_⟩
    rintro a5 l5 c5 y v ⟨k, rfl, hk, rfl, hfk, hev⟩
    refine br_dec (fun hltk => ?_) fun hgek => ?_
    · have hk' : k < pg.length := by omega
      have ewk : IntKind.i64.wrap ((k : Int) + 1) = ((k + 1 : Nat) : Int) := w64 (by omega) (by omega)
      simp only [ewk]
      have hgk := hgi.pages hgp k hk
      have hgc := hgp _ (List.getElem_mem hk')
      have hsv := hev.size
      have hs3 := e3.size
      refine SliceAt.idx (r := pageR) (hG4.ext hev) rfl hk' fun b2 o2 vs2 _ hrow2 hR2 _ => ?_
      obtain ⟨ap, cp, rfl, hcp, hch⟩ := pageR_elim hR2
      simp only [add_lit]
      obtain ⟨G', hG1', hG2'⟩ := hfk.slice
      refine ⟨_, _, _, row_cell hrow2 (j := 1) rfl, (carrackref06_Apply_spec hG1' (fun b hb => (hG2' b hb).2) hch (by have := hgk.len; have := hgc.len; omega) hgk.names hgc.small).mono ?_⟩
      rintro _ w₈ ⟨a', c', rfl, hl8, he8⟩
      have hadd := addP_succ (factsB c (l.take i)) hk'
      refine ⟨_, _, _, rfl, ⟨k + 1, rfl, hk', by rw [hadd], by rw [hadd]; exact hl8.weak (by omega) (fun x hx => .inl (by rcases (hG2' x hx).1 with h | h; exact h; exact h.elim)), hev.trans he8⟩, meas hk'⟩
    · have hkk : k = pg.length := by omega
      subst hkk
      rw [List.take_length] at hfk ⊢
      exact ⟨⟨i + 1, rfl, hi', by rw [hsucc], by rw [hsucc]; exact hfk, e3.trans hev⟩, meas hi'⟩
  · have hii : i = l.length := by omega
    subst hii
    rw [List.take_length] at hf ⊢
    exact hR _ _ ⟨a3, c3, rfl, hf.weak hs1 fun _ h => h.elim, he1.trans heu⟩
end Go.Den
end
section
set_option linter.unusedVariables false
set_option linter.unusedSimpArgs false
namespace Go.Den
open Go.ChangeShapes Go.WideShapes Go.ChangeAt Go.RowKit
theorem Ext.below {w w' : World} (h : Ext w w') : Below w.heap.size w w' := ⟨h.os, h.tape, h.output, h.size, fun k hk => h.blk k hk (fun hf => hf)⟩
section
variable {H : Type} {enc : TypeId × Value → H} {P : Program}
theorem trodAll_stays (hl : laidOutB P = true) {W W' : World} (hb : Below W.heap.size W W') {sp : Nat → Bool} : ∀ {ts : List TypeId} {vs : List Value} {ds : List (DataW H)} {ps : List MemPlace}, (∀ t ∈ ts, P.readableRec t = true ∧ t < P.types.size) →
    DataW.TrodAll enc P W 0 (fun _ => true) true ts vs ds ps → (∀ x ∈ ps, x.block < W.heap.size) → (∀ x ∈ ps, sp x.block = true) → DataW.TrodAll enc P W' 0 sp true ts vs ds ps
  | [], _, _, _, _, h, _, _ => by
    obtain ⟨rfl, rfl, rfl⟩ := trodAll_nil h
    rfl
  | t :: ts, _, _, _, hr, h, hlt, hsp => by
    obtain ⟨v, vs1, d, ds1, a, b, rfl, rfl, rfl, h1, h2⟩ := trodAll_cons h
    exact ⟨a, b, WideElems.Trod_stays hl (hr t (by simp)).1 (hr t (by simp)).2 h1 (fun x hx => hb.same (hlt x (by simp [hx]))) (fun x hx => hsp x (by simp [hx])),
      trodAll_stays hl hb (fun u hu => hr u (by simp [hu])) h2 (fun x hx => hlt x (by simp [hx])) (fun x hx => hsp x (by simp [hx])), rfl⟩
/-- a law's answer: true, and all arguments as they were -/
theorem post_true (hl : laidOutB P = true) {f : Func} {s : ChangeSpec} {apart fresh handsOn again : Bool} {W W' : World} {args : Array Value} {ds gs : List (DataW H)} {before : List MemPlace} {tb : TypeId}
    (hW : DataW.Whole enc P f.params.toList s.vars apart W args.toList ds gs before) (hv : s.vars = []) (hrows : ∀ t ∈ f.params.toList, P.readableRec t = true ∧ t < P.types.size) (hb : Below W.heap.size W W')
    (ht : P.underlying tb = some .bool) (hres : f.resultTypes = #[tb]) (hfn : (s.fn H (ds ++ gs)) = { results := [.lit (.bool true)], args := ds }) :
    s.post enc P f apart fresh handsOn again W args (.bool true) W' := by
  have hlt := hW.lt
  have hW' := hW
  obtain ⟨p, q, hA, hV, hpq, hz, hn⟩ := hW'
  rw [hv] at hV
  obtain ⟨rfl, rfl⟩ := trodVars_none hV
  simp only [List.append_nil] at hpq
  subst hpq
  have hargs : ∀ sp : Nat → Bool, (∀ x ∈ before, sp x.block = true) → DataW.TrodAll enc P W' 0 sp true f.params.toList args.toList ds before := fun sp hsp => trodAll_stays hl hb hrows hA hlt hsp
  have hresT : ∀ (b : Nat) (sp : Nat → Bool) (hd : Bool), DataW.TrodAll enc P W' b sp hd f.resultTypes.toList ((Value.bool true).resultList f.resultTypes.size) [.lit (.bool true)] [] := by
    intro b sp hd
    rw [hres]
    exact trodAll_cons_mk (shut_bool ht _) trodAll_mk0
  refine ⟨ds, [], before, [], before, [], hW, ?_, ?_, ?_, hb.frame _, fun _ => ⟨?_, .lit (.bool true) :: ds, [], before, ⟨before, [], ?_, ?_, by simp, ?_, hn⟩, fun p hp _ => hp⟩⟩
  · rw [hfn]; exact hresT _ _ _
  · rw [hfn]; exact hargs _ (fun x hx => by simpa using hlt x hx)
  · rw [hv, hfn]; rfl
  · exact ok_one hres rfl (okWide_bool_mk ht _)
  · have := trodAll_append (hargs _ (fun _ _ => rfl)) (hresT 0 (fun _ => true) true)
    exact this
  · rw [hv]; rfl
  · intro b off hp
    have hbl := hlt _ hp
    rw [hb.frozen (p := ⟨b, off, none⟩) hbl]
    exact hz b off hp
/-! ### Arguments -/
theorem row_of_cells {w : World} {a : Addr} {vs : List Value} (h : ∀ (j : Nat) v, vs[j]? = some v → w.cell? (a.add j) = some v) : RowAt w (some a) vs := by
  cases vs with
  | nil => exact .inl rfl
  | cons v vs =>
    have h0 := h 0 v rfl
    rw [add_zero] at h0
    unfold World.cell? at h0
    split at h0
    · rename_i c t fr hb
      split at h0
      · cases h0
      · rename_i hs
        obtain ⟨b, o, s⟩ := a
        cases s with
        | some s => simp at hs
        | none =>
          refine .inr ⟨b, o, c, t, fr, rfl, hb, fun j u hj => ?_⟩
          have := h j u hj
          rw [add_lit] at this
          simpa [World.cell?, hb] using this
    · cases h0
theorem cells_get {w : World} {base : Nat} {a : Addr} {n : Nat} {cs : List Value} (h : w.cells? base a n = some cs) : cs.length = n ∧ ∀ (j : Nat) v, cs[j]? = some v → w.cell? (a.add j) = some v := by
  unfold World.cells? at h
  split at h
  · have hl : cs.length = n := by
      have := mapM_some_length h
      simpa using this
    refine ⟨hl, fun j v hj => ?_⟩
    have hjn : j < n := by rw [← hl]; exact (List.getElem?_eq_some_iff.1 hj).1
    have := mapM_some_get h j j (by simp [hjn])
    rw [hj] at this
    exact this
  · cases h
theorem add_add (a : Addr) (x y : Nat) : (a.add x).add y = a.add (x + y) := by
  unfold Addr.add
  by_cases hx : x = 0
  · subst hx; simp
  · by_cases hy : y = 0
    · subst hy; simp [hx]
    · rw [if_neg hx, if_neg hy, if_neg (by omega)]
      simp [Nat.add_assoc]
theorem flat_at {k : Nat} {g : Nat → List Value} : ∀ (n : Nat), (∀ i, i < n → (g i).length = k) → ((List.range n).flatMap g).length = n * k ∧ ∀ (j : Nat) v, ((List.range n).flatMap g)[j]? = some v → ∃ i c, i < n ∧ j = i * k + c ∧ (g i)[c]? = some v
  | 0, _ => by simp
  | n + 1, h => by
    obtain ⟨hl, hg⟩ := flat_at n fun i hi => h i (by omega)
    have hn := h n (by omega)
    rw [List.range_succ, List.flatMap_append]
    refine ⟨by simp [hl, hn, Nat.succ_mul], fun j v hj => ?_⟩
    by_cases hlt : j < ((List.range n).flatMap g).length
    · rw [List.getElem?_append_left hlt] at hj
      obtain ⟨i, c, hi, e, hc⟩ := hg j v hj
      exact ⟨i, c, by omega, e, hc⟩
    · rw [List.getElem?_append_right (by omega), hl] at hj
      exact ⟨n, j - n * k, by omega, by rw [hl] at hlt; omega, by simpa using hj⟩
/-- a slice of whatever elements: its rows -/
theorem open_rows {w : World} {base : Nat} {spare : Nat → Bool} {held : Bool} {t e : TypeId} {fuel : Nat} {cs : List Value} {x : DataW H × List MemPlace} (ht : P.underlying t = some (.slice e)) (h : DataW.trod enc P w base spare held fuel t cs = some x) :
    ∃ (a : Option Addr) (len cap : Nat) (rows : List (List Value)) (ds : List (DataW H)), cs = [.slice a len cap] ∧ len ≤ cap ∧ rows.length = len ∧ ds.length = len ∧ (∀ r ∈ rows, r.length = P.cellsOf e) ∧ RowAt w a rows.flatten ∧ (a = none → cap = 0) ∧
      (∀ (i : Nat) r, rows[i]? = some r → ∃ n d ps, ds[i]? = some d ∧ DataW.trod enc P w base spare held n e r = some (d, ps)) ∧ ((x.1 = .nil ∧ len = 0) ∨ ∃ sp, x.1 = .slice ds sp) := by
  rcases DataW.trod_slice ht h with ⟨rfl, rfl⟩ | ⟨a, len, cap, elems, rest, n, _, rfl, rfl, hb, hl, hm, hlen, hel, hsp, hns⟩
  · exact ⟨none, 0, 0, [], [], rfl, Nat.le_refl _, rfl, rfl, by simp, RowAt.nil _ _, fun _ => rfl, fun i r hr => by simp at hr, .inl ⟨rfl, rfl⟩⟩
  · have hrow : ∀ i, i < len → ∃ r, w.cells? base (a.add (i * P.cellsOf e)) (P.cellsOf e) = some r ∧ DataW.trod enc P w base spare held n e r = elems[i]? ∧ ∃ y, elems[i]? = some y := by
      intro i hi
      have h1 := hel i hi
      have h2 : ∃ y, elems[i]? = some y := ⟨elems[i]'(by omega), by simp [hlen, hi]⟩
      obtain ⟨y, hy⟩ := h2
      rw [hy] at h1
      cases hc : w.cells? base (a.add (i * P.cellsOf e)) (P.cellsOf e) with
      | none => rw [hc] at h1; cases h1
      | some r => rw [hc] at h1; exact ⟨r, rfl, by rw [hy]; exact h1, y, hy⟩
    have hg : ∀ i, i < len → w.cells? base (a.add (i * P.cellsOf e)) (P.cellsOf e) = some ((w.cells? base (a.add (i * P.cellsOf e)) (P.cellsOf e)).getD []) := by
      intro i hi
      obtain ⟨r, hr, _⟩ := hrow i hi
      rw [hr]; rfl
    have hgl : ∀ i, i < len → ((w.cells? base (a.add (i * P.cellsOf e)) (P.cellsOf e)).getD []).length = P.cellsOf e := fun i hi => (cells_get (hg i hi)).1
    obtain ⟨_, hflat⟩ := flat_at (g := fun i => (w.cells? base (a.add (i * P.cellsOf e)) (P.cellsOf e)).getD []) len hgl
    refine ⟨some a, len, cap, (List.range len).map fun i => (w.cells? base (a.add (i * P.cellsOf e)) (P.cellsOf e)).getD [], elems.map (·.1), rfl, hl, by simp, by simpa using hlen, ?_, ?_, (fun h => by cases h), ?_, .inr ⟨_, rfl⟩⟩
    · intro r hr
      obtain ⟨i, hi, rfl⟩ := List.mem_map.1 hr
      exact hgl i (by simpa using hi)
    · refine row_of_cells fun j v hj => ?_
      rw [← List.flatMap_def] at hj
      obtain ⟨i, c, hi, rfl, hc⟩ := hflat j v hj
      rw [← add_add]
      exact (cells_get (hg i hi)).2 c v hc
    · intro i r hr
      have hi : i < len := by have := (List.getElem?_eq_some_iff.1 hr).1; simpa using this
      obtain ⟨r', h1, h2, y, hy⟩ := hrow i hi
      have : r = r' := by
        simp [hi, h1] at hr
        exact hr.symm
      subst this
      exact ⟨n, y.1, y.2, by simp [hy], by rw [h2, hy]⟩
theorem list_choice {α β : Type} {f : α → β} {Q : α → Prop} : ∀ (l : List β), (∀ r ∈ l, ∃ x, r = f x ∧ Q x) → ∃ xs : List α, l = xs.map f ∧ ∀ x ∈ xs, Q x
  | [], _ => ⟨[], rfl, by simp⟩
  | r :: l, h => by
    obtain ⟨x, e, q⟩ := h r (by simp)
    obtain ⟨xs, e', q'⟩ := list_choice l fun r hr => h r (by simp [hr])
    refine ⟨x :: xs, by rw [e, e']; rfl, fun y hy => ?_⟩
    rcases List.mem_cons.1 hy with rfl | hy
    · exact q
    · exact q' y hy
theorem byte_of {n : Int} (h : (Lit.int .u8 n).wf = true) : ∃ x : UInt8, Value.int .u8 n = bv x := by
  have hb : 0 ≤ n ∧ n ≤ 255 := by simpa [Lit.wf, IntKind.min, IntKind.max, IntKind.signed, IntKind.bits] using h
  exact ⟨UInt8.ofNat n.toNat, by simp; omega⟩
theorem flat_single (l : List UInt8) : (l.map fun x => [bv x]).flatten = l.map bv := by
  induction l with
  | nil => rfl
  | cons x l ih => simp [ih]
end
end Go.Den
end
section
set_option linter.unusedVariables false
set_option linter.unusedSimpArgs false
namespace Go.Den
open Go.ChangeShapes Go.WideShapes Go.ChangeAt Go.RowKit
section
variable {H : Type} {enc : TypeId × Value → H} {P : Program}
end
end Go.Den
end
section
set_option linter.unusedVariables false
set_option linter.unusedSimpArgs false
namespace Go.Den
open Go.ChangeShapes Go.WideShapes Go.ChangeAt Go.RowKit
theorem byte_bv {n : Int} (h : (Lit.int .u8 n).wf = true) : Value.int .u8 n = bv (UInt8.ofNat n.toNat) := by
  have hb : 0 ≤ n ∧ n ≤ 255 := by simpa [Lit.wf, IntKind.min, IntKind.max, IntKind.signed, IntKind.bits] using h
  simp
  omega
section
variable {H : Type} {enc : TypeId × Value → H} {P : Program}
/-- within the reach -/
def Fits (P : Program) (t : TypeId) (d : DataW H) : Prop := ∀ n ∈ d.weights P t, n ≤ reachBytes
theorem fits_each {ts : List TypeId} {ds : List (DataW H)} (h : (DataW.weightsEach P ts ds).all (· ≤ reachBytes) = true) {j : Nat} {t : TypeId} {d : DataW H} (ht : ts[j]? = some t) (hd : ds[j]? = some d) : Fits P t d := fun n hn => by
  have := List.all_eq_true.1 h _ (DataW.weights_mem_each ht hd n hn)
  simpa using this
theorem weights_all_mem {e : TypeId} : ∀ {l : List (DataW H)} {d : DataW H}, d ∈ l → ∀ n ∈ d.weights P e, n ∈ DataW.weightsAll P e l
  | d0 :: l, d, hm, n, hn => by
    simp only [DataW.weightsAll, List.mem_append]
    rcases List.mem_cons.1 hm with rfl | hm
    · exact .inl hn
    · exact .inr (weights_all_mem hm n hn)
theorem Fits.elem {t e : TypeId} {elems spare : List (DataW H)} (h : Fits P t (.slice elems spare)) (hu : P.underlying t = some (.slice e)) {d : DataW H} (hd : d ∈ elems) : Fits P e d := fun n hn => by
  refine h n ?_
  simp only [DataW.weights, hu, List.mem_cons, List.mem_append]
  exact .inr (.inl (weights_all_mem hd n hn))
theorem Fits.len {t e : TypeId} {elems spare : List (DataW H)} (h : Fits P t (.slice elems spare)) (hu : P.underlying t = some (.slice e)) : (elems.length + spare.length) * P.bytesOf e ≤ reachBytes := by
  refine h _ ?_
  simp only [DataW.weights, hu, List.mem_cons]
  exact .inl trivial
theorem Fits.part {t : TypeId} {fs : Array Field} {parts : List (DataW H)} (h : Fits P t (.agg parts)) (hu : P.underlying t = some (.struct fs)) {i : Nat} {f : Field} {d : DataW H} (hf : fs[i]? = some f) (hd : parts[i]? = some d) : Fits P f.type d := fun n hn => by
  refine h n ?_
  simp only [DataW.weights, hu]
  refine DataW.weights_mem_each (j := i) ?_ hd n hn
  simp [hf]
/-- a slice, with its elements' readings within the reach -/
theorem open_rows_fit {w : World} {base : Nat} {spare : Nat → Bool} {held : Bool} {t e : TypeId} {fuel : Nat} {cs : List Value} {x : DataW H × List MemPlace} (ht : P.underlying t = some (.slice e)) (h : DataW.trod enc P w base spare held fuel t cs = some x) (hfit : Fits P t x.1) :
    ∃ (a : Option Addr) (len cap : Nat) (rows : List (List Value)), cs = [.slice a len cap] ∧ len ≤ cap ∧ rows.length = len ∧ (∀ r ∈ rows, r.length = P.cellsOf e) ∧ RowAt w a rows.flatten ∧ (a = none → cap = 0) ∧ len * P.bytesOf e ≤ reachBytes ∧
      (∀ r ∈ rows, ∃ n d ps, Fits P e d ∧ DataW.trod enc P w base spare held n e r = some (d, ps)) := by
  obtain ⟨a, len, cap, rows, ds, rfl, hlc, hrl, hdl, hrk, hrow, hn, hel, hx⟩ := open_rows ht h
  rcases hx with ⟨hx, hl0⟩ | ⟨sp, hx⟩
  · subst hl0
    have : rows = [] := List.eq_nil_of_length_eq_zero hrl
    subst this
    exact ⟨a, 0, cap, [], rfl, hlc, rfl, hrk, hrow, hn, by omega, fun r hr => by simp at hr⟩
  · rw [hx] at hfit
    refine ⟨a, len, cap, rows, rfl, hlc, hrl, hrk, hrow, hn, ?_, fun r hr => ?_⟩
    · have := hfit.len ht
      rw [hdl, Nat.add_mul] at this
      omega
    · obtain ⟨i, hi, rfl⟩ := List.getElem_of_mem hr
      obtain ⟨n, d, ps, hd, ht'⟩ := hel i _ (List.getElem?_eq_getElem hi)
      exact ⟨n, d, ps, hfit.elem ht (List.mem_of_getElem? hd), ht'⟩
/-- a struct's field -/
theorem open_field {w : World} {base : Nat} {spare : Nat → Bool} {held : Bool} {e : TypeId} {fs : Array Field} {fuel : Nat} {cs : List Value} {x : DataW H × List MemPlace} (he : P.underlying e = some (.struct fs)) (h : DataW.trod enc P w base spare held fuel e cs = some x) (hfit : Fits P e x.1) :
    cs.length = P.cellsOf e ∧ ∀ (i : Nat) f, fs[i]? = some f → ∃ n y, DataW.trod enc P w base spare held n f.type ((cs.drop f.offset).take (P.cellsOf f.type)) = some y ∧ Fits P f.type y.1 := by
  obtain ⟨xs, n, _, rfl, hlen, hxs, hfs⟩ := DataW.trod_struct he h
  refine ⟨hlen, fun i f hf => ?_⟩
  have hi : i < xs.length := by rw [hxs]; exact (Array.getElem?_eq_some_iff.1 hf).1
  have g := hfs i f hf
  rw [List.getElem?_eq_getElem hi] at g
  exact ⟨n, _, g, hfit.part he hf (by simp [hi])⟩
/-- bytes, within the reach -/
theorem open_bytes_fit {w : World} {base : Nat} {spare : Nat → Bool} {held : Bool} {t e : TypeId} {fuel : Nat} {cs : List Value} {x : DataW H × List MemPlace} (ht : P.underlying t = some (.slice e)) (he : P.underlying e = some (.int .u8)) (hb : P.bytesOf e = 1) (h : DataW.trod enc P w base spare held fuel t cs = some x) (hfit : Fits P t x.1) :
    ∃ (a : Option Addr) (l : List UInt8) (cap : Nat), cs = [.slice a l.length cap] ∧ l.length ≤ cap ∧ BytesAt w a l ∧ (a = none → cap = 0) ∧ l.length ≤ reachBytes := by
  obtain ⟨a, len, cap, rows, rfl, hlc, hrl, hrk, hrow, hn, hlen, hel⟩ := open_rows_fit ht h hfit
  obtain ⟨l, rfl, _⟩ := list_choice (f := fun x : UInt8 => [bv x]) (Q := fun _ => True) rows (fun r hr => by
    obtain ⟨n, d, ps, _, ht'⟩ := hel r hr
    obtain ⟨m, hm, _, hw⟩ := DataW.trod_int he ht'
    obtain ⟨x, hx⟩ := byte_of hw
    exact ⟨x, by rw [hm, hx], trivial⟩)
  simp at hrl
  subst hrl
  rw [hb, Nat.mul_one] at hlen
  refine ⟨a, l, cap, rfl, hlc, ?_, hn, hlen⟩
  have e2 : (l.map fun x => [bv x]).flatten = l.map bv := flat_single l
  rw [e2] at hrow
  exact hrow
end
end Go.Den
end
section
set_option linter.unusedVariables false
set_option linter.unusedSimpArgs false
namespace Go.Den
open Go.ChangeShapes Go.WideShapes Go.ChangeAt Go.RowKit
section
variable {H : Type} (enc : TypeId × Value → H) (P : Program)
/-- what is read of a type lies so -/
def Opens {α : Type} (r : ERep α) (e : TypeId) (good : α → Prop) : Prop :=
  P.cellsOf e = r.k ∧ ∀ {w : World} {base : Nat} {spare : Nat → Bool} {held : Bool} {fuel : Nat} {cs : List Value} {x : DataW H × List MemPlace}, DataW.trod enc P w base spare held fuel e cs = some x → Fits P e x.1 → ∃ y, r.R w (fun b => b < w.heap.size) cs y ∧ good y
/-- likewise of the last fields of a struct -/
def OpensF {α : Type} (fs : List Field) (o : Nat) (r : ERep α) (good : α → Prop) : Prop :=
  ∀ {w : World} {base : Nat} {spare : Nat → Bool} {held : Bool} {cs : List Value}, cs.length = o + r.k → (∀ f ∈ fs, ∃ n y, DataW.trod enc P w base spare held n f.type ((cs.drop f.offset).take (P.cellsOf f.type)) = some y ∧ Fits P f.type y.1) → ∃ y, r.R w (fun b => b < w.heap.size) (cs.drop o) y ∧ good y
variable {enc P}
theorem opensF_one {α : Type} {r : ERep α} {f : Field} {good : α → Prop} (h : Opens enc P r f.type good) : OpensF enc P [f] f.offset r good := by
  intro w base spare held cs hl hf
  obtain ⟨n, y, hy, hfit⟩ := hf f (by simp)
  obtain ⟨z, hz, hg⟩ := h.2 hy hfit
  rw [h.1, List.take_of_length_le (by rw [List.length_drop]; omega)] at hz
  exact ⟨z, hz, hg⟩
theorem opensF_end {α : Type} {r : ERep α} {f : Field} {good : α → Prop} {o : Nat} (h : Opens enc P r f.type good) (ho : o = f.offset) : OpensF enc P [f] o r good := by subst ho; exact opensF_one h
theorem opensF_cons {α β γ : Type} {r : ERep β} {s : ERep γ} {f : α → β} {g : α → γ} (mk : β → γ → α) (h1 : ∀ x y, f (mk x y) = x) (h2 : ∀ x y, g (mk x y) = y) {fd : Field} {fs : List Field} {goodr : β → Prop} {goods : γ → Prop} {good : α → Prop}
    (hr : Opens enc P r fd.type goodr) {o : Nat} (ho : o = fd.offset + r.k) (hs : OpensF enc P fs o s goods) (hg : ∀ x y, goodr x → goods y → good (mk x y)) : OpensF enc P (fd :: fs) fd.offset (ERep.pair r s f g) good := by
  intro w base spare held cs hl hf
  subst ho
  obtain ⟨n, y, hy, hfit⟩ := hf fd (by simp)
  obtain ⟨x, hx, hgx⟩ := hr.2 hy hfit
  have hl' : cs.length = fd.offset + (r.k + s.k) := hl
  obtain ⟨z, hz, hgz⟩ := hs (by omega) fun f' hf' => hf f' (by simp [hf'])
  rw [hr.1] at hx
  refine ⟨mk x z, ⟨(cs.drop fd.offset).take r.k, cs.drop (fd.offset + r.k), ?_, ?_, ?_⟩, hg x z hgx hgz⟩
  · rw [← List.drop_drop, List.take_append_drop]
  · rw [h1]; exact hx
  · rw [h2]; exact hz
theorem opensF_at {α β γ : Type} {r : ERep β} {s : ERep γ} {f : α → β} {g : α → γ} (mk : β → γ → α) (h1 : ∀ x y, f (mk x y) = x) (h2 : ∀ x y, g (mk x y) = y) {fd : Field} {fs : List Field} {goodr : β → Prop} {goods : γ → Prop} {good : α → Prop} {o₀ : Nat}
    (hr : Opens enc P r fd.type goodr) {o : Nat} (ho₀ : o₀ = fd.offset) (ho : o = o₀ + r.k) (hs : OpensF enc P fs o s goods) (hg : ∀ x y, goodr x → goods y → good (mk x y)) : OpensF enc P (fd :: fs) o₀ (ERep.pair r s f g) good := by
  subst ho₀
  exact opensF_cons mk h1 h2 hr ho hs hg
theorem opens_struct {α : Type} {r : ERep α} {e : TypeId} {fs : Array Field} {good : α → Prop} (he : P.underlying e = some (.struct fs)) (hc : P.cellsOf e = r.k) (h : OpensF enc P fs.toList 0 r good) : Opens enc P r e good := by
  refine ⟨hc, fun {w base spare held fuel cs x} ht hfit => ?_⟩
  obtain ⟨hl, hf⟩ := open_field he ht hfit
  have := h (w := w) (base := base) (spare := spare) (held := held) (cs := cs) (by rw [hl, hc]; omega) fun f hf' => by
    obtain ⟨i, hi, e⟩ := List.getElem_of_mem hf'
    have hi' : i < fs.size := by simpa using hi
    exact hf i f (by simp at e; simp [hi', e])
  simpa using this
theorem opens_int {e : TypeId} (he : P.underlying e = some (.int .i64)) (hc : P.cellsOf e = 1) : Opens enc P intR e fun _ => True := by
  refine ⟨hc, fun ht hfit => ?_⟩
  obtain ⟨n, hn, _, _⟩ := DataW.trod_int he ht
  exact ⟨n, hn, trivial⟩
theorem opens_u8 {e : TypeId} (he : P.underlying e = some (.int .u8)) (hc : P.cellsOf e = 1) : Opens enc P u8R e fun _ => True := by
  refine ⟨hc, fun ht hfit => ?_⟩
  obtain ⟨n, hn, _, hw⟩ := DataW.trod_int he ht
  exact ⟨UInt8.ofNat n.toNat, by rw [hn, byte_bv hw]; rfl, trivial⟩
theorem opens_bool {e : TypeId} (he : P.underlying e = some .bool) (hc : P.cellsOf e = 1) : Opens enc P boolR e fun _ => True := by
  refine ⟨hc, fun ht hfit => ?_⟩
  obtain ⟨b, hb, _⟩ := DataW.trod_bool he ht
  exact ⟨b, hb, trivial⟩
def strR : ERep ByteArray := flatR (fun s => [.string s]) 1 (by decide) (fun _ => rfl) (fun b v hv => by simp at hv; rw [hv]; rfl)
theorem opens_str {e : TypeId} (he : P.underlying e = some .string) (hc : P.cellsOf e = 1) : Opens enc P strR e fun s => s.size < 9223372036854775807 := by
  refine ⟨hc, fun {w base spare held fuel cs x} ht hfit => ?_⟩
  obtain ⟨s, hs, hx, hm⟩ := DataW.trod_string he ht
  refine ⟨s, hs, ?_⟩
  have : reachBytes < 9223372036854775807 := by decide
  have h2 := hfit s.data.toList.length (by rw [hx]; simp [DataW.weights])
  show s.size < 9223372036854775807
  rw [size_data]
  omega
theorem opens_bytes {t e : TypeId} (ht : P.underlying t = some (.slice e)) (he : P.underlying e = some (.int .u8)) (hb : P.bytesOf e = 1) (hc : P.cellsOf t = 1) : Opens enc P bytesR t fun l => l.length ≤ reachBytes := by
  refine ⟨hc, fun {w base spare held fuel cs x} h hfit => ?_⟩
  obtain ⟨a, l, cap, rfl, hlc, hby, _, hr⟩ := open_bytes_fit ht he hb h hfit
  refine ⟨l, ⟨a, cap, rfl, hlc, hby, fun hn p hp => ?_⟩, hr⟩
  obtain ⟨b, o, e, hlt⟩ := RowAt.blk hby (by simpa using hn)
  rw [hp] at e; cases e; exact hlt
theorem rows_open {α : Type} {r : ERep α} {e : TypeId} {good : α → Prop} (h : Opens enc P r e good) {w : World} {base : Nat} {spare : Nat → Bool} {held : Bool} : ∀ {rows : List (List Value)}, (∀ c ∈ rows, ∃ n d ps, Fits P e d ∧ DataW.trod enc P w base spare held n e c = some (d, ps)) →
    ∃ l : List α, l.length = rows.length ∧ Rows r w (fun b => b < w.heap.size) rows.flatten l ∧ ∀ x ∈ l, good x
  | [], _ => ⟨[], rfl, rfl, by simp⟩
  | c :: rows, hr => by
    obtain ⟨n, d, ps, hf, ht⟩ := hr c (by simp)
    obtain ⟨y, hy, hg⟩ := h.2 ht hf
    obtain ⟨l, h1, h2, h3⟩ := rows_open h (rows := rows) fun c' hc' => hr c' (by simp [hc'])
    refine ⟨y :: l, by simp [h1], ⟨c, rows.flatten, by simp, hy, h2⟩, fun x hx => ?_⟩
    rcases List.mem_cons.1 hx with rfl | hx
    · exact hg
    · exact h3 x hx
/-- a slice: its length within the reach -/
theorem opens_rows {α : Type} {r : ERep α} {t e : TypeId} {good : α → Prop} (ht : P.underlying t = some (.slice e)) (h : Opens enc P r e good) {w : World} {base : Nat} {spare : Nat → Bool} {held : Bool} {fuel : Nat} {cs : List Value} {x : DataW H × List MemPlace} (hx : DataW.trod enc P w base spare held fuel t cs = some x) (hfit : Fits P t x.1) :
    ∃ (a : Option Addr) (l : List α) (cap : Nat), cs = [.slice a l.length cap] ∧ l.length ≤ cap ∧ SliceAt r w (fun b => b < w.heap.size) a l ∧ (∀ x ∈ l, good x) ∧ l.length * P.bytesOf e ≤ reachBytes := by
  obtain ⟨a, len, cap, rows, rfl, hlc, hrl, hrk, hrow, hn, hlen, hel⟩ := open_rows_fit ht hx hfit
  obtain ⟨l, h1, h2, h3⟩ := rows_open h hel
  have hll : l.length = len := by omega
  subst hll
  refine ⟨a, l, cap, rfl, hlc, ⟨_, hrow, h2, fun hn p hp => ?_⟩, h3, hlen⟩
  have hv : rows.flatten ≠ [] := List.ne_nil_of_length_pos (by rw [Rows.len h2]; exact Nat.mul_pos (List.length_pos_iff.2 hn) r.pos)
  obtain ⟨b, o, e, hlt⟩ := RowAt.blk hrow hv
  rw [hp] at e; cases e; exact hlt
theorem opens_slice {α : Type} {r : ERep α} {t e : TypeId} {good : α → Prop} (ht : P.underlying t = some (.slice e)) (hc : P.cellsOf t = 1) (h : Opens enc P r e good) : Opens enc P (sliceR r) t fun l => ∀ x ∈ l, good x := by
  refine ⟨hc, fun hx hfit => ?_⟩
  obtain ⟨a, l, cap, rfl, hlc, hs, hg, _⟩ := opens_rows ht h hx hfit
  exact ⟨l, ⟨a, cap, rfl, hlc, hs⟩, hg⟩
/-! ### Keys, changes -/
theorem opens_key {e : TypeId} {f0 f1 f2 f3 : Field} (he : P.underlying e = some (.struct #[f0, f1, f2, f3])) (hc : P.cellsOf e = 4) (o0 : f0.offset = 0) (o1 : f1.offset = 1) (o2 : f2.offset = 2) (o3 : f3.offset = 3)
    (h0 : Opens enc P intR f0.type fun _ => True) (h1 : Opens enc P u8R f1.type fun _ => True) (h2 : Opens enc P strR f2.type fun s => s.size < 9223372036854775807) (h3 : Opens enc P intR f3.type fun _ => True) : Opens enc P keyR e fun k => k.name.size < 9223372036854775807 := by
  have hp := opens_struct (r := ERep.pair intR (ERep.pair u8R (ERep.pair strR intR (fun x : ByteArray × Int => x.1) (fun x => x.2)) (fun x : UInt8 × (ByteArray × Int) => x.1) (fun x => x.2)) (fun x : Key => x.ino) (fun x => (x.what, (x.name, x.chunk)))) (good := fun k => k.name.size < 9223372036854775807) he hc (by
    rw [← o0]
    refine opensF_cons (fun a b => ⟨a, b.1, b.2.1, b.2.2⟩) (fun _ _ => rfl) (fun _ _ => rfl) h0 (o := f1.offset) (by rw [o0, o1]; rfl) ?_ (goods := fun y => y.2.1.size < 9223372036854775807) fun x y _ hy => hy
    refine opensF_cons (fun a b => (a, b)) (fun _ _ => rfl) (fun _ _ => rfl) h1 (o := f2.offset) (by rw [o1, o2]; rfl) ?_ (goods := fun y => y.1.size < 9223372036854775807) fun x y _ hy => hy
    exact opensF_cons (fun a b => (a, b)) (fun _ _ => rfl) (fun _ _ => rfl) h2 (o := f3.offset) (by rw [o2, o3]; rfl) (opensF_one h3) fun x y hx _ => hx)
  refine ⟨hc, fun ht hfit => ?_⟩
  obtain ⟨y, ⟨u, v, rfl, hu, s, t, rfl, hs, s2, t2, rfl, hs2, ht2⟩, hg⟩ := hp.2 ht hfit
  refine ⟨y, ?_, hg⟩
  have e1 : u = [.int .i64 y.ino] := hu
  have e2 : s = [bv y.what] := hs
  have e3 : s2 = [.string y.name] := hs2
  have e4 : t2 = [.int .i64 y.chunk] := ht2
  rw [e1, e2, e3, e4]; rfl
theorem opens_change {e : TypeId} {f0 f1 f2 : Field} (he : P.underlying e = some (.struct #[f0, f1, f2])) (hc : P.cellsOf e = 6) (o0 : f0.offset = 0) (o1 : f1.offset = 4) (o2 : f2.offset = 5)
    (h0 : Opens enc P keyR f0.type fun k => k.name.size < 9223372036854775807) (h1 : Opens enc P bytesR f1.type fun l => l.length ≤ reachBytes) (h2 : Opens enc P boolR f2.type fun _ => True) : Opens enc P changeR e fun x => x.key.name.size < 9223372036854775807 ∧ x.val.length ≤ reachBytes := by
  refine opens_struct he hc ?_
  rw [← o0]
  refine opensF_cons (fun a b => ⟨a, b.1, b.2⟩) (fun _ _ => rfl) (fun _ _ => rfl) h0 (o := f1.offset) (by rw [o0, o1]; rfl) ?_ (goods := fun y => y.1.length ≤ reachBytes) fun x y hx hy => ⟨hx, hy⟩
  exact opensF_cons (fun a b => (a, b)) (fun _ _ => rfl) (fun _ _ => rfl) h1 (o := f2.offset) (by rw [o1, o2]; rfl) (opensF_one h2) fun x y hx _ => hx
end
end Go.Den
end
section
set_option linter.unusedVariables false
set_option linter.unusedSimpArgs false
set_option maxRecDepth 20000
namespace Go.Den
open Go.ChangeShapes Go.WideShapes Go.ChangeAt Go.RowKit Go.Proofs
section
variable {H : Type} {enc : TypeId × Value → H}
theorem open12_int : Opens enc Tryz.prog intR 3 fun _ => True := opens_int Tryz.underlying3 (by kernel_rfl)
theorem open12_u8 : Opens enc Tryz.prog u8R 5 fun _ => True := opens_u8 Tryz.underlying5 (by kernel_rfl)
theorem open12_bool : Opens enc Tryz.prog boolR 4 fun _ => True := opens_bool Tryz.underlying4 (by kernel_rfl)
theorem open12_str : Opens enc Tryz.prog strR 9 fun s => s.size < 9223372036854775807 := opens_str Tryz.underlying9 (by kernel_rfl)
theorem open12_bytes : Opens enc Tryz.prog bytesR 58 fun l => l.length ≤ reachBytes := opens_bytes Tryz.underlying58 Tryz.underlying5 (by kernel_rfl) (by kernel_rfl)
theorem open12_key : Opens enc Tryz.prog keyR 89 fun k => k.name.size < 9223372036854775807 := opens_key Tryz.underlying89 (by kernel_rfl) rfl rfl rfl rfl open12_int open12_u8 open12_str open12_int
theorem open12_change : Opens enc Tryz.prog changeR 104 fun x => x.key.name.size < 9223372036854775807 ∧ x.val.length ≤ reachBytes := opens_change Tryz.underlying104 (by kernel_rfl) rfl rfl rfl open12_key open12_bytes open12_bool
theorem open12_changes : Opens enc Tryz.prog (sliceR changeR) 44 fun l => ∀ x ∈ l, x.key.name.size < 9223372036854775807 ∧ x.val.length ≤ reachBytes := opens_slice Tryz.underlying44 (by kernel_rfl) open12_change
theorem open12_sheet : Opens enc Tryz.prog sheetR 72 fun s => Small s.changes := by
  refine opens_struct Tryz.underlying72 (by kernel_rfl) ?_
  unfold sheetR
  simp only [List.toList_toArray]
  refine opensF_at (fun a b => (⟨a, b.1, b.2.1, b.2.2⟩ : Sheet)) (fun _ _ => rfl) (fun _ _ => rfl) open12_int (o := 1) (by rfl) (by rfl) ?_ (goods := fun y => ∀ x ∈ y.1, x.key.name.size < 9223372036854775807 ∧ x.val.length ≤ reachBytes) fun x y _ hy c hc => (hy c hc).1
  refine opensF_at (fun a b => (a, b)) (fun _ _ => rfl) (fun _ _ => rfl) open12_changes (o := 2) (by rfl) (by rfl) ?_ (goods := fun _ => True) fun x y hx _ => hx
  exact opensF_at (fun a b => (a, b)) (fun _ _ => rfl) (fun _ _ => rfl) open12_u8 (o := 3) (by rfl) (by rfl) (opensF_end open12_bytes (by rfl)) fun _ _ _ _ => trivial
theorem open12_blk : Opens enc Tryz.prog blkR 67 fun b => ∀ s ∈ b.sheets, Small s.changes := by
  refine opens_struct Tryz.underlying67 (by kernel_rfl) ?_
  unfold blkR
  simp only [List.toList_toArray]
  refine opensF_at (fun a b => (⟨a, b.1, b.2.1, b.2.2.1, b.2.2.2⟩ : LBlk)) (fun _ _ => rfl) (fun _ _ => rfl) open12_bool (o := 1) (by rfl) (by rfl) ?_ (goods := fun y => ∀ s ∈ y.2.2.2, Small s.changes) fun x y _ hy => hy
  refine opensF_at (fun a b => (a, b)) (fun _ _ => rfl) (fun _ _ => rfl) open12_u8 (o := 2) (by rfl) (by rfl) ?_ (goods := fun y => ∀ s ∈ y.2.2, Small s.changes) fun x y _ hy => hy
  refine opensF_at (fun a b => (a, b)) (fun _ _ => rfl) (fun _ _ => rfl) open12_u8 (o := 3) (by rfl) (by rfl) ?_ (goods := fun y => ∀ s ∈ y.2, Small s.changes) fun x y _ hy => hy
  exact opensF_at (fun a b => (a, b)) (fun _ _ => rfl) (fun _ _ => rfl) open12_u8 (o := 4) (by rfl) (by rfl) (opensF_end (opens_slice Tryz.underlying65 (by kernel_rfl) open12_sheet) (by rfl)) fun x y _ hy => hy
theorem open12_ints {w : World} {base : Nat} {spare : Nat → Bool} {held : Bool} {fuel : Nat} {cs : List Value} {x : DataW H × List MemPlace} (hx : DataW.trod enc Tryz.prog w base spare held fuel 23 cs = some x) (hfit : Fits Tryz.prog 23 x.1) :
    ∃ (a : Option Addr) (l : List Int) (cap : Nat), cs = [.slice a l.length cap] ∧ SliceAt intR w (fun b => b < w.heap.size) a l ∧ l.length ≤ 17592186043904 := by
  obtain ⟨a, l, cap, h1, h2, h3, _, h5⟩ := opens_rows Tryz.underlying23 open12_int hx hfit
  have hb : Tryz.prog.bytesOf 3 = 8 := by kernel_rfl
  rw [hb] at h5
  exact ⟨a, l, cap, h1, h3, by unfold reachBytes at h5; omega⟩
theorem open12_blks {w : World} {base : Nat} {spare : Nat → Bool} {held : Bool} {fuel : Nat} {cs : List Value} {x : DataW H × List MemPlace} (hx : DataW.trod enc Tryz.prog w base spare held fuel 22 cs = some x) (hfit : Fits Tryz.prog 22 x.1) :
    ∃ (a : Option Addr) (l : List LBlk) (cap : Nat), cs = [.slice a l.length cap] ∧ SliceAt blkR w (fun b => b < w.heap.size) a l ∧ SmallB l := by
  obtain ⟨a, l, cap, h1, h2, h3, h4, _⟩ := opens_rows Tryz.underlying22 open12_blk hx hfit
  exact ⟨a, l, cap, h1, h3, h4⟩
end
end Go.Den
end
