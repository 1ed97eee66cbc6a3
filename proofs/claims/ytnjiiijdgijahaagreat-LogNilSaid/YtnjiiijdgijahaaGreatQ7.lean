/- How arguments are opened: the reach (no slice is longer than memory); fields of structs. (Merged by program: SLog4 SLog5 SLog6 SLog7 SLog8 MLaw14 SFacts0 SLog9 LPoolNil SLog10 Frame Frame2 Frame3.) -/
import Derived.Test.YtnjiiijdgijahaaGreatQ6
import Derived.ProofKit
import Derived.Carry
import Derived.OpenShut
import Derived.SizedLaws
section
set_option linter.unusedVariables false
set_option linter.unusedSimpArgs false
set_option maxRecDepth 8000
namespace Go.Den
/-! ### What is done one by one -/
theorem anew_1_spec {F X : Nat → Prop} {u : World} {q : Nat} {M : PLoc} {t : LogS} (h : LogIn F X u q M t) {B1 B3 n : Nat} (g1 : u.heap[B1]? = some (.cells #[.pointer (some ⟨q, 0, none⟩)] T.p_log_Log (0, 0))) (g3 : u.heap[B3]? = some (.cells #[.int .u64 n] T.uint64 (0, 0)))
    (h1 : ¬ LogF F q B1) (h3 : ¬ LogF F q B3) (h3X : ¬ X B3) :
    CallsR prog K.log_Log_anew_1 #[.pointer (some ⟨B1, 0, none⟩), .pointer (some ⟨B3, 0, none⟩)] u fun v u' => v = .int .i64 (t.take.2 : Nat) ∧ LogIn F X u' q M t.take.1 ∧ u'.heap[B3]? = some (.cells #[.int .u64 t.take.1.pool.last] T.uint64 (0, 0)) ∧ Upd (fun x => LogF F q x ∨ x = B3) u u' := by
  apply log_Log_anew_1.sh
  unfold log_Log_anew_1.body
  refine ⟨_, cell_of g1 rfl, (log_take_spec h).mono ?_⟩
  rintro _ u1 ⟨rfl, hu1, ht1⟩
  refine ⟨_, rfl, _, cell_of (hu1.get g1 h1) rfl, ?_⟩
  simp only [nilC_some', add_lit, Nat.zero_add]
  refine ⟨_, ht1.cell (i := 0) (fun _ _ => rfl), (pLast ht1.pool.pin).mono ?_⟩
  rintro _ u2 ⟨rfl, hu2⟩
  obtain rfl : u1 = u2 := hu2.symm
  refine ⟨_, rfl, store_of (hu1.get g3 h3) (by simp) fun u3 hp => ⟨(by trivial), ?_, ?_, (hu1.mono fun x _ hx => .inl hx).trans (hp.upd1.mono fun x _ hx => .inr hx)⟩⟩
  · exact ht1.upd hp.upd1 fun x hx => by
      subst hx
      exact ⟨fun hf => h3 (.inl hf), h3X, fun hq => h3 (.inr hq)⟩
  · exact hp.get
theorem anew_2_spec {F X : Nat → Prop} {u : World} {q : Nat} {M : PLoc} {t : LogS} (h : LogIn F X u q M t) {B1 B5 : Nat} (g1 : u.heap[B1]? = some (.cells #[.pointer (some ⟨q, 0, none⟩)] T.p_log_Log (0, 0))) {a : Option Addr} {b : List UInt8} {cp : Nat} (g5 : u.heap[B5]? = some (.cells #[.slice a b.length cp] T.L_uint8 (0, 0)))
    (hb : BytesAt u a b) (hap : ∀ p, a = some p → ¬ F p.block ∧ p.block ≠ q) (hpg : t.page < 1000000) :
    CallsR prog K.log_Log_anew_2 #[.pointer (some ⟨B1, 0, none⟩), .pointer (some ⟨B5, 0, none⟩)] u fun v u' => v = .int .i64 ((t.write b t.fuel).2 : Nat) ∧ LogIn F X u' q M (t.write b t.fuel).1 ∧ Upd (LogF F q) u u' := by
  apply log_Log_anew_2.sh
  unfold log_Log_anew_2.body
  refine ⟨_, cell_of g1 rfl, _, _, _, cell_of g5 rfl, (log_write_spec h hb hap hpg).mono ?_⟩
  rintro _ u1 ⟨rfl, hu1, ht1⟩
  exact ⟨_, rfl, rfl, ht1, hu1⟩
theorem anew_3_spec {F X : Nat → Prop} {u : World} {q : Nat} {M : PLoc} {t : LogS} (h : LogIn F X u q M t) {B1 B2 B3 n : Nat} {size : Int} (g1 : u.heap[B1]? = some (.cells #[.pointer (some ⟨q, 0, none⟩)] T.p_log_Log (0, 0))) (g2 : u.heap[B2]? = some (.cells #[.int .i64 size] T.int (0, 0))) (g3 : u.heap[B3]? = some (.cells #[.int .u64 n] T.uint64 (0, 0)))
    (hn : n < 18446744073709551616) (hS : ∀ x, F x → x < u.heap.size) (hpg : t.page < 1000000) :
    CallsR prog K.log_Log_anew_3 #[.pointer (some ⟨B2, 0, none⟩), .pointer (some ⟨B3, 0, none⟩), .pointer (some ⟨B1, 0, none⟩)] u fun v u' => v = .int .i64 ((t.write (putDropB size n).1 t.fuel).2 : Nat) ∧ LogIn F X u' q M (t.write (putDropB size n).1 t.fuel).1 ∧ Upd (LogF F q) u u' := by
  apply log_Log_anew_3.sh
  unfold log_Log_anew_3.body
  refine ⟨_, cell_of g2 rfl, _, cell_of g3 rfl, (rec_PutDrop_spec size n hn u).mono ?_⟩
  rintro _ u1 ⟨a, c, rfl, hb, hf, he, hc⟩
  have hq := h.lt
  refine ⟨_, _, _, _, rfl, _, cell_of (Ext.get he g1) rfl, (log_write_spec (h.ext he) hb (fun p hp => ⟨fun hF => ?_, fun e => ?_⟩) hpg).mono ?_⟩
  · have := hf p hp
    have := hS _ hF
    omega
  · have := hf p hp
    omega
  · rintro _ u2 ⟨rfl, hu2, ht2⟩
    exact ⟨_, rfl, rfl, ht2, (Upd.ext he).trans hu2⟩
/-! ### What stays -/
structure LogS.Keeps (s t : LogS) : Prop where
  facts : t.facts = s.facts
  era : t.era = s.era
  geo : s.chip.SameGeo t.chip
theorem LogS.Keeps.refl (s : LogS) : s.Keeps s := ⟨rfl, rfl, Chip.SameGeo.refl _⟩
theorem LogS.Keeps.trans {a b c : LogS} (h : a.Keeps b) (k : b.Keeps c) : a.Keeps c := ⟨k.facts.trans h.facts, k.era.trans h.era, h.geo.trans k.geo⟩
theorem LogS.take_keeps (s : LogS) : s.Keeps s.take.1 := by
  obtain ⟨h1, h2, h3, _⟩ := s.take_keep
  exact ⟨h1, h2, h3⟩
theorem LogS.take_page (s : LogS) (h : s.page ≤ 40) : s.take.1.page ≤ 40 := by
  unfold LogS.take
  simp only
  split
  · simp
  · exact h
theorem LogS.write_keeps (b : List UInt8) : ∀ (n : Nat) (s : LogS), s.page ≤ 40 → s.chip.np ≤ 32 → s.Keeps (s.write b n).1 ∧ (s.write b n).1.page ≤ 40
  | 0, s, h, _ => ⟨.refl s, h⟩
  | n + 1, s, h, hnp => by
    rw [LogS.write_step]
    obtain ⟨y, hy⟩ : ∃ y, y = (if s.block = -1 ∨ s.page ≥ s.chip.np then s.take else (s, 0)) := ⟨_, rfl⟩
    rw [← hy]
    have hk : s.Keeps y.1 ∧ y.1.page ≤ 40 ∧ (y.2 = 0 → y.1.page ≤ 32) := by
      subst hy
      split
      · refine ⟨s.take_keeps, s.take_page h, fun h0 => ?_⟩
        obtain ⟨_, _, _, _, h5⟩ := s.take_keep
        obtain ⟨_, _, hp, _⟩ := h5 h0
        omega
      · rename_i hc
        exact ⟨.refl s, h, fun _ => by show s.page ≤ 32; omega⟩
    split
    · exact ⟨hk.1, hk.2.1⟩
    · rename_i h0
      have hp := hk.2.2 (by omega)
      have hg := Chip.program_geo y.1.chip y.1.block (y.1.page : Nat) b
      split
      · exact ⟨⟨hk.1.facts, hk.1.era, hk.1.geo.trans hg⟩, by show y.1.page + 1 ≤ 40; omega⟩
      · obtain ⟨r1, r2⟩ := LogS.write_keeps b n { y.1 with chip := (y.1.chip.program y.1.block (y.1.page : Nat) b).1, page := y.1.page + 1, block := -1 } (by show y.1.page + 1 ≤ 40; omega) (by have := (hk.1.geo.trans hg).2.1; show (y.1.chip.program y.1.block (y.1.page : Nat) b).1.np ≤ 32; omega)
        exact ⟨(LogS.Keeps.mk hk.1.facts hk.1.era (hk.1.geo.trans hg) : s.Keeps { y.1 with chip := (y.1.chip.program y.1.block (y.1.page : Nat) b).1, page := y.1.page + 1, block := -1 }).trans r1, r2⟩
theorem putPage_ne {size : Int} {kind : UInt8} {body : List UInt8} (h : (putPage size kind body).2 = 0) : (putPage size kind body).1 ≠ [] := by
  unfold putPage at *
  split at h
  · cases h
  · split at h
    · cases h
    · rename_i h1 h2
      rw [if_neg h1, if_neg h2]
      intro he
      have hs : isSize size = true := by cases hb : isSize size with | true => rfl | false => exact absurd (.inl hb) h1
      unfold isSize at hs
      simp only [Bool.and_eq_true, decide_eq_true_eq] at hs
      have := pageOf_length size.toNat kind body (by omega)
      rw [show pageOf size.toNat kind body = [] from he] at this
      simp at this
      omega
theorem putL_ne {size : Int} {l : List Change} (h : (putL size l).2 = 0) : (putL size l).1 ≠ [] := by
  unfold putL at *
  split at h
  · rename_i hm
    rw [if_pos hm]
    exact putPage_ne h
  · cases h
theorem pagesGo_ne {size : Int} {l : List Fact} : ∀ (cs : List Nat) (acc : List (List UInt8)), (∀ p ∈ acc, p ≠ []) → ∀ p ∈ (pagesGo size l cs acc).1, p ≠ []
  | [], acc, h => h
  | a :: cs, acc, h => by
    obtain ⟨P, hP, key⟩ : ∃ P, P = putL size (((l.take (match cs with | [] => l.length | b :: _ => b)).drop a).map asChange) ∧ pagesGo size l (a :: cs) acc = (if P.2 ≠ 0 then ([], P.2) else pagesGo size l cs (acc ++ [P.1])) := ⟨_, rfl, by cases cs <;> rfl⟩
    rw [key]
    split
    · simp
    · rename_i h0
      refine pagesGo_ne cs _ fun p hp => ?_
      rcases List.mem_append.1 hp with hp | hp
      · exact h p hp
      · simp at hp
        rw [hp, hP]
        exact putL_ne (by rw [← hP]; omega)
theorem packF_ne {size : Int} {l : List Fact} : ∀ p ∈ (packF size l).1, p ≠ [] := by
  unfold packF
  split
  · simp
  · exact pagesGo_ne _ _ (by simp)
theorem LogS.anew_eq (s : LogS) : s.anew = (if (packF s.chip.sz s.facts).2 ≠ 0 then (s, (packF s.chip.sz s.facts).2) else if s.take.2 ≠ 0 then s.take else
    if (LogS.writeAll ((packF s.chip.sz s.facts).1 ++ [(putDropB s.chip.sz s.take.1.pool.last).1]) s.take.1).2 ≠ 0 then LogS.writeAll ((packF s.chip.sz s.facts).1 ++ [(putDropB s.chip.sz s.take.1.pool.last).1]) s.take.1
    else LogS.freeAll s.take.1.pool.last (ownL s.era (takenPool (LogS.writeAll ((packF s.chip.sz s.facts).1 ++ [(putDropB s.chip.sz s.take.1.pool.last).1]) s.take.1).1.pool (LogS.writeAll ((packF s.chip.sz s.facts).1 ++ [(putDropB s.chip.sz s.take.1.pool.last).1]) s.take.1).1.chip)) (LogS.writeAll ((packF s.chip.sz s.facts).1 ++ [(putDropB s.chip.sz s.take.1.pool.last).1]) s.take.1).1) := rfl
end Go.Den
end
section
set_option linter.unusedVariables false
set_option linter.unusedSimpArgs false
set_option maxRecDepth 8000
namespace Go.Den
theorem cutGo_len (room : Int) : ∀ (l : List Fact) (i from_ used : Nat), (cutGo room i from_ used l).length ≤ l.length
  | [], _, _, _ => Nat.le_refl _
  | f :: l, i, from_, used => by
    unfold cutGo
    split
    · have := cutGo_len room l (i + 1) i (costF f)
      simp; exact this
    · have := cutGo_len room l (i + 1) from_ (used + costF f)
      simp; omega
theorem pagesGo_len {size : Int} {l : List Fact} : ∀ (cs : List Nat) (acc : List (List UInt8)), (pagesGo size l cs acc).1.length ≤ acc.length + cs.length
  | [], acc => Nat.le_refl _
  | a :: cs, acc => by
    obtain ⟨P, _, key⟩ : ∃ P, P = putL size (((l.take (match cs with | [] => l.length | b :: _ => b)).drop a).map asChange) ∧ pagesGo size l (a :: cs) acc = (if P.2 ≠ 0 then ([], P.2) else pagesGo size l cs (acc ++ [P.1])) := ⟨_, rfl, by cases cs <;> rfl⟩
    rw [key]
    split
    · simp
    · have := pagesGo_len (size := size) (l := l) cs (acc ++ [P.1])
      simp at this ⊢
      omega
theorem packF_len {size : Int} {l : List Fact} : (packF size l).1.length ≤ l.length := by
  unfold packF
  split
  · exact Nat.zero_le _
  · have h1 := pagesGo_len (size := size) (l := l) (cutsF size l).1 []
    have h2 : (cutsF size l).1.length ≤ l.length := by
      unfold cutsF
      split
      · exact Nat.zero_le _
      · split
        · exact Nat.zero_le _
        · split
          · exact Nat.zero_le _
          · exact cutGo_len _ _ _ _ _
    simp at h1
    omega
abbrev clo1 (B1 B3 : Nat) : Value := .func (.func K.log_Log_anew_1) #[] #[.pointer (some ⟨B1, 0, none⟩), .pointer (some ⟨B3, 0, none⟩)]
abbrev clo2 (B1 b : Nat) : Value := .func (.func K.log_Log_anew_2) #[] #[.pointer (some ⟨B1, 0, none⟩), .pointer (some ⟨b, 0, none⟩)]
abbrev clo3 (B2 B3 B1 : Nat) : Value := .func (.func K.log_Log_anew_3) #[] #[.pointer (some ⟨B2, 0, none⟩), .pointer (some ⟨B3, 0, none⟩), .pointer (some ⟨B1, 0, none⟩)]
/-- the boxes of the pages that are to be written -/
def Boxes (lo : Nat) (u : World) (bs : List Nat) (pages : List (List UInt8)) : Prop := ∀ (k : Nat) (hk : k < bs.length) (hp : k < pages.length), lo ≤ bs[k] ∧ ∃ a c, u.heap[bs[k]]? = some (.cells #[.slice a pages[k].length c] T.L_uint8 (0, 0))
theorem Boxes.upd {lo : Nat} {F : Nat → Prop} {u u' : World} {bs : List Nat} {pages : List (List UInt8)} (h : Boxes lo u bs pages) (k : Upd F u u') (hF : ∀ x, F x → x < lo ∨ ∃ cs fr, u.heap[x]? = some (.cells cs T.func_api_Errno fr)) : Boxes lo u' bs pages := fun i hi hp => by
  obtain ⟨h1, a, c, g⟩ := h i hi hp
  refine ⟨h1, a, c, k.get g fun hf => ?_⟩
  rcases hF _ hf with hx | ⟨cs, fr, hx⟩
  · omega
  · rw [g] at hx
    injection hx with hx
    injection hx with _ hx _
    exact absurd hx (by decide)
theorem OwnAt.typed {w : World} {b len cap size : Nat} {e : TypeId} {cells : List Value} (h : OwnAt w (some ⟨b, 0, none⟩) len cap e size cells) : ∃ cs fr, w.heap[b]? = some (.cells cs e fr) := by
  obtain ⟨_, _, h⟩ := h
  rcases h with ⟨h, _⟩ | ⟨b', cur, h, hb, _⟩
  · cases h
  · cases h; exact ⟨_, _, hb⟩
theorem log_anew_spec {F X : Nat → Prop} {w : World} {q : Nat} {M : PLoc} {s : LogS} (h : LogIn F X w q M s) (hS : ∀ x, F x → x < w.heap.size) (hXS : ∀ x, X x → x < w.heap.size) (hnb : s.chip.nb < 20) (hpg : s.page ≤ 40)
    (hfn : NamesF s.facts) (hfv : ∀ f ∈ s.facts, f.val.length ≤ 1000000000000) (hfl : s.facts.length ≤ 100000000) (hlast : s.take.1.pool.last < 18446744073709551616) :
    CallsR prog K.log_Log_anew #[.pointer (some ⟨q, 0, none⟩)] w fun v w' => v = .int .i64 (s.anew.2 : Nat) ∧ Upd (LogF F q) w w' ∧ LogIn F X w' q M s.anew.1 := by
  obtain ⟨r, hr⟩ : ∃ r, r = s.anew := ⟨_, rfl⟩
  rw [← hr]
  rw [LogS.anew_eq] at hr
  apply log_Log_anew.sh
  suffices H : ∀ R : Value → World → Prop, (∀ v w', v = .int .i64 (r.2 : Nat) ∧ Upd (LogF F q) w w' ∧ LogIn F X w' q M r.1 → R v w') → log_Log_anew.body (some ⟨q, 0, none⟩) w R from H _ fun _ _ h => h
  intro R hR
  unfold log_Log_anew.body
  have hok := h.pool.pin.chip.ok
  have hnp2 := hok.np2
  have hql := h.lt
  intro B1 w1 hn1
  have hB1 : B1 = w.heap.size := hn1.num
  have hs1 := hn1.size
  have g1 : w1.heap[B1]? = some (.cells #[.pointer (some ⟨q, 0, none⟩)] T.p_log_Log (0, 0)) := hn1.get
  refine ⟨_, cell_of g1 rfl, ?_⟩
  simp only [nilC_some', add_lit, Nat.zero_add]
  refine ⟨_, (h.ext hn1.upd).cell (i := 0) (fun _ _ => rfl), (pChip (h.ext hn1.upd).pool.pin).mono ?_⟩
  rintro _ u ⟨rfl, hu⟩
  obtain rfl : w1 = u := hu.symm
  refine ⟨_, rfl, (cGeo (h.ext hn1.upd).pool.pin.chip).mono ?_⟩
  rintro _ w3 ⟨rfl, he3⟩
  have hs3 := he3.size
  refine ⟨_, _, _, _, rfl, new_put rfl fun B2 w5 hB2 hs5 e5 g2 => ?_⟩
  intro w6 hd6
  have e16 : Ext w1 w6 := (he3.trans e5).trans hd6.upd
  have e6 : Ext w w6 := hn1.upd.trans e16
  have h6 := h.ext e6
  have g16 := Ext.get e16 g1
  have g26 : w6.heap[B2]? = some (.cells #[.int .i64 (s.chip.sz : Nat)] T.int (0, 0)) := Ext.get hd6.upd g2
  have hs6 : w6.heap.size = w5.heap.size := by rw [hd6.heap]
  refine ⟨fun v => Ext w6 v, Upd.refl _ _, _, fun v hv => cell_of (Ext.get hv g26) rfl, _, fun v hv => cell_of (Ext.get hv g16) rfl, ?_⟩
  simp only [nilC_some', add_lit, Nat.zero_add]
  obtain ⟨af, cf, gq, Gf, hGf, hGf'⟩ := h6.head
  refine ⟨af, _, cf, fun v hv => cell_of (Ext.get hv gq) rfl, (pack_Pages_spec hGf (fun b hb => (hGf' b hb).2.2) hfn hfv hfl (s.chip.sz : Nat)).mono ?_⟩
  have hpne := packF_ne (size := (s.chip.sz : Nat)) (l := s.facts)
  have hpl := packF_len (size := (s.chip.sz : Nat)) (l := s.facts)
  generalize packF (s.chip.sz : Nat) s.facts = P at *
  obtain ⟨pages, pe⟩ := P
  simp only at hpne hpl hr ⊢
  rintro _ w7 ⟨a2, c2, rfl, hl7, he7⟩
  have hs7 := he7.size
  have e7 := e6.trans he7
  refine ⟨_, _, _, _, rfl, he7, br_ne (fun hne => ?_) fun h0 => ?_⟩
  · rw [if_pos (by omega)] at hr
    rw [hr] at hR
    exact hR _ _ ⟨rfl, Upd.ext e7, h.ext e7⟩
  rw [if_neg (by omega)] at hr
  refine new_put rfl fun B3 w9 hB3 hs9 e9 g3 => ?_
  intro B4 w10 hn10
  have hs10 := hn10.size
  have e710 := e9.trans hn10.upd
  obtain ⟨G7, hG7, hG7'⟩ := hl7.slice
  have hrow10 : OwnAt w10 (some ⟨B4, 0, none⟩) 1 1 T.func_api_Errno 1 [clo1 B1 B3] := OwnAt.new hn10 rfl
  have hB4 : B4 = w9.heap.size := hn10.num
  -- what is to be done
  refine ⟨fun a3 l3 c3 x u => ∃ (i : Nat) (bs : List Nat), x = i ∧ i ≤ pages.length ∧ bs.length = i ∧ l3 = i + 1 ∧ OwnAt u a3 (i + 1) c3 T.func_api_Errno 1 (clo1 B1 B3 :: bs.map (clo2 B1)) ∧ Fresh w9 a3 ∧ Boxes w9.heap.size u bs pages ∧ (∀ (k : Nat) (hk : k < bs.length) (hp : k < pages.length) a c, u.heap[bs[k]]? = some (.cells #[.slice a pages[k].length c] T.L_uint8 (0, 0)) → BytesAt w7 a pages[k] ∧ ∀ p, a = some p → w6.heap.size ≤ p.block ∧ p.block < w7.heap.size) ∧ Ext w9 u, fun _ _ _ x _ => ((pages.length : Int) - x).toNat,
    ⟨0, [], rfl, by omega, rfl, rfl, hrow10, Fresh.some (by omega), fun k hk => absurd hk (by simp), fun k hk => absurd hk (by simp), hn10.upd⟩, ?_⟩
  rintro a3 l3 c3 x u ⟨i, bs, rfl, hi, hbl, rfl, ho, hfr, hbx, hby, heu⟩
  have hsu := heu.size
  have ha3 : ∀ b, a3 = some ⟨b, 0, none⟩ → w9.heap.size ≤ b ∧ b < u.heap.size := fun b hb => ⟨hfr _ hb, ho.blk hb⟩
  refine br_dec (fun hlt => ?_) fun hge => ?_
  · have hi' : i < pages.length := by omega
    have ew : IntKind.i64.wrap ((i : Int) + 1) = ((i + 1 : Nat) : Int) := w64 (by omega) (by omega)
    simp only [ew]
    have e7u := e9.trans heu
    refine SliceAt.idx (r := bytesR) (hG7.ext e7u) rfl hi' fun b o vs _ hrow hR' _ => ?_
    obtain ⟨av, cv, rfl, hcv, hbv, hgv⟩ := hR'
    refine ⟨av, pages[i].length, cv, (by have h1 := hrow.cells.1; rw [add_zero] at h1; exact h1), new_put (vs := [Value.slice av pages[i].length cv]) rfl fun B5 w13 hB5 hs13 e13 g5 => fun B6 w14 hn14 => ?_⟩
    have hs14 := hn14.size
    have e14 := e13.trans hn14.upd
    have g514 := Ext.get hn14.upd g5
    refine append_own (ho.ext e14) rfl (read_row (RowAt.of hn14.get (vs := [clo2 B1 B5]) fun j v hj => by simpa using hj) rfl) rfl (fun v hv => by simp at hv; rw [hv]; rfl) rfl (by omega) (by omega) fun a' c' w15 hu15 ho15 hf15 => ?_
    have hb5ne : ∀ x, a3 = some ⟨x, 0, none⟩ → B5 ≠ x := fun x hx => by have := ha3 x hx; omega
    have g515 : w15.heap[B5]? = some (.cells #[.slice av pages[i].length cv] T.L_uint8 (0, 0)) := hu15.get g514 fun hx => hb5ne _ hx rfl
    have hbx14 : Boxes w9.heap.size w14 bs pages := hbx.upd (Upd.ext (F := NoB) e14) fun x hx => hx.elim
    have hbx15 : Boxes w9.heap.size w15 bs pages := hbx14.upd hu15 fun x hx => by
      subst hx
      exact .inr (OwnAt.typed (ho.ext e14))
    have hgb : ∀ k (hk : k < bs.length) (hp : k < pages.length), bs[k] < u.heap.size ∧ w15.heap[bs[k]]? = u.heap[bs[k]]? := fun k hk hp => by
      obtain ⟨h1, a, c, g⟩ := hbx k hk hp
      obtain ⟨_, a', c', g'⟩ := hbx15 k hk hp
      have hltb := (Array.getElem?_eq_some_iff.1 g).1
      refine ⟨hltb, ?_⟩
      have g14 := Ext.get e14 g
      by_cases hx : a3 = some ⟨bs[k], 0, none⟩
      · subst hx
        obtain ⟨cs, fr, gt⟩ := OwnAt.typed ho
        rw [g] at gt
        injection gt with gt
        injection gt with _ gt _
        exact absurd gt (by decide)
      · rw [g]; exact hu15.get g14 hx
    refine ⟨⟨i + 1, bs ++ [B5], rfl, hi', by simp [hbl], rfl, by simpa using ho15, ?_, ?_, ?_, Upd.beyond (heu.trans e14) hu15 fun x hx => (ha3 x hx).1⟩, meas hi'⟩
    · rcases hf15 with rfl | ⟨b', rfl, hb'⟩
      · exact hfr
      · exact Fresh.some (by omega)
    · intro k hk hp
      by_cases hki : k < bs.length
      · rw [List.getElem_append_left hki]
        exact hbx15 k hki hp
      · have hke : k = i := by simp at hk; omega
        subst hke
        rw [List.getElem_append_right (by omega)]
        simp only [hbl, Nat.sub_self, List.getElem_cons_zero]
        exact ⟨by omega, av, cv, g515⟩
    · intro k hk hp a c g
      by_cases hki : k < bs.length
      · rw [List.getElem_append_left hki] at g
        rw [(hgb k hki hp).2] at g
        exact hby k hki hp a c g
      · have hke : k = i := by simp at hk; omega
        subst hke
        rw [List.getElem_append_right (by omega)] at g
        simp only [hbl, Nat.sub_self, List.getElem_cons_zero] at g
        rw [g515] at g
        injection g with g
        injection g with g _ _
        injection g with g
        injection g with g _
        injection g with ga _ gc
        subst ga; subst gc
        have hne := hpne _ (List.getElem_mem hi')
        have hreg : ∀ p, av = some p → w6.heap.size ≤ p.block ∧ p.block < w7.heap.size := fun p hp => by
          have := hG7' _ (hgv hne p hp)
          rcases this.1 with h | h
          · exact ⟨h, this.2⟩
          · exact h.elim
        refine ⟨?_, hreg⟩
        obtain ⟨bb, oo, hab, _⟩ := RowAt.blk hbv (by simpa using hne)
        subst hab
        have hrg := hreg _ rfl
        rcases hbv with hbv | ⟨b9, o9, cur, T9, fr, hab9, hb9, hv9⟩
        · exact .inl hbv
        · cases hab9
          refine .inr ⟨_, _, cur, T9, fr, rfl, ?_, hv9⟩
          rw [← e7u.blk _ hrg.2 (fun h => h)]
          exact hb9
  · have hii : i = pages.length := by omega
    subst hii
    intro B7 w16 hn16
    have hs16 := hn16.size
    refine append_own (ho.ext hn16.upd) rfl (read_row (RowAt.of hn16.get (vs := [clo3 B2 B3 B1]) fun j v hj => by simpa using hj) rfl) rfl (fun v hv => by simp at hv; rw [hv]; rfl) rfl (by omega) (by omega) fun a6 c6 w17 hu17 ho17 hf17 => ?_
    have hs17 := hu17.size
    have hbx17 : Boxes w9.heap.size w17 bs pages := (hbx.upd (Upd.ext (F := NoB) hn16.upd) fun x hx => hx.elim).upd hu17 fun x hx => by
      subst hx
      exact .inr (OwnAt.typed (ho.ext hn16.upd))
    have e917 : Ext w9 w17 := Upd.beyond (heu.trans hn16.upd) hu17 fun x hx => (ha3 x hx).1
    have hby17 : ∀ (k : Nat) (hk : k < bs.length) (hp : k < pages.length) a c, w17.heap[bs[k]]? = some (.cells #[.slice a pages[k].length c] T.L_uint8 (0, 0)) → BytesAt w7 a pages[k] ∧ ∀ p, a = some p → w6.heap.size ≤ p.block ∧ p.block < w7.heap.size := fun k hk hp a c g => by
      obtain ⟨h1, a', c', g'⟩ := hbx k hk hp
      have g16' := Ext.get hn16.upd g'
      by_cases hx : a3 = some ⟨bs[k], 0, none⟩
      · subst hx
        obtain ⟨cs, fr, gt⟩ := OwnAt.typed ho
        rw [g'] at gt
        injection gt with gt
        injection gt with _ gt _
        exact absurd gt (by decide)
      · rw [hu17.get g16' hx] at g
        injection g with g
        injection g with g _ _
        injection g with g
        injection g with g _
        injection g with ga _ gc
        subst ga; subst gc
        exact hby k hk hp a' c' g'
    have hf6 : ∀ b, a6 = some ⟨b, 0, none⟩ → w9.heap.size ≤ b := fun b hb => by
      rcases hf17 with rfl | ⟨b', rfl, hb'⟩
      · exact (ha3 b hb).1
      · cases hb; omega
    have htodo : ∀ k (hk : k < pages.length), (clo1 B1 B3 :: bs.map (clo2 B1) ++ [clo3 B2 B3 B1])[k + 1]? = some (clo2 B1 (bs[k]'(by omega))) := fun k hk => by
      have : (bs.map (clo2 B1)).length = pages.length := by simp [hbl]
      rw [List.cons_append, List.getElem?_cons_succ, List.getElem?_append_left (by omega), List.getElem?_map, List.getElem?_eq_getElem (by omega : k < bs.length)]
      rfl
    have htodo3 : (clo1 B1 B3 :: bs.map (clo2 B1) ++ [clo3 B2 B3 B1])[pages.length + 1]? = some (clo3 B2 B3 B1) := by
      have : (bs.map (clo2 B1)).length = pages.length := by simp [hbl]
      rw [List.cons_append, List.getElem?_cons_succ, List.getElem?_append_right (by omega), this]
      simp
    generalize htd : clo1 B1 B3 :: bs.map (clo2 B1) ++ [clo3 B2 B3 B1] = todo at ho17 htodo htodo3
    have htodo0 : todo[0]? = some (clo1 B1 B3) := by rw [← htd]; rfl
    have e17 : Ext w w17 := (e7.trans e9).trans e917
    have h17 := h.ext e17
    have g117 := Ext.get ((he7.trans e9).trans e917) g16
    have g217 := Ext.get ((he7.trans e9).trans e917) g26
    have g317 := Ext.get e917 g3
    have hB3' : w7.heap.size ≤ B3 ∧ B3 < w9.heap.size := by omega
    -- blocks of its own
    have nF : ∀ x, w.heap.size ≤ x → ¬ LogF F q x := fun x hx hf => by
      rcases hf with hf | hf
      · have := hS x hf; omega
      · omega
    obtain ⟨all, hall⟩ : ∃ all, all = pages ++ [(putDropB (s.chip.sz : Nat) s.take.1.pool.last).1] := ⟨_, rfl⟩
    rw [← hall] at hr
    have halll : all.length = pages.length + 1 := by rw [hall]; simp
    have hsk := s.take_keeps
    have htp := s.take_page hpg
    refine ⟨fun x u => ∃ k : Nat, x = k ∧ k ≤ pages.length + 2 ∧ Upd (fun y => LogF F q y ∨ y = B3) w17 u ∧ ((k = 0 ∧ LogIn F X u q M s ∧ u.heap[B3]? = some (.cells #[.int .u64 0] T.uint64 (0, 0))) ∨ (1 ≤ k ∧ s.take.2 = 0 ∧ ∃ t : LogS, LogIn F X u q M t ∧ s.Keeps t ∧ t.page ≤ 40 ∧ u.heap[B3]? = some (.cells #[.int .u64 s.take.1.pool.last] T.uint64 (0, 0)) ∧ LogS.writeAll (all.drop (k - 1)) t = LogS.writeAll all s.take.1)), fun x _ => (((pages.length + 2 : Nat) : Int) - x).toNat,
      ⟨0, rfl, by omega, Upd.refl _ _, .inl ⟨rfl, h17, g317⟩⟩, ?_⟩
    rintro x u' ⟨k, rfl, hk, huk, hst⟩
    have hwu : Upd (fun y => LogF F q y ∨ y = B3) w u' := (Upd.ext e17).trans huk
    have hwq : ∀ {v : World}, Upd (fun y => LogF F q y ∨ y = B3) w v → Upd (LogF F q) w v := fun hv => (Upd.refl _ w).over hv fun y hy => by
      rcases hy with hy | hy
      · exact .inl hy
      · exact .inr (by omega)
    have kB : ∀ b, w.heap.size ≤ b → b ≠ B3 → ∀ {o : Obj}, w17.heap[b]? = some o → u'.heap[b]? = some o := fun b hb hne {o} g => huk.get g fun hf => by
      rcases hf with hf | hf
      · exact nF b hb hf
      · exact hne hf
    have gk1 := kB B1 (by omega) (by omega) g117
    have gk2 := kB B2 (by omega) (by omega) g217
    have hsu' := huk.size
    have hrowu : RowAt u' a6 todo := by
      refine RowAt.upd ho17.row huk fun p hp hf => ?_
      obtain ⟨_, _, hx⟩ := ho17
      rcases hx with ⟨hx, _⟩ | ⟨b', _, hx, _⟩
      · rw [hx] at hp; cases hp
      · have h6' := hf6 b' hx
        rw [hx] at hp
        cases hp
        rcases hf with hf | hf
        · exact nF b' (by omega) hf
        · have : b' = B3 := hf
          omega
    refine br_dec (fun hltk => ?_) fun hgek => ?_
    · have hk' : k < pages.length + 2 := by omega
      have ewk : IntKind.i64.wrap ((k : Int) + 1) = ((k + 1 : Nat) : Int) := w64 (by omega) (by omega)
      simp only [ewk]
      have hvk : ∃ v4, todo[k]? = some v4 := ⟨_, List.getElem?_eq_getElem (by rw [← htd]; simp [hbl]; omega)⟩
      obtain ⟨v4, hv4⟩ := hvk
      obtain ⟨b6, o6, rfl, hc6⟩ := hrowu.cell hv4
      refine ⟨by omega, by omega, ?_⟩
      simp only [nilC_some', add_lit, Nat.mul_one, Int.toNat_natCast]
      refine ⟨v4, hc6, ?_⟩
      rcases hst with ⟨rfl, hlk, gk30⟩ | ⟨hk1, htk, t, hlk, hkeep, htpg, gk3, hwa⟩
      · rw [htodo0] at hv4
        cases hv4
        refine (show callT (clo1 B1 B3) [] u' _ from ⟨by kernel_rfl, (anew_1_spec (n := 0) hlk gk1 gk30 (nF _ (by omega)) (nF _ (by omega)) (fun hx => by have := hXS _ hx; omega)).mono ?_⟩)
        rintro _ u1 ⟨rfl, ht1, g31, hu1⟩
        refine ⟨_, rfl, br_ne (fun hne => ?_) fun hz => ?_⟩
        · rw [if_pos (by omega)] at hr
          rw [hr] at hR
          exact hR _ _ ⟨rfl, hwq (hwu.trans hu1), ht1⟩
        · exact ⟨⟨1, rfl, by omega, huk.trans hu1, .inr ⟨Nat.le_refl _, by omega, s.take.1, ht1, hsk, htp, g31, rfl⟩⟩, by omega⟩
      · rw [if_neg (by omega)] at hr
        -- a page is written
        have step : ∀ (pg : List UInt8) (hkl : k - 1 < all.length), all[k - 1] = pg → ∀ u1, LogIn F X u1 q M (t.write pg t.fuel).1 → Upd (LogF F q) u' u1 → br (((t.write pg t.fuel).2 : Int) != 0) (R (.int .i64 ((t.write pg t.fuel).2 : Nat)) u1) ((∃ k' : Nat, ((k + 1 : Nat) : Int) = k' ∧ k' ≤ pages.length + 2 ∧ Upd (fun y => LogF F q y ∨ y = B3) w17 u1 ∧ ((k' = 0 ∧ LogIn F X u1 q M s ∧ u1.heap[B3]? = some (.cells #[.int .u64 0] T.uint64 (0, 0))) ∨ (1 ≤ k' ∧ s.take.2 = 0 ∧ ∃ t : LogS, LogIn F X u1 q M t ∧ s.Keeps t ∧ t.page ≤ 40 ∧ u1.heap[B3]? = some (.cells #[.int .u64 s.take.1.pool.last] T.uint64 (0, 0)) ∧ LogS.writeAll (all.drop (k' - 1)) t = LogS.writeAll all s.take.1))) ∧
            (((pages.length + 2 : Nat) : Int) - ((k + 1 : Nat) : Int)).toNat < (((pages.length + 2 : Nat) : Int) - (k : Int)).toNat) := fun pg hkl hpgk u1 ht1 hu1 => by
          have hed : all.drop (k - 1) = pg :: all.drop k := by
            rw [List.drop_eq_getElem_cons hkl, hpgk]
            congr 2
            omega
          rw [hed] at hwa
          have hwk := LogS.write_keeps pg t.fuel t htpg (by have := hkeep.geo.2.1; omega)
          have u17 := huk.trans (hu1.mono fun x _ hx => .inl hx)
          have hwu1 := hwu.trans (hu1.mono fun x _ hx => .inl hx)
          refine br_ne (fun hne => ?_) fun hz => ?_
          · have hwa' : LogS.writeAll all s.take.1 = t.write pg t.fuel := by
              rw [← hwa]
              show (if (t.write pg t.fuel).2 ≠ 0 then t.write pg t.fuel else _) = _
              rw [if_pos (by omega)]
            rw [hwa', if_pos (by omega)] at hr
            rw [hr] at hR
            exact hR _ _ ⟨rfl, hwq hwu1, ht1⟩
          · refine ⟨⟨k + 1, rfl, by omega, u17, .inr ⟨by omega, htk, (t.write pg t.fuel).1, ht1, hkeep.trans hwk.1, hwk.2, hu1.get gk3 (nF _ (by omega)), ?_⟩⟩, by omega⟩
            rw [← hwa, Nat.add_sub_cancel]
            show _ = (if (t.write pg t.fuel).2 ≠ 0 then t.write pg t.fuel else _)
            rw [if_neg (by omega)]
        by_cases hkp : k - 1 < pages.length
        · have hbk : k - 1 < bs.length := by omega
          have hk2 : k = (k - 1) + 1 := by omega
          rw [hk2, htodo (k - 1) hkp] at hv4
          cases hv4
          obtain ⟨hlo, ab, cb, gb⟩ := hbx17 (k - 1) hbk hkp
          obtain ⟨hb7, hbr⟩ := hby17 (k - 1) hbk hkp ab cb gb
          have gbu := kB bs[k - 1] (by omega) (by omega) gb
          have hbu : BytesAt u' ab pages[k - 1] := RowAt.upd (hb7.ext (e9.trans e917)) huk fun p hp hf => by
            have := hbr p hp
            rcases hf with hf | hf
            · exact nF _ (by omega) hf
            · have : p.block = B3 := hf
              omega
          refine (show callT (clo2 B1 bs[k - 1]) [] u' _ from ⟨by kernel_rfl, (anew_2_spec hlk gk1 gbu hbu (fun p hp => ⟨fun hf => nF _ (by have := hbr p hp; omega) (.inl hf), fun e => nF _ (by have := hbr p hp; omega) (.inr e)⟩) (by omega)).mono ?_⟩)
          rintro _ u1 ⟨rfl, ht1, hu1⟩
          exact ⟨_, rfl, step pages[k - 1] (by omega) (by subst hall; exact List.getElem_append_left hkp) u1 ht1 hu1⟩
        · have hke : k = pages.length + 1 := by omega
          subst hke
          rw [htodo3] at hv4
          cases hv4
          have hsz : s.chip.sz = s.chip.sz := rfl
          refine (show callT (clo3 B2 B3 B1) [] u' _ from ⟨by kernel_rfl, (anew_3_spec hlk gk1 gk2 gk3 hlast (fun x hx => by have := hS x hx; have := e17.size; omega) (by omega)).mono ?_⟩)
          rintro _ u1 ⟨rfl, ht1, hu1⟩
          refine ⟨_, rfl, step _ (by omega) ?_ u1 ht1 hu1⟩
          subst hall
          rw [List.getElem_append_right (by omega)]
          simp
    · have hke : k = pages.length + 2 := by omega
      subst hke
      rcases hst with ⟨h00, _⟩ | ⟨_, htk, t, hlk, hkeep, htpg, gk3, hwa⟩
      · omega
      have hdr : all.drop (pages.length + 2 - 1) = [] := List.drop_eq_nil_of_le (by omega)
      rw [hdr] at hwa
      have hwa' : LogS.writeAll all s.take.1 = (t, 0) := hwa.symm
      rw [if_neg (by omega), hwa', if_neg (by simp)] at hr
      simp only at hr
      intro w20 hd20
      have h20 := hlk.ext hd20.upd
      have g120 := Ext.get hd20.upd gk1
      have g320 := Ext.get hd20.upd gk3
      have hwu20 := hwu.then hd20.upd
      have hs20 : w20.heap.size = u'.heap.size := by rw [hd20.heap]
      refine ⟨fun v => Ext w20 v, Upd.refl _ _, _, fun v hv => cell_of (Ext.get hv g120) rfl, ?_⟩
      simp only [nilC_some', add_lit, Nat.zero_add]
      refine ⟨_, fun v hv => (h20.ext hv).cell (i := 0) (fun _ _ => rfl), _, fun v hv => cell_of (Ext.get hv g120) rfl, ?_⟩
      simp only [nilC_some', add_lit, Nat.zero_add]
      have hnbt : t.chip.nb < 20 := by have := hkeep.geo.1; omega
      refine ⟨_, fun v hv => (h20.ext hv).cell (i := 1) (fun _ _ => rfl), (log_own_spec h20.pool.pin hnbt t.era).mono ?_⟩
      have hLl : (ownL t.era (takenPool t.pool t.chip)).length ≤ 20 := by
        unfold ownL takenPool
        have h1 := List.length_filter_le (fun x : Taken => decide (x.head.kind = 1) && decide (x.head.era = t.era)) (isort takenLt (takenRaw t.pool t.chip t.chip.nb))
        rw [isort_length] at h1
        have h2 := takenRaw_length t.pool t.chip t.chip.nb
        omega
      rw [hkeep.era] at hLl ⊢
      generalize ownL s.era (takenPool t.pool t.chip) = L at *
      generalize s.take.1.pool.last = first at *
      rintro _ w21 ⟨he21, a7, c7, rfl, ho21, hf21⟩
      have hs21 := he21.size
      refine ⟨_, _, _, rfl, he21, fun x u => ∃ (i : Nat) (t' : LogS), x = i ∧ i ≤ L.length ∧ LogIn F X u q M t' ∧ LogS.freeAll first (L.drop i) t' = r ∧ Upd (LogF F q) w21 u, fun x _ => ((L.length : Int) - x).toNat, ⟨0, t, rfl, by omega, h20.ext he21, hr.symm, Upd.refl _ _⟩, ?_⟩
      rintro x u ⟨i, t', rfl, hi2, ht', hfa, hu22⟩
      have hs22 := hu22.size
      have hwu22 : Upd (LogF F q) w u := (hwq (hwu20.then he21)).trans hu22
      refine br_dec (fun hlt2 => ?_) fun hge2 => ?_
      · have hi' : i < L.length := by omega
        have ew : IntKind.i64.wrap ((i : Int) + 1) = ((i + 1 : Nat) : Int) := w64 (by omega) (by omega)
        simp only [ew]
        have hsz0 := hwu20.size
        have hrow22 : RowAt u a7 (L.flatMap Taken.vals) := RowAt.upd ho21.row hu22 fun p hp hf => nF _ (by have : w20.heap.size ≤ p.block := hf21 p hp; omega) hf
        have hed : L.drop i = L[i] :: L.drop (i + 1) := List.drop_eq_getElem_cons hi'
        refine idx_flat (f := Taken.vals) (k := 5) (fun _ => rfl) (by decide) hrow22 rfl hi' fun b o ha hrr => ?_
        refine ⟨_, _, _, _, _, hrr.cells, new_put (vs := L[i].vals) rfl fun B8 w24 hB8 hs24 e24 g8 => ?_⟩
        have h24 := ht'.ext e24
        have g124 := Ext.get e24 (hu22.get (Ext.get he21 g120) (nF _ (by omega)))
        have g324 := Ext.get e24 (hu22.get (Ext.get he21 g320) (nF _ (by omega)))
        have hwu24 := hu22.then e24
        have next : ∀ {u3 : World} {t3 : LogS}, LogIn F X u3 q M t3 → LogS.freeAll first (L.drop (i + 1)) t3 = r → Upd (LogF F q) w21 u3 → (∃ (k : Nat) (t' : LogS), ((i + 1 : Nat) : Int) = k ∧ k ≤ L.length ∧ LogIn F X u3 q M t' ∧ LogS.freeAll first (L.drop k) t' = r ∧ Upd (LogF F q) w21 u3) ∧ ((L.length : Int) - ((i + 1 : Nat) : Int)).toNat < ((L.length : Int) - (i : Int)).toNat := fun ht3 hf3 hu3 => ⟨⟨i + 1, _, rfl, hi', ht3, hf3, hu3⟩, meas hi'⟩
        rw [hed] at hfa
        refine ⟨_, cell_of g8 rfl, _, cell_of g324 rfl, br_dec (fun hge3 => next h24 ?_ hwu24) fun hlt3 => ⟨_, cell_of g8 rfl, br_intro (fun hbad => next h24 ?_ hwu24) fun hbad => ?_⟩⟩
        · rw [← hfa]
          show _ = (if _ then _ else _)
          rw [if_pos (.inl (by omega))]
        · rw [← hfa]
          show _ = (if _ then _ else _)
          rw [if_pos (.inr hbad)]
        · intro w25 hd25
          have h25 := h24.ext hd25.upd
          obtain ⟨aq, cq, gq25, _⟩ := h25.head
          have g125 := Ext.get hd25.upd g124
          have g825 := Ext.get hd25.upd g8
          refine ⟨fun v => v.heap[B1]? = some (.cells #[.pointer (some ⟨q, 0, none⟩)] T.p_log_Log (0, 0)) ∧ v.heap[q]? = some (.cells (logVs M t' aq cq).toArray T.log_Log (0, 0)) ∧ v.heap[B8]? = some (.cells L[i].vals.toArray T.api_Taken (0, 0)), ⟨g125, gq25, g825⟩, _, fun v hv => cell_of hv.1 rfl, ?_⟩
          simp only [nilC_some', add_lit, Nat.zero_add]
          refine ⟨_, fun v hv => cell_of hv.2.1 rfl, _, fun v hv => cell_of hv.2.2 rfl, (pxFree h25.pool (L[i].block : Nat)).mono ?_⟩
          rintro _ w26 ⟨rfl, hu26, hp26⟩
          have hs26 := hu26.size
          have nFx : ∀ x, w.heap.size ≤ x → ¬ F x := fun x hx hf => nF x hx (.inl hf)
          refine ⟨_, rfl, ⟨hu26.get g125 (nFx _ (by omega)), hu26.get gq25 h.out, hu26.get g825 (nFx _ (by omega))⟩, ?_⟩
          have h26 := h25.step hu26 hp26
          have u26 : Upd (LogF F q) w21 w26 := (hwu24.then hd25.upd).trans (hu26.mono fun x _ hx => .inl hx)
          have hf' : LogS.freeAll first (L[i] :: L.drop (i + 1)) t' = (if (freePool t'.pool t'.chip L[i].block).2.2 ≠ 0 then ({ t' with pool := (freePool t'.pool t'.chip L[i].block).1, chip := (freePool t'.pool t'.chip L[i].block).2.1 }, (freePool t'.pool t'.chip L[i].block).2.2) else LogS.freeAll first (L.drop (i + 1)) { t' with pool := (freePool t'.pool t'.chip L[i].block).1, chip := (freePool t'.pool t'.chip L[i].block).2.1 }) := by
            show (if _ then _ else _) = _
            rw [if_neg (by rintro (h | h); omega; rw [h] at hbad; cases hbad)]
          rw [hf'] at hfa
          refine br_ne (fun hne => ?_) fun hz => ?_
          · rw [if_pos (by omega)] at hfa
            rw [← hfa] at hR
            exact hR _ _ ⟨rfl, (hwq (hwu20.then he21)).trans u26, h26⟩
          · rw [if_neg (by omega)] at hfa
            exact next h26 hfa u26
      · have hii2 : i = L.length := by omega
        subst hii2
        rw [List.drop_length] at hfa
        have hfa' : r = (t', 0) := hfa.symm
        rw [hfa'] at hR
        exact hR _ _ ⟨rfl, hwu22, ht'⟩
end Go.Den
end
section
set_option linter.unusedVariables false
set_option linter.unusedSimpArgs false
set_option maxRecDepth 8000
namespace Go.Den
theorem raise_last (P : Pool) : P.raise.last < 18446744073709551616 := Nat.mod_lt _ (by decide)
theorem try_last (P : Pool) (c : Chip) (i : Nat) (kind : UInt8) (era : Nat) (h : P.last < 18446744073709551616) : (tryBlk P c i kind era).1.last < 18446744073709551616 := by
  unfold tryBlk
  split
  · split
    · exact h
    · exact raise_last _
  · exact raise_last _
theorem takeGo_last (kind : UInt8) (era : Nat) : ∀ (ks : List Nat) (P : Pool) (c : Chip), P.last < 18446744073709551616 → (takeGo kind era P c ks).pool.last < 18446744073709551616
  | [], P, c, h => h
  | k :: ks, P, c, h => by
    unfold takeGo
    split
    · exact takeGo_last kind era ks P c h
    · have h1 := try_last P c ((P.turn + k) % c.nb) kind era h
      split
      · exact h1
      · split
        · exact h1
        · exact takeGo_last kind era ks _ _ h1
theorem takePool_last (P : Pool) (c : Chip) (kind : UInt8) (era : Nat) (h : P.last < 18446744073709551616) : (takePool P c kind era).pool.last < 18446744073709551616 := by
  unfold takePool
  split
  · exact h
  · split
    · exact h
    · exact takeGo_last kind era _ P c h
theorem LogS.take_last (s : LogS) (h : s.pool.last < 18446744073709551616) : s.take.1.pool.last < 18446744073709551616 := by
  have := takePool_last s.pool s.chip 1 s.era h
  unfold LogS.take
  simp only
  split <;> exact this
theorem LogS.write_last (b : List UInt8) : ∀ (n : Nat) (s : LogS), s.pool.last < 18446744073709551616 → (s.write b n).1.pool.last < 18446744073709551616
  | 0, s, h => h
  | n + 1, s, h => by
    rw [LogS.write_step]
    obtain ⟨y, hy⟩ : ∃ y, y = (if s.block = -1 ∨ s.page ≥ s.chip.np then s.take else (s, 0)) := ⟨_, rfl⟩
    rw [← hy]
    have hk : y.1.pool.last < 18446744073709551616 := by
      subst hy
      split
      · exact s.take_last h
      · exact h
    split
    · exact hk
    · split
      · exact hk
      · exact LogS.write_last b n _ hk
theorem freePool_last (P : Pool) (c : Chip) (i : Int) : (freePool P c i).1.last = P.last := by
  unfold freePool
  split <;> rfl
/-- what a log is within -/
structure LogS.Fit (s : LogS) : Prop where
  nb : s.chip.nb < 20
  np : s.chip.np ≤ 32
  sp : s.chip.sp ≤ 4
  page : s.page ≤ 40
  last : s.pool.last < 18446744073709551616
theorem LogS.Fit.of {s t : LogS} (h : s.Fit) (k : s.Keeps t) (hp : t.page ≤ 40) (hl : t.pool.last < 18446744073709551616) : t.Fit :=
  ⟨by rw [k.geo.1]; exact h.nb, by rw [k.geo.2.1]; exact h.np, by rw [k.geo.2.2.2]; exact h.sp, hp, hl⟩
theorem LogS.take_fit {s : LogS} (h : s.Fit) : s.Keeps s.take.1 ∧ s.take.1.Fit := ⟨s.take_keeps, h.of s.take_keeps (s.take_page h.page) (s.take_last h.last)⟩
theorem LogS.write_fit {s : LogS} (h : s.Fit) (b : List UInt8) (n : Nat) : s.Keeps (s.write b n).1 ∧ (s.write b n).1.Fit := by
  obtain ⟨h1, h2⟩ := LogS.write_keeps b n s h.page h.np
  exact ⟨h1, h.of h1 h2 (LogS.write_last b n s h.last)⟩
theorem LogS.writeAll_fit : ∀ (l : List (List UInt8)) (s : LogS), s.Fit → s.Keeps (LogS.writeAll l s).1 ∧ (LogS.writeAll l s).1.Fit
  | [], s, h => ⟨.refl s, h⟩
  | b :: l, s, h => by
    obtain ⟨h1, h2⟩ := LogS.write_fit h b s.fuel
    show s.Keeps (if (s.write b s.fuel).2 ≠ 0 then s.write b s.fuel else LogS.writeAll l (s.write b s.fuel).1).1 ∧ (if (s.write b s.fuel).2 ≠ 0 then s.write b s.fuel else LogS.writeAll l (s.write b s.fuel).1).1.Fit
    split
    · exact ⟨h1, h2⟩
    · obtain ⟨h3, h4⟩ := LogS.writeAll_fit l _ h2
      exact ⟨h1.trans h3, h4⟩
theorem freePool_same (P : Pool) (c : Chip) (i : Int) : c.SameGeo (freePool P c i).2.1 := by
  unfold freePool
  split
  · exact .refl _
  · exact Chip.erase_geo _ _
theorem LogS.freeAll_fit (first : Nat) : ∀ (l : List Taken) (s : LogS), s.Fit → s.Keeps (LogS.freeAll first l s).1 ∧ (LogS.freeAll first l s).1.Fit
  | [], s, h => ⟨.refl s, h⟩
  | x :: l, s, h => by
    have hk : s.Keeps { s with pool := (freePool s.pool s.chip x.block).1, chip := (freePool s.pool s.chip x.block).2.1 } := ⟨rfl, rfl, freePool_same _ _ _⟩
    have hf := h.of hk h.page (by show (freePool s.pool s.chip x.block).1.last < _; rw [freePool_last]; exact h.last)
    have hs : LogS.freeAll first (x :: l) s = (if x.head.seq ≥ first ∨ x.bad = true then LogS.freeAll first l s else if (freePool s.pool s.chip x.block).2.2 ≠ 0 then ({ s with pool := (freePool s.pool s.chip x.block).1, chip := (freePool s.pool s.chip x.block).2.1 }, (freePool s.pool s.chip x.block).2.2) else LogS.freeAll first l { s with pool := (freePool s.pool s.chip x.block).1, chip := (freePool s.pool s.chip x.block).2.1 }) := rfl
    rw [hs]
    split
    · exact LogS.freeAll_fit first l s h
    · split
      · exact ⟨hk, hf⟩
      · obtain ⟨h3, h4⟩ := LogS.freeAll_fit first l _ hf
        exact ⟨hk.trans h3, h4⟩
theorem LogS.anew_fit {s : LogS} (h : s.Fit) : s.Keeps s.anew.1 ∧ s.anew.1.Fit := by
  rw [LogS.anew_eq]
  obtain ⟨t1, t2⟩ := LogS.take_fit h
  split
  · exact ⟨.refl s, h⟩
  · split
    · exact ⟨t1, t2⟩
    · obtain ⟨w1, w2⟩ := LogS.writeAll_fit ((packF s.chip.sz s.facts).1 ++ [(putDropB s.chip.sz s.take.1.pool.last).1]) _ t2
      split
      · exact ⟨t1.trans w1, w2⟩
      · obtain ⟨f1, f2⟩ := LogS.freeAll_fit s.take.1.pool.last (ownL s.era (takenPool (LogS.writeAll ((packF s.chip.sz s.facts).1 ++ [(putDropB s.chip.sz s.take.1.pool.last).1]) s.take.1).1.pool (LogS.writeAll ((packF s.chip.sz s.facts).1 ++ [(putDropB s.chip.sz s.take.1.pool.last).1]) s.take.1).1.chip)) _ w2
        exact ⟨(t1.trans w1).trans f1, f2⟩
section
variable {F X : Nat → Prop} {w w' : World} {q : Nat} {M : PLoc} {s : LogS}
theorem log_off_spec (h : LogIn F X w q M s) : CallsR prog K.log_Log_off #[.pointer (some ⟨q, 0, none⟩)] w fun v w' => v = .bool false ∧ Ext w w' := by
  apply log_Log_off.sh
  unfold log_Log_off.body
  exact br_intro (fun hx => by cases hx) fun _ => ⟨_, h.cell (i := 0) (fun _ _ => rfl), rfl, Upd.refl _ _⟩
theorem log_alive_spec (h : LogIn F X w q M s) : CallsR prog K.log_Log_alive #[.pointer (some ⟨q, 0, none⟩)] w fun v w' => v = .int .i64 (s.chip.ask 0 0 : Nat) ∧ Ext w w' := by
  apply log_Log_alive.sh
  unfold log_Log_alive.body
  refine (log_off_spec h).mono ?_
  rintro _ w1 ⟨rfl, he1⟩
  have h1 := h.ext he1
  refine ⟨_, rfl, br_intro (fun hx => by cases hx) fun _ => ?_⟩
  simp only [nilC_some', add_lit, Nat.zero_add]
  refine ⟨_, h1.cell (i := 0) (fun _ _ => rfl), (pChip h1.pool.pin).mono ?_⟩
  rintro _ u ⟨rfl, hu⟩
  obtain rfl : w1 = u := hu.symm
  refine ⟨_, rfl, (cReadAt h1.pool.pin.chip 0 0).mono ?_⟩
  rintro _ w3 ⟨he3, hv⟩
  split at hv
  · rename_i h0
    obtain ⟨a, cp, rfl, _⟩ := hv
    rw [h0]
    exact ⟨_, _, _, _, rfl, rfl, he1.trans he3⟩
  · subst hv
    exact ⟨_, _, _, _, rfl, rfl, he1.trans he3⟩
theorem log_Sync_spec (h : LogIn F X w q M s) : CallsR prog K.log_Log_Sync #[.pointer (some ⟨q, 0, none⟩)] w fun v w' => v = .int .i64 (s.chip.ask 0 0 : Nat) ∧ Ext w w' := by
  apply log_Log_Sync.sh
  refine (log_alive_spec h).mono ?_
  rintro _ w1 ⟨rfl, he1⟩
  exact ⟨_, rfl, rfl, he1⟩
theorem log_Facts_spec (h : LogIn F X w q M s) (hfl : s.facts.length ≤ 100000000) (hfv : ∀ f ∈ s.facts, f.val.length ≤ 140737488355232) : CallsR prog K.log_Log_Facts #[.pointer (some ⟨q, 0, none⟩)] w fun v w' => ∃ a c, v = .slice a (applyF s.facts []).length c ∧ ListAt factR NoB w.heap.size w' a c T.api_Fact (applyF s.facts []) ∧ Ext w w' := by
  apply log_Log_Facts.sh
  unfold log_Log_Facts.body
  refine (log_off_spec h).mono ?_
  rintro _ w1 ⟨rfl, he1⟩
  have h1 := h.ext he1
  refine ⟨_, rfl, br_intro (fun hx => by cases hx) fun _ => ?_⟩
  simp only [nilC_some', add_lit, Nat.zero_add]
  obtain ⟨af, cf, gq, G, hG, hG'⟩ := h1.head
  refine ⟨af, _, cf, cell_of gq rfl, (fact_Apply_spec (Gc := NoB) (cs := []) hG (fun b hb => (hG' b hb).2.2) (SliceAt.nil _ _ _) (by simp; omega) hfv (fun _ hx => by cases hx)).mono ?_⟩
  rintro _ w2 ⟨a', c', rfl, hl2, he2⟩
  exact ⟨_, _, _, rfl, a', c', rfl, hl2.weak he1.size (fun _ h => h.elim), he1.trans he2⟩
end
end Go.Den
end
section
set_option linter.unusedVariables false
set_option linter.unusedSimpArgs false
set_option maxRecDepth 8000
namespace Go.Den
theorem mayC_good {x : Change} (h : mayC x = true) : x.key.name.size < 256 ∧ x.val.length < 256 := by
  unfold mayC at h
  simp only [Bool.and_eq_true] at h
  obtain ⟨_, _, hk⟩ := Key.may_elim h.1
  refine ⟨?_, ?_⟩
  · have hbs : x.key.name.size = x.key.bytes.length := size_data _
    rw [hbs]
    rcases hk with ⟨_, h, _⟩ | ⟨_, h, _⟩ | ⟨_, h, _⟩
    · rw [h]; decide
    · have := isName_len h; omega
    · rw [h]; decide
  · have h2 := h.2
    split at h2
    · have := of_decide_eq_true h2; omega
    · simp only [Bool.and_eq_true, decide_eq_true_eq] at h2; omega
theorem putL_good {size : Int} {cs : List Change} (h : (putL size cs).2 = 0) : GoodC cs := by
  unfold putL at h
  split at h
  · rename_i hm
    unfold mayL at hm
    simp only [Bool.and_eq_true, decide_eq_true_eq, List.all_eq_true] at hm
    refine ⟨by omega, fun x hx => ?_⟩
    have hx' := hm.2 x hx
    exact mayC_good hx'
  · cases h
theorem GoodF.vals' {n : Nat} {l : List Fact} (h : GoodF n l) {m : Nat} (hm : 255 ≤ m) : ∀ f ∈ l, f.val.length ≤ m := fun f hf => by
  have := h.vals f hf
  omega
theorem LogS.put_eq (s : LogS) (cs : List Change) : s.put cs = if s.chip.ask 0 0 ≠ 0 then (s, s.chip.ask 0 0) else
    if (putL s.chip.sz cs).2 ≠ 0 then (s, (putL s.chip.sz cs).2) else
      if (if s.low (applyF s.facts cs).length then s.anew else (s, 0)).2 = 10 then (if s.low (applyF s.facts cs).length then s.anew else (s, 0)) else
        if ((if s.low (applyF s.facts cs).length then s.anew else (s, 0)).1.write (putL s.chip.sz cs).1 (if s.low (applyF s.facts cs).length then s.anew else (s, 0)).1.fuel).2 ≠ 0 then ((if s.low (applyF s.facts cs).length then s.anew else (s, 0)).1.write (putL s.chip.sz cs).1 (if s.low (applyF s.facts cs).length then s.anew else (s, 0)).1.fuel)
        else ({ ((if s.low (applyF s.facts cs).length then s.anew else (s, 0)).1.write (putL s.chip.sz cs).1 (if s.low (applyF s.facts cs).length then s.anew else (s, 0)).1.fuel).1 with facts := applyF s.facts cs }, 0) := rfl
section
variable {F X : Nat → Prop} {w w' : World} {q : Nat} {M : PLoc} {s : LogS}
theorem LogIn.setFacts (h : LogIn F X w q M s) {S : Nat} (hF : ∀ x, F x → x < S) (hq : q < S) {a' : Option Addr} {c' : Nat} {fs : List Fact} {G' : Nat → Prop} (hG : SliceAt factR w G' a' fs) (hG' : ∀ b, G' b → S ≤ b ∧ b < w.heap.size) {K : World → Prop} (hk : ∀ w', Upd (· = q) w w' → LogIn F (fun x => X x ∨ (S ≤ x ∧ x < w.heap.size)) w' q M { s with facts := fs } → K w') : storeP w ⟨q, 2, none⟩ [.slice a' fs.length c'] K := by
  obtain ⟨⟨a, c, g, G, h1, h2⟩, hp, ho', hx, he⟩ := h
  refine store_of g (by simp) fun w' hpt => hk w' hpt.upd1 ?_
  have hu := hpt.upd1
  have g' := hpt.get
  have hqS : ∀ b, G' b → b ≠ q := fun b hb e => by have := (hG' b hb).1; omega
  refine ⟨⟨a', c', g', G', hG.upd hu hqS, fun b hb => ⟨.inr (hG' b hb), fun hf => ?_, Nat.lt_of_lt_of_le (hG' b hb).2 hu.size⟩⟩, ?_, ho', ?_, he⟩
  · have h1 := hF b hf
    have h2 := (hG' b hb).1
    omega
  · obtain ⟨L, G0, hc, hF0, hG0⟩ := hp.upd hu (fun x hF e => ho' (by rw [← e]; exact hF)) fun x hX e => hx (by rw [← e]; exact hX)
    exact ⟨L, G0, hc, hF0, fun x hx => ⟨.inl (hG0 x hx).1, (hG0 x hx).2⟩⟩
  · rintro (h | h)
    · exact hx h
    · omega
theorem log_Put_spec (h : LogIn F X w q M s) (hS : ∀ x, F x → x < w.heap.size) (hXS : ∀ x, X x → x < w.heap.size) (fit : s.Fit) {n : Nat} (hg : GoodF n s.facts) (hn : n ≤ 90000000)
    {Gc : Nat → Prop} {ac : Option Addr} {cc : Nat} {cs : List Change} (hc : SliceAt changeR w Gc ac cs) (hs : Small cs) (hl : cs.length < 9000000000000000000) :
    CallsR prog K.log_Log_Put #[.pointer (some ⟨q, 0, none⟩), .slice ac cs.length cc] w fun v w' => v = .int .i64 ((s.put cs).2 : Nat) ∧ Upd (LogF F q) w w' ∧ ∃ X', (∀ x, X x → X' x) ∧ (∀ x, X' x → X x ∨ w.heap.size ≤ x ∧ x < w'.heap.size) ∧ LogIn F X' w' q M (s.put cs).1 := by
  obtain ⟨r, hr⟩ : ∃ r, r = s.put cs := ⟨_, rfl⟩
  rw [← hr]
  rw [LogS.put_eq] at hr
  apply log_Log_Put.sh
  suffices H : ∀ R : Value → World → Prop, (∀ v w', (v = .int .i64 (r.2 : Nat) ∧ Upd (LogF F q) w w' ∧ ∃ X', (∀ x, X x → X' x) ∧ (∀ x, X' x → X x ∨ w.heap.size ≤ x ∧ x < w'.heap.size) ∧ LogIn F X' w' q M r.1) → R v w') → log_Log_Put.body (some ⟨q, 0, none⟩) ac cs.length cc w R from H _ fun _ _ h => h
  intro R hR
  have hql := h.lt
  have same : ∀ v w', v = .int .i64 (r.2 : Nat) → Upd (LogF F q) w w' → LogIn F X w' q M r.1 → R v w' := fun v w' h1 h2 h3 => hR v w' ⟨h1, h2, X, fun _ h => h, fun _ h => .inl h, h3⟩
  unfold log_Log_Put.body
  refine (log_alive_spec h).mono ?_
  rintro _ w1 ⟨rfl, he1⟩
  have h1 := h.ext he1
  refine ⟨_, rfl, br_ne (fun hne => ?_) fun h0 => ?_⟩
  · rw [if_pos (by omega)] at hr
    subst hr
    exact same _ _ rfl (Upd.ext he1) h1
  rw [if_neg (by omega)] at hr
  simp only [nilC_some', add_lit, Nat.zero_add]
  refine ⟨_, h1.cell (i := 0) (fun _ _ => rfl), (pChip h1.pool.pin).mono ?_⟩
  rintro _ u ⟨rfl, hu⟩
  obtain rfl : w1 = u := hu.symm
  refine ⟨_, rfl, (cGeo h1.pool.pin.chip).mono ?_⟩
  rintro _ w3 ⟨rfl, he3⟩
  refine ⟨_, _, _, _, rfl, (rec_Put_spec (hc.ext (he1.trans he3)) hs hl _).mono ?_⟩
  rintro _ w4 ⟨a4, c4, rfl, hb4, hf4, he4, _⟩
  have e4 := (he1.trans he3).trans he4
  have h4 := h.ext e4
  refine ⟨_, _, _, _, rfl, br_ne (fun hne => ?_) fun h0' => ?_⟩
  · rw [if_pos (by omega)] at hr
    subst hr
    exact same _ _ rfl (Upd.ext e4) h4
  rw [if_neg (by omega)] at hr
  have hgc := putL_good (size := s.chip.sz) (cs := cs) (by omega)
  obtain ⟨af, cf, gq, G, hG, hG'⟩ := h4.head
  have hcl := hgc.len
  have hfl := hg.len
  refine ⟨af, _, cf, cell_of gq rfl, (fact_Apply_spec hG (fun b hb => (hG' b hb).2.2) (hc.ext e4) (by omega) (hg.vals' (by omega)) hgc.small).mono ?_⟩
  rintro _ w5 ⟨a5, c5, rfl, hl5, he5⟩
  have e5 := e4.trans he5
  have h5 := h.ext e5
  have hg5 := hg.apply hgc
  have hl5' := hg5.len
  generalize applyF s.facts cs = fs at *
  generalize hP : putL s.chip.sz cs = P at *
  have hs4 := e4.size
  have hs5 := e5.size
  refine ⟨_, _, _, rfl, (log_low_spec h5 fit.sp fs.length (by omega)).mono ?_⟩
  rintro _ w6 ⟨rfl, he6⟩
  have e6 := e5.trans he6
  have h6 := h.ext e6
  have hs6 := e6.size
  have hs3 := (he1.trans he3).size
  -- what is written, and what is told then
  have tail : ∀ (y : LogS × Nat) (u : World), y.1.page ≤ 40 → r = (if y.2 = 10 then y else if (y.1.write P.1 y.1.fuel).2 ≠ 0 then y.1.write P.1 y.1.fuel else ({ (y.1.write P.1 y.1.fuel).1 with facts := fs }, 0)) → y.2 ≠ 10 → LogIn F X u q M y.1 → Upd (LogF F q) w u → Upd (LogF F q) w6 u →
      CallsR prog K.log_Log_write #[.pointer (some ⟨q, 0, none⟩), .slice a4 P.1.length c4] u fun v8 w8 => ∃ x8 : Int, v8 = .int .i64 x8 ∧ br (x8 != 0) (R (.int .i64 x8) w8) (storeP w8 ⟨q, 2, none⟩ [.slice a5 fs.length c5] fun w9 => R (.int .i64 0) w9) := by
    intro y u hpg hry hy hu u0 u6
    have hb6 : BytesAt u a4 P.1 := RowAt.upd (hb4.ext (he5.trans he6)) u6 fun p hp hx => by
      have := hf4 p hp
      rcases hx with hx | hx
      · have := hS _ hx; omega
      · omega
    rw [if_neg hy] at hry
    refine (log_write_spec hu hb6 (fun p hp => ?_) (by omega)).mono ?_
    · have := hf4 p hp
      exact ⟨fun hx => (by have := hS _ hx; omega), by omega⟩
    rintro _ w8 ⟨rfl, hu8, h8⟩
    have u8 := u0.trans hu8
    refine ⟨_, rfl, br_ne (fun hne => ?_) fun h0'' => ?_⟩
    · rw [if_pos (by omega)] at hry
      subst hry
      exact same _ _ rfl u8 h8
    rw [if_neg (by omega)] at hry
    obtain ⟨G5, hG5, hG5'⟩ := hl5.slice
    have hG8 : SliceAt factR w8 G5 a5 fs := (hG5.ext he6).upd (u6.trans hu8) fun b hb hx => by
      have h1 := (hG5' b hb).1.resolve_right (fun h => h)
      rcases hx with hx | hx
      · have := hS _ hx; omega
      · omega
    have hs68 := (u6.trans hu8).size
    refine h8.setFacts (S := w.heap.size) hS hql hG8 (fun b hb => ?_) fun w9 hu9 h9 => ?_
    · have h1 := (hG5' b hb).1.resolve_right (fun h => h)
      have h2 := (hG5' b hb).2
      have := he6.size
      omega
    · subst hry
      have := hu9.size
      exact hR _ _ ⟨rfl, u8.trans (hu9.mono fun x _ hx => .inr hx), _, fun _ h => .inl h, fun x hx => by
        rcases hx with hx | hx
        · exact .inl hx
        · exact .inr ⟨hx.1, by omega⟩, h9⟩
  refine ⟨_, rfl, br_intro (fun hlow => ?_) fun hlow => ?_⟩
  · rw [if_pos hlow] at hr
    refine (log_anew_spec h6 (fun x hx => Nat.lt_of_lt_of_le (hS x hx) hs6) (fun x hx => Nat.lt_of_lt_of_le (hXS x hx) hs6) fit.nb fit.page hg.names (hg.vals' (by omega)) (by omega) (s.take_last fit.last)).mono ?_
    rintro _ w7 ⟨rfl, hu7, h7⟩
    have u7 := (Upd.ext e6).trans hu7
    have hfit := (LogS.anew_fit fit).2.page
    generalize s.anew = y at *
    refine ⟨_, rfl, br_eq (fun h10 => ?_) fun h10 => ?_⟩
    · rw [if_pos (by omega)] at hr
      subst hr
      exact same _ _ rfl u7 h7
    · exact tail y w7 hfit hr (by omega) h7 u7 hu7
  · have hlow' : ¬ (s.low fs.length = true) := by rw [hlow]; exact Bool.false_ne_true
    rw [if_neg hlow'] at hr
    exact tail (s, 0) w6 fit.page hr (fun h => by cases h) h6 (Upd.ext e6) (Upd.refl _ _)
end
theorem log_Tidy_spec {F X : Nat → Prop} {w : World} {q : Nat} {M : PLoc} {s : LogS} (h : LogIn F X w q M s) (hS : ∀ x, F x → x < w.heap.size) (hXS : ∀ x, X x → x < w.heap.size) (fit : s.Fit) {n : Nat} (hg : GoodF n s.facts) (hn : n ≤ 90000000) (blanks : Int) :
    CallsR prog K.log_Log_Tidy #[.pointer (some ⟨q, 0, none⟩), .int .i64 blanks] w fun v w' => v = .int .i64 ((s.tidy blanks).2 : Nat) ∧ Upd (LogF F q) w w' ∧ LogIn F X w' q M (s.tidy blanks).1 := by
  obtain ⟨r, hr⟩ : ∃ r, r = s.tidy blanks := ⟨_, rfl⟩
  rw [← hr]
  apply log_Log_Tidy.sh
  suffices H : ∀ R : Value → World → Prop, (∀ v w', v = .int .i64 (r.2 : Nat) ∧ Upd (LogF F q) w w' ∧ LogIn F X w' q M r.1 → R v w') → log_Log_Tidy.body (some ⟨q, 0, none⟩) blanks w R from H _ fun _ _ h => h
  intro R hR
  unfold log_Log_Tidy.body
  unfold LogS.tidy at hr
  refine (log_alive_spec h).mono ?_
  rintro _ w1 ⟨rfl, he1⟩
  have h1 := h.ext he1
  refine ⟨_, rfl, br_ne (fun hne => ?_) fun h0 => ?_⟩
  · rw [if_pos (by omega)] at hr
    subst hr
    exact hR _ _ ⟨rfl, Upd.ext he1, h1⟩
  rw [if_neg (by omega)] at hr
  simp only [nilC_some', add_lit, Nat.zero_add]
  refine ⟨_, h1.cell (i := 0) (fun _ _ => rfl), (pBlanks h1.pool.pin).mono ?_⟩
  rintro _ w2 ⟨rfl, he2⟩
  have e2 := he1.trans he2
  have h2 := h.ext e2
  have hs2 := e2.size
  refine ⟨_, rfl, br_dec (fun hge => ?_) fun hlt => ?_⟩
  · rw [if_pos hge] at hr
    subst hr
    exact hR _ _ ⟨rfl, Upd.ext e2, h2⟩
  rw [if_neg hlt] at hr
  have hl := hg.len
  refine (log_anew_spec h2 (fun x hx => Nat.lt_of_lt_of_le (hS x hx) hs2) (fun x hx => Nat.lt_of_lt_of_le (hXS x hx) hs2) fit.nb fit.page hg.names (hg.vals' (by omega)) (by omega) (s.take_last fit.last)).mono ?_
  rintro _ w3 ⟨rfl, hu3, h3⟩
  have u3 := (Upd.ext e2).trans hu3
  generalize s.anew = y at *
  refine ⟨_, rfl, br_ne (fun hne => ?_) fun h0' => ?_⟩
  · rw [if_pos (by omega)] at hr
    subst hr
    exact hR _ _ ⟨rfl, u3, h3⟩
  rw [if_neg (by omega)] at hr
  refine ⟨_, h3.cell (i := 0) (fun _ _ => rfl), (pBlanks h3.pool.pin).mono ?_⟩
  rintro _ w4 ⟨rfl, he4⟩
  have u4 := u3.then he4
  have h4 := h3.ext he4
  refine ⟨_, rfl, br_dec (fun hb => ?_) fun hb => ?_⟩
  · rw [if_pos hb] at hr
    subst hr
    exact hR _ _ ⟨rfl, u4, h4⟩
  · rw [if_neg hb] at hr
    subst hr
    exact hR _ _ ⟨rfl, u4, h4⟩
theorem LogS.put_fit {s : LogS} (h : s.Fit) (cs : List Change) : (s.put cs).1.Fit ∧ (s.put cs).1.era = s.era ∧ s.chip.SameGeo (s.put cs).1.chip ∧ ((s.put cs).1.facts = s.facts ∨ (s.put cs).2 = 0 ∧ (s.put cs).1.facts = applyF s.facts cs ∧ GoodC cs) := by
  rw [LogS.put_eq]
  have hy : s.Keeps (if s.low (applyF s.facts cs).length then s.anew else (s, 0)).1 ∧ (if s.low (applyF s.facts cs).length then s.anew else (s, 0)).1.Fit := by
    split
    · exact LogS.anew_fit h
    · exact ⟨.refl s, h⟩
  generalize (if s.low (applyF s.facts cs).length then s.anew else (s, 0)) = y at *
  have hz := LogS.write_fit hy.2 (putL s.chip.sz cs).1 y.1.fuel
  split
  · exact ⟨h, rfl, .refl _, .inl rfl⟩
  · split
    · exact ⟨h, rfl, .refl _, .inl rfl⟩
    · rename_i h2
      split
      · exact ⟨hy.2, hy.1.era, hy.1.geo, .inl hy.1.facts⟩
      · have hk := hy.1.trans hz.1
        split
        · exact ⟨hz.2, hk.era, hk.geo, .inl hk.facts⟩
        · exact ⟨⟨hz.2.nb, hz.2.np, hz.2.sp, hz.2.page, hz.2.last⟩, hk.era, hk.geo, .inr ⟨rfl, rfl, putL_good (size := s.chip.sz) (by omega)⟩⟩
end Go.Den
end
section
set_option linter.unusedVariables false
set_option linter.unusedSimpArgs false
set_option maxRecDepth 8000
namespace Go.Den
theorem lookAt_seq (c : Chip) (i : Nat) (old : Blk) (h : old.head.seq < 18446744073709551616) : (lookAt c i old).head.seq < 18446744073709551616 := by
  unfold lookAt
  split
  · exact h
  · split
    · exact (getHead_ok _).2
    · split
      · show (0 : Nat) < 18446744073709551616; decide
      · show (0 : Nat) < 18446744073709551616; decide
theorem scanGo_seqs (c : Chip) : ∀ n, (∀ b ∈ (scanGo c n).blocks, b.head.seq < 18446744073709551616) ∧ (scanGo c n).last < 18446744073709551616
  | 0 => ⟨fun b hb => by rw [List.eq_of_mem_replicate hb]; decide, by show (0 : Nat) < _; decide⟩
  | n + 1 => by
    obtain ⟨h1, h2⟩ := scanGo_seqs c n
    have hblk : ∀ (P : Pool), (∀ b ∈ P.blocks, b.head.seq < 18446744073709551616) → ∀ i, (P.blk i).head.seq < 18446744073709551616 := fun P hP i => by
      unfold Pool.blk
      rw [List.getD_eq_getElem?_getD]
      cases hx : P.blocks[i]? with
      | none => decide
      | some b => exact hP b (List.mem_of_getElem? hx)
    have hb' : ∀ b ∈ ((scanGo c n).relook c n).blocks, b.head.seq < 18446744073709551616 := fun b hb => by
      rcases List.mem_or_eq_of_mem_set hb with hb | rfl
      · exact h1 b hb
      · exact lookAt_seq _ _ _ (hblk _ h1 n)
    unfold scanGo
    split
    · exact ⟨hb', hblk _ hb' n⟩
    · exact ⟨hb', h2⟩
theorem scanPool_last (c : Chip) : (scanPool c).last < 18446744073709551616 := (scanGo_seqs c c.nb).2
theorem slices_ContainsFunc_Taken_spec {w : World} {a : Option Addr} {cp : Nat} {l : List Taken} (hr : RowAt w a (l.flatMap Taken.vals)) (hn : l.length ≤ 1000000000) :
    CallsR prog K.slices_ContainsFunc_api_Taken #[.slice a l.length cp, .func (.func K.log_Make_1) #[] #[]] w fun v w' => v = .bool (l.any fun t => !t.bad) ∧ Ext w w' := by
  apply slices_ContainsFunc_api_Taken.sh
  unfold slices_ContainsFunc_api_Taken.body
  refine (slices_IndexFunc_Taken_spec (p := fun t => !t.bad) hr hn fun u hu t ht => ?_).mono ?_
  · refine ⟨by kernel_rfl, ?_⟩
    apply log_Make_1.sh
    intro B w1 hn1
    exact ⟨_, cell_of (v := .bool t.bad) hn1.get rfl, rfl, hn1.upd⟩
  · rintro _ w1 ⟨he1, ⟨rfl, hno⟩ | ⟨i, hi, rfl, _, hyes⟩⟩
    · refine ⟨_, rfl, ?_, he1⟩
      rw [List.any_eq_false.2 fun t ht => by rw [hno t ht]; decide]; rfl
    · refine ⟨_, rfl, ?_, he1⟩
      rw [List.any_eq_true.2 ⟨l[i], List.getElem_mem hi, hyes⟩, decide_eq_true (by omega)]
/-! ### The model -/
def LogS.new (c : Chip) (era : Nat) : LogS := ⟨scanPool c, c, era, [], -1, 0⟩
def makeL (c : Chip) (era : Nat) : LogS × Nat :=
  if c.dead = true then (.new c era, 10) else if era = 0 then (.new c era, 2)
  else if ((ownL era (takenPool (scanPool c) c)).any fun t => !t.bad) = true then (.new c era, 2) else (LogS.new c era).anew
def openPage (c : Chip) (b : Nat) (k : Nat) : Nat := (List.range k).foldl (fun p j => if isBlank (c.page b (j + 1)) = true then p else j + 2) 1
def openL (c : Chip) (era : Nat) : LogS × Nat :=
  if c.dead = true then (.new c era, 10) else if era = 0 then (.new c era, 2) else
    match (ownL era (takenPool (scanPool c) c)).getLast? with
    | none => (.new c era, 16)
    | some t =>
      let fs := factsP (lowL (readParts c era)) (readParts c era)
      if t.bad = true then ({ LogS.new c era with facts := fs }, 0) else ({ LogS.new c era with facts := fs, block := t.block, page := openPage c t.block (c.np - 1) }, 0)
theorem LogS.new_fit {c : Chip} {era : Nat} (hnb : c.nb < 20) (hnp : c.np ≤ 32) (hsp : c.sp ≤ 4) : (LogS.new c era).Fit := ⟨hnb, hnp, hsp, Nat.zero_le _, scanPool_last c⟩
theorem openPage_le (c : Chip) (b : Nat) : ∀ k, openPage c b k ≤ k + 1
  | 0 => Nat.le_refl _
  | k + 1 => by
    have h := openPage_le c b k
    unfold openPage at h ⊢
    rw [List.range_succ, List.foldl_append]
    simp only [List.foldl_cons, List.foldl_nil]
    split <;> omega
theorem openPage_succ (c : Chip) (b k : Nat) : openPage c b (k + 1) = if isBlank (c.page b (k + 1)) = true then openPage c b k else k + 2 := by
  unfold openPage
  rw [List.range_succ, List.foldl_append]; rfl
/-! ### Make -/
/-- what Make and Open answer -/
def LogOut (F X : Nat → Prop) (p : Nat) (r : LogS × Nat) (w w' : World) (v : Value) : Prop :=
  (r.2 ≠ 0 → v = .tuple #[.pointer none, .int .i64 (r.2 : Nat)] ∧ CX (fun x => F x ∨ (w.heap.size ≤ x ∧ x < w'.heap.size)) X w' p r.1.chip) ∧
  (r.2 = 0 → ∃ (M : PLoc) (q : Nat), M.p = p ∧ v = .tuple #[.pointer (some ⟨q, 0, none⟩), .int .i64 0] ∧ w.heap.size ≤ q ∧ q < w'.heap.size ∧ ∃ X', (∀ x, X x → X' x) ∧ (∀ x, X' x → X x ∨ (w.heap.size ≤ x ∧ x < w'.heap.size)) ∧
    LogIn (fun x => F x ∨ (w.heap.size ≤ x ∧ x < q)) X' w' q M r.1)
theorem log_Make_spec {F X : Nat → Prop} {w : World} {p : Nat} {c : Chip} (h : CX F X w p c) (hS : ∀ x, F x → x < w.heap.size) (hXS : ∀ x, X x → x < w.heap.size) (hnb : c.nb < 20) (hnp : c.np ≤ 32) (hsp : c.sp ≤ 4) {era : Nat} (hera : era < 4294967296) :
    CallsR prog K.log_Make #[.pointer (some ⟨p, 0, none⟩), .int .u32 era] w fun v w' => Upd F w w' ∧ LogOut F X p (makeL c era) w w' v := by
  obtain ⟨r, hr⟩ : ∃ r, r = makeL c era := ⟨_, rfl⟩
  rw [← hr]
  apply log_Make.sh
  suffices H : ∀ R : Value → World → Prop, (∀ v w', Upd F w w' ∧ LogOut F X p r w w' v → R v w') → log_Make.body (some ⟨p, 0, none⟩) era w R from H _ fun _ _ h => h
  intro R hR
  unfold log_Make.body
  unfold makeL at hr
  refine (log_begin_spec h hnb era).mono ?_
  rintro _ w1 ⟨he1, hv⟩
  have hs1 := he1.size
  have bad : ∀ (v : Value) (w' : World) (n : Nat), n ≠ 0 → Ext w w' → r = (LogS.new c era, n) → v = .tuple #[.pointer none, .int .i64 (n : Nat)] → R v w' := by
    rintro v w' n hn0 he rfl rfl
    exact hR _ _ ⟨Upd.ext he, fun _ => ⟨rfl, (h.ext he).mono (fun _ h => .inl h) fun _ h => h⟩, fun h0 => absurd h0 hn0⟩
  by_cases hd : c.dead = true
  · rw [if_pos hd] at hv hr
    subst hv
    exact ⟨_, _, _, _, _, rfl, br_ne (fun _ => bad _ _ 10 (by decide) he1 hr rfl) fun h => by cases h⟩
  rw [if_neg hd] at hv hr
  by_cases he0 : era = 0
  · rw [if_pos he0] at hv hr
    subst hv
    exact ⟨_, _, _, _, _, rfl, br_ne (fun _ => bad _ _ 2 (by decide) he1 hr rfl) fun h => by cases h⟩
  rw [if_neg he0] at hv hr
  obtain ⟨M, a, cap, hMp, rfl, hp, ho, hf⟩ := hv
  have hown : (ownL era (takenPool (scanPool c) c)).length ≤ 20 := by
    have h1 : (takenPool (scanPool c) c).length ≤ 20 := by
      unfold takenPool
      rw [isort_length]
      have := takenRaw_length (scanPool c) c c.nb
      omega
    exact Nat.le_trans (List.length_filter_le _ _) h1
  refine ⟨_, _, _, _, _, rfl, br_ne (fun h => absurd rfl h) fun _ => (slices_ContainsFunc_Taken_spec ho.row (by omega)).mono ?_⟩
  rintro _ w2 ⟨rfl, he2⟩
  have e2 := he1.trans he2
  have hs2 := he2.size
  refine ⟨_, rfl, br_intro (fun hany => ?_) fun hany => ?_⟩
  · rw [if_pos hany] at hr
    exact bad _ _ 2 (by decide) e2 hr rfl
  rw [if_neg (by rw [hany]; decide)] at hr
  intro B w3 hn3
  have hB : B = w2.heap.size := hn3.num
  have hs3 := hn3.size
  have he3 := hn3.upd
  have g3 := hn3.get
  have e3 := e2.trans he3
  have hp3 := hp.ext (he2.trans he3)
  have hF3 : ∀ x, (F x ∨ (w.heap.size ≤ x ∧ x < w1.heap.size)) → x < B := fun x hx => by
    rcases hx with hx | hx
    · have := hS x hx; omega
    · omega
  have h3 : LogIn (fun x => F x ∨ (w.heap.size ≤ x ∧ x < B)) X w3 B M (LogS.new c era) := by
    refine ⟨⟨none, 0, g3, NoB, SliceAt.nil _ _ _, fun _ h => h.elim⟩, hp3.mono (fun x hx => ?_) (fun _ h => h), fun hx => ?_, fun hx => ?_, hera⟩
    · rcases hx with hx | hx
      · exact .inl hx
      · exact .inr ⟨hx.1, by omega⟩
    · rcases hx with hx | hx
      · have := hS B hx; omega
      · omega
    · have := hXS B hx; omega
  have fit := LogS.new_fit (era := era) hnb hnp hsp
  refine (log_anew_spec h3 (fun x hx => ?_) (fun x hx => Nat.lt_of_lt_of_le (hXS x hx) e3.size) hnb (Nat.zero_le _) (fun _ h => (by cases h)) (fun _ h => (by cases h)) (Nat.zero_le _) (LogS.take_last _ fit.last)).mono ?_
  · rcases hx with hx | hx
    · have := hS x hx; omega
    · omega
  rintro _ w4 ⟨rfl, hu4, h4⟩
  rw [← hr] at h4 ⊢
  have hs4 := hu4.size
  have u4 : Upd F w w4 := ((Upd.ext e3).trans hu4).mono fun x hlt hx => by
    rcases hx with (hx | hx) | hx
    · exact hx
    · omega
    · omega
  refine ⟨_, rfl, br_ne (fun hne => ?_) fun h0 => ?_⟩
  · refine hR _ _ ⟨u4, fun _ => ⟨rfl, ?_⟩, fun h0 => (by omega)⟩
    have := h4.pool.chip
    rw [hMp] at this
    refine this.mono (fun x hx => ?_) fun _ h => h
    rcases hx with hx | hx
    · exact .inl hx
    · exact .inr ⟨hx.1, by omega⟩
  · exact hR _ _ ⟨u4, fun hne => (by omega), fun _ => ⟨M, B, hMp, rfl, by omega, by omega, X, fun _ h => h, fun _ h => .inl h, h4⟩⟩
/-! ### Open -/
theorem br_not {b : Bool} {X Y : Prop} (h1 : b = false → X) (h2 : b = true → Y) : br (!b) X Y := by
  cases b
  · exact h1 rfl
  · exact h2 rfl
theorem ownL_block {c : Chip} {era : Nat} {t : Taken} (h : t ∈ ownL era (takenPool (scanPool c) c)) : t.block < c.nb := by
  have := (List.mem_filter.1 h).1
  unfold takenPool at this
  rw [isort_mem] at this
  exact takenRaw_block this
theorem log_Open_spec {F X : Nat → Prop} {w : World} {p : Nat} {c : Chip} (h : CX F X w p c) (hS : ∀ x, F x → x < w.heap.size) (hXS : ∀ x, X x → x < w.heap.size) (hnb : c.nb < 20) {era : Nat} (hera : era < 4294967296) :
    CallsR prog K.log_Open #[.pointer (some ⟨p, 0, none⟩), .int .u32 era] w fun v w' => Ext w w' ∧ LogOut F X p (openL c era) w w' v := by
  obtain ⟨r, hr⟩ : ∃ r, r = openL c era := ⟨_, rfl⟩
  rw [← hr]
  apply log_Open.sh
  suffices H : ∀ R : Value → World → Prop, (∀ v w', Ext w w' ∧ LogOut F X p r w w' v → R v w') → log_Open.body (some ⟨p, 0, none⟩) era w R from H _ fun _ _ h => h
  intro R hR
  unfold log_Open.body
  unfold openL at hr
  refine (log_begin_spec h hnb era).mono ?_
  rintro _ w1 ⟨he1, hv⟩
  have hs1 := he1.size
  have bad : ∀ (v : Value) (w' : World) (n : Nat), n ≠ 0 → Ext w w' → r = (LogS.new c era, n) → v = .tuple #[.pointer none, .int .i64 (n : Nat)] → R v w' := by
    rintro v w' n hn0 he rfl rfl
    exact hR _ _ ⟨he, fun _ => ⟨rfl, (h.ext he).mono (fun _ h => .inl h) fun _ h => h⟩, fun h0 => absurd h0 hn0⟩
  by_cases hd : c.dead = true
  · rw [if_pos hd] at hv hr
    subst hv
    exact ⟨_, _, _, _, _, rfl, br_ne (fun _ => bad _ _ 10 (by decide) he1 hr rfl) fun h => by cases h⟩
  rw [if_neg hd] at hv hr
  have hd0 : c.dead = false := by simpa using hd
  by_cases he0 : era = 0
  · rw [if_pos he0] at hv hr
    subst hv
    exact ⟨_, _, _, _, _, rfl, br_ne (fun _ => bad _ _ 2 (by decide) he1 hr rfl) fun h => by cases h⟩
  rw [if_neg he0] at hv hr
  obtain ⟨M, a, cap, hMp, rfl, hp, ho, hf⟩ := hv
  have hown : (ownL era (takenPool (scanPool c) c)).length ≤ 20 := by
    have h1 : (takenPool (scanPool c) c).length ≤ 20 := by
      unfold takenPool
      rw [isort_length]
      have := takenRaw_length (scanPool c) c c.nb
      omega
    exact Nat.le_trans (List.length_filter_le _ _) h1
  have hlb := fun t => ownL_block (c := c) (era := era) (t := t)
  generalize ownL era (takenPool (scanPool c) c) = l at *
  refine ⟨_, _, _, _, _, rfl, br_ne (fun h => absurd rfl h) fun _ => br_eq (fun hl0 => ?_) fun hl0 => ?_⟩
  · have : l = [] := List.eq_nil_of_length_eq_zero (by omega)
    subst this
    exact bad _ _ 16 (by decide) he1 hr rfl
  have hll : l.length - 1 < l.length := by omega
  have hlast : l.getLast? = some l[l.length - 1] := by rw [List.getLast?_eq_getElem?, List.getElem?_eq_getElem hll]
  rw [hlast] at hr
  simp only at hr
  have htb := hlb _ (List.getElem_mem hll)
  intro B w2 hn2
  have hB : B = w1.heap.size := hn2.num
  have hs2 := hn2.size
  have g2 := hn2.get
  have e2 := he1.trans hn2.upd
  have h2 := h.ext e2
  refine (scan_Facts_spec h2.cin hnb era).mono ?_
  rintro _ w3 ⟨a3, c3, rfl, hl3, he3⟩
  have e3 := e2.trans he3
  have hs3 := he3.size
  have hp3 := hp.ext (hn2.upd.trans he3)
  generalize factsP (lowL (readParts c era)) (readParts c era) = fs at *
  have g3 := Ext.get he3 g2
  obtain ⟨G3, hG3, hG3'⟩ := hl3.slice
  refine ⟨_, _, _, _, rfl, ?_⟩
  -- the head, whatever block and page
  have hF3 : ∀ x, (F x ∨ (w.heap.size ≤ x ∧ x < w1.heap.size)) → x < B := fun x hx => by
    rcases hx with hx | hx
    · have := hS x hx; omega
    · omega
  have head0 : LogIn (fun x => F x ∨ (w.heap.size ≤ x ∧ x < B)) X w3 B M (LogS.new c era) := by
    refine ⟨⟨none, 0, g3, NoB, SliceAt.nil _ _ _, fun _ h => h.elim⟩, hp3.mono (fun x hx => ?_) (fun _ h => h), fun hx => ?_, fun hx => ?_, hera⟩
    · rcases hx with hx | hx
      · exact .inl hx
      · exact .inr ⟨hx.1, by omega⟩
    · rcases hx with hx | hx
      · have := hS B hx; omega
      · omega
    · have := hXS B hx; omega
  have hFB : ∀ x, (F x ∨ (w.heap.size ≤ x ∧ x < B)) → x < w2.heap.size := fun x hx => by
    rcases hx with hx | hx
    · have := hS x hx; omega
    · omega
  refine head0.setFacts (S := w2.heap.size) hFB (by omega) hG3 (fun b hb => ⟨(hG3' b hb).1.resolve_right (fun h => h), (hG3' b hb).2⟩) fun w4 hu4 h4 => ?_
  have hs4 := hu4.size
  generalize hX' : (fun x => X x ∨ (w2.heap.size ≤ x ∧ x < w3.heap.size)) = X' at h4
  have hXX : ∀ x, X x → X' x := fun x hx => by rw [← hX']; exact .inl hx
  have hXw : ∀ x, X' x → X x ∨ (w.heap.size ≤ x ∧ x < w3.heap.size) := fun x hx => by
    rw [← hX'] at hx
    rcases hx with hx | hx
    · exact .inl hx
    · exact .inr ⟨by omega, hx.2⟩
  have hXB : ∀ x, X' x → x ≠ B → x < w3.heap.size := fun x hx _ => by
    rcases hXw x hx with hx | hx
    · have := hXS x hx; omega
    · omega
  have e4 : Ext w w4 := e3.beyond hu4 fun x hx => by omega
  have fin : ∀ (u : World) (t : LogS), r = (t, 0) → Ext w u → B < u.heap.size → w3.heap.size ≤ u.heap.size → LogIn (fun x => F x ∨ (w.heap.size ≤ x ∧ x < B)) X' u B M t → R (.tuple #[.pointer (some ⟨B, 0, none⟩), .int .i64 0]) u := by
    rintro u t rfl hu hBu hsu ht
    refine hR _ _ ⟨hu, fun hne => absurd rfl hne, fun _ => ⟨M, B, hMp, rfl, by omega, hBu, X', hXX, fun x hx => ?_, ht⟩⟩
    rcases hXw x hx with hx | hx
    · exact .inl hx
    · exact .inr ⟨hx.1, by omega⟩
  have ew : IntKind.i64.wrap ((l.length : Int) - 1) = ((l.length - 1 : Nat) : Int) := by rw [w64 (by omega) (by omega)]; omega
  rw [ew]
  have ho4 : RowAt w4 a (l.flatMap Taken.vals) := RowAt.upd ho.row ((Upd.ext (hn2.upd.trans he3)).trans hu4) fun p hp hx => by
    obtain ⟨_, _, hx'⟩ := ho
    rcases hx' with ⟨hx', _⟩ | ⟨b, cur, hx', hb, _⟩
    · rw [hx'] at hp; cases hp
    · have := (Array.getElem?_eq_some_iff.1 hb).1
      rw [hx'] at hp
      cases hp
      have hx : b = B := hx
      omega
  refine idx_flat (f := Taken.vals) Taken.vals_length (by omega) ho4 rfl hll fun b o hab hrow => ?_
  refine ⟨l[l.length - 1].block, l[l.length - 1].head.kind.toNat, l[l.length - 1].head.era, l[l.length - 1].head.seq, l[l.length - 1].bad, RowAt.cells hrow, ?_⟩
  generalize l[l.length - 1] = t at *
  refine new_put rfl fun B2 w6 hB2 hs6 he6 g6 => ?_
  have e6 := e4.trans he6
  have h6 := h4.ext he6
  refine ⟨t.bad, cell_of g6 rfl, br_not (fun hgood => ?_) fun hbad => ?_⟩
  · rw [if_neg (by rw [hgood]; decide)] at hr
    refine ⟨t.block, cell_of g6 rfl, ?_⟩
    refine h6.store (t := { LogS.new c era with facts := fs, block := t.block }) ⟨rfl, rfl, rfl, rfl⟩ (o := 3) (fun _ _ => rfl) (by omega) fun w7 hu7 h7 => ?_
    refine h7.store (t := { LogS.new c era with facts := fs, block := t.block, page := 1 }) ⟨rfl, rfl, rfl, rfl⟩ (o := 4) (fun _ _ => rfl) (by omega) fun w8 hu8 h8 => ?_
    have hs7 := hu7.size
    have hs8 := hu8.size
    have e8 : Ext w w8 := (e6.beyond hu7 fun x hx => by omega).beyond hu8 fun x hx => by omega
    have g8 := hu8.get (hu7.get g6 (by omega)) (by omega)
    have hok := h.cin.ok
    have hnp1 := hok.np1
    have hnp2 := hok.np2
    refine ⟨fun x u => ∃ k : Nat, x = ((k + 1 : Nat) : Int) ∧ k ≤ c.np - 1 ∧ LogIn (fun x => F x ∨ (w.heap.size ≤ x ∧ x < B)) X' u B M { LogS.new c era with facts := fs, block := t.block, page := openPage c t.block k } ∧ Ext w u ∧ Upd (· = B) w8 u, fun x _ => ((c.np : Int) - x).toNat, ⟨0, rfl, by omega, h8, e8, Upd.refl _ _⟩, ?_⟩
    rintro x u ⟨k, rfl, hk, hlu, heu, huu⟩
    have hcu := hlu.pool.chip
    rw [hMp] at hcu
    refine (cGeo hcu.cin).mono ?_
    rintro _ w10 ⟨rfl, he10⟩
    have gu := Ext.get he10 (huu.get g8 (by omega))
    have hl10 := hlu.ext he10
    refine ⟨_, _, _, _, rfl, br_dec (fun hlt => ?_) fun hge => ?_⟩
    · have hlt' : k + 1 < c.np := by simp only [LogS.new] at hlt; omega
      refine ⟨t.block, cell_of gu rfl, (cPage (hcu.ext he10).cin hd0 htb hlt').mono ?_⟩
      rintro _ w11 ⟨he11, a11, c11, rfl, hb11, _, _⟩
      have hpl := page_len hok htb hlt'
      have hsz := hok.sz2
      have hpl' : (c.page t.block (k + 1)).length ≤ 100000 := by omega
      refine ⟨_, _, _, _, rfl, (seal_Blank_spec hb11 hpl').mono ?_⟩
      rintro _ u12 ⟨rfl, hu12⟩
      obtain rfl : w11 = u12 := hu12.symm
      have h12 := hl10.ext he11
      have ew : IntKind.i64.wrap (((k + 1 : Nat) : Int) + 1) = ((k + 1 + 1 : Nat) : Int) := w64 (by omega) (by omega)
      refine ⟨_, rfl, ?_⟩
      rw [ew]
      have hop := openPage_succ c t.block k
      refine br_not (fun hbl => ?_) fun hbl => ?_
      · have hbl' : isBlank (c.page t.block (k + 1)) = false := hbl
        rw [if_neg (by rw [hbl']; decide)] at hop
        refine h12.store (t := { LogS.new c era with facts := fs, block := t.block, page := k + 2 }) ⟨rfl, rfl, rfl, rfl⟩ (o := 4) (fun _ _ => rfl) (by omega) fun w13 hu13 h13 => ?_
        rw [← hop] at h13
        exact ⟨⟨k + 1, rfl, by omega, h13, ((heu.trans he10).trans he11).beyond hu13 (fun x hx => by omega), ((huu.then he10).then he11).trans hu13⟩, meas hlt'⟩
      · have hbl' : isBlank (c.page t.block (k + 1)) = true := hbl
        rw [if_pos hbl'] at hop
        rw [← hop] at h12
        exact ⟨⟨k + 1, rfl, by omega, h12, (heu.trans he10).trans he11, (huu.then he10).then he11⟩, meas hlt'⟩
    · have hkk : k = c.np - 1 := by simp only [LogS.new] at hge; omega
      subst hkk
      have hsz := heu.size
      have h10 := he10.size
      have := huu.size
      exact fin _ _ hr (heu.trans he10) (by omega) (by omega) hl10
  · rw [if_pos hbad] at hr
    exact fin _ _ hr e6 (by omega) (by omega) h6
end Go.Den
end
section
set_option linter.unusedVariables false
set_option linter.unusedSimpArgs false
set_option maxRecDepth 100000
namespace Go.Den
def five : Change := ⟨⟨1, 1, ByteArray.empty, 0⟩, [5], false⟩
def want14 : List Fact := applyF [] [five]
def l14 (era : Nat) : LogS × Nat := makeL (newChip 16 8 128 0) era
def p14 : LogS × Nat := (l14 1).1.put [five]
def works14 : Bool := decide ((l14 1).2 = 0) && decide (p14.2 = 0) && decide ((openL p14.1.chip.power 1).2 = 0) && decide ((openL p14.1.chip.power 2).2 = 16) && decide (want14.length = 1) && decide (applyF p14.1.facts [] = want14) && decide (applyF (openL p14.1.chip.power 1).1.facts [] = want14)
def d14 : LogS := { (l14 3).1 with chip := ((l14 3).1.chip.setHits [⟨0, false, []⟩]).1 }
def nil14 : Bool := decide ((l14 3).2 = 0) && decide ((d14.put [five]).2 = 10) && (d14.put [five]).1.chip.dead
theorem works14_true : works14 = true := by decide +kernel
theorem nil14_true : nil14 = true := by decide +kernel
end Go.Den
end
section
set_option linter.unusedVariables false
set_option linter.unusedSimpArgs false
set_option maxRecDepth 8000
namespace Go.Den
theorem keys_beq (x y : Key) : ((x.ino == y.ino) && (((x.what.toNat : Int) == (y.what.toNat : Int)) && ((x.name.toList == y.name.toList) && ((x.chunk == y.chunk) && true)))) = decide (x = y) := by
  rw [Bool.eq_iff_iff]
  simp only [Bool.and_eq_true, beq_iff_eq, Bool.and_true, decide_eq_true_eq]
  constructor
  · rintro ⟨h1, h2, h3, h4⟩
    cases x; cases y
    simp only at h1 h2 h3 h4
    subst h1; subst h4
    have e2 := UInt8.toNat.inj (Int.ofNat.inj h2)
    have e3 := h3
    rw [ByteArray.toList_eq, ByteArray.toList_eq] at e3
    have e3' := ByteArray.ext (Array.ext' e3)
    subst e2; subst e3'
    rfl
  · rintro rfl
    exact ⟨rfl, rfl, rfl, rfl⟩
theorem carrackref00_Facts_spec {w : World} {G H : Nat → Prop} {a b : Option Addr} {c d : Nat} {l m : List Fact} (ha : SliceAt factR w G a l) (hb : SliceAt factR w H b m) (hn : l.length ≤ 100000000) (hv : ∀ f ∈ l, f.val.length ≤ 1000000000000) :
    CallsR prog K.carrackref00_Facts #[.slice a l.length c, .slice b m.length d] w fun v w' => v = .bool (decide (l = m)) ∧ Ext w w' := by
  apply carrackref00_Facts.sh
  unfold carrackref00_Facts.body
  refine br_ne (fun hne => ⟨?_, Upd.refl _ _⟩) fun hlm => ?_
  · rw [decide_eq_false (p := l = m) (fun e => hne (by rw [e]))]
  have hlm' : l.length = m.length := by omega
  refine ⟨fun x u => ∃ i : Nat, x = i ∧ i ≤ l.length ∧ l.take i = m.take i ∧ Ext w u, fun x _ => ((l.length : Int) - x).toNat, ⟨0, rfl, by omega, by simp, Upd.refl _ _⟩, ?_⟩
  rintro x u ⟨i, rfl, hi, hpre, heu⟩
  refine br_dec (fun hlt => ?_) fun hge => ?_
  · have hi' : i < l.length := by omega
    have hi2 : i < m.length := by omega
    intro w2 hd2
    have e2 := heu.trans hd2.upd
    have ha2 := ha.ext e2
    have hb2 := hb.ext e2
    have hne : l[i] ≠ m[i] → decide (l = m) = false := fun h => decide_eq_false fun e => h (by simp only [e])
    refine ⟨fun v => Ext w2 v, Upd.refl _ _, SliceAt.idx (r := factR) ha2 rfl hi' fun b1 o1 vs _ hrow hR _ => ?_⟩
    obtain ⟨a1, c1, rfl, _, hba, _⟩ := factR_elim hR
    refine ⟨_, _, _, _, fun u1 hu1 => (RowAt.take (hrow.ext hu1) 4).cells, SliceAt.idx (r := factR) hb2 rfl hi2 fun b2 o2 vs2 _ hrow2 hR2 _ => ?_⟩
    obtain ⟨a2, c2, rfl, _, hbb, _⟩ := factR_elim hR2
    refine ⟨_, _, _, _, fun u1 hu1 => (RowAt.take (hrow2.ext hu1) 4).cells, ?_⟩
    rw [keys_beq]
    refine br_intro (fun hk => ⟨Upd.refl _ _, by rw [hne fun e => by rw [e] at hk; simp at hk], e2⟩) fun hk => ?_
    have hkey : l[i].key = m[i].key := by simpa using hk
    refine SliceAt.idx (r := factR) ha2 rfl hi' fun b3 o3 vs3 _ hrow3 hR3 _ => ?_
    obtain ⟨a3, c3, rfl, _, hb3, _⟩ := factR_elim hR3
    refine ⟨a3, l[i].val.length, c3, fun u1 hu1 => ?_, SliceAt.idx (r := factR) hb2 rfl hi2 fun b4 o4 vs4 _ hrow4 hR4 _ => ?_⟩
    · obtain ⟨_, _, e, g⟩ := ((hrow3.ext hu1).drop 4).cell (i := 0) (v := .slice a3 l[i].val.length c3) rfl
      cases e
      exact g
    obtain ⟨a4, c4, rfl, _, hb4, _⟩ := factR_elim hR4
    refine ⟨a4, m[i].val.length, c4, fun u1 hu1 => ?_, (carrackref00_Same_spec hb3 hb4 (hv _ (List.getElem_mem hi'))).mono ?_⟩
    · obtain ⟨_, _, e, g⟩ := ((hrow4.ext hu1).drop 4).cell (i := 0) (v := .slice a4 m[i].val.length c4) rfl
      cases e
      exact g
    rintro _ w3 ⟨rfl, he3⟩
    refine ⟨_, rfl, he3, ?_⟩
    have ew : IntKind.i64.wrap ((i : Int) + 1) = ((i + 1 : Nat) : Int) := w64 (by omega) (by omega)
    rw [ew]
    refine br_intro (fun hs => ⟨by rw [hne fun e => by rw [e] at hs; simp at hs], e2.trans he3⟩) fun hs => ?_
    have hval : l[i].val = m[i].val := by simpa using hs
    refine ⟨⟨i + 1, rfl, hi', ?_, e2.trans he3⟩, meas hi'⟩
    rw [List.take_succ_eq_append_getElem hi', List.take_succ_eq_append_getElem hi2, hpre]
    have : l[i] = m[i] := by
      generalize l[i] = x at *
      generalize m[i] = y at *
      cases x; cases y
      simp only at hkey hval
      rw [hkey, hval]
    rw [this]
  · have : i = l.length := by omega
    subst this
    rw [List.take_length, hlm', List.take_length] at hpre
    exact ⟨by rw [decide_eq_true hpre], heu⟩
end Go.Den
end
section
set_option linter.unusedVariables false
set_option linter.unusedSimpArgs false
set_option maxRecDepth 8000
namespace Go.Den
/-- blocks that are new -/
abbrev Fr (w w' : World) : Nat → Prop := fun x => w.heap.size ≤ x ∧ x < w'.heap.size
theorem cxNew (w : World) {nb np sz sp : Nat} (nb1 : 8 ≤ nb) (nb2 : nb ≤ 64) (np1 : 4 ≤ np) (np2 : np ≤ 32) (sz1 : 128 ≤ sz) (sz2 : sz ≤ 256) (sp2 : sp ≤ 4) :
    CallsR prog K.nand_New #[.agg #[.int .i64 nb, .int .i64 np, .int .i64 sz, .int .i64 sp]] w fun v w' => Ext w w' ∧ ∃ p, v = .tuple #[.pointer (some ⟨p, 0, none⟩), .int .i64 0] ∧ CX (Fr w w') (Fr w w') w' p (newChip nb np sz sp) := by
  refine (nand_New_spec w nb1 nb2 np1 np2 sz1 sz2 sp2).mono ?_
  rintro v w' ⟨he, p, rfl, L, G, hc, h1, h2, h3⟩
  exact ⟨he, p, rfl, L, G, hc, h1, fun x hx => ⟨h2 x hx, (h2 x hx).2⟩⟩
theorem cxPower {F X : Nat → Prop} {w : World} {p : Nat} {c : Chip} (h : CX F X w p c) :
    CallsR prog K.nand_Chip_Power #[.pointer (some ⟨p, 0, none⟩)] w fun v w' => Ext w w' ∧ ∃ p', v = .tuple #[.pointer (some ⟨p', 0, none⟩), .int .i64 0] ∧ CX (Fr w w') (Fr w w') w' p' c.power := by
  obtain ⟨L, G, hr, hF, hG⟩ := h
  refine (nand_Power_spec hr).mono ?_
  rintro v w' ⟨he, p', rfl, L', G', hc, h1, h2, h3⟩
  exact ⟨he, p', rfl, L', G', hc, h1, fun x hx => ⟨h2 x hx, (h2 x hx).2⟩⟩
/-- hits are set, beside a log -/
theorem log_hits {F X : Nat → Prop} {w : World} {q : Nat} {M : PLoc} {s : LogS} (h : LogIn F X w q M s) (hS : ∀ x, F x → x < w.heap.size) {Gin : Nat → Prop} {a : Option Addr} {vs : List Value} {hs : List Hit} {cp : Nat} (hr : RowAt w a vs) (hh : HitRow w Gin vs hs)
    (hG : ∀ x, Gin x → ¬ F x) (hap : hs ≠ [] → ∀ q, a = some q → ¬ F q.block) (hn : hs.length ≤ 100000) (hm : ∀ t ∈ hs, t.mask.length ≤ 140737488355232) :
    CallsR prog K.nand_Chip_Hits #[.pointer (some ⟨M.p, 0, none⟩), .slice a hs.length cp] w fun v w' => v = .int .i64 ((s.chip.setHits hs).2 : Nat) ∧ Upd F w w' ∧ LogIn F (fun x => X x ∨ Fr w w' x) w' q M { s with chip := (s.chip.setHits hs).1 } := by
  have hql := h.lt
  obtain ⟨⟨af, cf, g, Gf, g1, g2⟩, ⟨L, G, hp, hF, hGG⟩, ho, hx, he⟩ := h
  have hpF : F M.p := hF M.p (.inr (.inr (by simp)))
  refine (nand_Hits_spec hp.chip hr hh (fun x hx e => hG x hx (e ▸ hpF)) (fun hne q hq e => hap hne q hq (e ▸ hpF)) hn hm).mono ?_
  rintro _ w' ⟨hu, L', G', hs', hc, hG', rfl⟩
  have hu' : Upd F w w' := hu.mono fun x _ hx => by rw [hx]; exact hpF
  have hnew : ∀ x, G' x → (X x ∨ Fr w w' x) ∧ x < w'.heap.size := fun x hx => by
    rcases hG' x hx with hx | hx
    · exact ⟨.inl (hGG x hx).1, Nat.lt_of_lt_of_le (hGG x hx).2 hu.size⟩
    · exact ⟨.inr hx, hx.2⟩
  refine ⟨rfl, hu', ⟨af, cf, hu'.get g ho, Gf, g1.upd hu' fun b hb => (g2 b hb).2.1, fun b hb => ⟨.inl (g2 b hb).1, (g2 b hb).2.1, Nat.lt_of_lt_of_le (g2 b hb).2.2 hu.size⟩⟩, ⟨L', G', hp.rechip (hu.mono fun x _ hx => by rw [hx]; simp) hc hs' (setHits_geo s.chip hs).1 (fun x hx hg => ?_), fun x hx => hF x (by rw [PF.same hs'] at hx; exact hx), hnew⟩, ho, fun hq => ?_, he⟩
  · rcases hG' x hg with hg | hg
    · exact (hp.apart x hx).2 hg
    · have hxq : x < w.heap.size := by
        rcases hx with rfl | rfl
        · exact (Array.getElem?_eq_some_iff.1 hp.head).1
        · exact OwnAt.blk hp.own rfl
      omega
  · rcases hq with hq | hq
    · exact hx hq
    · have := hq.1; omega
theorem carracklaw14_geo_spec (sp : UInt8) (w : World) : CallsR prog K.carracklaw14_geo #[bv sp] w fun v w' => v = .agg #[.int .i64 (16 : Nat), .int .i64 (8 : Nat), .int .i64 (128 : Nat), .int .i64 ((sp.toNat % 2 : Nat) : Int)] ∧ Ext w w' := by
  apply carracklaw14_geo.sh
  unfold carracklaw14_geo.body
  intro B w1 hn1
  have hs := sp.toNat_lt
  have e : Int.tmod (sp.toNat : Int) 2 = ((sp.toNat % 2 : Nat) : Int) := (Int.ofNat_tmod _ _).symm
  have e2 : IntKind.i64.wrap ((sp.toNat % 2 : Nat) : Int) = ((sp.toNat % 2 : Nat) : Int) := w64 (by omega) (by omega)
  rw [e, e2]
  refine ⟨by decide, ?_⟩
  refine store_of hn1.get (by simp) fun w2 hp => ?_
  have hB := hn1.num
  have g := hp.get
  rw [splice_all _ _ (by simp)] at g
  exact ⟨_, _, _, _, cells_all g, rfl, hn1.upd.beyond hp.upd1 fun x hx => by omega⟩
theorem carracklaw14_five_spec (w : World) : CallsR prog K.carracklaw14_five #[] w fun v w' => ∃ a, v = .slice a [five].length 1 ∧ Ext w w' ∧ SliceAt changeR w' (Fr w w') a [five] := by
  apply carracklaw14_five.sh
  unfold carracklaw14_five.body
  intro B1 w1 hn1 B2 w2 hn2
  have hB1 := hn1.num
  have hB2 := hn2.num
  have hs1 := hn1.size
  have hs2 := hn2.size
  have g1 := Ext.get hn2.upd hn1.get
  have g2 := hn2.get
  refine ⟨_, rfl, hn1.upd.trans hn2.upd, ?_⟩
  have hrow : RowAt w2 (some ⟨B2, 0, none⟩) (changeVs five.key (some ⟨B1, 0, none⟩) five.val.length 1 five.gone) := RowAt.of g2 fun j v hj => by rw [Nat.zero_add, ← Array.getElem?_toList]; exact hj
  have hb : BytesAt w2 (some ⟨B1, 0, none⟩) five.val := RowAt.of g1 fun j v hj => by rw [Nat.zero_add, ← Array.getElem?_toList]; exact hj
  exact ⟨_, hrow, Rows.single (changeR_intro (by decide) hb fun _ p hp => by cases hp; exact ⟨by show w.heap.size ≤ B1; omega, by show B1 < w2.heap.size; omega⟩), fun _ p hp => by cases hp; exact ⟨by show w.heap.size ≤ B2; omega, by show B2 < w2.heap.size; omega⟩⟩
theorem five_small : Small [five] := fun x hx => by simp at hx; subst hx; decide
/-! ### Facts that a log has are small -/
theorem makeL_keeps {c : Chip} {era : Nat} (hnb : c.nb < 20) (hnp : c.np ≤ 32) (hsp : c.sp ≤ 4) : (LogS.new c era).Keeps (makeL c era).1 ∧ (makeL c era).1.Fit := by
  have fit := LogS.new_fit (era := era) hnb hnp hsp
  unfold makeL
  split
  · exact ⟨.refl _, fit⟩
  · split
    · exact ⟨.refl _, fit⟩
    · split
      · exact ⟨.refl _, fit⟩
      · exact LogS.anew_fit fit
theorem openL_keeps {c : Chip} {era : Nat} (ok : c.Ok) (hnb : c.nb < 20) (hsp : c.sp ≤ 4) : (openL c era).1.chip = c ∧ (openL c era).1.era = era ∧ (openL c era).1.pool = scanPool c ∧ (openL c era).1.Fit ∧ GoodF 163200 (openL c era).1.facts := by
  have fit := LogS.new_fit (era := era) hnb ok.np2 hsp
  have g0 : GoodF 163200 [] := GoodF.nil.mono (by omega)
  have hlen := readParts_length (c := c) era
  have hg : GoodF 163200 (factsP (lowL (readParts c era)) (readParts c era)) := by
    have := factsP_good (low := lowL (readParts c era)) (readParts_good ok.np2 era) (readParts c era).length (Nat.le_refl _)
    rw [List.take_length] at this
    exact this.mono (by omega)
  unfold openL
  split
  · exact ⟨rfl, rfl, rfl, fit, g0⟩
  · split
    · exact ⟨rfl, rfl, rfl, fit, g0⟩
    · split
      · exact ⟨rfl, rfl, rfl, fit, g0⟩
      · simp only
        split
        · exact ⟨rfl, rfl, rfl, ⟨fit.nb, fit.np, fit.sp, fit.page, fit.last⟩, hg⟩
        · refine ⟨rfl, rfl, rfl, ⟨fit.nb, fit.np, fit.sp, ?_, fit.last⟩, hg⟩
          rename_i t _ _
          have h1 := openPage_le c t.block (c.np - 1)
          have h2 := ok.np2
          simp only
          omega
theorem LogS.put_good {s : LogS} (h : s.Fit) {n : Nat} (hg : GoodF n s.facts) (cs : List Change) : GoodF (n + 255) (s.put cs).1.facts := by
  rcases (LogS.put_fit h cs).2.2.2 with h | ⟨_, h, hc⟩
  · rw [h]; exact hg.mono (by omega)
  · rw [h]; exact hg.apply hc
theorem carracklaw14_works_spec (w : World) : CallsR prog K.carracklaw14_works #[] w fun v w' => v = .bool true ∧ Ext w w' := by
  have hM := works14_true
  simp only [works14, Bool.and_eq_true, decide_eq_true_eq] at hM
  obtain ⟨⟨⟨⟨⟨⟨m0, m1⟩, m2⟩, m3⟩, m4⟩, m5⟩, m6⟩ := hM
  apply carracklaw14_works.sh
  unfold carracklaw14_works.body
  refine (carracklaw14_geo_spec 0 w).mono ?_
  rintro _ w1 ⟨rfl, he1⟩
  refine ⟨_, _, _, _, rfl, (cxNew w1 (nb := 16) (np := 8) (sz := 128) (sp := 0) (by omega) (by omega) (by omega) (by omega) (by omega) (by omega) (by omega)).mono ?_⟩
  rintro _ w2 ⟨he2, p, rfl, hc2⟩
  have hs1 := he1.size
  have hs2 := he2.size
  obtain ⟨kp, fit⟩ := makeL_keeps (c := newChip 16 8 128 0) (era := 1) (by decide) (by decide) (by decide)
  refine ⟨_, _, rfl, (log_Make_spec hc2 (fun x hx => hx.2) (fun x hx => hx.2) (by decide) (by decide) (by decide) (by decide)).mono ?_⟩
  rintro _ w3 ⟨hu3, _, hv⟩
  have hl : makeL (newChip 16 8 128 0) 1 = l14 1 := rfl
  rw [hl] at hv kp fit
  obtain ⟨M, q, rfl, rfl, hq1, hq2, X, _, hX, h3⟩ := hv m0
  have hs3 := hu3.size
  generalize hF : (fun x => Fr w1 w2 x ∨ (w2.heap.size ≤ x ∧ x < q)) = F at h3
  have hFS : ∀ x, F x → w.heap.size ≤ x ∧ x < w3.heap.size := fun x hx => by
    rw [← hF] at hx
    rcases hx with hx | hx
    · have := hx.1; have := hx.2; omega
    · omega
  have hXS : ∀ x, X x → w.heap.size ≤ x ∧ x < w3.heap.size := fun x hx => by
    rcases hX x hx with hx | hx
    · have := hx.1; have := hx.2; omega
    · omega
  have e3 : Ext w w3 := (he1.trans he2).beyond hu3 fun x hx => by have := hx.1; omega
  have hg : GoodF 0 (l14 1).1.facts := by rw [kp.facts]; exact GoodF.nil
  refine ⟨_, _, rfl, (carracklaw14_five_spec w3).mono ?_⟩
  rintro _ w4 ⟨a4, rfl, he4, hf4⟩
  have hs4 := he4.size
  refine ⟨_, _, _, rfl, (log_Put_spec (h3.ext he4) (fun x hx => by have := hFS x hx; omega) (fun x hx => by have := hXS x hx; omega) fit hg (by omega) hf4 five_small (by decide)).mono ?_⟩
  have hp : (l14 1).1.put [five] = p14 := rfl
  have hgp := LogS.put_good fit hg [five]
  have hfp := LogS.put_fit fit [five]
  rw [hp] at hgp hfp
  rw [hp]
  rintro _ w5 ⟨rfl, hu5, X5, _, hX5, h5⟩
  have hs5 := hu5.size
  have e5 : Ext w w5 := (e3.trans he4).beyond hu5 fun x hx => by
    rcases hx with hx | hx
    · exact (hFS x hx).1
    · omega
  have hok := h5.pool.chip.cin.ok
  have hgeo := hfp.1
  refine ⟨_, rfl, (cxPower h5.pool.chip).mono ?_⟩
  rintro _ w6 ⟨he6, p', rfl, hc6⟩
  have hs6 := he6.size
  obtain ⟨k1, k2, k3, k4, k5⟩ := openL_keeps (era := 1) hc6.cin.ok hgeo.nb hgeo.sp
  refine ⟨_, _, rfl, (log_Open_spec hc6 (fun x hx => hx.2) (fun x hx => hx.2) hgeo.nb (by decide)).mono ?_⟩
  rintro _ w7 ⟨he7, _, hv⟩
  obtain ⟨M2, q2, _, rfl, _, _, X7, _, _, h7⟩ := hv m2
  have hc7 := hc6.ext he7
  have hs7 := he7.size
  refine ⟨_, _, rfl, (log_Open_spec hc7 (fun x hx => by have := hx.2; omega) (fun x hx => by have := hx.2; omega) hgeo.nb (era := 2) (by decide)).mono ?_⟩
  rintro _ w8 ⟨he8, hv8, _⟩
  obtain ⟨rfl, _⟩ := hv8 (by rw [m3]; decide)
  rw [m3]
  refine ⟨_, _, rfl, (carracklaw14_five_spec w8).mono ?_⟩
  rintro _ w9 ⟨a9, rfl, he9, hf9⟩
  refine ⟨_, _, _, rfl, (carrackref06_Apply_spec (G := NoB) (a := none) (c := 0) (l := []) (SliceAt.nil _ _ _) (fun _ h => h.elim) hf9 (by decide) (fun _ h => (by cases h)) (fun x hx => by simp at hx; subst hx; decide)).mono ?_⟩
  have hw : applyF [] [five] = want14 := rfl
  rw [hw]
  rintro _ w10 ⟨a10, c10, rfl, hl10, he10⟩
  obtain ⟨G10, hG10, _⟩ := hl10.slice
  have e10 : Ext w w10 := ((((e5.trans he6).trans he7).trans he8).trans he9).trans he10
  have e510 : Ext w5 w10 := (((he6.trans he7).trans he8).trans he9).trans he10
  have e710 : Ext w7 w10 := (he8.trans he9).trans he10
  have hwl := m4
  have hww : ∀ f ∈ want14, f.val.length ≤ 1000000000000 := by decide +kernel
  have hwl2 : want14.length ≤ 100000000 := by rw [m4]; decide
  have hgl := hgp.len
  have hgl2 := k5.len
  refine ⟨_, _, _, rfl, br_eq (fun _ => br_eq (fun _ => br_eq (fun _ => br_eq (fun _ => br_eq (fun _ => br_eq (fun _ => br_eq (fun _ => ?_) fun h => absurd (by rw [m4]; rfl) h) fun h => absurd rfl h) fun h => absurd rfl h) fun h => absurd rfl h) fun h => absurd (by rw [m1]; rfl) h) fun h => absurd rfl h) fun h => absurd rfl h⟩
  refine (log_Facts_spec (h5.ext e510) (by omega) (hgp.vals' (by omega))).mono ?_
  rw [m5]
  rintro _ w11 ⟨a11, c11, rfl, hl11, he11⟩
  obtain ⟨G11, hG11, _⟩ := hl11.slice
  refine ⟨_, _, _, rfl, (carrackref00_Facts_spec hG11 (hG10.ext he11) hwl2 hww).mono ?_⟩
  rintro _ w12 ⟨rfl, he12⟩
  rw [decide_eq_true (rfl : want14 = want14)]
  refine ⟨_, rfl, ?_⟩
  rw [br_true]
  have e712 : Ext w7 w12 := (e710.trans he11).trans he12
  refine (log_Facts_spec (h7.ext e712) (Nat.le_trans k5.len (by decide)) (k5.vals' (by omega))).mono ?_
  rw [m6]
  rintro _ w13 ⟨a13, c13, rfl, hl13, he13⟩
  obtain ⟨G13, hG13, _⟩ := hl13.slice
  refine ⟨_, _, _, rfl, (carrackref00_Facts_spec hG13 (((hG10.ext he11).ext he12).ext he13) hwl2 hww).mono ?_⟩
  rintro _ w14 ⟨rfl, he14⟩
  rw [decide_eq_true (rfl : want14 = want14)]
  exact ⟨_, rfl, rfl, (((e10.trans he11).trans he12).trans he13).trans he14⟩
end Go.Den
end
section
set_option linter.unusedVariables false
set_option linter.unusedSimpArgs false
set_option maxRecDepth 8000
namespace Go.Den
def zeroChip : Array Value := #[Value.int .i64 0, Value.int .i64 0, Value.int .i64 0, Value.int .i64 0, Value.slice none 0 0, Value.slice none 0 0, Value.slice none 0 0, Value.int .i64 0, Value.bool false, Value.int .i64 0]
theorem zero_Scan {w : World} {p : Option Addr} (h : p = none ∨ ∃ B, p = some ⟨B, 0, none⟩ ∧ w.heap[B]? = some (.cells zeroChip T.nand_Chip (0, 0))) : CallsR prog K.pool_Scan #[.pointer p] w fun v w' => v = .tuple #[.pointer none, .int .i64 1] ∧ Ext w w' := by
  apply pool_Scan.sh
  refine ⟨fun _ => False, ?_, fun _ h => h.elim⟩
  rcases h with rfl | ⟨B, rfl, hc⟩
  · simp only [Option.isNone_none, br_true]
    exact ⟨by trivial, Upd.refl _ _⟩
  · simp only [Option.isNone_some, br_false]
    have geo : CallsR prog K.nand_Chip_Geo #[.pointer (some ⟨B, 0, none⟩)] w fun v w' => v = .agg #[.int .i64 0, .int .i64 0, .int .i64 0, .int .i64 0] ∧ Ext w w' := by
      apply nand_Chip_Geo.sh
      intro B₁ w₁ hn
      have hc1 := Ext.get hn.upd hc
      have off : CallsR prog K.nand_Chip_off #[.pointer (some ⟨B, 0, none⟩)] w₁ fun v w' => v = .bool true ∧ w' = w₁ := by
        apply nand_Chip_off.sh
        simp only [nand_Chip_off.body, Option.isNone_some, br_false, nilC_some', add_lit]
        exact ⟨none, 0, 0, cell_of hc1 rfl, rfl, by trivial⟩
      refine off.mono ?_
      rintro _ _ ⟨rfl, rfl⟩
      refine ⟨_, rfl, ?_⟩
      simp only [br_true]
      refine store_of hn.get (by simp) fun w₂ hput => ?_
      have hg := hput.get
      rw [splice_all _ _ (by simp)] at hg
      refine ⟨0, 0, 0, 0, cellsAt_of (o := 0) hg (fun j v hj => by simpa using hj), rfl, Put.upd hn.upd hput (.inl (by have := hn.num; omega))⟩
    refine geo.mono ?_
    rintro _ w₁ ⟨rfl, he⟩
    refine ⟨0, 0, 0, 0, rfl, ?_⟩
    exact br_eq (fun _ => ⟨by trivial, he⟩) fun h => (h rfl).elim
end Go.Den
end
section
set_option linter.unusedVariables false
set_option linter.unusedSimpArgs false
set_option maxRecDepth 8000
namespace Go.Den
/-! ### None -/
abbrev NilLog (u : World) (p : Option Addr) : Prop := p = none ∨ ∃ B, p = some ⟨B, 0, none⟩ ∧ u.heap[B]? = some (.cells #[.pointer none, .int .u32 0, .slice none 0 0, .int .i64 0, .int .i64 0] T.log_Log (0, 0))
theorem NilLog.ext {u u' : World} {p : Option Addr} (h : NilLog u p) (k : Ext u u') : NilLog u' p := by
  rcases h with h | ⟨B, h1, h2⟩
  · exact .inl h
  · exact .inr ⟨B, h1, Ext.get k h2⟩
abbrev ZeroChip (u : World) (p : Option Addr) : Prop := p = none ∨ ∃ B, p = some ⟨B, 0, none⟩ ∧ u.heap[B]? = some (.cells zeroChip T.nand_Chip (0, 0))
theorem ZeroChip.ext {u u' : World} {p : Option Addr} (h : ZeroChip u p) (k : Ext u u') : ZeroChip u' p := by
  rcases h with h | ⟨B, h1, h2⟩
  · exact .inl h
  · exact .inr ⟨B, h1, Ext.get k h2⟩
section
variable {u : World} {p : Option Addr}
theorem nil_log_off (h : NilLog u p) : CallsR prog K.log_Log_off #[.pointer p] u fun v w' => v = .bool true ∧ w' = u := by
  apply log_Log_off.sh
  unfold log_Log_off.body
  rcases h with rfl | ⟨B, rfl, g⟩
  · exact ⟨rfl, rfl⟩
  · simp only [Option.isNone_some, br_false, nilC_some', add_lit, Nat.zero_add]
    exact ⟨none, cell_of g rfl, by trivial, by trivial⟩
theorem nil_log_alive (h : NilLog u p) : CallsR prog K.log_Log_alive #[.pointer p] u fun v w' => v = .int .i64 1 ∧ w' = u := by
  apply log_Log_alive.sh
  unfold log_Log_alive.body
  refine (nil_log_off h).mono ?_
  rintro _ _ ⟨rfl, rfl⟩
  refine ⟨_, rfl, ?_⟩
  rw [br_true]
  exact ⟨rfl, rfl⟩
theorem nil_log_Sync (h : NilLog u p) : CallsR prog K.log_Log_Sync #[.pointer p] u fun v w' => v = .int .i64 1 ∧ w' = u := by
  apply log_Log_Sync.sh
  refine (nil_log_alive h).mono ?_
  rintro _ _ ⟨rfl, rfl⟩
  exact ⟨_, rfl, rfl, rfl⟩
theorem nil_log_Put (h : NilLog u p) (a : Option Addr) (l c : Nat) : CallsR prog K.log_Log_Put #[.pointer p, .slice a l c] u fun v w' => v = .int .i64 1 ∧ w' = u := by
  apply log_Log_Put.sh
  unfold log_Log_Put.body
  refine (nil_log_alive h).mono ?_
  rintro _ _ ⟨rfl, rfl⟩
  exact ⟨_, rfl, br_ne (fun _ => ⟨rfl, rfl⟩) fun h => by cases h⟩
theorem nil_log_Tidy (h : NilLog u p) (b : Int) : CallsR prog K.log_Log_Tidy #[.pointer p, .int .i64 b] u fun v w' => v = .int .i64 1 ∧ w' = u := by
  apply log_Log_Tidy.sh
  unfold log_Log_Tidy.body
  refine (nil_log_alive h).mono ?_
  rintro _ _ ⟨rfl, rfl⟩
  exact ⟨_, rfl, br_ne (fun _ => ⟨rfl, rfl⟩) fun h => by cases h⟩
theorem nil_log_Facts (h : NilLog u p) : CallsR prog K.log_Log_Facts #[.pointer p] u fun v w' => v = .slice none 0 0 ∧ w' = u := by
  apply log_Log_Facts.sh
  unfold log_Log_Facts.body
  refine (nil_log_off h).mono ?_
  rintro _ _ ⟨rfl, rfl⟩
  refine ⟨_, rfl, ?_⟩
  rw [br_true]
  exact ⟨rfl, rfl⟩
theorem nil_log_Blanks (h : NilLog u p) : CallsR prog K.log_Log_Blanks #[.pointer p] u fun v w' => v = .int .i64 0 ∧ w' = u := by
  apply log_Log_Blanks.sh
  unfold log_Log_Blanks.body
  refine (nil_log_off h).mono ?_
  rintro _ _ ⟨rfl, rfl⟩
  refine ⟨_, rfl, ?_⟩
  rw [br_true]
  exact ⟨rfl, rfl⟩
theorem nil_log_Chip (h : NilLog u p) : CallsR prog K.log_Log_Chip #[.pointer p] u fun v w' => v = .pointer none ∧ w' = u := by
  apply log_Log_Chip.sh
  unfold log_Log_Chip.body
  refine (nil_log_off h).mono ?_
  rintro _ _ ⟨rfl, rfl⟩
  refine ⟨_, rfl, ?_⟩
  rw [br_true]
  exact ⟨rfl, rfl⟩
theorem nil_log_begin (h : ZeroChip u p) (era : Int) : CallsR prog K.log_begin #[.pointer p, .int .u32 era] u fun v w' => v = .tuple #[.pointer none, .slice none 0 0, .int .i64 1] ∧ Ext u w' := by
  apply log_begin.sh
  unfold log_begin.body
  refine (zero_Scan h).mono ?_
  rintro _ w1 ⟨rfl, he1⟩
  exact ⟨_, _, rfl, br_ne (fun _ => ⟨rfl, he1⟩) fun h => by cases h⟩
theorem nil_log_Make (h : ZeroChip u p) (era : Int) : CallsR prog K.log_Make #[.pointer p, .int .u32 era] u fun v w' => v = .tuple #[.pointer none, .int .i64 1] ∧ Ext u w' := by
  apply log_Make.sh
  unfold log_Make.body
  refine (nil_log_begin h era).mono ?_
  rintro _ w1 ⟨rfl, he1⟩
  exact ⟨_, _, _, _, _, rfl, br_ne (fun _ => ⟨rfl, he1⟩) fun h => by cases h⟩
theorem nil_log_Open (h : ZeroChip u p) (era : Int) : CallsR prog K.log_Open #[.pointer p, .int .u32 era] u fun v w' => v = .tuple #[.pointer none, .int .i64 1] ∧ Ext u w' := by
  apply log_Open.sh
  unfold log_Open.body
  refine (nil_log_begin h era).mono ?_
  rintro _ w1 ⟨rfl, he1⟩
  exact ⟨_, _, _, _, _, rfl, br_ne (fun _ => ⟨rfl, he1⟩) fun h => by cases h⟩
end
/-! ### A room -/
def room14 (sp : Nat) : LogS × Nat := makeL (newChip 16 8 128 sp) 3
theorem room14_ok : (room14 0).2 = 0 ∧ (room14 1).2 = 0 := by decide +kernel
theorem room14_fit {sp : Nat} (h : sp ≤ 1) : (room14 sp).2 = 0 ∧ (room14 sp).1.facts = [] ∧ (room14 sp).1.era = 3 ∧ (newChip 16 8 128 sp).SameGeo (room14 sp).1.chip ∧ (room14 sp).1.Fit := by
  obtain ⟨k, f⟩ := makeL_keeps (c := newChip 16 8 128 sp) (era := 3) (by show (16 : Nat) < 20; decide) (by show (8 : Nat) ≤ 32; decide) (by show sp ≤ 4; omega)
  have hl : makeL (newChip 16 8 128 sp) 3 = room14 sp := rfl
  rw [hl] at k f
  refine ⟨?_, k.facts, k.era, k.geo, f⟩
  have h01 : sp = 0 ∨ sp = 1 := by omega
  rcases h01 with rfl | rfl
  · exact room14_ok.1
  · exact room14_ok.2
/-- a room: its chip, its log, its facts; the log lies beyond A and ahead of S -/
def RoomAt (A : Nat) (w : World) (B : Nat) (p q : Nat) (fv : Value) (F X : Nat → Prop) (M : PLoc) (s : LogS) : Prop :=
  w.heap[B]? = some (.cells #[.pointer (some ⟨p, 0, none⟩), .pointer (some ⟨q, 0, none⟩), fv] T.carracklaw14_room (0, 0)) ∧ M.p = p ∧ LogIn F X w q M s ∧
  (∀ x, F x → A ≤ x ∧ x < w.heap.size ∧ x ≠ B) ∧ (∀ x, X x → A ≤ x ∧ x < w.heap.size ∧ x ≠ B) ∧ A ≤ q ∧ q ≠ B ∧ A ≤ B
theorem carracklaw14_begun_spec (sp : UInt8) (w : World) : CallsR prog K.carracklaw14_begun #[bv sp] w fun v w' => Ext w w' ∧ ∃ B p q F X M, v = .tuple #[.pointer (some ⟨B, 0, none⟩), .bool true] ∧ RoomAt w.heap.size w' B p q (.slice none 0 0) F X M (room14 (sp.toNat % 2)).1 := by
  apply carracklaw14_begun.sh
  unfold carracklaw14_begun.body
  refine (carracklaw14_geo_spec sp w).mono ?_
  rintro _ w1 ⟨rfl, he1⟩
  have hs := sp.toNat_lt
  have hs1 := he1.size
  refine ⟨_, _, _, _, rfl, (cxNew w1 (nb := 16) (np := 8) (sz := 128) (sp := sp.toNat % 2) (by omega) (by omega) (by omega) (by omega) (by omega) (by omega) (by omega)).mono ?_⟩
  rintro _ w2 ⟨he2, p, rfl, hc2⟩
  have hs2 := he2.size
  have hsp : sp.toNat % 2 ≤ 1 := by omega
  generalize sp.toNat % 2 = n at *
  obtain ⟨h0, _⟩ := room14_fit hsp
  refine ⟨_, _, rfl, (log_Make_spec hc2 (fun x hx => hx.2) (fun x hx => hx.2) (by show (16 : Nat) < 20; decide) (by show (8 : Nat) ≤ 32; decide) (by show n ≤ 4; omega) (by decide)).mono ?_⟩
  rintro _ w3 ⟨hu3, _, hv⟩
  have hl : makeL (newChip 16 8 128 n) 3 = room14 n := rfl
  rw [hl] at hv
  obtain ⟨M, q, hM, rfl, hq1, hq2, X, _, hX, h3⟩ := hv h0
  have hs3 := hu3.size
  have e3 : Ext w w3 := (he1.trans he2).beyond hu3 fun x hx => by have := hx.1; omega
  refine ⟨_, _, rfl, ?_⟩
  intro B w4 hn4
  have hB := hn4.num
  have hs4 := hn4.size
  refine br_eq (fun _ => br_eq (fun _ => ⟨e3.trans hn4.upd, B, p, q, _, X, M, rfl, hn4.get, hM, h3.ext hn4.upd, fun x hx => ?_, fun x hx => ?_, by omega, by omega, by omega⟩) fun h => absurd rfl h) fun h => absurd rfl h
  · rcases hx with hx | hx
    · have := hx.1; have := hx.2; omega
    · omega
  · rcases hX x hx with hx | hx
    · have := hx.1; have := hx.2; omega
    · omega
end Go.Den
end
section
set_option linter.unusedVariables false
set_option linter.unusedSimpArgs false
namespace Go.Den
open Go.ChangeShapes Go.WideShapes Go.ChangeAt Go.RowKit
theorem Ext.below {w w' : World} (h : Ext w w') : Below w.heap.size w w' := ⟨h.os, h.tape, h.output, h.size, fun k hk => h.blk k hk (fun hf => hf)⟩
section
variable {H : Type} {enc : TypeId × Value → H} {P : Program}
theorem trodAll_stays (hl : laidOutB P = true) {W W' : World} (hb : Below W.heap.size W W') {sp : Nat → Bool} : ∀ {ts : List TypeId} {vs : List Value} {ds : List (DataW H)} {ps : List MemPlace}, (∀ t ∈ ts, P.readableRec t = true ∧ t < P.types.size) →
    DataW.TrodAll enc P W 0 (fun _ => true) true ts vs ds ps → (∀ x ∈ ps, x.block < W.heap.size) → (∀ x ∈ ps, sp x.block = true) → DataW.TrodAll enc P W' 0 sp true ts vs ds ps
  | [], _, _, _, _, h, _, _ => by
    obtain ⟨rfl, rfl, rfl⟩ := trodAll_nil h
    rfl
  | t :: ts, _, _, _, hr, h, hlt, hsp => by
    obtain ⟨v, vs1, d, ds1, a, b, rfl, rfl, rfl, h1, h2⟩ := trodAll_cons h
    exact ⟨a, b, WideElems.Trod_stays hl (hr t (by simp)).1 (hr t (by simp)).2 h1 (fun x hx => hb.same (hlt x (by simp [hx]))) (fun x hx => hsp x (by simp [hx])),
      trodAll_stays hl hb (fun u hu => hr u (by simp [hu])) h2 (fun x hx => hlt x (by simp [hx])) (fun x hx => hsp x (by simp [hx])), rfl⟩
/-- a law's answer: true, and all arguments as they were -/
theorem post_true (hl : laidOutB P = true) {f : Func} {s : ChangeSpec} {apart fresh handsOn again : Bool} {W W' : World} {args : Array Value} {ds gs : List (DataW H)} {before : List MemPlace} {tb : TypeId}
    (hW : DataW.Whole enc P f.params.toList s.vars apart W args.toList ds gs before) (hv : s.vars = []) (hrows : ∀ t ∈ f.params.toList, P.readableRec t = true ∧ t < P.types.size) (hb : Below W.heap.size W W')
    (ht : P.underlying tb = some .bool) (hres : f.resultTypes = #[tb]) (hfn : (s.fn H (ds ++ gs)) = { results := [.lit (.bool true)], args := ds }) :
    s.post enc P f apart fresh handsOn again W args (.bool true) W' := by
  have hlt := hW.lt
  have hW' := hW
  obtain ⟨p, q, hA, hV, hpq, hz, hn⟩ := hW'
  rw [hv] at hV
  obtain ⟨rfl, rfl⟩ := trodVars_none hV
  simp only [List.append_nil] at hpq
  subst hpq
  have hargs : ∀ sp : Nat → Bool, (∀ x ∈ before, sp x.block = true) → DataW.TrodAll enc P W' 0 sp true f.params.toList args.toList ds before := fun sp hsp => trodAll_stays hl hb hrows hA hlt hsp
  have hresT : ∀ (b : Nat) (sp : Nat → Bool) (hd : Bool), DataW.TrodAll enc P W' b sp hd f.resultTypes.toList ((Value.bool true).resultList f.resultTypes.size) [.lit (.bool true)] [] := by
    intro b sp hd
    rw [hres]
    exact trodAll_cons_mk (shut_bool ht _) trodAll_mk0
  refine ⟨ds, [], before, [], before, [], hW, ?_, ?_, ?_, hb.frame _, fun _ => ⟨?_, .lit (.bool true) :: ds, [], before, ⟨before, [], ?_, ?_, by simp, ?_, hn⟩, fun p hp _ => hp⟩⟩
  · rw [hfn]; exact hresT _ _ _
  · rw [hfn]; exact hargs _ (fun x hx => by simpa using hlt x hx)
  · rw [hv, hfn]; rfl
  · exact ok_one hres rfl (okWide_bool_mk ht _)
  · have := trodAll_append (hargs _ (fun _ _ => rfl)) (hresT 0 (fun _ => true) true)
    exact this
  · rw [hv]; rfl
  · intro b off hp
    have hbl := hlt _ hp
    rw [hb.frozen (p := ⟨b, off, none⟩) hbl]
    exact hz b off hp
/-! ### Arguments -/
end
end Go.Den
end
section
set_option linter.unusedVariables false
set_option linter.unusedSimpArgs false
namespace Go.Den
open Go.ChangeShapes Go.WideShapes Go.ChangeAt Go.RowKit
section
variable {H : Type} {enc : TypeId × Value → H} {P : Program}
end
end Go.Den
end
section
set_option linter.unusedVariables false
set_option linter.unusedSimpArgs false
namespace Go.Den
open Go.ChangeShapes Go.WideShapes Go.ChangeAt Go.RowKit
section
variable {H : Type} {enc : TypeId × Value → H} {P : Program}
/-- within the reach -/
def Fits (P : Program) (t : TypeId) (d : DataW H) : Prop := ∀ n ∈ d.weights P t, n ≤ reachBytes
theorem Fits.len {t e : TypeId} {elems spare : List (DataW H)} (h : Fits P t (.slice elems spare)) (hu : P.underlying t = some (.slice e)) : (elems.length + spare.length) * P.bytesOf e ≤ reachBytes := by
  refine h _ ?_
  simp only [DataW.weights, hu, List.mem_cons]
  exact .inl trivial
theorem Fits.part {t : TypeId} {fs : Array Field} {parts : List (DataW H)} (h : Fits P t (.agg parts)) (hu : P.underlying t = some (.struct fs)) {i : Nat} {f : Field} {d : DataW H} (hf : fs[i]? = some f) (hd : parts[i]? = some d) : Fits P f.type d := fun n hn => by
  refine h n ?_
  simp only [DataW.weights, hu]
  refine DataW.weights_mem_each (j := i) ?_ hd n hn
  simp [hf]
end
end Go.Den
end
