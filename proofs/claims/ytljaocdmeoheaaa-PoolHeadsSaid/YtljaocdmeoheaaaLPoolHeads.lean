/- Layer 4's law PoolHeads: heads as the document's. -/
import Derived.Test.YtljaocdmeoheaaaSLaw4
import Derived.Test.YtljaocdmeoheaaaMHead
set_option linter.unusedVariables false
set_option linter.unusedSimpArgs false
set_option maxRecDepth 4000
namespace Go.Den

theorem carracklaw04_PoolHeads_spec (size : Int) (hsz : size < 9223372036854775808) (hsz0 : -9223372036854775808 ≤ size) (h : Head) (ho : h.Ok) {a : Option Addr} {b : List UInt8} {c : Nat} {w : World} (hb : BytesAt w a b) (hc : b.length ≤ c) :
    CallsR prog K.carracklaw04_PoolHeads #[.int .i64 size, headV h, .slice a b.length c] w fun v w' => v = .bool true ∧ Ext w w' := by
  apply carracklaw04_PoolHeads.sh
  intro B w₁ hn1
  have hB : B = w.heap.size := hn1.num
  have hg1 : w₁.heap[B]? = some (.cells h.vals.toArray T.api_Head (0, 0)) := hn1.get
  have e1 := hn1.upd
  refine ⟨_, _, _, head_cells hg1, ?_⟩
  refine (pool_PutHead_spec size h ho w₁).mono ?_
  rintro _ w₂ ⟨he2, a1, c1, rfl, hb1, hf1, hc1⟩
  have e2 := e1.trans he2
  have hg2 := Ext.get he2 hg1
  refine ⟨_, _, _, _, rfl, _, _, _, head_cells hg2, ?_⟩
  refine (carrackref04_PutHead_spec size h ho w₂ hsz hsz0).mono ?_
  rintro _ w₃ ⟨he3, a2, c2, rfl, hb2, hf2, _⟩
  have e3 := e2.trans he3
  refine ⟨_, _, _, _, rfl, ?_⟩
  refine (pool_GetHead_spec (RowAt.ext hb e3) hc).mono ?_
  rintro _ w₄ ⟨he4, rfl⟩
  have e4 := e3.trans he4
  refine ⟨_, _, _, _, rfl, fun B2 w₅ hn5 => ?_⟩
  rw [head_zero] at hn5
  refine head_put (h := (getHead b).1) hn5.get rfl fun w₆ hput6 => ?_
  have hB2 : B2 = w₄.heap.size := hn5.num
  have hs4 := e4.size
  have e46 : Ext w₄ w₆ := Put.upd hn5.upd hput6 (.inl (by omega))
  have e6 := e4.trans e46
  refine (carrackref04_GetHead_spec (RowAt.ext hb e6) hc).mono ?_
  rintro _ w₇ ⟨he7, rfl⟩
  have e7 := e6.trans he7
  have hg7 := Ext.get he7 hput6.get
  refine ⟨_, _, _, _, rfl, fun B3 w₈ hn8 => ?_⟩
  rw [head_zero] at hn8
  refine head_put (h := (getHead b).1) hn8.get rfl fun w₉ hput9 => ?_
  have hB3 : B3 = w₇.heap.size := hn8.num
  have hs7 := e7.size
  have hs67 := he7.size
  have hB2w : B2 < w₆.heap.size := (Array.getElem?_eq_some_iff.1 hput6.get).1
  have e79 : Ext w₇ w₉ := Put.upd hn8.upd hput9 (.inl (by omega))
  have e9 := e7.trans e79
  have hg9 := Ext.get e79 hg7
  have b1 : BytesAt w₉ a1 (putHead size h).1 := RowAt.ext (RowAt.ext hb1 he3) ((he4.trans e46).trans (he7.trans e79))
  have b2 : BytesAt w₉ a2 (putHead size h).1 := RowAt.ext hb2 ((he4.trans e46).trans (he7.trans e79))
  have hpl : (putHead size h).1.length ≤ 1000 := by
    unfold putHead
    split
    · simp
    · rename_i hcnd
      have hs : isSize size = true := by
        cases hs : isSize size with
        | true => rfl
        | false => exact absurd (.inr hs) hcnd
      have hs2 := putHead_size hs
      have hbl := h.body_length
      simp [isSize] at hs
      simp only []
      rw [pageOf_length _ _ _ (by omega)]
      omega
  refine ⟨fun u => Ext w₉ u, ?_, ?_⟩
  · refine (carrackref00_Same_spec (c := c1) (d := c2) b1 b2 (by omega)).mono ?_
    rintro _ w₁₀ ⟨rfl, he10⟩
    refine ⟨_, rfl, ?_⟩
    simp only [beq_self_eq_true, Bool.not_true, br_false]
    refine br_ne (fun h => (h rfl).elim) fun _ => ?_
    refine ⟨_, _, _, head_cells (Ext.get he10 hg9), _, _, _, head_cells (Ext.get he10 hput9.get), ?_⟩
    simp only [beq_self_eq_true, Bool.and_self, Bool.not_true, br_false]
    exact br_ne (fun h => (h rfl).elim) fun _ => he10
  intro w₁₁ he11
  have e11 := e9.trans he11
  refine br_eq (fun h0 => ?_) fun h0 => ?_
  · have hput : ¬ (h.may = false ∨ isSize size = false) := by
      intro hcnd
      have : (putHead size h).2 = 2 := by unfold putHead; rw [if_pos hcnd]
      omega
    have hm : h.may = true := by
      cases hm : h.may with
      | true => rfl
      | false => exact absurd (.inl hm) hput
    have hs : isSize size = true := by
      cases hs : isSize size with
      | true => rfl
      | false => exact absurd (.inr hs) hput
    have hpe : (putHead size h).1 = pageOf size.toNat 1 h.body := by unfold putHead; rw [if_neg hput]
    have hsn : isSize (size.toNat : Int) = true := by
      have := hs
      simp [isSize] at this ⊢
      omega
    have hgh : getHead (putHead size h).1 = (h, 0) := by rw [hpe]; exact getHead_pageOf hsn ho hm
    have b11 := RowAt.ext b1 he11
    refine (pool_GetHead_spec b11 hc1).mono ?_
    rintro _ w₁₂ ⟨he12, rfl⟩
    rw [hgh]
    have e12 := e11.trans he12
    refine ⟨_, _, _, _, rfl, fun B4 w₁₃ hn13 => ?_⟩
    rw [head_zero] at hn13
    refine head_put (h := h) hn13.get rfl fun w₁₄ hput14 => ?_
    have hB4 : B4 = w₁₂.heap.size := hn13.num
    have hs12 := e12.size
    have e14 : Ext w₁₂ w₁₄ := Put.upd hn13.upd hput14 (.inl (by omega))
    have hgB : w₁₄.heap[B]? = some (.cells h.vals.toArray T.api_Head (0, 0)) :=
      Ext.get ((((((he3.trans he4).trans e46).trans he7).trans e79).trans he11).trans (he12.trans e14)) hg2
    refine ⟨_, _, _, head_cells hput14.get, _, _, _, head_cells hgB, ?_⟩
    simp only [beq_self_eq_true, Bool.and_self, br_true]
    refine br_eq (fun _ => ?_) fun h => (h rfl).elim
    refine (carracklaw04_works_spec _).mono ?_
    rintro _ w₁₅ ⟨rfl, he⟩
    exact ⟨_, rfl, rfl, (e12.trans e14).trans he⟩
  · refine (carracklaw04_works_spec _).mono ?_
    rintro _ w₁₆ ⟨rfl, he⟩
    exact ⟨_, rfl, rfl, e11.trans he⟩

end Go.Den
