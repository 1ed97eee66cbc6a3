/- Contract of seal.Get: what a page says. -/
import Derived.Test.YtljaocdmeoheaaaSSeal
set_option linter.unusedVariables false
set_option linter.unusedSimpArgs false
namespace Go.Den

theorem ReaderAt.upd {F : Nat → Prop} {w w' : World} {r : Nat} {l : List UInt8} {no : Bool} (h : ReaderAt w r l no) (k : Ext w w') : ReaderAt w' r l no := by
  obtain ⟨a, c, hr, hb, hc, hne⟩ := h.at_
  exact ⟨a, c, Ext.get k hr, hb.ext k, hc, hne⟩

theorem fromLE_one (b : UInt8) : fromLE [b] = b.toNat := by simp [fromLE]

/-- the results of seal.Get as a value -/
def GetIs (w : World) (v : Value) (r : UInt8 × List UInt8 × Nat) : Prop :=
  ∃ a c, v = .tuple #[bv r.1, .slice a r.2.1.length c, .int .i64 (r.2.2 : Nat)] ∧ BytesAt w a r.2.1 ∧ r.2.1.length ≤ c

theorem seal_Get_spec {a : Option Addr} {b : List UInt8} {c : Nat} {w : World} (h : BytesAt w a b) (hc : b.length ≤ c) :
    CallsR prog K.seal_Get #[.slice a b.length c] w fun v w' => Ext w w' ∧ GetIs w' v (getPage b) := by
  apply seal_Get.sh
  unfold seal_Get.body
  refine (seal_isSize_spec _ w).mono ?_
  rintro _ _ ⟨rfl, rfl⟩
  refine ⟨_, rfl, ?_⟩
  rename_i w
  cases hs : isSize b.length with
  | false =>
    simp only [Bool.not_false, br_true]
    have hg : getPage b = (0, [], 2) := by unfold getPage; rw [if_pos hs]
    rw [hg]
    exact ⟨Upd.refl _ _, none, 0, rfl, BytesAt.nil _ _, Nat.le_refl _⟩
  | true =>
    have hs' := hs
    simp [isSize] at hs'
    simp only [Bool.not_true, br_false]
    refine (seal_Blank_spec h (by omega)).mono ?_
    rintro _ _ ⟨rfl, rfl⟩
    rename_i w
    refine ⟨_, rfl, ?_⟩
    cases hbl : isBlank b with
    | true =>
      have hg : getPage b = (0, [], 6) := by unfold getPage; rw [if_neg (by rw [hs]; simp), if_pos hbl]
      rw [br_true, hg]
      exact ⟨Upd.refl _ _, none, 0, rfl, BytesAt.nil _ _, Nat.le_refl _⟩
    | false =>
      rw [br_false]
      refine slice_bytes_to h (by omega) (by omega) hc (.inr rfl) fun c1 hb5 hc1 => ?_
      rw [tn5] at hb5 hc1 ⊢
      refine (ends_New_spec _ _ c1 w hb5 (by simp; omega)).mono ?_
      rintro _ w₃ ⟨r, rfl, hfr, hrd, he3⟩
      refine ⟨_, rfl, ?_⟩
      have hl5 : (b.take 5).length = 5 := by simp; omega
      refine (ends_Reader_Take_spec r 2 _ false w₃ rfl hrd).mono ?_
      rintro _ w₄ ⟨hu4, hv⟩
      rw [if_neg (by rw [hl5]; simp)] at hv
      obtain ⟨rfl, hrd4⟩ := hv
      refine ⟨_, _, rfl, ?_⟩
      have hE4 : Ext w w₄ := Upd.beyond he3 hu4 fun x hx => by rw [hx]; exact hfr
      have hb4 := h.ext hE4
      refine slice_bytes_from hb4 (by omega) (by omega) hc fun a2 c2 hb2 hc2 _ _ _ => ?_
      rw [tn2] at hb2 hc2 ⊢
      refine (seal_Noughts_spec hb2 (by simp; omega)).mono ?_
      rintro _ _ ⟨rfl, rfl⟩
      rename_i w₄
      refine ⟨_, rfl, ?_⟩
      have ht2 : (b.take 5).take 2 = b.take 2 := by rw [List.take_take]; rfl
      have hlt2 := fromLE_lt (b.take 2)
      have h256 : (256 : Nat) ^ 2 = 65536 := by decide
      have hlen2 : (b.take 2).length = 2 := by simp; omega
      rw [hlen2, h256] at hlt2
      rw [ht2, w64 (by omega) (by omega)]
      refine br_ne (fun hne => ?_) fun heq => ?_
      · have hg : getPage b = (0, [], 7) := by
          unfold getPage
          rw [if_neg (by rw [hs]; simp), if_neg (by rw [hbl]; simp), if_pos (by intro e; apply hne; rw [e])]
        rw [hg]
        exact ⟨hE4, none, 0, rfl, BytesAt.nil _ _, Nat.le_refl _⟩
      · have heq' : fromLE (b.take 2) = noughts (b.drop 2) := by omega
        refine (ends_Reader_Take_spec r 1 _ false w₄ rfl hrd4).mono ?_
        rintro _ w₅ ⟨hu5, hv⟩
        have hd2 : ((b.take 5).drop 2).length = 3 := by simp; omega
        rw [if_neg (by rw [hd2]; simp)] at hv
        obtain ⟨rfl, hrd5⟩ := hv
        refine ⟨_, _, rfl, ?_⟩
        refine (ends_Reader_Take_spec r 2 _ false w₅ rfl hrd5).mono ?_
        rintro _ w₆ ⟨hu6, hv⟩
        have hd3 : (((b.take 5).drop 2).drop 1).length = 2 := by simp; omega
        rw [if_neg (by rw [hd3]; simp)] at hv
        obtain ⟨rfl, hrd6⟩ := hv
        refine ⟨_, _, rfl, ?_⟩
        have hE6 : Ext w w₆ := Upd.beyond (Upd.beyond hE4 hu5 fun x hx => by rw [hx]; exact hfr) hu6 fun x hx => by rw [hx]; exact hfr
        have hk : ((b.take 5).drop 2).take 1 = [b.getD 2 0] := by
          apply List.ext_getElem?
          intro j
          cases j with
          | zero =>
            have : 2 < b.length := by omega
            simp [List.getD, this]
          | succ j => simp; omega
        have hn : (((b.take 5).drop 2).drop 1).take 2 = (b.drop 3).take 2 := by
          rw [List.drop_drop, List.drop_take, List.take_take]
          rfl
        rw [hk, hn, fromLE_one]
        have hltn := fromLE_lt ((b.drop 3).take 2)
        have hlenn : ((b.drop 3).take 2).length = 2 := by simp; omega
        rw [hlenn, h256] at hltn
        have hklt := (b.getD 2 0).toNat_lt
        have ek1 : b.getD 2 0 < 1 ↔ ((b.getD 2 0).toNat : Int) < 1 := by rw [UInt8.lt_iff_toNat_lt]; show (b.getD 2 0).toNat < 1 ↔ _; omega
        have ek7 : b.getD 2 0 > 7 ↔ ((b.getD 2 0).toNat : Int) > 7 := by show (7 : UInt8) < b.getD 2 0 ↔ _; rw [UInt8.lt_iff_toNat_lt]; show 7 < (b.getD 2 0).toNat ↔ _; omega
        have hg0 : getPage b = if b.getD 2 0 < 1 ∨ b.getD 2 0 > 7 ∨ fromLE ((b.drop 3).take 2) > b.length - 5 ∨ isBlank (b.drop (5 + fromLE ((b.drop 3).take 2))) = false then (0, [], 5)
            else (b.getD 2 0, (b.take (5 + fromLE ((b.drop 3).take 2))).drop 5, 0) := by
          unfold getPage
          rw [if_neg (by rw [hs]; simp), if_neg (by rw [hbl]; simp), if_neg (by intro h; exact h heq')]
        generalize hN : fromLE ((b.drop 3).take 2) = n at *
        have bad : ∀ u, Ext w u → (b.getD 2 0 < 1 ∨ b.getD 2 0 > 7 ∨ n > b.length - 5 ∨ isBlank (b.drop (5 + n)) = false) → Ext w u ∧ GetIs u (.tuple #[.int .u8 0, .slice none 0 0, .int .i64 5]) (getPage b) := by
          intro u hu hcond
          rw [hg0, if_pos hcond]
          exact ⟨hu, none, 0, rfl, BytesAt.nil _ _, Nat.le_refl _⟩
        refine br_dec (fun h1 => bad _ hE6 (.inl (ek1.2 h1))) fun h1 => br_dec (fun h7 => bad _ hE6 (.inr (.inl (ek7.2 h7)))) fun h7 => ?_
        refine (seal_Body_spec _ _).mono ?_
        rintro _ _ ⟨rfl, rfl⟩
        rename_i w₆
        refine ⟨_, rfl, ?_⟩
        rw [hs, if_pos rfl, w64 (by omega) (by omega)]
        refine br_dec (fun hbig => bad _ hE6 (.inr (.inr (.inl (by omega))))) fun hbig => ?_
        rw [w64 (by omega) (by omega)]
        have e5n : (5 + (n : Int)) = ((5 + n : Nat) : Int) := by omega
        rw [e5n]
        have hb6 := h.ext hE6
        refine slice_bytes_from hb6 (by omega) (by omega) hc fun a3 c3 hb3 hc3 _ _ _ => ?_
        rw [Int.toNat_natCast] at hb3 hc3 ⊢
        refine (seal_Blank_spec hb3 (by simp; omega)).mono ?_
        rintro _ _ ⟨rfl, rfl⟩
        rename_i w₆
        refine ⟨_, rfl, ?_⟩
        cases hbn : isBlank (b.drop (5 + n)) with
        | false => simp only [Bool.not_false, br_true]; exact bad _ hE6 (.inr (.inr (.inr hbn)))
        | true =>
          simp only [Bool.not_true, br_false]
          refine slice_bytes_mid hb6 (by omega) (by omega) (by omega) hc (.inl rfl) fun a4 c4 hb4 hc4 => ?_
          rw [Int.toNat_natCast, tn5] at hb4 hc4 ⊢
          refine append_copy hb4 (by simp; omega) fun a5 c5 w₇ he7 hb7 hc7 _ _ => ?_
          refine ⟨hE6.trans he7, ?_⟩
          have hgood : ¬ (b.getD 2 0 < 1 ∨ b.getD 2 0 > 7 ∨ n > b.length - 5 ∨ isBlank (b.drop (5 + n)) = false) := by
            rintro (h' | h' | h' | h')
            · exact h1 (ek1.1 h')
            · exact h7 (ek7.1 h')
            · omega
            · rw [hbn] at h'; cases h'
          rw [hg0, if_neg hgood, wu8 (by omega) (by omega)]
          exact ⟨a5, c5, rfl, hb7, hc7⟩

end Go.Den
