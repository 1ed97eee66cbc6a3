/- Contracts of the reference of layer 2: Put, Get. -/
import Derived.Test.YtljaocdmeoheaaaSRef
set_option linter.unusedVariables false
set_option linter.unusedSimpArgs false
set_option maxRecDepth 4000
namespace Go.Den

theorem leB_two (m : Nat) : leB m 2 = [UInt8.ofNat (m % 256), UInt8.ofNat (m / 256 % 256)] := rfl
theorem getD_append_left {l m : List UInt8} {i : Nat} (h : i < l.length) : (l ++ m).getD i 0 = l.getD i 0 := by simp [List.getD, List.getElem?_append_left h]

theorem append_bytes' {w : World} {a : Option Addr} {l : List UInt8} {n m cap : Nat} {ax : Option Addr} {xs : List UInt8} {cx : Nat} (hn : n = l.length) (hm : m = xs.length) (h : OwnAt w a l.length cap T.uint8 1 (l.map bv)) (hx : BytesAt w ax xs)
    (hb : l.length + xs.length ≤ 100000000000000) {K : Option Addr → Nat → Nat → World → Prop}
    (hk : ∀ a' c' w', Upd (fun b => a = some ⟨b, 0, none⟩) w w' → OwnAt w' a' (l ++ xs).length c' T.uint8 1 ((l ++ xs).map bv) → (a' = a ∨ ∃ b, a' = some ⟨b, 0, none⟩ ∧ w.heap.size ≤ b) → K a' (l ++ xs).length c' w') :
    appendP T.uint8 1 1 [Value.int .u8 0] a n cap (.slice ax m cx) w K := by
  subst hn; subst hm
  exact append_bytes h hx hb hk

theorem carrackref02_Put_spec (size k : Int) (kind : UInt8) (hk : k = (kind.toNat : Int)) {a : Option Addr} {body : List UInt8} {c : Nat} {w : World} (h : BytesAt w a body) (hn : body.length ≤ 281474976710656) (hsz : size < 9223372036854775808) (hsz0 : -9223372036854775808 ≤ size) :
    CallsR prog K.carrackref02_Put #[.int .i64 size, .int .u8 k, .slice a body.length c] w fun v w' => Ext w w' ∧
      if isSize size = false ∨ kind < 1 ∨ kind > 7 then v = .tuple #[.slice none 0 0, .int .i64 2]
      else if (body.length : Int) > size - 5 then v = .tuple #[.slice none 0 0, .int .i64 3]
      else ∃ a c, v = .tuple #[.slice a size.toNat c, .int .i64 0] ∧ BytesAt w' a (pageOf size.toNat kind body) ∧ Fresh w a ∧ size.toNat ≤ c := by
  subst hk
  have hklt := kind.toNat_lt
  apply carrackref02_Put.sh
  have e1 : kind < 1 ↔ (kind.toNat : Int) < 1 := by rw [UInt8.lt_iff_toNat_lt]; show kind.toNat < 1 ↔ _; omega
  have e7 : kind > 7 ↔ (kind.toNat : Int) > 7 := by show (7 : UInt8) < kind ↔ _; rw [UInt8.lt_iff_toNat_lt]; show 7 < kind.toNat ↔ _; omega
  refine ⟨fun u => u = w ∧ isSize size = true ∧ ¬ kind < 1 ∧ ¬ kind > 7, ?_, ?_⟩
  · refine (carrackref02_Size_spec _ w).mono ?_
    rintro _ _ ⟨rfl, rfl⟩
    refine ⟨_, rfl, ?_⟩
    cases hs : isSize size with
    | false => simp only [Bool.not_false, br_true, true_or, if_true]; exact ⟨Upd.refl _ _, trivial⟩
    | true =>
      simp only [Bool.not_true, br_false]
      refine br_dec (fun h1 => ⟨Upd.refl _ _, ?_⟩) fun h1 => br_dec (fun h7 => ⟨Upd.refl _ _, ?_⟩) fun h7 => ⟨by trivial, by trivial, fun h => h1 (e1.1 h), fun h => h7 (e7.1 h)⟩
      · rw [if_pos (.inr (.inl (e1.2 h1)))]; trivial
      · rw [if_pos (.inr (.inr (e7.2 h7)))]; trivial
  · rintro w' ⟨rfl, hs, hk1, hk7⟩
    have hs' := hs
    simp [isSize] at hs'
    have hcond : ¬ (isSize size = false ∨ kind < 1 ∨ kind > 7) := by rw [hs]; simp only [Bool.true_eq_false, false_or]; exact fun h => h.elim hk1 hk7
    simp only [if_neg hcond]
    rw [w64 (x := size - 5) (by omega) (by omega)]
    refine br_dec (fun hl => ?_) fun hl => ?_
    · simp only [if_pos hl]; exact ⟨Upd.refl _ _, by trivial⟩
    simp only [if_neg hl]
    obtain ⟨m, hm⟩ : ∃ m : Nat, size = (m + 5 : Nat) := ⟨(size - 5).toNat, by omega⟩
    subst hm
    have hbl' : body.length ≤ m := by omega
    refine ⟨by omega, by omega, fun B w₃ hn3 => ?_⟩
    have hB : B = w'.heap.size := hn3.num
    have hs3 := hn3.size
    have t1 : Int.tmod ((body.length : Nat) : Int) 256 = ((body.length % 256 : Nat) : Int) := tmod_nat _ 256
    have t2 : IntKind.i64.wrap (Int.tdiv ((body.length : Nat) : Int) 256) = ((body.length / 256 : Nat) : Int) := by
      have := tdiv_nat body.length 256
      rw [show ((256 : Nat) : Int) = 256 from rfl] at this
      rw [this]; exact w64n (by omega)
    rw [t1, t2, bv_mod, bv_mod, Nat.mod_mod] at hn3
    have ho3 : OwnAt w₃ (some ⟨B, 0, none⟩) ([0, 0, kind] ++ leB body.length 2).length 5 T.uint8 1 (([0, 0, kind] ++ leB body.length 2).map bv) := by
      have := OwnAt.new (n := 5) (size := 1) hn3 (by simp)
      exact this
    have hpre : ([0, 0, kind] ++ leB body.length 2).length = 5 := by simp [leB_length]
    refine append_bytes' (cap := 5) hpre.symm rfl ho3 (h.ext hn3.upd) (by omega) fun a1 c1 w₄ hu4 ho4 hf4 => ?_
    have hfr4 : Fresh w' a1 := by
      rcases hf4 with rfl | ⟨b, rfl, hb⟩
      · exact Fresh.some (by omega)
      · exact Fresh.some (by omega)
    have he4 : Ext w' w₄ := Upd.beyond hn3.upd hu4 (fun x hx => by cases hx; omega)
    have hl4 : ([0, 0, kind] ++ leB body.length 2 ++ body).length = 5 + body.length := by rw [List.length_append, hpre]
    generalize hP : [0, 0, kind] ++ leB body.length 2 ++ body = P at *
    refine ⟨fun a l c u => ∃ i : Nat, i ≤ m - body.length ∧ l = (P ++ List.replicate i 255).length ∧ OwnAt u a (P ++ List.replicate i 255).length c T.uint8 1 ((P ++ List.replicate i 255).map bv) ∧ Ext w' u ∧ Fresh w' a, fun _ l _ _ => m + 5 - l, ⟨0, by omega, by simp, by simpa using ho4, he4, hfr4⟩, ?_⟩
    rintro a2 l2 c2 w₅ ⟨i, hi, rfl, ho5, he5, hf5⟩
    have hl5 : (P ++ List.replicate i (255 : UInt8)).length = 5 + body.length + i := by simp [hl4]
    refine br_dec (fun hlt => ?_) fun hge => ?_
    · intro B2 w₆ hn6
      refine append_byte (x := 255) ho5 hn6 (by omega) fun a3 c3 w₇ hu7 ho7 hf7 => ?_
      have hr : P ++ List.replicate i (255 : UInt8) ++ [255] = P ++ List.replicate (i + 1) 255 := by
        rw [List.append_assoc, ← List.replicate_append_replicate (n := i) (m := 1)]; rfl
      rw [hr] at ho7 ⊢
      refine ⟨⟨i + 1, by omega, rfl, ho7, Upd.beyond he5 hu7 (fun x hx => hf5 _ hx), ?_⟩, by simp; simp at hlt hl5; omega⟩
      rcases hf7 with rfl | ⟨b, rfl, hb⟩
      · exact hf5
      · exact Fresh.some (by have := he5.size; omega)
    · have hi' : i = m - body.length := by omega
      subst hi'
      have hrest : P ++ List.replicate (m - body.length) (255 : UInt8) = [0, 0] ++ pageRest (m + 5) kind body := by
        rw [← hP, pageRest]
        simp only [List.append_assoc, List.cons_append, List.nil_append]
        rw [show m + 5 - 5 - body.length = m - body.length by omega]
      rw [hrest] at ho5 ⊢
      have hPR := pageRest_length (m + 5) kind body (by omega)
      have hl0 : ([0, 0] ++ pageRest (m + 5) kind body : List UInt8).length = m + 5 := by simp [hPR]
      have hcap := ho5.2.1
      obtain ⟨b, rfl⟩ : ∃ b, a2 = some ⟨b, 0, none⟩ := by
        obtain ⟨_, _, hx⟩ := ho5
        rcases hx with ⟨_, hx, _⟩ | ⟨b, cur, hx, _⟩
        · omega
        · exact ⟨b, hx⟩
      refine slice_bytes_from (l := [0, 0] ++ pageRest (m + 5) kind body) ho5.row (by omega) (by omega) hcap fun a' c' hb' _ _ _ _ => ?_
      have hd2 : ([0, 0] ++ pageRest (m + 5) kind body : List UInt8).drop (Int.toNat 2) = pageRest (m + 5) kind body := rfl
      rw [hd2] at hb' ⊢
      refine (carrackref02_Noughts_spec hb' (by omega)).mono ?_
      rintro _ _ ⟨rfl, rfl⟩
      rename_i w₅
      generalize hN : noughts (pageRest (m + 5) kind body) = N
      have hnl := noughts_le (pageRest (m + 5) kind body)
      refine ⟨_, rfl, by omega, by omega, ?_⟩
      have t3 : Int.tmod (N : Int) 256 = ((N % 256 : Nat) : Int) := tmod_nat _ 256
      have t4 : IntKind.i64.wrap (Int.tdiv (N : Int) 256) = ((N / 256 : Nat) : Int) := by
        have := tdiv_nat N 256
        rw [show ((256 : Nat) : Int) = 256 from rfl] at this
        rw [this]; exact w64n (by omega)
      rw [t3, t4, bv_mod, bv_mod, Nat.mod_mod]
      refine ⟨by omega, by omega, ?_⟩
      simp only [nilC_some', add_lit, tn0, tn1, Nat.zero_mul, Nat.one_mul, Nat.add_zero, Nat.zero_add]
      refine own_store ho5 (by simp) fun w₉ hu9 ho9 => ?_
      refine ⟨by omega, by omega, ?_⟩
      simp only [nilC_some', add_lit, tn0, tn1, Nat.zero_mul, Nat.one_mul, Nat.add_zero, Nat.zero_add]
      refine own_store ho9 (by simp) fun w₁₀ hu10 ho10 => ?_
      have hbn : w'.heap.size ≤ b := hf5 _ rfl
      refine ⟨Upd.beyond (Upd.beyond he5 hu9 (fun x hx => by omega)) hu10 (fun x hx => by omega), _, _, by rw [hl0]; rfl, ?_, hf5, by rw [← hl0]; exact hcap⟩
      have := ho10.row
      have hfin : pageOf ((m + 5 : Nat) : Int).toNat kind body = [UInt8.ofNat (N % 256), UInt8.ofNat (N / 256 % 256)] ++ pageRest (m + 5) kind body := by
        rw [Int.toNat_natCast, pageOf, hN, leB_two]
      rw [hfin]
      show RowAt w₁₀ _ (List.map bv _)
      simp only [List.map_append, List.map_cons, List.map_nil, List.cons_append, List.nil_append] at this ⊢
      exact this

theorem carrackref02_Get_spec {a : Option Addr} {b : List UInt8} {c : Nat} {w : World} (h : BytesAt w a b) (hc : b.length ≤ c) :
    CallsR prog K.carrackref02_Get #[.slice a b.length c] w fun v w' => Ext w w' ∧ GetIs w' v (getPage b) := by
  apply carrackref02_Get.sh
  unfold carrackref02_Get.body
  refine (carrackref02_Size_spec _ w).mono ?_
  rintro _ _ ⟨rfl, rfl⟩
  rename_i w
  refine ⟨_, rfl, ?_⟩
  unfold getPage
  cases hs : isSize b.length with
  | false =>
    simp only [Bool.not_false, br_true, if_true]
    exact ⟨Upd.refl _ _, none, 0, rfl, BytesAt.nil _ _, by simp⟩
  | true =>
  simp only [Bool.not_true, br_false]
  rw [if_neg (by simp)]
  have hs' := hs
  simp [isSize] at hs'
  refine (carrackref02_Blank_spec h (by omega)).mono ?_
  rintro _ _ ⟨rfl, rfl⟩
  rename_i w
  refine ⟨_, rfl, br_intro (fun hb => ?_) fun hb => ?_⟩
  · rw [if_pos hb]
    exact ⟨Upd.refl _ _, none, 0, rfl, BytesAt.nil _ _, by simp⟩
  rw [if_neg (by rw [hb]; simp)]
  intro w₃ hd3
  have hb3 := RowAt.ext h hd3.upd
  refine ⟨fun u => u = w₃, rfl, idx_byteS (l := b) (fun u hu => hu ▸ hb3) ⟨_, rfl⟩ (by omega) (by omega) (idx_byteS (l := b) (fun u hu => hu ▸ hb3) ⟨_, rfl⟩ (by omega) (by omega) ?_)⟩
  refine slice_bytes_from hb3 (by omega) (by omega) hc fun a1 c1 hb1 _ _ _ _ => ?_
  rw [tn2] at hb1 ⊢
  refine (carrackref02_Noughts_spec hb1 (by simp; omega)).mono ?_
  rintro _ _ ⟨rfl, rfl⟩
  rename_i w₃
  refine ⟨_, rfl, rfl, ?_⟩
  rw [tn0, tn1]
  have hbyte : ∀ i : Nat, (b.getD i 0).toNat < 256 := fun i => (b.getD i 0).toNat_lt
  have two : ∀ i : Nat, i + 1 < b.length → IntKind.i64.wrap (IntKind.i64.wrap ((b.getD i 0).toNat : Int) + IntKind.i64.wrap ((256 : Int) * IntKind.i64.wrap ((b.getD (i + 1) 0).toNat : Int))) = ((fromLE ((b.drop i).take 2) : Nat) : Int) := by
    intro i hi
    have h1 := hbyte i
    have h2 := hbyte (i + 1)
    have q1 : IntKind.i64.wrap ((b.getD i 0).toNat : Int) = ((b.getD i 0).toNat : Int) := w64n (by omega)
    have q2 : IntKind.i64.wrap ((b.getD (i + 1) 0).toNat : Int) = ((b.getD (i + 1) 0).toNat : Int) := w64n (by omega)
    have q3 : IntKind.i64.wrap ((256 : Int) * ((b.getD (i + 1) 0).toNat : Int)) = (256 : Int) * ((b.getD (i + 1) 0).toNat : Int) := w64 (by omega) (by omega)
    rw [q1, q2, q3, w64 (by omega) (by omega)]
    have hd : (b.drop i).take 2 = [b.getD i 0, b.getD (i + 1) 0] := by
      rw [List.drop_eq_getElem_cons (by omega), List.drop_eq_getElem_cons (by omega), List.take_succ_cons, List.take_succ_cons, List.take_zero]
      simp [List.getD, hi, show i < b.length by omega]
    rw [hd]
    simp only [fromLE]
    omega
  have t0 := two 0 (by omega)
  rw [List.drop_zero] at t0
  have t3 := two 3 (by omega)
  rw [t0]
  refine br_ne (fun hne => ?_) fun heq => ?_
  · rw [if_pos (by omega)]
    exact ⟨hd3.upd, none, 0, rfl, BytesAt.nil _ _, by simp⟩
  rw [if_neg (by omega)]
  intro w₅ hd5
  have e5 : Ext w w₅ := hd3.upd.trans hd5.upd
  have hb5 := RowAt.ext h e5
  have e1 : b.getD 2 0 < 1 ↔ ((b.getD 2 0).toNat : Int) < 1 := by rw [UInt8.lt_iff_toNat_lt]; show (b.getD 2 0).toNat < 1 ↔ _; omega
  have e7 : b.getD 2 0 > 7 ↔ ((b.getD 2 0).toNat : Int) > 7 := by show (7 : UInt8) < b.getD 2 0 ↔ _; rw [UInt8.lt_iff_toNat_lt]; show 7 < (b.getD 2 0).toNat ↔ _; omega
  refine ⟨fun u => u = w₅, rfl, idx_byteS (l := b) (fun u hu => hu ▸ hb5) ⟨_, rfl⟩ (by omega) (by omega) (idx_byteS (l := b) (fun u hu => hu ▸ hb5) ⟨_, rfl⟩ (by omega) (by omega) ?_)⟩
  rw [show Int.toNat 3 = 3 from rfl, show Int.toNat 4 = 4 from rfl]
  rw [t3]
  generalize hn : fromLE ((b.drop 3).take 2) = n
  refine idx_byte hb5 (by omega) (by omega) ?_
  rw [tn2]
  refine br_dec (fun h1 => ?_) fun h1 => ?_
  · rw [if_pos (.inl (e1.2 h1))]
    exact ⟨e5, none, 0, rfl, BytesAt.nil _ _, by simp⟩
  refine idx_byte hb5 (by omega) (by omega) ?_
  rw [tn2]
  refine br_dec (fun h7 => ?_) fun h7 => ?_
  · rw [if_pos (.inr (.inl (e7.2 h7)))]
    exact ⟨e5, none, 0, rfl, BytesAt.nil _ _, by simp⟩
  have q5 : IntKind.i64.wrap (((b.length : Nat) : Int) - 5) = (b.length : Int) - 5 := w64 (by omega) (by omega)
  rw [q5]
  refine br_dec (fun hl => ?_) fun hl => ?_
  · rw [if_pos (.inr (.inr (.inl (by omega))))]
    exact ⟨e5, none, 0, rfl, BytesAt.nil _ _, by simp⟩
  have q6 : IntKind.i64.wrap ((5 : Int) + (n : Int)) = ((5 + n : Nat) : Int) := by rw [w64 (by omega) (by omega)]; omega
  rw [q6]
  refine slice_bytes_from hb5 (by omega) (by omega) hc fun a2 c2 hb2 _ _ _ _ => ?_
  rw [Int.toNat_natCast] at hb2 ⊢
  refine (carrackref02_Blank_spec hb2 (by simp; omega)).mono ?_
  rintro _ _ ⟨rfl, rfl⟩
  rename_i w₅
  refine ⟨_, rfl, br_intro (fun hb => ?_) fun hb => ?_⟩
  · rw [if_pos (.inr (.inr (.inr (by simpa using hb))))]
    exact ⟨e5, none, 0, rfl, BytesAt.nil _ _, by simp⟩
  have hcond : ¬ (b.getD 2 0 < 1 ∨ b.getD 2 0 > 7 ∨ n > b.length - 5 ∨ isBlank (b.drop (5 + n)) = false) := by
    rintro (h | h | h | h)
    · exact h1 (e1.1 h)
    · exact h7 (e7.1 h)
    · omega
    · rw [h] at hb; cases hb
  rw [if_neg hcond]
  intro w₇ hd7
  have e7' : Ext w w₇ := e5.trans hd7.upd
  have hb7 := RowAt.ext h e7'
  refine ⟨fun u => Ext w₇ u, Upd.refl _ _, idx_byteS (l := b) (fun u hu => RowAt.ext hb7 hu) ⟨_, Upd.refl _ _⟩ (by omega) (by omega) ?_⟩
  refine slice_bytes_mid hb7 (by omega) (by omega) (by omega) hc (.inl rfl) fun a3 c3 hb3' _ => ?_
  rw [Int.toNat_natCast, show Int.toNat 5 = 5 from rfl] at hb3' ⊢
  refine append_copy hb3' (by simp; omega) fun a4 c4 w₈ he8 hb8 hc8 _ _ => ?_
  refine ⟨he8, e7'.trans he8, a4, c4, by rw [tn2]; rfl, hb8, hc8⟩

end Go.Den
